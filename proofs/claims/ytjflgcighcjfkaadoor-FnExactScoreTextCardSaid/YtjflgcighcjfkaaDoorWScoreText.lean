/- The code does what the functions of data say. Printed by program. -/

import Derived.Test.YtjflgcighcjfkaaDoorRF

import Derived.Test.YtjflgcighcjfkaaDoorChecked

import Derived.Test.YtjflgcighcjfkaaDoorShelf

namespace Go.Vk

open Go.Proofs Go.RowKit



def eTlaws_Pair : Enc Tlaws_Pair := eFlat (fun x => [.int .i64 x.Truth_, .int .i64 x.Said_]) 2 (fun _ => rfl) (by intro x u hu; simp only [List.mem_cons, List.not_mem_nil, or_false] at hu; rcases hu with rfl | rfl <;> rfl)

def eTlaws_Score : Enc Tlaws_Score := eIso (ePair (eList (eList (eVal (Value.int .i64) (fun _ => rfl)) 3) 22) (eList (eTlaws_Pair) 131)) (fun x => (x.Table_, x.Last_))

theorem rdm_Tlaws_Score {w : World} {X : List Nat} {x : Tlaws_Score} {c0 c1 : List Value} (h0 : (eList (eList (eVal (Value.int .i64) (fun _ => rfl)) 3) 22).rd w X x.Table_ c0) (h1 : (eList (eTlaws_Pair) 131).rd w X x.Last_ c1) : (eTlaws_Score).rd w X x (c0 ++ c1) := by
  show (ePair (eList (eList (eVal (Value.int .i64) (fun _ => rfl)) 3) 22) (eList (eTlaws_Pair) 131)).rd w X (x.Table_, x.Last_) _
  exact (ePair_rd h0 h1)

theorem rdo_Tlaws_Score {w : World} {X : List Nat} {x : Tlaws_Score} {cs : List Value} (h : (eTlaws_Score).rd w X x cs) : ∃ c0 c1, cs = (c0 ++ c1) ∧ (eList (eList (eVal (Value.int .i64) (fun _ => rfl)) 3) 22).rd w X x.Table_ c0 ∧ (eList (eTlaws_Pair) 131).rd w X x.Last_ c1 := by
  have h : (ePair (eList (eList (eVal (Value.int .i64) (fun _ => rfl)) 3) 22) (eList (eTlaws_Pair) 131)).rd w X (x.Table_, x.Last_) cs := h
  obtain ⟨c0, c1, rfl, h0, h1⟩ := h
  exact ⟨c0, c1, rfl, h0, h1⟩

def eTimpl_Pair : Enc Timpl_Pair := eFlat (fun x => [.int .i64 x.Truth_, .int .i64 x.Said_]) 2 (fun _ => rfl) (by intro x u hu; simp only [List.mem_cons, List.not_mem_nil, or_false] at hu; rcases hu with rfl | rfl <;> rfl)

def eTimpl_Score : Enc Timpl_Score := eIso (ePair (eList (eList (eVal (Value.int .i64) (fun _ => rfl)) 3) 22) (eList (eTimpl_Pair) 129)) (fun x => (x.Table_, x.Last_))

theorem rdm_Timpl_Score {w : World} {X : List Nat} {x : Timpl_Score} {c0 c1 : List Value} (h0 : (eList (eList (eVal (Value.int .i64) (fun _ => rfl)) 3) 22).rd w X x.Table_ c0) (h1 : (eList (eTimpl_Pair) 129).rd w X x.Last_ c1) : (eTimpl_Score).rd w X x (c0 ++ c1) := by
  show (ePair (eList (eList (eVal (Value.int .i64) (fun _ => rfl)) 3) 22) (eList (eTimpl_Pair) 129)).rd w X (x.Table_, x.Last_) _
  exact (ePair_rd h0 h1)

theorem rdo_Timpl_Score {w : World} {X : List Nat} {x : Timpl_Score} {cs : List Value} (h : (eTimpl_Score).rd w X x cs) : ∃ c0 c1, cs = (c0 ++ c1) ∧ (eList (eList (eVal (Value.int .i64) (fun _ => rfl)) 3) 22).rd w X x.Table_ c0 ∧ (eList (eTimpl_Pair) 129).rd w X x.Last_ c1 := by
  have h : (ePair (eList (eList (eVal (Value.int .i64) (fun _ => rfl)) 3) 22) (eList (eTimpl_Pair) 129)).rd w X (x.Table_, x.Last_) cs := h
  obtain ⟨c0, c1, rfl, h0, h1⟩ := h
  exact ⟨c0, c1, rfl, h0, h1⟩

def kfTimpl_Pair (x : Timpl_Pair) : List Value := [.int .i64 x.Truth_, .int .i64 x.Said_]

theorem ke129 : ∀ a b : Timpl_Pair, eqSB Tryd.prog 129 (kfTimpl_Pair a) (kfTimpl_Pair b) = some (a.Truth_ == b.Truth_ && (a.Said_ == b.Said_ && true)) := by
  intro a b
  kernel_rfl

theorem ko129 : KeyOk Tryd.prog 129 kfTimpl_Pair := keyOk_of ke129 (by intro a b; cases a; cases b; rw [Bool.eq_iff_iff]; simp) (by intro a; simp [kfTimpl_Pair, Instr.sameBits]) (by kernel_rfl)

theorem sl22 : isSl Tryd.prog 22 3 := isSl_of (by kernel_rfl)

theorem sl48 : isSl Tryd.prog 48 9 := isSl_of (by kernel_rfl)

theorem ty9 : isTy Tryd.prog 9 false 1 16 [vS []] := isTy_of (by kernel_rfl)

theorem st9 : isStr Tryd.prog 9 := isStr_of (by kernel_rfl)

theorem ty22 : isTy Tryd.prog 22 false 1 24 [.slice none 0 0] := isTy_of (by kernel_rfl)

set_option maxRecDepth 100000 in
theorem fn66 : isFn Tryd.prog 66 := ⟨Tryd.f66, Tryd.func66, rfl, by decide⟩

theorem sl27 : isSl Tryd.prog 27 22 := isSl_of (by kernel_rfl)

theorem ty27 : isTy Tryd.prog 27 false 1 24 [.slice none 0 0] := isTy_of (by kernel_rfl)

set_option maxRecDepth 100000 in
theorem fn38 : isFn Tryd.prog 38 := ⟨Tryd.f38, Tryd.func38, rfl, by decide⟩

theorem ty3 : isTy Tryd.prog 3 false 1 8 [.int .i64 0] := isTy_of (by kernel_rfl)

set_option maxRecDepth 100000 in
theorem fn9 : isFn Tryd.prog 9 := ⟨Tryd.f9, Tryd.func9, rfl, by decide⟩

set_option maxRecDepth 100000 in
theorem fn43 : isFn Tryd.prog 43 := ⟨Tryd.f43, Tryd.func43, rfl, by decide⟩

set_option maxRecDepth 100000 in
theorem fn94 : isFn Tryd.prog 94 := ⟨Tryd.f94, Tryd.func94, rfl, by decide⟩

theorem mixed : Tryd.prog.follows .mixedOrders = true := by kernel_rfl

theorem us3 : (Tryd.prog.underlying 3).isSome = true := by kernel_rfl

theorem in5 : isInt Tryd.prog 5 .u8 := isInt_of (by kernel_rfl)

theorem sl122 : isSl Tryd.prog 122 5 := isSl_of (by kernel_rfl)

theorem ty5 : isTy Tryd.prog 5 false 1 1 [.int .u8 0] := isTy_of (by kernel_rfl)

set_option maxRecDepth 100000 in
theorem fn35 : isFn Tryd.prog 35 := ⟨Tryd.f35, Tryd.func35, rfl, by decide⟩

set_option maxRecDepth 100000 in
theorem fn95 : isFn Tryd.prog 95 := ⟨Tryd.f95, Tryd.func95, rfl, by decide⟩

set_option maxRecDepth 100000 in
theorem fn122 : isFn Tryd.prog 122 := ⟨Tryd.f122, Tryd.func122, rfl, by decide⟩

set_option maxRecDepth 100000 in
theorem fn96 : isFn Tryd.prog 96 := ⟨Tryd.f96, Tryd.func96, rfl, by decide⟩

set_option maxRecDepth 100000 in
theorem fn105 : isFn Tryd.prog 105 := ⟨Tryd.f105, Tryd.func105, rfl, by decide⟩

set_option maxRecDepth 100000 in
theorem fn98 : isFn Tryd.prog 98 := ⟨Tryd.f98, Tryd.func98, rfl, by decide⟩

set_option maxRecDepth 100000 in
theorem fn45 : isFn Tryd.prog 45 := ⟨Tryd.f45, Tryd.func45, rfl, by decide⟩

set_option maxRecDepth 100000 in
theorem fn59 : isFn Tryd.prog 59 := ⟨Tryd.f59, Tryd.func59, rfl, by decide⟩

set_option maxRecDepth 100000 in
theorem fn11 : isFn Tryd.prog 11 := ⟨Tryd.f11, Tryd.func11, rfl, by decide⟩

set_option maxRecDepth 100000 in
theorem fn49 : isFn Tryd.prog 49 := ⟨Tryd.f49, Tryd.func49, rfl, by decide⟩

theorem sl36 : isSl Tryd.prog 36 131 := isSl_of (by kernel_rfl)

theorem fa38_0 : isFa Tryd.prog 38 0 0 := isFa_of (by kernel_rfl)

theorem fa38_1 : isFa Tryd.prog 38 1 1 := isFa_of (by kernel_rfl)

theorem ty36 : isTy Tryd.prog 36 false 1 24 [.slice none 0 0] := isTy_of (by kernel_rfl)

set_option maxRecDepth 100000 in
theorem fn50 : isFn Tryd.prog 50 := ⟨Tryd.f50, Tryd.func50, rfl, by decide⟩

theorem ty129 : isTy Tryd.prog 129 true 2 16 [.int .i64 0, .int .i64 0] := isTy_of (by kernel_rfl)

theorem fa131_0 : isFa Tryd.prog 131 0 0 := isFa_of (by kernel_rfl)

theorem fa129_0 : isFa Tryd.prog 129 0 0 := isFa_of (by kernel_rfl)

theorem fa131_1 : isFa Tryd.prog 131 1 1 := isFa_of (by kernel_rfl)

theorem fa129_1 : isFa Tryd.prog 129 1 1 := isFa_of (by kernel_rfl)

theorem sl41 : isSl Tryd.prog 41 129 := isSl_of (by kernel_rfl)

theorem ty131 : isTy Tryd.prog 131 true 2 16 [.int .i64 0, .int .i64 0] := isTy_of (by kernel_rfl)

set_option maxRecDepth 100000 in
theorem fn102 : isFn Tryd.prog 102 := ⟨Tryd.f102, Tryd.func102, rfl, by decide⟩

theorem ty43 : isTy Tryd.prog 43 true 2 48 [.slice none 0 0, .slice none 0 0] := isTy_of (by kernel_rfl)

theorem fa43_0 : isFa Tryd.prog 43 0 0 := isFa_of (by kernel_rfl)

set_option maxRecDepth 100000 in
theorem fn56 : isFn Tryd.prog 56 := ⟨Tryd.f56, Tryd.func56, rfl, by decide⟩

theorem fa43_1 : isFa Tryd.prog 43 1 1 := isFa_of (by kernel_rfl)

theorem ty41 : isTy Tryd.prog 41 false 1 24 [.slice none 0 0] := isTy_of (by kernel_rfl)

set_option maxRecDepth 100000 in
theorem fn99 : isFn Tryd.prog 99 := ⟨Tryd.f99, Tryd.func99, rfl, by decide⟩

set_option maxRecDepth 100000 in
theorem fn100 : isFn Tryd.prog 100 := ⟨Tryd.f100, Tryd.func100, rfl, by decide⟩

set_option maxRecDepth 100000 in
theorem fn51 : isFn Tryd.prog 51 := ⟨Tryd.f51, Tryd.func51, rfl, by decide⟩

set_option maxRecDepth 100000 in
theorem fn101 : isFn Tryd.prog 101 := ⟨Tryd.f101, Tryd.func101, rfl, by decide⟩

set_option maxRecDepth 100000 in
theorem fn53 : isFn Tryd.prog 53 := ⟨Tryd.f53, Tryd.func53, rfl, by decide⟩

set_option maxRecDepth 100000 in
theorem fn54 : isFn Tryd.prog 54 := ⟨Tryd.f54, Tryd.func54, rfl, by decide⟩

set_option maxRecDepth 100000 in
theorem fn52 : isFn Tryd.prog 52 := ⟨Tryd.f52, Tryd.func52, rfl, by decide⟩

set_option maxRecDepth 100000 in
theorem fn55 : isFn Tryd.prog 55 := ⟨Tryd.f55, Tryd.func55, rfl, by decide⟩

set_option maxRecDepth 100000 in
theorem fn103 : isFn Tryd.prog 103 := ⟨Tryd.f103, Tryd.func103, rfl, by decide⟩

set_option maxRecDepth 100000 in
theorem fn104 : isFn Tryd.prog 104 := ⟨Tryd.f104, Tryd.func104, rfl, by decide⟩

theorem iz3 : isZ0 Tryd.prog 3 := isZ0_of (by kernel_rfl)

theorem mt133 : isMap Tryd.prog 133 129 3 := (by kernel_rfl : Tryd.prog.underlying 133 = some (.map 129 3))

set_option maxRecDepth 100000 in
theorem fn57 : isFn Tryd.prog 57 := ⟨Tryd.f57, Tryd.func57, rfl, by decide⟩

set_option maxRecDepth 100000 in
theorem fn60 : isFn Tryd.prog 60 := ⟨Tryd.f60, Tryd.func60, rfl, by decide⟩

set_option maxRecDepth 100000 in
theorem fn61 : isFn Tryd.prog 61 := ⟨Tryd.f61, Tryd.func61, rfl, by decide⟩

set_option maxRecDepth 100000 in
theorem fn58 : isFn Tryd.prog 58 := ⟨Tryd.f58, Tryd.func58, rfl, by decide⟩

set_option maxRecDepth 100000 in
theorem fn62 : isFn Tryd.prog 62 := ⟨Tryd.f62, Tryd.func62, rfl, by decide⟩

set_option maxRecDepth 100000 in
theorem fn109 : isFn Tryd.prog 109 := ⟨Tryd.f109, Tryd.func109, rfl, by decide⟩

set_option maxRecDepth 100000 in
theorem fn63 : isFn Tryd.prog 63 := ⟨Tryd.f63, Tryd.func63, rfl, by decide⟩

theorem ty38 : isTy Tryd.prog 38 true 2 48 [.slice none 0 0, .slice none 0 0] := isTy_of (by kernel_rfl)

set_option maxRecDepth 100000 in
theorem fn17 : isFn Tryd.prog 17 := ⟨Tryd.f17, Tryd.func17, rfl, by decide⟩

set_option maxRecDepth 100000 in
theorem fn19 : isFn Tryd.prog 19 := ⟨Tryd.f19, Tryd.func19, rfl, by decide⟩

set_option maxRecDepth 100000 in
theorem fn18 : isFn Tryd.prog 18 := ⟨Tryd.f18, Tryd.func18, rfl, by decide⟩

set_option maxRecDepth 100000 in
theorem fn20 : isFn Tryd.prog 20 := ⟨Tryd.f20, Tryd.func20, rfl, by decide⟩

set_option maxRecDepth 100000 in
theorem fn21 : isFn Tryd.prog 21 := ⟨Tryd.f21, Tryd.func21, rfl, by decide⟩

set_option maxHeartbeats 4000000 in
set_option maxRecDepth 100000 in
theorem laws_szIntS_ok (w : World) {p0 : List Int} {p1 : Int} {a_0 : Option Addr} {n_0 c_0 : Nat} {r : Int} (H : laws_szIntS p0 p1 = some r)  (g0 : (eList (eVal (Value.int .i64) (fun _ => rfl)) 3).rd w [] p0 [.slice a_0 n_0 c_0]) :
    Calls Tryd.prog 66 #[.slice a_0 n_0 c_0, .int .i64 p1] w (fun en w' => en = .returned (.int .i64 r) ∧ Ext [] w w') := by
  obtain rfl := rd_n g0
  unfold laws_szIntS at H
  refine f_enter (vs := [.slice a_0 p0.length c_0, .int .i64 p1]) Tryd.func66 rfl Tryd.ntmps66 rfl (St.init w []) ?_
  refine c_seq ?_
  refine c_reg ?_
  refine ow_batch [.p] rfl ?_
  refine ow_nil ?_
  refine x_qs ?_
  refine c_seq ?_
  refine c_reg ?_
  refine ow_batch [.p, .p, .lenS 22 3 sl22, .p, .p] rfl ?_
  refine ow_nil ?_
  refine x_qs ?_
  refine c_seq ?_
  refine c_seq ?_
  refine c_reg ?_
  refine ow_batch [.p, .p] rfl ?_
  refine ow_nil ?_
  refine x_qs ?_
  refine c_if rfl (fun hb => ?_) (fun hb => ?_)
  · have H := of_if_t hb H
    refine c_seq ?_
    refine c_reg ?_
    refine ow_batch [.p] rfl ?_
    refine ow_nil ?_
    refine x_qs ?_
    refine c_ret ?_
    refine x_qs_ret ?_
    exact x_retR (rs := [.tmp 4]) (vs := [.int .i64 (-1)]) rfl ⟨rfl, trivial⟩ (fun w' hw' => by
        obtain rfl := of_some H
        exact ⟨rfl, hw'.ext⟩)
  · have H := of_if_f hb H
    refine c_skip ?_
    refine x_qs ?_
    refine c_seq ?_
    refine c_reg ?_
    refine ow_batch [.p, .p] rfl ?_
    refine ow_nil ?_
    refine x_qs ?_
    refine c_ret ?_
    exact x_retR (rs := [.tmp 4]) (vs := [.int .i64 (IntKind.i64.wrap (p1 - (p0.length : Int)))]) rfl ⟨rfl, trivial⟩ (fun w' hw' => by
        obtain rfl := of_some H
        exact ⟨rfl, hw'.ext⟩)

set_option maxHeartbeats 4000000 in
set_option maxRecDepth 100000 in
theorem laws_szIntSS_ok (w : World) {p0 : List (List Int)} {p1 : Int} {a_0 : Option Addr} {n_0 c_0 : Nat} {r : Int} (H : laws_szIntSS p0 p1 = some r)  (g0 : (eList (eList (eVal (Value.int .i64) (fun _ => rfl)) 3) 22).rd w [] p0 [.slice a_0 n_0 c_0]) :
    Calls Tryd.prog 38 #[.slice a_0 n_0 c_0, .int .i64 p1] w (fun en w' => en = .returned (.int .i64 r) ∧ Ext [] w w') := by
  obtain rfl := rd_n g0
  unfold laws_szIntSS at H
  refine f_enter (vs := [.slice a_0 p0.length c_0, .int .i64 p1]) Tryd.func38 rfl Tryd.ntmps38 rfl (St.init w []) ?_
  refine c_seq ?_
  refine c_reg ?_
  refine ow_batch [.p] rfl ?_
  refine ow_nil ?_
  refine x_qs ?_
  refine c_seq ?_
  refine c_reg ?_
  refine ow_batch [.p, .p, .lenS 27 22 sl27, .p, .p] rfl ?_
  refine ow_nil ?_
  refine x_qs ?_
  refine c_seq ?_
  refine c_seq ?_
  refine c_reg ?_
  refine ow_batch [.p, .p] rfl ?_
  refine ow_nil ?_
  refine x_qs ?_
  refine c_if rfl (fun hb => ?_) (fun hb => ?_)
  · have H := of_if_t hb H
    refine c_seq ?_
    refine c_reg ?_
    refine ow_batch [.p] rfl ?_
    refine ow_nil ?_
    refine x_qs ?_
    refine c_ret ?_
    refine x_qs_ret ?_
    exact x_retR (rs := [.tmp 4]) (vs := [.int .i64 (-1)]) rfl ⟨rfl, trivial⟩ (fun w' hw' => by
        obtain rfl := of_some H
        exact ⟨rfl, hw'.ext⟩)
  · have H := of_if_f hb H
    refine c_skip ?_
    refine x_qs ?_
    refine c_seq ?_
    refine c_seq ?_
    refine c_reg ?_
    refine ow_batch [.p] rfl ?_
    refine ow_nil ?_
    refine x_qs ?_
    refine c_block ?_
    refine CW.at (loopI2 (fun (i22 : Int) (i23 : Int) => St w [] []) (fun (i22 : Int) (i23 : Int) => [(0, .slice a_0 p0.length c_0), (1, .int .i64 i22), (5, .int .i64 i23)]) (fun kk => fun (i22 : Int) (i23 : Int) => laws_szIntSS_L1 p0 kk i22 i23 = some r) (fun _ _ H => ?_) (fun k1 ihk1 i22 i23 H => ?_) Fuel (IntKind.i64.wrap (p1 - (p0.length : Int))) (0) (H)) (fun _ h => St.sel [] rfl rfl h) ⟨rfl, rfl, rfl,  trivial⟩
    · unfold laws_szIntSS_L1 at H
      exact absurd H (by simp)
    · unfold laws_szIntSS_L1 at H
      refine c_seq ?_
      refine c_seq ?_
      refine c_reg ?_
      refine ow_batch [.p, .p, .lenS 27 22 sl27, .p] rfl ?_
      refine ow_nil ?_
      refine x_qs ?_
      refine c_if rfl (fun hb => ?_) (fun hb => ?_)
      · have H := of_if_t hb H
        refine c_skip ?_
        refine x_qs ?_
        refine c_seq ?_
        refine c_block ?_
        refine c_seq ?_
        refine c_reg ?_
        refine ow_batch [.p, .p] rfl ?_
        obtain ⟨e36, h37, H⟩ := of_bind H
        refine ow_ixB rfl rfl rfl rfl rfl sl27 ty22 rfl g0 h37 (fun q40 c41 hd38 hA39 => ?_)
        obtain ⟨a42, c43, rfl⟩ := rd_sl1 hd38
        refine ow_r rfl (dstOk_lt rfl) (ry_load1 rfl rfl ty22 (at_bor bor hA39)) ?_
        refine ow_batch [.p] rfl ?_
        obtain ⟨y44, h45, H⟩ := of_bind H
        refine ow_q rfl rfl (dstOk_lt rfl) (qy_call rfl fn66 rfl (fun w1 hw1 => laws_szIntS_ok w1  h45 (rds_bor hd38 w1 hw1))) (fun _ _ => trivial) ?_
        refine ow_batch [.p] rfl ?_
        refine ow_nil ?_
        refine x_qs ?_
        refine c_seq ?_
        refine c_reg ?_
        refine ow_batch [.p, .p] rfl ?_
        refine ow_nil ?_
        refine x_qs ?_
        refine c_if rfl (fun hb => ?_) (fun hb => ?_)
        · have H := of_if_t hb H
          refine c_seq ?_
          refine c_reg ?_
          refine ow_batch [.p] rfl ?_
          refine ow_nil ?_
          refine x_qs ?_
          refine c_ret ?_
          refine x_qb_ret ?_
          refine x_qs_ret ?_
          refine x_ql_ret ?_
          refine x_qb_ret ?_
          refine x_qs_ret ?_
          exact x_retR (rs := [.tmp 4]) (vs := [.int .i64 (-1)]) rfl ⟨rfl, trivial⟩ (fun w' hw' => by
              obtain rfl := of_some H
              exact ⟨rfl, hw'.ext⟩)
        · have H := of_if_f hb H
          refine c_skip ?_
          refine x_qb ?_
          refine x_qs ?_
          refine c_reg ?_
          refine ow_batch [.p, .p, .p] rfl ?_
          refine ow_nil ?_
          exact x_ql (RW.at (ihk1 (y44) (IntKind.i64.wrap (i23 + 1)) (H)) (fun _ h => St.sel [] rfl rfl h) ⟨rfl, rfl, rfl, trivial⟩)
      · have H := of_if_f hb H
        refine c_exit ?_
        refine x_qs_exit ?_
        refine x_ql_exit ?_
        refine x_qb_here ?_
        refine x_qs ?_
        refine c_seq ?_
        refine c_reg ?_
        refine ow_batch [.p, .p] rfl ?_
        refine ow_nil ?_
        refine x_qs ?_
        refine c_ret ?_
        exact x_retR (rs := [.tmp 4]) (vs := [.int .i64 i22]) rfl ⟨rfl, trivial⟩ (fun w' hw' => by
            obtain rfl := of_some H
            exact ⟨rfl, hw'.ext⟩)

set_option maxHeartbeats 4000000 in
set_option maxRecDepth 100000 in
theorem laws_toIntS_ok (w : World) {M0 : List Nat} {p0 : List Int} {a_0 : Option Addr} {n_0 c_0 : Nat} {r : List Int} (H : laws_toIntS p0 = some r) (HS : St w M0 [] w) (g0 : (eList (eVal (Value.int .i64) (fun _ => rfl)) 3).rd w M0 p0 [.slice a_0 n_0 c_0]) :
    Calls Tryd.prog 9 #[.slice a_0 n_0 c_0] w (fun en w' => ∃ v, en = .returned v ∧ ∃ (a0 : Option Addr), ∃ (n0 : Nat), ∃ (c0 : Nat), ∃ (F0 : List Nat), v = .slice a0 n0 c0 ∧ St w M0 [Res.own (eList (eVal (Value.int .i64) (fun _ => rfl)) 3) F0 r [.slice a0 n0 c0]] w') := by
  obtain rfl := rd_n g0
  unfold laws_toIntS at H
  refine f_enter (vs := [.slice a_0 p0.length c_0]) Tryd.func9 rfl Tryd.ntmps9 rfl (HS) ?_
  refine c_seq ?_
  refine c_reg ?_
  refine ow_batch [.p] rfl ?_
  refine ow_nil ?_
  refine x_qs ?_
  refine c_seq ?_
  refine c_reg ?_
  refine ow_batch [.p, .lenS 22 3 sl22] rfl ?_
  obtain ⟨l10, h11, H⟩ := of_bind H
  refine ow_make (e := eVal (Value.int .i64) (fun _ => rfl)) (zero := (0 : Int)) rfl rfl rfl rfl rfl rfl sl22 ty3 rfl rfl rfl rfl (fun _ => ⟨rfl, rfl⟩) h11 (fun _ => kp) (fun b12 => ?_)
  refine ow_batch [.p] rfl ?_
  refine ow_nil ?_
  refine x_qs ?_
  refine c_seq ?_
  refine c_seq ?_
  refine c_reg ?_
  refine ow_batch [.p] rfl ?_
  refine ow_nil ?_
  refine x_qs ?_
  refine c_block ?_
  refine CW.at (loopI2 (fun (l19 : List Int) (i20 : Int) => St w M0 [Res.own (eList (eVal (Value.int .i64) (fun _ => rfl)) 3) [b12] l19 [.slice (some ⟨b12, 0, none⟩) l10.length l10.length]]) (fun (l19 : List Int) (i20 : Int) => [(0, .slice a_0 p0.length c_0), (3, .slice (some ⟨b12, 0, none⟩) l10.length l10.length), (4, .int .i64 i20)]) (fun kk => fun (l19 : List Int) (i20 : Int) => laws_toIntS_L1 p0 kk l19 i20 = some r) (fun _ _ H => ?_) (fun k1 ihk1 l19 i20 H => ?_) Fuel (l10) (0) (H)) (fun _ h => St.sel [0] rfl rfl h) ⟨rfl, rfl, rfl,  trivial⟩
  · unfold laws_toIntS_L1 at H
    exact absurd H (by simp)
  · unfold laws_toIntS_L1 at H
    refine c_seq ?_
    refine c_seq ?_
    refine c_reg ?_
    refine ow_batch [.p, .p, .lenS 22 3 sl22, .p] rfl ?_
    refine ow_nil ?_
    refine x_qs ?_
    refine c_if rfl (fun hb => ?_) (fun hb => ?_)
    · have H := of_if_t hb H
      refine c_skip ?_
      refine x_qs ?_
      refine c_seq ?_
      refine c_block ?_
      refine c_reg ?_
      refine ow_batch [.p, .p, .p, .p] rfl ?_
      obtain ⟨e27, h28, H⟩ := of_bind H
      refine ow_ixE (e := eVal (Value.int .i64) (fun _ => rfl)) (xs := p0) (j := i20) rfl rfl rfl rfl rfl sl22 ty3 rfl (fun w1 hw1 => rds_bor g0 w1 hw1) h28 (by rw [Nat.mul_one]) ?_
      refine ow_r rfl (dstOk_lt rfl) (ry_load1 rfl rfl ty3 (at_elV (fun w1 hw1 => rds_bor g0 w1 hw1) h28)) ?_
      obtain ⟨e29, h30, H⟩ := of_bind H
      refine ow_ixE (e := eVal (Value.int .i64) (fun _ => rfl)) (xs := l19) (j := i20) rfl rfl rfl rfl rfl sl22 ty3 rfl (fun w1 hw1 => rds_own (e := eList (eVal (Value.int .i64) (fun _ => rfl)) 3) (r := 0) rfl w1 hw1) h30 (by rw [Nat.mul_one]) ?_
      refine ow_storeV (i := 0) (j := i20) rfl rfl rfl rfl rfl rfl ty3 rfl h30 (fun _ => rfl) kp ?_
      refine ow_nil ?_
      refine x_qb ?_
      refine x_qs ?_
      refine c_reg ?_
      refine ow_batch [.p, .p, .p] rfl ?_
      refine ow_nil ?_
      exact x_ql (RW.at (ihk1 ((l19.set i20.toNat e27)) (IntKind.i64.wrap (i20 + 1)) (H)) (fun _ h => St.sel [0] rfl rfl h) ⟨rfl, rfl, rfl, trivial⟩)
    · have H := of_if_f hb H
      refine c_exit ?_
      refine x_qs_exit ?_
      refine x_ql_exit ?_
      refine x_qb_here ?_
      refine x_qs ?_
      refine c_seq ?_
      refine c_reg ?_
      refine ow_batch [.p, .p] rfl ?_
      refine ow_nil ?_
      refine x_qs ?_
      refine c_ret ?_
      exact x_retR (rs := [.tmp 2]) (vs := [.slice (some ⟨b12, 0, none⟩) l10.length l10.length]) rfl ⟨rfl, trivial⟩ (fun w' hw' => by
          obtain rfl := of_some H
          exact ⟨_, rfl, (some ⟨b12, 0, none⟩), l10.length, l10.length, [b12], rfl, hw'.sel [0] rfl rfl⟩)

set_option maxHeartbeats 4000000 in
set_option maxRecDepth 100000 in
theorem laws_toIntSS_ok (w : World) {M0 : List Nat} {p0 : List (List Int)} {a_0 : Option Addr} {n_0 c_0 : Nat} {r : List (List Int)} (H : laws_toIntSS p0 = some r) (HS : St w M0 [] w) (g0 : (eList (eList (eVal (Value.int .i64) (fun _ => rfl)) 3) 22).rd w M0 p0 [.slice a_0 n_0 c_0]) :
    Calls Tryd.prog 43 #[.slice a_0 n_0 c_0] w (fun en w' => ∃ v, en = .returned v ∧ ∃ (a0 : Option Addr), ∃ (n0 : Nat), ∃ (c0 : Nat), ∃ (F0 : List Nat), v = .slice a0 n0 c0 ∧ St w M0 [Res.own (eList (eList (eVal (Value.int .i64) (fun _ => rfl)) 3) 22) F0 r [.slice a0 n0 c0]] w') := by
  obtain rfl := rd_n g0
  unfold laws_toIntSS at H
  refine f_enter (vs := [.slice a_0 p0.length c_0]) Tryd.func43 rfl Tryd.ntmps43 rfl (HS) ?_
  refine c_seq ?_
  refine c_reg ?_
  refine ow_batch [.p] rfl ?_
  refine ow_nil ?_
  refine x_qs ?_
  refine c_seq ?_
  refine c_reg ?_
  refine ow_batch [.p, .lenS 27 22 sl27] rfl ?_
  obtain ⟨l10, h11, H⟩ := of_bind H
  refine ow_make (e := eList (eVal (Value.int .i64) (fun _ => rfl)) 3) (zero := ([] : List Int)) rfl rfl rfl rfl rfl rfl sl27 ty22 rfl rfl rfl rfl (fun _ => (.inl ⟨rfl, rfl, rfl⟩)) h11 (fun _ => kp) (fun b12 => ?_)
  refine ow_batch [.p] rfl ?_
  refine ow_nil ?_
  refine x_qs ?_
  refine c_seq ?_
  refine c_seq ?_
  refine c_reg ?_
  refine ow_batch [.p] rfl ?_
  refine ow_nil ?_
  refine x_qs ?_
  refine c_block ?_
  refine CW.at (loopI3 (fun (l46 : List (List Int)) (F47 : List Nat) (i48 : Int) => St w M0 [Res.own (eList (eList (eVal (Value.int .i64) (fun _ => rfl)) 3) 22) F47 l46 [.slice (some ⟨b12, 0, none⟩) l10.length l10.length]]) (fun (l46 : List (List Int)) (F47 : List Nat) (i48 : Int) => [(0, .slice a_0 p0.length c_0), (3, .slice (some ⟨b12, 0, none⟩) l10.length l10.length), (4, .int .i64 i48)]) (fun kk => fun (l46 : List (List Int)) (F47 : List Nat) (i48 : Int) => laws_toIntSS_L1 p0 kk l46 i48 = some r) (fun _ _ _ H => ?_) (fun k1 ihk1 l46 F47 i48 H => ?_) Fuel (l10) ([b12]) (0) (H)) (fun _ h => St.sel [0] rfl rfl h) ⟨rfl, rfl, rfl,  trivial⟩
  · unfold laws_toIntSS_L1 at H
    exact absurd H (by simp)
  · unfold laws_toIntSS_L1 at H
    refine c_seq ?_
    refine c_seq ?_
    refine c_reg ?_
    refine ow_batch [.p, .p, .lenS 27 22 sl27, .p] rfl ?_
    refine ow_nil ?_
    refine x_qs ?_
    refine c_if rfl (fun hb => ?_) (fun hb => ?_)
    · have H := of_if_t hb H
      refine c_skip ?_
      refine x_qs ?_
      refine c_seq ?_
      refine c_block ?_
      refine c_reg ?_
      refine ow_batch [.p, .p, .p, .p] rfl ?_
      obtain ⟨e82, h83, H⟩ := of_bind H
      refine ow_ixB rfl rfl rfl rfl rfl sl27 ty22 rfl g0 h83 (fun q86 c87 hd84 hA85 => ?_)
      obtain ⟨a88, c89, rfl⟩ := rd_sl1 hd84
      refine ow_r rfl (dstOk_lt rfl) (ry_load1 rfl rfl ty22 (at_bor bor hA85)) ?_
      obtain ⟨y90, h91, H⟩ := of_bind H
      refine ow_callS rfl fn9 rfl rfl rfl rfl (fun w1 hw1 => laws_toIntS_ok w1  h91 (hw1.carve [] rfl rfl) (rds_bor hd84 w1 hw1)) (fun v92 w1 w2 hw1 hR94 => ?_)
      obtain ⟨a95, n96, c97, F98, rfl, hS93⟩ := hR94
      obtain rfl := own_nS (i := 0) hS93 rfl
      refine ⟨St w M0 [_, _], hw1.comp [] rfl rfl hS93, fun _ _ => trivial, ?_⟩
      obtain ⟨e99, h100, H⟩ := of_bind H
      refine ow_ex4 rfl (fun w1 hw1 => foc (r := 0) hw1 rfl h100) (fun b102 G103 F104 c105 => ?_)
      refine ow_fact rfl (fun w1 hw1 => hw1.1) (fun q101 => ?_)
      obtain ⟨ha106, hn107⟩ := q101
      refine ow_st (C' := St w M0 [_, _, _, _]) rfl (fun w1 hw1 => hw1.2) ?_
      refine ow_ex2 rfl (fun w1 hw1 => opn_sl (i := 3) hw1 rfl) (fun a108 c109 => ?_)
      refine ow_fact rfl (fun w1 hw1 => hw1.1) (fun q110 => ?_)
      subst q110
      refine ow_st (C' := St w M0 [_, _, _, _]) rfl (fun w1 hw1 => hw1.2) ?_
      refine ow_ixH rfl rfl rfl rfl rfl sl27 ty22 rfl (holeIn (p := 2) rfl) hn107 ha106 (idx_some h100).1 ?_
      refine ow_storeH (off := 0) [.slice a95 y90.length c97] (p := 2) (c' := [_]) rfl rfl rfl rfl rfl (by first | rfl | simp only [add_lit, add_add, add_zero]) rfl ty22 rfl rfl (by intro u hu; simp only [List.mem_cons, List.not_mem_nil, or_false] at hu; rcases hu with rfl <;> rfl) rfl rfl rfl kp ?_
      refine ow_nil ?_
      refine x_qb ?_
      refine x_qs ?_
      refine c_reg ?_
      refine ow_batch [.p, .p, .p] rfl ?_
      refine ow_nil ?_
      refine xw_ex (fun w1 hw1 => unf (p := 2) (q := 1) hw1 rfl rfl rfl hn107 ha106) (fun F111 => ?_)
      refine xw_st (C' := St w M0 [_, _, _, _, _]) (fun _ h => h) ?_
      exact x_ql (RW.at (ihk1 ((l46.set i48.toNat y90)) (F111) (IntKind.i64.wrap (i48 + 1)) (H)) (fun _ h => St.sel [4] rfl rfl h) ⟨rfl, rfl, rfl, trivial⟩)
    · have H := of_if_f hb H
      refine c_exit ?_
      refine x_qs_exit ?_
      refine x_ql_exit ?_
      refine x_qb_here ?_
      refine x_qs ?_
      refine c_seq ?_
      refine c_reg ?_
      refine ow_batch [.p, .p] rfl ?_
      refine ow_nil ?_
      refine x_qs ?_
      refine c_ret ?_
      exact x_retR (rs := [.tmp 2]) (vs := [.slice (some ⟨b12, 0, none⟩) l10.length l10.length]) rfl ⟨rfl, trivial⟩ (fun w' hw' => by
          obtain rfl := of_some H
          exact ⟨_, rfl, (some ⟨b12, 0, none⟩), l10.length, l10.length, F47, rfl, hw'.sel [0] rfl rfl⟩)

set_option maxHeartbeats 4000000 in
set_option maxRecDepth 100000 in
theorem spec_l1In_ok (w : World) {p0 : Int} {p1 : Int} {p2 : Int}  {r : Bool} (H : spec_l1In p0 p1 p2 = some r)   :
    Calls Tryd.prog 94 #[.int .i64 p0, .int .i64 p1, .int .i64 p2] w (fun en w' => en = .returned (.bool r) ∧ Ext [] w w') := by
  unfold spec_l1In at H
  refine f_enter (vs := [.int .i64 p0, .int .i64 p1, .int .i64 p2]) Tryd.func94 rfl Tryd.ntmps94 rfl (St.init w []) ?_
  refine c_seq ?_
  refine c_reg ?_
  refine ow_batch [.p] rfl ?_
  refine ow_nil ?_
  refine x_qs ?_
  refine c_seq ?_
  refine c_reg ?_
  refine ow_batch [.p, .p, .p, .p] rfl ?_
  refine ow_cut [(14, .bool ((decide (p0 ≥ p1)) && (decide (p0 ≤ p2)))), (6, .bool false)] 4 ?_ (fun key => OW.sub (R := [(0, .int .i64 p0), (2, .int .i64 p2), (6, .bool false), (10, .bool (decide (p0 ≥ p1)))]) ?_ ⟨rfl, rfl, rfl, rfl, trivial⟩)
  · refine ow_batch [.p] rfl ?_
    refine ow_nil ?_
    refine x_qs ?_
    refine c_ret ?_
    exact x_retR (rs := [.tmp 6]) (vs := [.bool ((decide (p0 ≥ p1)) && (decide (p0 ≤ p2)))]) rfl ⟨rfl, trivial⟩ (fun w' hw' => by
        obtain rfl := of_some H
        exact ⟨rfl, hw'.ext⟩)
  · generalize (decide (p0 ≥ p1)) = t11 at key ⊢
    cases t11
    · refine ow_batch [.p, .p, .p, .p] rfl ?_
      exact OW.sub key ⟨rfl, rfl, trivial⟩
    · refine ow_batch [.p, .p, .p] rfl ?_
      refine ow_batch [.p] rfl ?_
      exact OW.sub key ⟨rfl, rfl, trivial⟩

set_option maxHeartbeats 4000000 in
set_option maxRecDepth 100000 in
theorem spec_Digits_ok (w : World) {p0 : Int}  {r : List UInt8} (H : spec_Digits p0 = some r)   :
    Calls Tryd.prog 35 #[.int .i64 p0] w (fun en w' => en = .returned (vS r) ∧ Ext [] w w') := by
  unfold spec_Digits at H
  refine f_enter (vs := [.int .i64 p0]) Tryd.func35 rfl Tryd.ntmps35 rfl (St.init w []) ?_
  refine c_seq ?_
  refine c_reg ?_
  refine ow_batch [.p] rfl ?_
  refine ow_nil ?_
  refine x_qs ?_
  refine c_seq ?_
  refine c_seq ?_
  refine c_reg ?_
  refine ow_batch [.p, .p] rfl ?_
  refine ow_nil ?_
  refine x_qs ?_
  refine c_if rfl (fun hb => ?_) (fun hb => ?_)
  · have H := of_if_t hb H
    refine c_seq ?_
    refine c_reg ?_
    refine ow_batch [.p] rfl ?_
    refine ow_nil ?_
    refine x_qs ?_
    refine c_ret ?_
    refine x_qs_ret ?_
    exact x_retR (rs := [.tmp 2]) (vs := [vS ([48] : List UInt8)]) rfl ⟨rfl, trivial⟩ (fun w' hw' => by
        obtain rfl := of_some H
        exact ⟨rfl, hw'.ext⟩)
  · have H := of_if_f hb H
    refine c_skip ?_
    refine x_qs ?_
    refine c_seq ?_
    refine c_reg ?_
    refine ow_batch [.p, .p, .p] rfl ?_
    refine ow_nil ?_
    refine x_qs ?_
    refine c_seq ?_
    refine c_reg ?_
    refine ow_batch [.p] rfl ?_
    refine ow_nil ?_
    refine x_qs ?_
    refine c_seq ?_
    refine c_block ?_
    refine CW.at (loopI2 (fun (i17 : Int) (s18 : List UInt8) => St w [] []) (fun (i17 : Int) (s18 : List UInt8) => [(0, .int .i64 i17), (3, .bool (decide (p0 < 0))), (4, vS s18)]) (fun kk => fun (i17 : Int) (s18 : List UInt8) => spec_Digits_L1 p0 kk i17 s18 = some r) (fun _ _ H => ?_) (fun k1 ihk1 i17 s18 H => ?_) Fuel (p0) (([] : List UInt8)) (H)) (fun _ h => St.sel [] rfl rfl h) ⟨rfl, rfl, rfl,  trivial⟩
    · unfold spec_Digits_L1 at H
      exact absurd H (by simp)
    · unfold spec_Digits_L1 at H
      refine c_seq ?_
      refine c_seq ?_
      refine c_reg ?_
      refine ow_batch [.p, .p] rfl ?_
      refine ow_nil ?_
      refine x_qs ?_
      refine c_if rfl (fun hb => ?_) (fun hb => ?_)
      · have H := of_if_t hb H
        refine c_skip ?_
        refine x_qs ?_
        refine c_block ?_
        refine c_seq ?_
        refine c_reg ?_
        refine ow_batch [.p, .p, .p] rfl ?_
        refine ow_nil ?_
        refine x_qs ?_
        refine c_join1 (fun (i25 : Int) => St w [] []) (fun (i25 : Int) => [(0, .int .i64 i17), (3, .bool (decide (p0 < 0))), (4, vS s18), (5, .int .i64 i25)]) (fun (i25 : Int) => spec_Digits_J1 s18 (spec_Digits_L1 p0 k1) i17 i25 = some r) (fun i25 H => ?_) (fun J1 => ?_)
        · unfold spec_Digits_J1 at H
          refine c_seq ?_
          refine c_reg ?_
          refine ow_batch [.p, .p, .cv 3 5 .u8 us3 in5] rfl ?_
          refine ow_blit (val := Value.int .u8) (h1 := fun _ => rfl) [IntKind.u8.wrap (IntKind.i64.wrap (48 + i25))] [(0, [.int .u8 (IntKind.u8.wrap (IntKind.i64.wrap (48 + i25)))])] rfl rfl rfl rfl rfl sl122 ty5 rfl rfl rfl ⟨rfl, rfl, Nat.le_of_ble_eq_true rfl,  trivial⟩ rfl rfl (fun _ => kp) (fun b26 => ?_)
          refine ow_r rfl (dstOk_lt rfl) (ry_bts (xs := ([IntKind.u8.wrap (IntKind.i64.wrap (48 + i25))] : List Int)) rfl rfl sl122 in5 st9 (fun w1 hw1 => rds_own (e := eList (eVal (Value.int .u8) (fun _ => rfl)) 5) (r := 0) rfl w1 hw1)) ?_
          refine ow_batch [.p] rfl ?_
          obtain ⟨s27, h28, H⟩ := of_bind H
          refine ow_r rfl (dstOk_lt rfl) (ry_sadd rfl rfl rfl h28) ?_
          refine ow_batch [.p] rfl ?_
          refine ow_nil ?_
          refine x_qs ?_
          refine c_reg ?_
          refine ow_batch [.p, .p, .p] rfl ?_
          refine ow_nil ?_
          refine x_qb ?_
          exact x_ql (RW.at (ihk1 (IntKind.i64.wrap (Int.tdiv i17 10)) (s27) (H)) (fun _ h => St.sel [] rfl rfl h) ⟨rfl, rfl, rfl, trivial⟩)
        · refine c_seq ?_
          refine c_reg ?_
          refine ow_batch [.p, .p] rfl ?_
          refine ow_nil ?_
          refine x_qs ?_
          refine c_if rfl (fun hb => ?_) (fun hb => ?_)
          · have H := of_if_t hb H
            refine c_reg ?_
            refine ow_batch [.p, .p, .p] rfl ?_
            refine ow_nil ?_
            exact XW.at (J1 (IntKind.i64.wrap (0 - (Int.tmod i17 10))) (H)) (fun _ h => St.sel [] rfl rfl h) ⟨rfl, rfl, rfl, rfl, trivial⟩
          · have H := of_if_f hb H
            refine c_skip ?_
            exact XW.at (J1 (Int.tmod i17 10) (H)) (fun _ h => St.sel [] rfl rfl h) ⟨rfl, rfl, rfl, rfl, trivial⟩
      · have H := of_if_f hb H
        refine c_exit ?_
        refine x_qs_exit ?_
        refine x_ql_exit ?_
        refine x_qb_here ?_
        refine x_qs ?_
        refine c_seq ?_
        refine c_seq ?_
        refine c_reg ?_
        refine ow_batch [.p] rfl ?_
        refine ow_nil ?_
        refine x_qs ?_
        refine c_if rfl (fun hb => ?_) (fun hb => ?_)
        · have H := of_if_t hb H
          refine c_seq ?_
          refine c_reg ?_
          refine ow_batch [.p] rfl ?_
          obtain ⟨s29, h30, H⟩ := of_bind H
          refine ow_r rfl (dstOk_lt rfl) (ry_sadd rfl rfl rfl h30) ?_
          refine ow_batch [.p] rfl ?_
          refine ow_nil ?_
          refine x_qs ?_
          refine c_ret ?_
          refine x_qs_ret ?_
          exact x_retR (rs := [.tmp 2]) (vs := [vS s29]) rfl ⟨rfl, trivial⟩ (fun w' hw' => by
              obtain rfl := of_some H
              exact ⟨rfl, hw'.ext⟩)
        · have H := of_if_f hb H
          refine c_skip ?_
          refine x_qs ?_
          refine c_seq ?_
          refine c_reg ?_
          refine ow_batch [.p, .p] rfl ?_
          refine ow_nil ?_
          refine x_qs ?_
          refine c_ret ?_
          exact x_retR (rs := [.tmp 2]) (vs := [vS s18]) rfl ⟨rfl, trivial⟩ (fun w' hw' => by
              obtain rfl := of_some H
              exact ⟨rfl, hw'.ext⟩)

set_option maxHeartbeats 4000000 in
set_option maxRecDepth 100000 in
theorem impl_within_ok (w : World) {p0 : Int} {p1 : Int} {p2 : Int}  {r : Bool} (H : impl_within p0 p1 p2 = some r)   :
    Calls Tryd.prog 95 #[.int .i64 p0, .int .i64 p1, .int .i64 p2] w (fun en w' => en = .returned (.bool r) ∧ Ext [] w w') := by
  unfold impl_within at H
  refine f_enter (vs := [.int .i64 p0, .int .i64 p1, .int .i64 p2]) Tryd.func95 rfl Tryd.ntmps95 rfl (St.init w []) ?_
  refine c_seq ?_
  refine c_reg ?_
  refine ow_batch [.p] rfl ?_
  refine ow_nil ?_
  refine x_qs ?_
  refine c_seq ?_
  refine c_reg ?_
  refine ow_batch [.p, .p, .p, .p] rfl ?_
  refine ow_cut [(14, .bool ((decide (p0 ≥ p1)) && (decide (p0 ≤ p2)))), (6, .bool false)] 4 ?_ (fun key => OW.sub (R := [(0, .int .i64 p0), (2, .int .i64 p2), (6, .bool false), (10, .bool (decide (p0 ≥ p1)))]) ?_ ⟨rfl, rfl, rfl, rfl, trivial⟩)
  · refine ow_batch [.p] rfl ?_
    refine ow_nil ?_
    refine x_qs ?_
    refine c_ret ?_
    exact x_retR (rs := [.tmp 6]) (vs := [.bool ((decide (p0 ≥ p1)) && (decide (p0 ≤ p2)))]) rfl ⟨rfl, trivial⟩ (fun w' hw' => by
        obtain rfl := of_some H
        exact ⟨rfl, hw'.ext⟩)
  · generalize (decide (p0 ≥ p1)) = t11 at key ⊢
    cases t11
    · refine ow_batch [.p, .p, .p, .p] rfl ?_
      exact OW.sub key ⟨rfl, rfl, trivial⟩
    · refine ow_batch [.p, .p, .p] rfl ?_
      refine ow_batch [.p] rfl ?_
      exact OW.sub key ⟨rfl, rfl, trivial⟩

set_option maxHeartbeats 4000000 in
set_option maxRecDepth 100000 in
theorem impl_total_ok (w : World) {p0 : List Int} {a_0 : Option Addr} {n_0 c_0 : Nat} {r : Int} (H : impl_total p0 = some r)  (g0 : (eList (eVal (Value.int .i64) (fun _ => rfl)) 3).rd w [] p0 [.slice a_0 n_0 c_0]) :
    Calls Tryd.prog 105 #[.slice a_0 n_0 c_0] w (fun en w' => en = .returned (.int .i64 r) ∧ Ext [] w w') := by
  obtain rfl := rd_n g0
  unfold impl_total at H
  refine f_enter (vs := [.slice a_0 p0.length c_0]) Tryd.func105 rfl Tryd.ntmps105 rfl (St.init w []) ?_
  refine c_seq ?_
  refine c_reg ?_
  refine ow_batch [.p] rfl ?_
  refine ow_nil ?_
  refine x_qs ?_
  refine c_seq ?_
  refine c_reg ?_
  refine ow_batch [.p] rfl ?_
  refine ow_nil ?_
  refine x_qs ?_
  refine c_seq ?_
  refine c_seq ?_
  refine c_reg ?_
  refine ow_batch [.p, .lenS 22 3 sl22, .p] rfl ?_
  refine ow_nil ?_
  refine x_qs ?_
  refine c_block ?_
  refine CW.at (loopI2 (fun (i14 : Int) (i15 : Int) => St w [] []) (fun (i14 : Int) (i15 : Int) => [(3, .int .i64 i14), (6, .slice a_0 p0.length c_0), (7, .int .i64 (p0.length : Int)), (8, .int .i64 i15)]) (fun kk => fun (i14 : Int) (i15 : Int) => impl_total_L1 p0 kk i14 i15 = some r) (fun _ _ H => ?_) (fun k1 ihk1 i14 i15 H => ?_) Fuel (0) (0) (H)) (fun _ h => St.sel [] rfl rfl h) ⟨rfl, rfl, rfl, rfl,  trivial⟩
  · unfold impl_total_L1 at H
    exact absurd H (by simp)
  · unfold impl_total_L1 at H
    refine c_seq ?_
    refine c_reg ?_
    refine ow_batch [.p] rfl ?_
    refine ow_nil ?_
    refine x_qs ?_
    refine c_seq ?_
    refine c_if rfl (fun hb => ?_) (fun hb => ?_)
    · have H := of_if_t hb H
      refine c_skip ?_
      refine x_qs ?_
      refine c_seq ?_
      refine c_block ?_
      refine c_seq ?_
      refine c_reg ?_
      obtain ⟨e20, h21, H⟩ := of_bind H
      refine ow_ixE (e := eVal (Value.int .i64) (fun _ => rfl)) (xs := p0) (j := i15) rfl rfl rfl rfl rfl sl22 ty3 rfl (fun w1 hw1 => rds_bor g0 w1 hw1) h21 (by rw [Nat.mul_one]) ?_
      refine ow_r rfl (dstOk_lt rfl) (ry_load1 rfl rfl ty3 (at_elV (fun w1 hw1 => rds_bor g0 w1 hw1) h21)) ?_
      refine ow_batch [.p] rfl ?_
      refine ow_nil ?_
      refine x_qs ?_
      refine c_reg ?_
      refine ow_batch [.p, .p, .p, .p] rfl ?_
      refine ow_nil ?_
      refine x_qb ?_
      refine x_qs ?_
      refine c_reg ?_
      refine ow_batch [.p, .p] rfl ?_
      refine ow_nil ?_
      exact x_ql (RW.at (ihk1 (IntKind.i64.wrap (i14 + e20)) (IntKind.i64.wrap (i15 + 1)) (H)) (fun _ h => St.sel [] rfl rfl h) ⟨rfl, rfl, rfl, rfl, trivial⟩)
    · have H := of_if_f hb H
      refine c_exit ?_
      refine x_qs_exit ?_
      refine x_ql_exit ?_
      refine x_qb_here ?_
      refine x_qs ?_
      refine c_seq ?_
      refine c_reg ?_
      refine ow_batch [.p, .p] rfl ?_
      refine ow_nil ?_
      refine x_qs ?_
      refine c_ret ?_
      exact x_retR (rs := [.tmp 2]) (vs := [.int .i64 i14]) rfl ⟨rfl, trivial⟩ (fun w' hw' => by
          obtain rfl := of_some H
          exact ⟨rfl, hw'.ext⟩)

set_option maxHeartbeats 4000000 in
set_option maxRecDepth 100000 in
theorem impl_Digits_ok (w : World) {p0 : Int}  {r : List UInt8} (H : impl_Digits p0 = some r)  (gT : (ePow10 Tryd.prog).rd w [] () []) :
    Calls Tryd.prog 45 #[.int .i64 p0] w (fun en w' => en = .returned (vS r) ∧ Ext [] w w') := by
  unfold impl_Digits at H
  refine f_enter (vs := [.int .i64 p0]) Tryd.func45 rfl Tryd.ntmps45 rfl (St.init w []) ?_
  refine c_seq ?_
  refine c_reg ?_
  refine ow_batch [.p] rfl ?_
  refine ow_nil ?_
  refine x_qs ?_
  refine c_seq ?_
  refine c_reg ?_
  refine ow_batch [.p] rfl ?_
  obtain ⟨s10, h11, H⟩ := of_bind H
  refine ow_q rfl rfl (dstOk_lt rfl) (qy_call rfl fn98 rfl (fun w1 hw1 => itoa_ok Tryd.laysM171 w1 h11 (rds_bor gT w1 hw1))) (fun _ _ => trivial) ?_
  refine ow_batch [.p] rfl ?_
  refine ow_nil ?_
  refine x_qs ?_
  refine c_ret ?_
  exact x_retR (rs := [.tmp 2]) (vs := [vS s10]) rfl ⟨rfl, trivial⟩ (fun w' hw' => by
      obtain rfl := of_some H
      exact ⟨rfl, hw'.ext⟩)

set_option maxHeartbeats 4000000 in
set_option maxRecDepth 100000 in
theorem laws_eqIntS_ok (w : World) {p0 : List Int} {p1 : List Int} {a_0 : Option Addr} {n_0 c_0 : Nat} {a_1 : Option Addr} {n_1 c_1 : Nat} {r : Bool} (H : laws_eqIntS p0 p1 = some r)  (g0 : (eList (eVal (Value.int .i64) (fun _ => rfl)) 3).rd w [] p0 [.slice a_0 n_0 c_0]) (g1 : (eList (eVal (Value.int .i64) (fun _ => rfl)) 3).rd w [] p1 [.slice a_1 n_1 c_1]) :
    Calls Tryd.prog 11 #[.slice a_0 n_0 c_0, .slice a_1 n_1 c_1] w (fun en w' => en = .returned (.bool r) ∧ Ext [] w w') := by
  obtain rfl := rd_n g0
  obtain rfl := rd_n g1
  unfold laws_eqIntS at H
  refine f_enter (vs := [.slice a_0 p0.length c_0, .slice a_1 p1.length c_1]) Tryd.func11 rfl Tryd.ntmps11 rfl (St.init w []) ?_
  refine c_seq ?_
  refine c_reg ?_
  refine ow_batch [.p] rfl ?_
  refine ow_nil ?_
  refine x_qs ?_
  refine c_seq ?_
  refine c_seq ?_
  refine c_reg ?_
  refine ow_batch [.p, .lenS 22 3 sl22, .p, .lenS 22 3 sl22, .p] rfl ?_
  refine ow_nil ?_
  refine x_qs ?_
  refine c_if rfl (fun hb => ?_) (fun hb => ?_)
  · have H := of_if_t hb H
    refine c_seq ?_
    refine c_reg ?_
    refine ow_batch [.p] rfl ?_
    refine ow_nil ?_
    refine x_qs ?_
    refine c_ret ?_
    refine x_qs_ret ?_
    exact x_retR (rs := [.tmp 4]) (vs := [.bool false]) rfl ⟨rfl, trivial⟩ (fun w' hw' => by
        obtain rfl := of_some H
        exact ⟨rfl, hw'.ext⟩)
  · have H := of_if_f hb H
    refine c_skip ?_
    refine x_qs ?_
    refine c_seq ?_
    refine c_seq ?_
    refine c_reg ?_
    refine ow_batch [.p] rfl ?_
    refine ow_nil ?_
    refine x_qs ?_
    refine c_block ?_
    refine CW.at (loopI1 (fun (i15 : Int) => St w [] []) (fun (i15 : Int) => [(0, .slice a_0 p0.length c_0), (1, .slice a_1 p1.length c_1), (5, .int .i64 i15)]) (fun kk => fun (i15 : Int) => laws_eqIntS_L1 p0 p1 kk i15 = some r) (fun _ H => ?_) (fun k1 ihk1 i15 H => ?_) Fuel (0) (H)) (fun _ h => St.sel [] rfl rfl h) ⟨rfl, rfl, rfl,  trivial⟩
    · unfold laws_eqIntS_L1 at H
      exact absurd H (by simp)
    · unfold laws_eqIntS_L1 at H
      refine c_seq ?_
      refine c_seq ?_
      refine c_reg ?_
      refine ow_batch [.p, .p, .lenS 22 3 sl22, .p] rfl ?_
      refine ow_nil ?_
      refine x_qs ?_
      refine c_if rfl (fun hb => ?_) (fun hb => ?_)
      · have H := of_if_t hb H
        refine c_skip ?_
        refine x_qs ?_
        refine c_seq ?_
        refine c_block ?_
        refine c_seq ?_
        refine c_regQ mixed (by kernel_rfl) ?_
        refine ow_batch [.p, .p] rfl ?_
        obtain ⟨e21, h22, H⟩ := of_bind H
        refine ow_ixE (e := eVal (Value.int .i64) (fun _ => rfl)) (xs := p0) (j := i15) rfl rfl rfl rfl rfl sl22 ty3 rfl (fun w1 hw1 => rds_bor g0 w1 hw1) h22 (by rw [Nat.mul_one]) ?_
        refine ow_r rfl (dstOk_lt rfl) (ry_load1 rfl rfl ty3 (at_elV (fun w1 hw1 => rds_bor g0 w1 hw1) h22)) ?_
        refine ow_batch [.p, .p] rfl ?_
        obtain ⟨e23, h24, H⟩ := of_bind H
        refine ow_ixE (e := eVal (Value.int .i64) (fun _ => rfl)) (xs := p1) (j := i15) rfl rfl rfl rfl rfl sl22 ty3 rfl (fun w1 hw1 => rds_bor g1 w1 hw1) h24 (by rw [Nat.mul_one]) ?_
        refine ow_r rfl (dstOk_lt rfl) (ry_load1 rfl rfl ty3 (at_elV (fun w1 hw1 => rds_bor g1 w1 hw1) h24)) ?_
        refine ow_batch [.p] rfl ?_
        refine ow_nilQ ?_
        refine x_qs ?_
        refine c_if rfl (fun hb => ?_) (fun hb => ?_)
        · have H := of_if_t hb H
          refine c_seq ?_
          refine c_reg ?_
          refine ow_batch [.p] rfl ?_
          refine ow_nil ?_
          refine x_qs ?_
          refine c_ret ?_
          refine x_qb_ret ?_
          refine x_qs_ret ?_
          refine x_ql_ret ?_
          refine x_qb_ret ?_
          refine x_qs_ret ?_
          exact x_retR (rs := [.tmp 4]) (vs := [.bool false]) rfl ⟨rfl, trivial⟩ (fun w' hw' => by
              obtain rfl := of_some H
              exact ⟨rfl, hw'.ext⟩)
        · have H := of_if_f hb H
          refine c_skip ?_
          refine x_qb ?_
          refine x_qs ?_
          refine c_reg ?_
          refine ow_batch [.p, .p, .p] rfl ?_
          refine ow_nil ?_
          exact x_ql (RW.at (ihk1 (IntKind.i64.wrap (i15 + 1)) (H)) (fun _ h => St.sel [] rfl rfl h) ⟨rfl, rfl, rfl, trivial⟩)
      · have H := of_if_f hb H
        refine c_exit ?_
        refine x_qs_exit ?_
        refine x_ql_exit ?_
        refine x_qb_here ?_
        refine x_qs ?_
        refine c_seq ?_
        refine c_reg ?_
        refine ow_batch [.p] rfl ?_
        refine ow_nil ?_
        refine x_qs ?_
        refine c_ret ?_
        exact x_retR (rs := [.tmp 4]) (vs := [.bool true]) rfl ⟨rfl, trivial⟩ (fun w' hw' => by
            obtain rfl := of_some H
            exact ⟨rfl, hw'.ext⟩)

set_option maxHeartbeats 4000000 in
set_option maxRecDepth 100000 in
theorem laws_eqIntSS_ok (w : World) {p0 : List (List Int)} {p1 : List (List Int)} {a_0 : Option Addr} {n_0 c_0 : Nat} {a_1 : Option Addr} {n_1 c_1 : Nat} {r : Bool} (H : laws_eqIntSS p0 p1 = some r)  (g0 : (eList (eList (eVal (Value.int .i64) (fun _ => rfl)) 3) 22).rd w [] p0 [.slice a_0 n_0 c_0]) (g1 : (eList (eList (eVal (Value.int .i64) (fun _ => rfl)) 3) 22).rd w [] p1 [.slice a_1 n_1 c_1]) :
    Calls Tryd.prog 49 #[.slice a_0 n_0 c_0, .slice a_1 n_1 c_1] w (fun en w' => en = .returned (.bool r) ∧ Ext [] w w') := by
  obtain rfl := rd_n g0
  obtain rfl := rd_n g1
  unfold laws_eqIntSS at H
  refine f_enter (vs := [.slice a_0 p0.length c_0, .slice a_1 p1.length c_1]) Tryd.func49 rfl Tryd.ntmps49 rfl (St.init w []) ?_
  refine c_seq ?_
  refine c_reg ?_
  refine ow_batch [.p] rfl ?_
  refine ow_nil ?_
  refine x_qs ?_
  refine c_seq ?_
  refine c_seq ?_
  refine c_reg ?_
  refine ow_batch [.p, .lenS 27 22 sl27, .p, .lenS 27 22 sl27, .p] rfl ?_
  refine ow_nil ?_
  refine x_qs ?_
  refine c_if rfl (fun hb => ?_) (fun hb => ?_)
  · have H := of_if_t hb H
    refine c_seq ?_
    refine c_reg ?_
    refine ow_batch [.p] rfl ?_
    refine ow_nil ?_
    refine x_qs ?_
    refine c_ret ?_
    refine x_qs_ret ?_
    exact x_retR (rs := [.tmp 4]) (vs := [.bool false]) rfl ⟨rfl, trivial⟩ (fun w' hw' => by
        obtain rfl := of_some H
        exact ⟨rfl, hw'.ext⟩)
  · have H := of_if_f hb H
    refine c_skip ?_
    refine x_qs ?_
    refine c_seq ?_
    refine c_seq ?_
    refine c_reg ?_
    refine ow_batch [.p] rfl ?_
    refine ow_nil ?_
    refine x_qs ?_
    refine c_block ?_
    refine CW.at (loopI1 (fun (i29 : Int) => St w [] []) (fun (i29 : Int) => [(0, .slice a_0 p0.length c_0), (1, .slice a_1 p1.length c_1), (5, .int .i64 i29)]) (fun kk => fun (i29 : Int) => laws_eqIntSS_L1 p0 p1 kk i29 = some r) (fun _ H => ?_) (fun k1 ihk1 i29 H => ?_) Fuel (0) (H)) (fun _ h => St.sel [] rfl rfl h) ⟨rfl, rfl, rfl,  trivial⟩
    · unfold laws_eqIntSS_L1 at H
      exact absurd H (by simp)
    · unfold laws_eqIntSS_L1 at H
      refine c_seq ?_
      refine c_seq ?_
      refine c_reg ?_
      refine ow_batch [.p, .p, .lenS 27 22 sl27, .p] rfl ?_
      refine ow_nil ?_
      refine x_qs ?_
      refine c_if rfl (fun hb => ?_) (fun hb => ?_)
      · have H := of_if_t hb H
        refine c_skip ?_
        refine x_qs ?_
        refine c_seq ?_
        refine c_block ?_
        refine c_seq ?_
        refine c_regQ mixed (by kernel_rfl) ?_
        refine ow_batch [.p, .p] rfl ?_
        obtain ⟨e49, h50, H⟩ := of_bind H
        refine ow_ixB rfl rfl rfl rfl rfl sl27 ty22 rfl g0 h50 (fun q53 c54 hd51 hA52 => ?_)
        obtain ⟨a55, c56, rfl⟩ := rd_sl1 hd51
        refine ow_r rfl (dstOk_lt rfl) (ry_load1 rfl rfl ty22 (at_bor bor hA52)) ?_
        refine ow_batch [.p, .p] rfl ?_
        obtain ⟨e57, h58, H⟩ := of_bind H
        refine ow_ixB rfl rfl rfl rfl rfl sl27 ty22 rfl g1 h58 (fun q61 c62 hd59 hA60 => ?_)
        obtain ⟨a63, c64, rfl⟩ := rd_sl1 hd59
        refine ow_r rfl (dstOk_lt rfl) (ry_load1 rfl rfl ty22 (at_bor bor hA60)) ?_
        obtain ⟨y65, h66, H⟩ := of_bind H
        refine ow_q rfl rfl (dstOk_lt rfl) (qy_call rfl fn11 rfl (fun w1 hw1 => laws_eqIntS_ok w1  h66 (rds_bor hd51 w1 hw1) (rds_bor hd59 w1 hw1))) (fun _ _ => trivial) ?_
        refine ow_batch [.p] rfl ?_
        refine ow_nilQ ?_
        refine x_qs ?_
        refine c_if rfl (fun hb => ?_) (fun hb => ?_)
        · have H := of_if_t hb H
          refine c_seq ?_
          refine c_reg ?_
          refine ow_batch [.p] rfl ?_
          refine ow_nil ?_
          refine x_qs ?_
          refine c_ret ?_
          refine x_qb_ret ?_
          refine x_qs_ret ?_
          refine x_ql_ret ?_
          refine x_qb_ret ?_
          refine x_qs_ret ?_
          exact x_retR (rs := [.tmp 4]) (vs := [.bool false]) rfl ⟨rfl, trivial⟩ (fun w' hw' => by
              obtain rfl := of_some H
              exact ⟨rfl, hw'.ext⟩)
        · have H := of_if_f hb H
          refine c_skip ?_
          refine x_qb ?_
          refine x_qs ?_
          refine c_reg ?_
          refine ow_batch [.p, .p, .p] rfl ?_
          refine ow_nil ?_
          exact x_ql (RW.at (ihk1 (IntKind.i64.wrap (i29 + 1)) (H)) (fun _ h => St.sel [] rfl rfl h) ⟨rfl, rfl, rfl, trivial⟩)
      · have H := of_if_f hb H
        refine c_exit ?_
        refine x_qs_exit ?_
        refine x_ql_exit ?_
        refine x_qb_here ?_
        refine x_qs ?_
        refine c_seq ?_
        refine c_reg ?_
        refine ow_batch [.p] rfl ?_
        refine ow_nil ?_
        refine x_qs ?_
        refine c_ret ?_
        exact x_retR (rs := [.tmp 4]) (vs := [.bool true]) rfl ⟨rfl, trivial⟩ (fun w' hw' => by
            obtain rfl := of_some H
            exact ⟨rfl, hw'.ext⟩)

set_option maxHeartbeats 4000000 in
set_option maxRecDepth 100000 in
theorem laws_szPairS_ok (w : World) {p0 : List Tlaws_Pair} {p1 : Int} {a_0 : Option Addr} {n_0 c_0 : Nat} {r : Int} (H : laws_szPairS p0 p1 = some r)  (g0 : (eList (eTlaws_Pair) 131).rd w [] p0 [.slice a_0 n_0 c_0]) :
    Calls Tryd.prog 50 #[.slice a_0 n_0 c_0, .int .i64 p1] w (fun en w' => en = .returned (.int .i64 r) ∧ Ext [] w w') := by
  obtain rfl := rd_n g0
  unfold laws_szPairS at H
  refine f_enter (vs := [.slice a_0 p0.length c_0, .int .i64 p1]) Tryd.func50 rfl Tryd.ntmps50 rfl (St.init w []) ?_
  refine c_seq ?_
  refine c_reg ?_
  refine ow_batch [.p] rfl ?_
  refine ow_nil ?_
  refine x_qs ?_
  refine c_seq ?_
  refine c_reg ?_
  refine ow_batch [.p, .p, .lenS 36 131 sl36, .p, .p] rfl ?_
  refine ow_nil ?_
  refine x_qs ?_
  refine c_seq ?_
  refine c_seq ?_
  refine c_reg ?_
  refine ow_batch [.p, .p] rfl ?_
  refine ow_nil ?_
  refine x_qs ?_
  refine c_if rfl (fun hb => ?_) (fun hb => ?_)
  · have H := of_if_t hb H
    refine c_seq ?_
    refine c_reg ?_
    refine ow_batch [.p] rfl ?_
    refine ow_nil ?_
    refine x_qs ?_
    refine c_ret ?_
    refine x_qs_ret ?_
    exact x_retR (rs := [.tmp 4]) (vs := [.int .i64 (-1)]) rfl ⟨rfl, trivial⟩ (fun w' hw' => by
        obtain rfl := of_some H
        exact ⟨rfl, hw'.ext⟩)
  · have H := of_if_f hb H
    refine c_skip ?_
    refine x_qs ?_
    refine c_seq ?_
    refine c_reg ?_
    refine ow_batch [.p, .p] rfl ?_
    refine ow_nil ?_
    refine x_qs ?_
    refine c_ret ?_
    exact x_retR (rs := [.tmp 4]) (vs := [.int .i64 (IntKind.i64.wrap (p1 - (p0.length : Int)))]) rfl ⟨rfl, trivial⟩ (fun w' hw' => by
        obtain rfl := of_some H
        exact ⟨rfl, hw'.ext⟩)

set_option maxHeartbeats 4000000 in
set_option maxRecDepth 100000 in
theorem laws_szScore_ok (w : World) {p0 : Tlaws_Score} {p1 : Int} {cs0 : List Value} {r : Int} (H : laws_szScore p0 p1 = some r)  (g0 : (eTlaws_Score).rd w [] p0 cs0) :
    Calls Tryd.prog 17 #[.agg cs0.toArray, .int .i64 p1] w (fun en w' => en = .returned (.int .i64 r) ∧ Ext [] w w') := by
  obtain ⟨c10, c11, rfl, g12, g13⟩ := rdo_Tlaws_Score g0
  obtain ⟨a14, c15, rfl⟩ := rd_sl1 g12
  obtain ⟨a16, c17, rfl⟩ := rd_sl1 g13
  unfold laws_szScore at H
  refine f_enter (vs := [.agg #[.slice a14 p0.Table_.length c15, .slice a16 p0.Last_.length c17], .int .i64 p1]) Tryd.func17 rfl Tryd.ntmps17 rfl (St.init w []) ?_
  refine c_seq ?_
  refine c_reg ?_
  refine ow_box (cs := [.slice a14 p0.Table_.length c15, .slice a16 p0.Last_.length c17]) rfl rfl rfl rfl rfl rfl (fun _ => kp) (fun b18 => ?_)
  refine ow_batch [.p] rfl ?_
  refine ow_nil ?_
  refine x_qs ?_
  refine c_seq ?_
  refine c_reg ?_
  refine ow_batch [.fa 38 0 0 fa38_0] rfl ?_
  refine ow_r rfl (dstOk_lt rfl) (ry_box1 (off := 0) rfl rfl ty27 (boxIn (i := 0) rfl) rfl) ?_
  refine ow_batch [.p] rfl ?_
  obtain ⟨y19, h20, H⟩ := of_bind H
  refine ow_q rfl rfl (dstOk_lt rfl) (qy_call rfl fn38 rfl (fun w1 hw1 => laws_szIntSS_ok w1  h20 (rds_bor g12 w1 hw1))) (fun _ _ => trivial) ?_
  refine ow_batch [.p] rfl ?_
  refine ow_nil ?_
  refine x_qs ?_
  refine c_seq ?_
  refine c_seq ?_
  refine c_reg ?_
  refine ow_batch [.p, .p] rfl ?_
  refine ow_nil ?_
  refine x_qs ?_
  refine c_if rfl (fun hb => ?_) (fun hb => ?_)
  · have H := of_if_t hb H
    refine c_seq ?_
    refine c_reg ?_
    refine ow_batch [.p] rfl ?_
    refine ow_nil ?_
    refine x_qs ?_
    refine c_ret ?_
    refine x_qs_ret ?_
    exact x_retR (rs := [.tmp 4]) (vs := [.int .i64 (-1)]) rfl ⟨rfl, trivial⟩ (fun w' hw' => by
        obtain rfl := of_some H
        exact ⟨rfl, hw'.ext⟩)
  · have H := of_if_f hb H
    refine c_skip ?_
    refine x_qs ?_
    refine c_seq ?_
    refine c_reg ?_
    refine ow_batch [.fa 38 1 1 fa38_1] rfl ?_
    refine ow_r rfl (dstOk_lt rfl) (ry_box1 (off := 1) rfl rfl ty36 (boxIn (i := 0) rfl) rfl) ?_
    refine ow_batch [.p] rfl ?_
    obtain ⟨y21, h22, H⟩ := of_bind H
    refine ow_q rfl rfl (dstOk_lt rfl) (qy_call rfl fn50 rfl (fun w1 hw1 => laws_szPairS_ok w1  h22 (rds_bor g13 w1 hw1))) (fun _ _ => trivial) ?_
    refine ow_batch [.p] rfl ?_
    refine ow_nil ?_
    refine x_qs ?_
    refine c_seq ?_
    refine c_seq ?_
    refine c_reg ?_
    refine ow_batch [.p, .p] rfl ?_
    refine ow_nil ?_
    refine x_qs ?_
    refine c_if rfl (fun hb => ?_) (fun hb => ?_)
    · have H := of_if_t hb H
      refine c_seq ?_
      refine c_reg ?_
      refine ow_batch [.p] rfl ?_
      refine ow_nil ?_
      refine x_qs ?_
      refine c_ret ?_
      refine x_qs_ret ?_
      exact x_retR (rs := [.tmp 4]) (vs := [.int .i64 (-1)]) rfl ⟨rfl, trivial⟩ (fun w' hw' => by
          obtain rfl := of_some H
          exact ⟨rfl, hw'.ext⟩)
    · have H := of_if_f hb H
      refine c_skip ?_
      refine x_qs ?_
      refine c_seq ?_
      refine c_reg ?_
      refine ow_batch [.p, .p] rfl ?_
      refine ow_nil ?_
      refine x_qs ?_
      refine c_ret ?_
      exact x_retR (rs := [.tmp 4]) (vs := [.int .i64 y21]) rfl ⟨rfl, trivial⟩ (fun w' hw' => by
          obtain rfl := of_some H
          exact ⟨rfl, hw'.ext⟩)

set_option maxHeartbeats 4000000 in
set_option maxRecDepth 100000 in
theorem laws_toPair_ok (w : World) {p0 : Tlaws_Pair}  {r : Timpl_Pair} (H : laws_toPair p0 = some r)   :
    Calls Tryd.prog 102 #[.agg #[.int .i64 p0.Truth_, .int .i64 p0.Said_]] w (fun en w' => en = .returned (.agg #[.int .i64 r.Truth_, .int .i64 r.Said_]) ∧ Ext [] w w') := by
  unfold laws_toPair at H
  refine f_enter (vs := [.agg #[.int .i64 p0.Truth_, .int .i64 p0.Said_]]) Tryd.func102 rfl Tryd.ntmps102 rfl (St.init w []) ?_
  refine c_seq ?_
  refine c_reg ?_
  refine ow_box (cs := [.int .i64 p0.Truth_, .int .i64 p0.Said_]) rfl rfl rfl rfl rfl rfl (fun _ => kp) (fun b10 => ?_)
  refine ow_alloc rfl rfl rfl rfl ty129 (fun _ => kp) (fun b11 => ?_)
  refine ow_nil ?_
  refine x_qs ?_
  refine c_seq ?_
  refine c_reg ?_
  refine ow_alloc rfl rfl rfl rfl ty129 (fun _ => kp) (fun b12 => ?_)
  refine ow_nil ?_
  refine x_qs ?_
  refine c_seq ?_
  refine c_reg ?_
  refine ow_batch [.fa 131 0 0 fa131_0] rfl ?_
  refine ow_r rfl (dstOk_lt rfl) (ry_box1 (off := 0) rfl rfl ty3 (boxIn (i := 0) rfl) rfl) ?_
  refine ow_batch [.fa 129 0 0 fa129_0] rfl ?_
  refine ow_storeC (off := 0) [.int .i64 p0.Truth_] [_, _] (i := 2) rfl rfl rfl rfl rfl rfl ty3 rfl rfl (by intro u hu; simp only [List.mem_cons, List.not_mem_nil, or_false] at hu; rcases hu with rfl <;> rfl) rfl rfl rfl kp ?_
  refine ow_nil ?_
  refine x_qs ?_
  refine c_seq ?_
  refine c_reg ?_
  refine ow_batch [.fa 131 1 1 fa131_1] rfl ?_
  refine ow_r rfl (dstOk_lt rfl) (ry_box1 (off := 1) rfl rfl ty3 (boxIn (i := 0) rfl) rfl) ?_
  refine ow_batch [.fa 129 1 1 fa129_1] rfl ?_
  refine ow_storeC (off := 1) [.int .i64 p0.Said_] [_, _] (i := 2) rfl rfl rfl rfl rfl rfl ty3 rfl rfl (by intro u hu; simp only [List.mem_cons, List.not_mem_nil, or_false] at hu; rcases hu with rfl <;> rfl) rfl rfl rfl kp ?_
  refine ow_nil ?_
  refine x_qs ?_
  refine c_seq ?_
  refine c_reg ?_
  refine ow_r rfl (dstOk_lt rfl) (ry_box (off := 0) (ds := [.int .i64 p0.Truth_, .int .i64 p0.Said_]) rfl rfl ty129 (boxIn (i := 2) rfl) rfl rfl) ?_
  refine ow_storeC (off := 0) [.int .i64 p0.Truth_, .int .i64 p0.Said_] [_, _] (i := 1) rfl rfl rfl rfl rfl rfl ty129 rfl rfl (by intro u hu; simp only [List.mem_cons, List.not_mem_nil, or_false] at hu; rcases hu with rfl | rfl <;> rfl) rfl rfl rfl kp ?_
  refine ow_nil ?_
  refine x_qs ?_
  refine c_ret ?_
  exact x_retR (rs := [.cell 2 129]) (vs := [.agg #[.int .i64 p0.Truth_, .int .i64 p0.Said_]]) rfl ⟨⟨_, [.int .i64 p0.Truth_, .int .i64 p0.Said_], _, _, _, rfl, ty129, (at_box (T := 129) 0 (boxIn (i := 1) rfl) rfl), rfl, rfl⟩, trivial⟩ (fun w' hw' => by
      obtain rfl := of_some H
      exact ⟨rfl, hw'.ext⟩)

set_option maxHeartbeats 4000000 in
set_option maxRecDepth 100000 in
theorem laws_toPairS_ok (w : World) {M0 : List Nat} {p0 : List Tlaws_Pair} {a_0 : Option Addr} {n_0 c_0 : Nat} {r : List Timpl_Pair} (H : laws_toPairS p0 = some r) (HS : St w M0 [] w) (g0 : (eList (eTlaws_Pair) 131).rd w M0 p0 [.slice a_0 n_0 c_0]) :
    Calls Tryd.prog 56 #[.slice a_0 n_0 c_0] w (fun en w' => ∃ v, en = .returned v ∧ ∃ (a0 : Option Addr), ∃ (n0 : Nat), ∃ (c0 : Nat), ∃ (F0 : List Nat), v = .slice a0 n0 c0 ∧ St w M0 [Res.own (eList (eTimpl_Pair) 129) F0 r [.slice a0 n0 c0]] w') := by
  obtain rfl := rd_n g0
  unfold laws_toPairS at H
  refine f_enter (vs := [.slice a_0 p0.length c_0]) Tryd.func56 rfl Tryd.ntmps56 rfl (HS) ?_
  refine c_seq ?_
  refine c_reg ?_
  refine ow_batch [.p] rfl ?_
  refine ow_nil ?_
  refine x_qs ?_
  refine c_seq ?_
  refine c_reg ?_
  refine ow_batch [.p, .lenS 36 131 sl36] rfl ?_
  obtain ⟨l10, h11, H⟩ := of_bind H
  refine ow_make (e := eTimpl_Pair) (zero := ((Timpl_Pair.mk 0 0) : Timpl_Pair)) rfl rfl rfl rfl rfl rfl sl41 ty129 rfl rfl rfl rfl (fun _ => ⟨rfl, rfl⟩) h11 (fun _ => kp) (fun b12 => ?_)
  refine ow_batch [.p] rfl ?_
  refine ow_nil ?_
  refine x_qs ?_
  refine c_seq ?_
  refine c_seq ?_
  refine c_reg ?_
  refine ow_batch [.p] rfl ?_
  refine ow_nil ?_
  refine x_qs ?_
  refine c_block ?_
  refine CW.at (loopI3 (fun (l30 : List Timpl_Pair) (F31 : List Nat) (i33 : Int) => St w M0 [Res.own (eList (eTimpl_Pair) 129) F31 l30 [.slice (some ⟨b12, 0, none⟩) l10.length l10.length]]) (fun (l30 : List Timpl_Pair) (F31 : List Nat) (i33 : Int) => [(0, .slice a_0 p0.length c_0), (3, .slice (some ⟨b12, 0, none⟩) l10.length l10.length), (4, .int .i64 i33)]) (fun kk => fun (l30 : List Timpl_Pair) (F31 : List Nat) (i33 : Int) => laws_toPairS_L1 p0 kk l30 i33 = some r) (fun _ _ _ H => ?_) (fun k1 ihk1 l30 F31 i33 H => ?_) Fuel (l10) ([b12]) (0) (H)) (fun _ h => St.sel [0] rfl rfl h) ⟨rfl, rfl, rfl,  trivial⟩
  · unfold laws_toPairS_L1 at H
    exact absurd H (by simp)
  · unfold laws_toPairS_L1 at H
    refine c_seq ?_
    refine c_seq ?_
    refine c_reg ?_
    refine ow_batch [.p, .p, .lenS 36 131 sl36, .p] rfl ?_
    refine ow_nil ?_
    refine x_qs ?_
    refine c_if rfl (fun hb => ?_) (fun hb => ?_)
    · have H := of_if_t hb H
      refine c_skip ?_
      refine x_qs ?_
      refine c_seq ?_
      refine c_block ?_
      refine c_reg ?_
      refine ow_batch [.p, .p, .p, .p] rfl ?_
      obtain ⟨e51, h52, H⟩ := of_bind H
      refine ow_ixE (e := eTlaws_Pair) (xs := p0) (j := i33) rfl rfl rfl rfl rfl sl36 ty131 rfl (fun w1 hw1 => rds_bor g0 w1 hw1) h52 rfl ?_
      refine ow_r rfl (dstOk_lt rfl) (ry_load (cs := [.int .i64 e51.Truth_, .int .i64 e51.Said_]) rfl rfl ty131 (at_castA (at_eltE (fun w1 hw1 => rds_bor g0 w1 hw1) h52 (fun _ _ h => h)) rfl) rfl) ?_
      obtain ⟨y53, h54, H⟩ := of_bind H
      refine ow_q rfl rfl (dstOk_lt rfl) (qy_call rfl fn102 rfl (fun w1 hw1 => laws_toPair_ok w1 (p0 := e51) h54)) (fun _ _ => trivial) ?_
      obtain ⟨e55, h56, H⟩ := of_bind H
      refine ow_ex4 rfl (fun w1 hw1 => foc (r := 0) hw1 rfl h56) (fun b58 G59 F60 c61 => ?_)
      refine ow_fact rfl (fun w1 hw1 => hw1.1) (fun q57 => ?_)
      obtain ⟨ha62, hn63⟩ := q57
      refine ow_st (C' := St w M0 [_, _, _]) rfl (fun w1 hw1 => hw1.2) ?_
      refine ow_fact rfl (fun w1 hw1 => opn_flat (i := 2) hw1 rfl) (fun q57 => ?_)
      obtain ⟨rfl, rfl⟩ := q57
      refine ow_st (C' := St w M0 [_, _]) rfl (fun w1 hw1 => St.mask [true, true] rfl hw1) ?_
      refine ow_ixH rfl rfl rfl rfl rfl sl41 ty129 rfl (holeIn (p := 1) rfl) hn63 ha62 (idx_some h56).1 ?_
      refine ow_storeH (off := 0) [.int .i64 y53.Truth_, .int .i64 y53.Said_] (p := 1) (c' := [_, _]) rfl rfl rfl rfl rfl (by first | rfl | simp only [add_lit, add_add, add_zero]) rfl ty129 rfl rfl (by intro u hu; simp only [List.mem_cons, List.not_mem_nil, or_false] at hu; rcases hu with rfl | rfl <;> rfl) rfl rfl rfl kp ?_
      refine ow_nil ?_
      refine x_qb ?_
      refine x_qs ?_
      refine c_reg ?_
      refine ow_batch [.p, .p, .p] rfl ?_
      refine ow_nil ?_
      refine xw_st (fun _ h => St.push0 h (Res.own (eTimpl_Pair) [] y53 [.int .i64 y53.Truth_, .int .i64 y53.Said_]) rfl ⟨rfl, rfl⟩) ?_
      refine xw_ex (fun w1 hw1 => unf (p := 1) (q := 2) hw1 rfl rfl rfl hn63 ha62) (fun F64 => ?_)
      refine xw_st (C' := St w M0 [_, _, _, _]) (fun _ h => h) ?_
      exact x_ql (RW.at (ihk1 ((l30.set i33.toNat y53)) (F64) (IntKind.i64.wrap (i33 + 1)) (H)) (fun _ h => St.sel [3] rfl rfl h) ⟨rfl, rfl, rfl, trivial⟩)
    · have H := of_if_f hb H
      refine c_exit ?_
      refine x_qs_exit ?_
      refine x_ql_exit ?_
      refine x_qb_here ?_
      refine x_qs ?_
      refine c_seq ?_
      refine c_reg ?_
      refine ow_batch [.p, .p] rfl ?_
      refine ow_nil ?_
      refine x_qs ?_
      refine c_ret ?_
      exact x_retR (rs := [.tmp 2]) (vs := [.slice (some ⟨b12, 0, none⟩) l10.length l10.length]) rfl ⟨rfl, trivial⟩ (fun w' hw' => by
          obtain rfl := of_some H
          exact ⟨_, rfl, (some ⟨b12, 0, none⟩), l10.length, l10.length, F31, rfl, hw'.sel [0] rfl rfl⟩)

set_option maxHeartbeats 4000000 in
set_option maxRecDepth 100000 in
theorem laws_toScore_ok (w : World) {M0 : List Nat} {p0 : Tlaws_Score} {cs0 : List Value} {r : Timpl_Score} (H : laws_toScore p0 = some r) (HS : St w M0 [] w) (g0 : (eTlaws_Score).rd w M0 p0 cs0) :
    Calls Tryd.prog 19 #[.agg cs0.toArray] w (fun en w' => ∃ v, en = .returned v ∧ ∃ (a0 : Option Addr), ∃ (n0 : Nat), ∃ (c0 : Nat), ∃ (F0 : List Nat), ∃ (a1 : Option Addr), ∃ (n1 : Nat), ∃ (c1 : Nat), ∃ (F1 : List Nat), v = .agg #[.slice a0 n0 c0, .slice a1 n1 c1] ∧ St w M0 [Res.own (eList (eList (eVal (Value.int .i64) (fun _ => rfl)) 3) 22) F0 r.Table_ [.slice a0 n0 c0], Res.own (eList (eTimpl_Pair) 129) F1 r.Last_ [.slice a1 n1 c1]] w') := by
  obtain ⟨c10, c11, rfl, g12, g13⟩ := rdo_Tlaws_Score g0
  obtain ⟨a14, c15, rfl⟩ := rd_sl1 g12
  obtain ⟨a16, c17, rfl⟩ := rd_sl1 g13
  unfold laws_toScore at H
  refine f_enter (vs := [.agg #[.slice a14 p0.Table_.length c15, .slice a16 p0.Last_.length c17]]) Tryd.func19 rfl Tryd.ntmps19 rfl (HS) ?_
  refine c_seq ?_
  refine c_reg ?_
  refine ow_box (cs := [.slice a14 p0.Table_.length c15, .slice a16 p0.Last_.length c17]) rfl rfl rfl rfl rfl rfl (fun _ => kp) (fun b18 => ?_)
  refine ow_alloc rfl rfl rfl rfl ty43 (fun _ => kp) (fun b19 => ?_)
  refine ow_nil ?_
  refine x_qs ?_
  refine c_seq ?_
  refine c_reg ?_
  refine ow_alloc rfl rfl rfl rfl ty43 (fun _ => kp) (fun b20 => ?_)
  refine ow_nil ?_
  refine x_qs ?_
  refine c_seq ?_
  refine c_reg ?_
  refine ow_batch [.fa 38 0 0 fa38_0] rfl ?_
  refine ow_r rfl (dstOk_lt rfl) (ry_box1 (off := 0) rfl rfl ty27 (boxIn (i := 0) rfl) rfl) ?_
  obtain ⟨y21, h22, H⟩ := of_bind H
  refine ow_callS rfl fn43 rfl rfl rfl rfl (fun w1 hw1 => laws_toIntSS_ok w1  h22 (hw1.carve [] rfl rfl) (rds_bor g12 w1 hw1)) (fun v23 w1 w2 hw1 hR25 => ?_)
  obtain ⟨a26, n27, c28, F29, rfl, hS24⟩ := hR25
  obtain rfl := own_nS (i := 0) hS24 rfl
  refine ⟨St w M0 [_, _, _, _], hw1.comp [] rfl rfl hS24, fun _ _ => trivial, ?_⟩
  refine ow_batch [.fa 43 0 0 fa43_0] rfl ?_
  refine ow_storeC (off := 0) [.slice a26 y21.length c28] [_, _] (i := 2) rfl rfl rfl rfl rfl rfl ty27 rfl rfl (by intro u hu; simp only [List.mem_cons, List.not_mem_nil, or_false] at hu; rcases hu with rfl <;> rfl) rfl rfl rfl kp ?_
  refine ow_nil ?_
  refine x_qs ?_
  refine c_seq ?_
  refine c_reg ?_
  refine ow_batch [.fa 38 1 1 fa38_1] rfl ?_
  refine ow_r rfl (dstOk_lt rfl) (ry_box1 (off := 1) rfl rfl ty36 (boxIn (i := 0) rfl) rfl) ?_
  obtain ⟨y30, h31, H⟩ := of_bind H
  refine ow_callS rfl fn56 rfl rfl rfl rfl (fun w1 hw1 => laws_toPairS_ok w1  h31 (hw1.carve [] rfl rfl) (rds_bor g13 w1 hw1)) (fun v32 w1 w2 hw1 hR34 => ?_)
  obtain ⟨a35, n36, c37, F38, rfl, hS33⟩ := hR34
  obtain rfl := own_nS (i := 0) hS33 rfl
  refine ⟨St w M0 [_, _, _, _, _], hw1.comp [] rfl rfl hS33, fun _ _ => trivial, ?_⟩
  refine ow_batch [.fa 43 1 1 fa43_1] rfl ?_
  refine ow_storeC (off := 1) [.slice a35 y30.length c37] [_, _] (i := 2) rfl rfl rfl rfl rfl rfl ty41 rfl rfl (by intro u hu; simp only [List.mem_cons, List.not_mem_nil, or_false] at hu; rcases hu with rfl <;> rfl) rfl rfl rfl kp ?_
  refine ow_nil ?_
  refine x_qs ?_
  refine c_seq ?_
  refine c_reg ?_
  refine ow_r rfl (dstOk_lt rfl) (ry_box (off := 0) (ds := [.slice a26 y21.length c28, .slice a35 y30.length c37]) rfl rfl ty43 (boxIn (i := 2) rfl) rfl rfl) ?_
  refine ow_storeC (off := 0) [.slice a26 y21.length c28, .slice a35 y30.length c37] [_, _] (i := 1) rfl rfl rfl rfl rfl rfl ty43 rfl rfl (by intro u hu; simp only [List.mem_cons, List.not_mem_nil, or_false] at hu; rcases hu with rfl | rfl <;> rfl) rfl rfl rfl kp ?_
  refine ow_nil ?_
  refine x_qs ?_
  refine c_ret ?_
  exact x_retR (rs := [.cell 2 43]) (vs := [.agg #[.slice a26 y21.length c28, .slice a35 y30.length c37]]) rfl ⟨⟨_, [.slice a26 y21.length c28, .slice a35 y30.length c37], _, _, _, rfl, ty43, (at_box (T := 43) 0 (boxIn (i := 1) rfl) rfl), rfl, rfl⟩, trivial⟩ (fun w' hw' => by
      obtain rfl := of_some H
      exact ⟨_, rfl, a26, y21.length, c28, F29, a35, y30.length, c37, F38, rfl, hw'.sel [3, 4] rfl rfl⟩)

set_option maxHeartbeats 4000000 in
set_option maxRecDepth 100000 in
theorem spec_l25Pairs_ok (w : World) {p0 : List Timpl_Pair} {p1 : Int} {p2 : Int} {a_0 : Option Addr} {n_0 c_0 : Nat} {r : Int} (H : spec_l25Pairs p0 p1 p2 = some r)  (g0 : (eList (eTimpl_Pair) 129).rd w [] p0 [.slice a_0 n_0 c_0]) :
    Calls Tryd.prog 99 #[.slice a_0 n_0 c_0, .int .i64 p1, .int .i64 p2] w (fun en w' => en = .returned (.int .i64 r) ∧ Ext [] w w') := by
  obtain rfl := rd_n g0
  unfold spec_l25Pairs at H
  refine f_enter (vs := [.slice a_0 p0.length c_0, .int .i64 p1, .int .i64 p2]) Tryd.func99 rfl Tryd.ntmps99 rfl (St.init w []) ?_
  refine c_seq ?_
  refine c_reg ?_
  refine ow_batch [.p] rfl ?_
  refine ow_nil ?_
  refine x_qs ?_
  refine c_seq ?_
  refine c_reg ?_
  refine ow_batch [.p] rfl ?_
  refine ow_nil ?_
  refine x_qs ?_
  refine c_seq ?_
  refine c_seq ?_
  refine c_reg ?_
  refine ow_batch [.p] rfl ?_
  refine ow_nil ?_
  refine x_qs ?_
  refine c_block ?_
  refine CW.at (loopI2 (fun (i19 : Int) (i20 : Int) => St w [] []) (fun (i19 : Int) (i20 : Int) => [(0, .slice a_0 p0.length c_0), (1, .int .i64 p1), (2, .int .i64 p2), (7, .int .i64 i19), (8, .int .i64 i20)]) (fun kk => fun (i19 : Int) (i20 : Int) => spec_l25Pairs_L1 p0 p1 p2 kk i19 i20 = some r) (fun _ _ H => ?_) (fun k1 ihk1 i19 i20 H => ?_) Fuel (0) (0) (H)) (fun _ h => St.sel [] rfl rfl h) ⟨rfl, rfl, rfl, rfl, rfl,  trivial⟩
  · unfold spec_l25Pairs_L1 at H
    exact absurd H (by simp)
  · unfold spec_l25Pairs_L1 at H
    refine c_seq ?_
    refine c_seq ?_
    refine c_reg ?_
    refine ow_batch [.p, .p, .lenS 41 129 sl41, .p] rfl ?_
    refine ow_nil ?_
    refine x_qs ?_
    refine c_if rfl (fun hb => ?_) (fun hb => ?_)
    · have H := of_if_t hb H
      refine c_skip ?_
      refine x_qs ?_
      refine c_seq ?_
      refine c_block ?_
      refine c_seq ?_
      refine c_reg ?_
      refine ow_batch [.p, .p] rfl ?_
      obtain ⟨e30, h31, H⟩ := of_bind H
      refine ow_ixE (e := eTimpl_Pair) (xs := p0) (j := i20) rfl rfl rfl rfl rfl sl41 ty129 rfl (fun w1 hw1 => rds_bor g0 w1 hw1) h31 rfl ?_
      refine ow_batch [.fa 129 0 0 fa129_0] rfl ?_
      refine ow_r rfl (dstOk_lt rfl) (ry_load1 rfl rfl ty3 (at_KA (at_castA (at_eltE (fun w1 hw1 => rds_bor g0 w1 hw1) h31 (fun _ _ h => h)) rfl) 0 1)) ?_
      refine ow_batch [.p, .p, .p] rfl ?_
      obtain ⟨u33, hu37, H⟩ := of_bind H
      refine ow_cut [(30, .bool u33), (0, .slice a_0 p0.length c_0), (1, .int .i64 p1), (2, .int .i64 p2), (7, .int .i64 i19), (8, .int .i64 i20)] 8 ?_ (fun key => OW.sub (R := [(0, .slice a_0 p0.length c_0), (1, .int .i64 p1), (2, .int .i64 p2), (7, .int .i64 i19), (8, .int .i64 i20), (22, .bool (e30.Truth_ == p1))]) ?_ ⟨rfl, rfl, rfl, rfl, rfl, rfl, trivial⟩)
      · refine ow_nil ?_
        refine x_qs ?_
        refine c_if rfl (fun hb => ?_) (fun hb => ?_)
        · have H := of_if_t hb H
          refine c_reg ?_
          refine ow_batch [.p, .p, .p] rfl ?_
          refine ow_nil ?_
          refine x_qb ?_
          refine x_qs ?_
          refine c_reg ?_
          refine ow_batch [.p, .p, .p] rfl ?_
          refine ow_nil ?_
          exact x_ql (RW.at (ihk1 (IntKind.i64.wrap (i19 + 1)) (IntKind.i64.wrap (i20 + 1)) (H)) (fun _ h => St.sel [] rfl rfl h) ⟨rfl, rfl, rfl, rfl, rfl, trivial⟩)
        · have H := of_if_f hb H
          refine c_skip ?_
          refine x_qb ?_
          refine x_qs ?_
          refine c_reg ?_
          refine ow_batch [.p, .p, .p] rfl ?_
          refine ow_nil ?_
          exact x_ql (RW.at (ihk1 (i19) (IntKind.i64.wrap (i20 + 1)) (H)) (fun _ h => St.sel [] rfl rfl h) ⟨rfl, rfl, rfl, rfl, rfl, trivial⟩)
      · clear H
        have H := hu37
        clear hu37
        generalize (e30.Truth_ == p1) = t36 at H key ⊢
        cases t36
        · have H := of_if_f rfl H
          refine ow_batch [.p, .p, .p, .p, .p, .p, .p, .p] rfl ?_
          obtain rfl := of_some H
          exact OW.sub key ⟨rfl, rfl, rfl, rfl, rfl, rfl, trivial⟩
        · have H := of_if_t rfl H
          refine ow_batch [.p, .p] rfl ?_
          obtain ⟨e34, h35, H⟩ := of_bind H
          refine ow_ixE (e := eTimpl_Pair) (xs := p0) (j := i20) rfl rfl rfl rfl rfl sl41 ty129 rfl (fun w1 hw1 => rds_bor g0 w1 hw1) h35 rfl ?_
          refine ow_batch [.fa 129 1 1 fa129_1] rfl ?_
          refine ow_r rfl (dstOk_lt rfl) (ry_load1 rfl rfl ty3 (at_KA (at_castA (at_eltE (fun w1 hw1 => rds_bor g0 w1 hw1) h35 (fun _ _ h => h)) rfl) 1 1)) ?_
          refine ow_batch [.p, .p] rfl ?_
          refine ow_batch [.p] rfl ?_
          obtain rfl := of_some H
          exact OW.sub key ⟨rfl, rfl, rfl, rfl, rfl, rfl, trivial⟩
    · have H := of_if_f hb H
      refine c_exit ?_
      refine x_qs_exit ?_
      refine x_ql_exit ?_
      refine x_qb_here ?_
      refine x_qs ?_
      refine c_seq ?_
      refine c_reg ?_
      refine ow_batch [.p, .p] rfl ?_
      refine ow_nil ?_
      refine x_qs ?_
      refine c_ret ?_
      exact x_retR (rs := [.tmp 6]) (vs := [.int .i64 i19]) rfl ⟨rfl, trivial⟩ (fun w' hw' => by
          obtain rfl := of_some H
          exact ⟨rfl, hw'.ext⟩)

set_option maxHeartbeats 4000000 in
set_option maxRecDepth 100000 in
theorem spec_l1Min_ok (w : World) {p0 : Int} {p1 : Int}  {r : Int} (H : spec_l1Min p0 p1 = some r)   :
    Calls Tryd.prog 100 #[.int .i64 p0, .int .i64 p1] w (fun en w' => en = .returned (.int .i64 r) ∧ Ext [] w w') := by
  unfold spec_l1Min at H
  refine f_enter (vs := [.int .i64 p0, .int .i64 p1]) Tryd.func100 rfl Tryd.ntmps100 rfl (St.init w []) ?_
  refine c_seq ?_
  refine c_reg ?_
  refine ow_batch [.p] rfl ?_
  refine ow_nil ?_
  refine x_qs ?_
  refine c_seq ?_
  refine c_seq ?_
  refine c_reg ?_
  refine ow_batch [.p, .p, .p] rfl ?_
  refine ow_nil ?_
  refine x_qs ?_
  refine c_if rfl (fun hb => ?_) (fun hb => ?_)
  · have H := of_if_t hb H
    refine c_seq ?_
    refine c_reg ?_
    refine ow_batch [.p, .p] rfl ?_
    refine ow_nil ?_
    refine x_qs ?_
    refine c_ret ?_
    refine x_qs_ret ?_
    exact x_retR (rs := [.tmp 4]) (vs := [.int .i64 p0]) rfl ⟨rfl, trivial⟩ (fun w' hw' => by
        obtain rfl := of_some H
        exact ⟨rfl, hw'.ext⟩)
  · have H := of_if_f hb H
    refine c_skip ?_
    refine x_qs ?_
    refine c_seq ?_
    refine c_reg ?_
    refine ow_batch [.p, .p] rfl ?_
    refine ow_nil ?_
    refine x_qs ?_
    refine c_ret ?_
    exact x_retR (rs := [.tmp 4]) (vs := [.int .i64 p1]) rfl ⟨rfl, trivial⟩ (fun w' hw' => by
        obtain rfl := of_some H
        exact ⟨rfl, hw'.ext⟩)

set_option maxHeartbeats 4000000 in
set_option maxRecDepth 100000 in
theorem spec_ScoreOk_ok (w : World) {p0 : Int} {p1 : Timpl_Score} {cs1 : List Value} {r : Bool} (H : spec_ScoreOk p0 p1 = some r)  (g1 : (eTimpl_Score).rd w [] p1 cs1) :
    Calls Tryd.prog 51 #[.int .i64 p0, .agg cs1.toArray] w (fun en w' => en = .returned (.bool r) ∧ Ext [] w w') := by
  obtain ⟨c10, c11, rfl, g12, g13⟩ := rdo_Timpl_Score g1
  obtain ⟨a14, c15, rfl⟩ := rd_sl1 g12
  obtain ⟨a16, c17, rfl⟩ := rd_sl1 g13
  unfold spec_ScoreOk at H
  refine f_enter (vs := [.int .i64 p0, .agg #[.slice a14 p1.Table_.length c15, .slice a16 p1.Last_.length c17]]) Tryd.func51 rfl Tryd.ntmps51 rfl (St.init w []) ?_
  refine c_seq ?_
  refine c_reg ?_
  refine ow_box (cs := [.slice a14 p1.Table_.length c15, .slice a16 p1.Last_.length c17]) rfl rfl rfl rfl rfl rfl (fun _ => kp) (fun b18 => ?_)
  refine ow_batch [.p] rfl ?_
  refine ow_nil ?_
  refine x_qs ?_
  refine c_seq ?_
  refine c_seq ?_
  refine c_reg ?_
  refine ow_batch [.p] rfl ?_
  obtain ⟨y19, h20, H⟩ := of_bind H
  refine ow_q rfl rfl (dstOk_lt rfl) (qy_call rfl fn94 rfl (fun w1 hw1 => spec_l1In_ok w1  h20)) (fun _ _ => trivial) ?_
  refine ow_batch [.p, .p] rfl ?_
  refine ow_cut [(18, .bool ((!y19) || ((p1.Table_.length : Int) != p0))), (0, .int .i64 p0), (3, .pointer (some ⟨b18, 0, none⟩))] 6 ?_ (fun key => OW.sub (R := [(0, .int .i64 p0), (3, .pointer (some ⟨b18, 0, none⟩)), (12, .bool (!y19))]) ?_ ⟨rfl, rfl, rfl, trivial⟩)
  · refine ow_nil ?_
    refine x_qs ?_
    refine c_if rfl (fun hb => ?_) (fun hb => ?_)
    · have H := of_if_t hb H
      refine c_seq ?_
      refine c_reg ?_
      refine ow_batch [.p] rfl ?_
      refine ow_nil ?_
      refine x_qs ?_
      refine c_ret ?_
      refine x_qs_ret ?_
      exact x_retR (rs := [.tmp 4]) (vs := [.bool false]) rfl ⟨rfl, trivial⟩ (fun w' hw' => by
          obtain rfl := of_some H
          exact ⟨rfl, hw'.ext⟩)
    · have H := of_if_f hb H
      refine c_skip ?_
      refine x_qs ?_
      refine c_seq ?_
      refine c_reg ?_
      refine ow_batch [.p] rfl ?_
      refine ow_nil ?_
      refine x_qs ?_
      refine c_seq ?_
      refine c_seq ?_
      refine c_reg ?_
      refine ow_batch [.p] rfl ?_
      refine ow_nil ?_
      refine x_qs ?_
      refine c_block ?_
      refine CW.at (loopI2 (fun (i150 : Int) (i151 : Int) => St w [] [Res.box b18 43 [.slice a14 p1.Table_.length c15, .slice a16 p1.Last_.length c17]]) (fun (i150 : Int) (i151 : Int) => [(0, .int .i64 p0), (3, .pointer (some ⟨b18, 0, none⟩)), (5, .int .i64 i150), (6, .int .i64 i151)]) (fun kk => fun (i150 : Int) (i151 : Int) => spec_ScoreOk_L1 p0 p1 kk i150 i151 = some r) (fun _ _ H => ?_) (fun k1 ihk1 i150 i151 H => ?_) Fuel (0) (0) (H)) (fun _ h => St.sel [0] rfl rfl h) ⟨rfl, rfl, rfl, rfl,  trivial⟩
      · unfold spec_ScoreOk_L1 at H
        exact absurd H (by simp)
      · unfold spec_ScoreOk_L1 at H
        refine c_seq ?_
        refine c_seq ?_
        refine c_reg ?_
        refine ow_batch [.p, .p, .p] rfl ?_
        refine ow_nil ?_
        refine x_qs ?_
        refine c_if rfl (fun hb => ?_) (fun hb => ?_)
        · have H := of_if_t hb H
          refine c_skip ?_
          refine x_qs ?_
          refine c_seq ?_
          refine c_block ?_
          refine c_seq ?_
          refine c_seq ?_
          refine c_reg ?_
          refine ow_batch [.fa 43 0 0 fa43_0] rfl ?_
          refine ow_r rfl (dstOk_lt rfl) (ry_box1 (off := 0) rfl rfl ty27 (boxIn (i := 0) rfl) rfl) ?_
          refine ow_batch [.p] rfl ?_
          obtain ⟨e279, h280, H⟩ := of_bind H
          refine ow_ixB rfl rfl rfl rfl rfl sl27 ty22 rfl g12 h280 (fun q283 c284 hd281 hA282 => ?_)
          obtain ⟨a285, c286, rfl⟩ := rd_sl1 hd281
          refine ow_r rfl (dstOk_lt rfl) (ry_load1 rfl rfl ty22 (at_bor bor hA282)) ?_
          refine ow_batch [.lenS 22 3 sl22, .p, .p] rfl ?_
          refine ow_nil ?_
          refine x_qs ?_
          refine c_if rfl (fun hb => ?_) (fun hb => ?_)
          · have H := of_if_t hb H
            refine c_seq ?_
            refine c_reg ?_
            refine ow_batch [.p] rfl ?_
            refine ow_nil ?_
            refine x_qs ?_
            refine c_ret ?_
            refine x_qs_ret ?_
            refine x_qb_ret ?_
            refine x_qs_ret ?_
            refine x_ql_ret ?_
            refine x_qb_ret ?_
            refine x_qs_ret ?_
            exact x_retR (rs := [.tmp 4]) (vs := [.bool false]) rfl ⟨rfl, trivial⟩ (fun w' hw' => by
                obtain rfl := of_some H
                exact ⟨rfl, hw'.ext⟩)
          · have H := of_if_f hb H
            refine c_skip ?_
            refine x_qs ?_
            refine c_seq ?_
            refine c_reg ?_
            refine ow_batch [.p] rfl ?_
            refine ow_nil ?_
            refine x_qs ?_
            refine c_block ?_
            refine CW.at (loopI2 (fun (i326 : Int) (i327 : Int) => St w [] [Res.box b18 43 [.slice a14 p1.Table_.length c15, .slice a16 p1.Last_.length c17]]) (fun (i326 : Int) (i327 : Int) => [(0, .int .i64 p0), (3, .pointer (some ⟨b18, 0, none⟩)), (5, .int .i64 i326), (6, .int .i64 i151), (7, .int .i64 i327)]) (fun kk => fun (i326 : Int) (i327 : Int) => spec_ScoreOk_L2 p0 p1 i151 (spec_ScoreOk_L1 p0 p1 k1) kk i326 i327 = some r) (fun _ _ H => ?_) (fun k2 ihk2 i326 i327 H => ?_) Fuel (i150) (0) (H)) (fun _ h => St.sel [0] rfl rfl h) ⟨rfl, rfl, rfl, rfl, rfl,  trivial⟩
            · unfold spec_ScoreOk_L2 at H
              exact absurd H (by simp)
            · unfold spec_ScoreOk_L2 at H
              refine c_seq ?_
              refine c_seq ?_
              refine c_reg ?_
              refine ow_batch [.p, .p, .p] rfl ?_
              refine ow_nil ?_
              refine x_qs ?_
              refine c_if rfl (fun hb => ?_) (fun hb => ?_)
              · have H := of_if_t hb H
                refine c_skip ?_
                refine x_qs ?_
                refine c_seq ?_
                refine c_block ?_
                refine c_seq ?_
                refine c_seq ?_
                refine c_regQ mixed (by kernel_rfl) ?_
                refine ow_batch [.fa 43 0 0 fa43_0] rfl ?_
                refine ow_r rfl (dstOk_lt rfl) (ry_box1 (off := 0) rfl rfl ty27 (boxIn (i := 0) rfl) rfl) ?_
                refine ow_batch [.p] rfl ?_
                obtain ⟨e367, h368, H⟩ := of_bind H
                refine ow_ixB rfl rfl rfl rfl rfl sl27 ty22 rfl g12 h368 (fun q371 c372 hd369 hA370 => ?_)
                obtain ⟨a373, c374, rfl⟩ := rd_sl1 hd369
                refine ow_r rfl (dstOk_lt rfl) (ry_load1 rfl rfl ty22 (at_bor bor hA370)) ?_
                refine ow_batch [.p] rfl ?_
                obtain ⟨e375, h376, H⟩ := of_bind H
                refine ow_ixE (e := eVal (Value.int .i64) (fun _ => rfl)) (xs := e367) (j := i327) rfl rfl rfl rfl rfl sl22 ty3 rfl (fun w1 hw1 => rds_bor hd369 w1 hw1) h376 (by rw [Nat.mul_one]) ?_
                refine ow_r rfl (dstOk_lt rfl) (ry_load1 rfl rfl ty3 (at_elV (fun w1 hw1 => rds_bor hd369 w1 hw1) h376)) ?_
                obtain ⟨y377, h378, H⟩ := of_bind H
                refine ow_q rfl rfl (dstOk_lt rfl) (qy_call rfl fn94 rfl (fun w1 hw1 => spec_l1In_ok w1  h378)) (fun _ _ => trivial) ?_
                refine ow_batch [.p, .p] rfl ?_
                obtain ⟨u379, hu393, H⟩ := of_bind H
                refine ow_cut [(62, .bool u379), (0, .int .i64 p0), (3, .pointer (some ⟨b18, 0, none⟩)), (5, .int .i64 i326), (6, .int .i64 i151), (7, .int .i64 i327)] 15 ?_ (fun key => OW.sub (R := [(0, .int .i64 p0), (3, .pointer (some ⟨b18, 0, none⟩)), (5, .int .i64 i326), (6, .int .i64 i151), (7, .int .i64 i327), (47, .bool (!y377))]) ?_ ⟨rfl, rfl, rfl, rfl, rfl, rfl, trivial⟩)
                · refine ow_nilQ ?_
                  refine x_qs ?_
                  refine c_if rfl (fun hb => ?_) (fun hb => ?_)
                  · have H := of_if_t hb H
                    refine c_seq ?_
                    refine c_reg ?_
                    refine ow_batch [.p] rfl ?_
                    refine ow_nil ?_
                    refine x_qs ?_
                    refine c_ret ?_
                    refine x_qs_ret ?_
                    refine x_qb_ret ?_
                    refine x_qs_ret ?_
                    refine x_ql_ret ?_
                    refine x_qb_ret ?_
                    refine x_qb_ret ?_
                    refine x_qs_ret ?_
                    refine x_ql_ret ?_
                    refine x_qb_ret ?_
                    refine x_qs_ret ?_
                    exact x_retR (rs := [.tmp 4]) (vs := [.bool false]) rfl ⟨rfl, trivial⟩ (fun w' hw' => by
                        obtain rfl := of_some H
                        exact ⟨rfl, hw'.ext⟩)
                  · have H := of_if_f hb H
                    refine c_skip ?_
                    refine x_qs ?_
                    refine c_reg ?_
                    refine ow_batch [.p, .fa 43 0 0 fa43_0] rfl ?_
                    refine ow_r rfl (dstOk_lt rfl) (ry_box1 (off := 0) rfl rfl ty27 (boxIn (i := 0) rfl) rfl) ?_
                    refine ow_batch [.p] rfl ?_
                    obtain ⟨e394, h395, H⟩ := of_bind H
                    refine ow_ixB rfl rfl rfl rfl rfl sl27 ty22 rfl g12 h395 (fun q398 c399 hd396 hA397 => ?_)
                    obtain ⟨a400, c401, rfl⟩ := rd_sl1 hd396
                    refine ow_r rfl (dstOk_lt rfl) (ry_load1 rfl rfl ty22 (at_bor bor hA397)) ?_
                    refine ow_batch [.p] rfl ?_
                    obtain ⟨e402, h403, H⟩ := of_bind H
                    refine ow_ixE (e := eVal (Value.int .i64) (fun _ => rfl)) (xs := e394) (j := i327) rfl rfl rfl rfl rfl sl22 ty3 rfl (fun w1 hw1 => rds_bor hd396 w1 hw1) h403 (by rw [Nat.mul_one]) ?_
                    refine ow_r rfl (dstOk_lt rfl) (ry_load1 rfl rfl ty3 (at_elV (fun w1 hw1 => rds_bor hd396 w1 hw1) h403)) ?_
                    refine ow_batch [.p, .p] rfl ?_
                    refine ow_nil ?_
                    refine x_qb ?_
                    refine x_qs ?_
                    refine c_reg ?_
                    refine ow_batch [.p, .p, .p] rfl ?_
                    refine ow_nil ?_
                    exact x_ql (RW.at (ihk2 (IntKind.i64.wrap (i326 + e402)) (IntKind.i64.wrap (i327 + 1)) (H)) (fun _ h => St.sel [0] rfl rfl h) ⟨rfl, rfl, rfl, rfl, rfl, trivial⟩)
                · clear H
                  have H := hu393
                  clear hu393
                  generalize (!y377) = t392 at H key ⊢
                  cases t392
                  · have H := of_if_f rfl H
                    refine ow_batch [.fa 43 1 1 fa43_1] rfl ?_
                    refine ow_r rfl (dstOk_lt rfl) (ry_box1 (off := 1) rfl rfl ty41 (boxIn (i := 0) rfl) rfl) ?_
                    refine ow_batch [.p, .p] rfl ?_
                    obtain ⟨y380, h381, H⟩ := of_bind H
                    refine ow_q rfl rfl (dstOk_lt rfl) (qy_call rfl fn99 rfl (fun w1 hw1 => spec_l25Pairs_ok w1  h381 (rds_bor g13 w1 hw1))) (fun _ _ => trivial) ?_
                    refine ow_batch [.fa 43 0 0 fa43_0] rfl ?_
                    refine ow_r rfl (dstOk_lt rfl) (ry_box1 (off := 0) rfl rfl ty27 (boxIn (i := 0) rfl) rfl) ?_
                    refine ow_batch [.p] rfl ?_
                    obtain ⟨e382, h383, H⟩ := of_bind H
                    refine ow_ixB rfl rfl rfl rfl rfl sl27 ty22 rfl g12 h383 (fun q386 c387 hd384 hA385 => ?_)
                    obtain ⟨a388, c389, rfl⟩ := rd_sl1 hd384
                    refine ow_r rfl (dstOk_lt rfl) (ry_load1 rfl rfl ty22 (at_bor bor hA385)) ?_
                    refine ow_batch [.p] rfl ?_
                    obtain ⟨e390, h391, H⟩ := of_bind H
                    refine ow_ixE (e := eVal (Value.int .i64) (fun _ => rfl)) (xs := e382) (j := i327) rfl rfl rfl rfl rfl sl22 ty3 rfl (fun w1 hw1 => rds_bor hd384 w1 hw1) h391 (by rw [Nat.mul_one]) ?_
                    refine ow_r rfl (dstOk_lt rfl) (ry_load1 rfl rfl ty3 (at_elV (fun w1 hw1 => rds_bor hd384 w1 hw1) h391)) ?_
                    refine ow_batch [.p] rfl ?_
                    refine ow_batch [.p] rfl ?_
                    obtain rfl := of_some H
                    exact OW.sub key ⟨rfl, rfl, rfl, rfl, rfl, rfl, trivial⟩
                  · have H := of_if_t rfl H
                    refine ow_batch [.p, .p, .p, .p, .p, .p, .p, .p, .p, .p, .p, .p, .p, .p, .p] rfl ?_
                    obtain rfl := of_some H
                    exact OW.sub key ⟨rfl, rfl, rfl, rfl, rfl, rfl, trivial⟩
              · have H := of_if_f hb H
                refine c_exit ?_
                refine x_qs_exit ?_
                refine x_ql_exit ?_
                refine x_qb_here ?_
                refine x_qb ?_
                refine x_qs ?_
                refine c_reg ?_
                refine ow_batch [.p, .p, .p] rfl ?_
                refine ow_nil ?_
                exact x_ql (RW.at (ihk1 (i326) (IntKind.i64.wrap (i151 + 1)) (H)) (fun _ h => St.sel [0] rfl rfl h) ⟨rfl, rfl, rfl, rfl, trivial⟩)
        · have H := of_if_f hb H
          refine c_exit ?_
          refine x_qs_exit ?_
          refine x_ql_exit ?_
          refine x_qb_here ?_
          refine x_qs ?_
          refine c_seq ?_
          refine c_seq ?_
          refine c_regQ mixed (by kernel_rfl) ?_
          refine ow_batch [.p, .p, .p] rfl ?_
          obtain ⟨u404, hu408, H⟩ := of_bind H
          refine ow_cut [(82, .bool u404), (0, .int .i64 p0), (3, .pointer (some ⟨b18, 0, none⟩))] 7 ?_ (fun key => OW.sub (R := [(0, .int .i64 p0), (3, .pointer (some ⟨b18, 0, none⟩)), (5, .int .i64 i150), (75, .bool (decide (i150 > 9999)))]) ?_ ⟨rfl, rfl, rfl, rfl, trivial⟩)
          · refine ow_nilQ ?_
            refine x_qs ?_
            refine c_if rfl (fun hb => ?_) (fun hb => ?_)
            · have H := of_if_t hb H
              refine c_seq ?_
              refine c_reg ?_
              refine ow_batch [.p] rfl ?_
              refine ow_nil ?_
              refine x_qs ?_
              refine c_ret ?_
              refine x_qs_ret ?_
              exact x_retR (rs := [.tmp 4]) (vs := [.bool false]) rfl ⟨rfl, trivial⟩ (fun w' hw' => by
                  obtain rfl := of_some H
                  exact ⟨rfl, hw'.ext⟩)
            · have H := of_if_f hb H
              refine c_skip ?_
              refine x_qs ?_
              refine c_seq ?_
              refine c_seq ?_
              refine c_reg ?_
              refine ow_batch [.p] rfl ?_
              refine ow_nil ?_
              refine x_qs ?_
              refine c_block ?_
              refine CW.at (loopI1 (fun (i421 : Int) => St w [] [Res.box b18 43 [.slice a14 p1.Table_.length c15, .slice a16 p1.Last_.length c17]]) (fun (i421 : Int) => [(0, .int .i64 p0), (3, .pointer (some ⟨b18, 0, none⟩)), (8, .int .i64 i421)]) (fun kk => fun (i421 : Int) => spec_ScoreOk_L3 p1 p0 kk i421 = some r) (fun _ H => ?_) (fun k3 ihk3 i421 H => ?_) Fuel (0) (H)) (fun _ h => St.sel [0] rfl rfl h) ⟨rfl, rfl, rfl,  trivial⟩
              · unfold spec_ScoreOk_L3 at H
                exact absurd H (by simp)
              · unfold spec_ScoreOk_L3 at H
                refine c_seq ?_
                refine c_seq ?_
                refine c_reg ?_
                refine ow_batch [.p, .fa 43 1 1 fa43_1] rfl ?_
                refine ow_r rfl (dstOk_lt rfl) (ry_box1 (off := 1) rfl rfl ty41 (boxIn (i := 0) rfl) rfl) ?_
                refine ow_batch [.lenS 41 129 sl41, .p] rfl ?_
                refine ow_nil ?_
                refine x_qs ?_
                refine c_if rfl (fun hb => ?_) (fun hb => ?_)
                · have H := of_if_t hb H
                  refine c_skip ?_
                  refine x_qs ?_
                  refine c_seq ?_
                  refine c_block ?_
                  refine c_seq ?_
                  refine c_reg ?_
                  refine ow_batch [.fa 43 1 1 fa43_1] rfl ?_
                  refine ow_r rfl (dstOk_lt rfl) (ry_box1 (off := 1) rfl rfl ty41 (boxIn (i := 0) rfl) rfl) ?_
                  refine ow_batch [.p] rfl ?_
                  obtain ⟨e434, h435, H⟩ := of_bind H
                  refine ow_ixE (e := eTimpl_Pair) (xs := p1.Last_) (j := i421) rfl rfl rfl rfl rfl sl41 ty129 rfl (fun w1 hw1 => rds_bor g13 w1 hw1) h435 rfl ?_
                  refine ow_batch [.fa 129 0 0 fa129_0] rfl ?_
                  refine ow_r rfl (dstOk_lt rfl) (ry_load1 rfl rfl ty3 (at_KA (at_castA (at_eltE (fun w1 hw1 => rds_bor g13 w1 hw1) h435 (fun _ _ h => h)) rfl) 0 1)) ?_
                  refine ow_batch [.p, .p] rfl ?_
                  obtain ⟨y436, h437, H⟩ := of_bind H
                  refine ow_q rfl rfl (dstOk_lt rfl) (qy_call rfl fn94 rfl (fun w1 hw1 => spec_l1In_ok w1  h437)) (fun _ _ => trivial) ?_
                  refine ow_batch [.p, .p] rfl ?_
                  obtain ⟨u438, hu444, H⟩ := of_bind H
                  refine ow_cut [(111, .bool u438), (0, .int .i64 p0), (3, .pointer (some ⟨b18, 0, none⟩)), (8, .int .i64 i421)] 11 ?_ (fun key => OW.sub (R := [(0, .int .i64 p0), (3, .pointer (some ⟨b18, 0, none⟩)), (8, .int .i64 i421), (100, .bool (!y436))]) ?_ ⟨rfl, rfl, rfl, rfl, trivial⟩)
                  · refine ow_nil ?_
                    refine x_qs ?_
                    refine c_if rfl (fun hb => ?_) (fun hb => ?_)
                    · have H := of_if_t hb H
                      refine c_seq ?_
                      refine c_reg ?_
                      refine ow_batch [.p] rfl ?_
                      refine ow_nil ?_
                      refine x_qs ?_
                      refine c_ret ?_
                      refine x_qb_ret ?_
                      refine x_qs_ret ?_
                      refine x_ql_ret ?_
                      refine x_qb_ret ?_
                      refine x_qs_ret ?_
                      exact x_retR (rs := [.tmp 4]) (vs := [.bool false]) rfl ⟨rfl, trivial⟩ (fun w' hw' => by
                          obtain rfl := of_some H
                          exact ⟨rfl, hw'.ext⟩)
                    · have H := of_if_f hb H
                      refine c_skip ?_
                      refine x_qb ?_
                      refine x_qs ?_
                      refine c_reg ?_
                      refine ow_batch [.p, .p, .p] rfl ?_
                      refine ow_nil ?_
                      exact x_ql (RW.at (ihk3 (IntKind.i64.wrap (i421 + 1)) (H)) (fun _ h => St.sel [0] rfl rfl h) ⟨rfl, rfl, rfl, trivial⟩)
                  · clear H
                    have H := hu444
                    clear hu444
                    generalize (!y436) = t443 at H key ⊢
                    cases t443
                    · have H := of_if_f rfl H
                      refine ow_batch [.fa 43 1 1 fa43_1] rfl ?_
                      refine ow_r rfl (dstOk_lt rfl) (ry_box1 (off := 1) rfl rfl ty41 (boxIn (i := 0) rfl) rfl) ?_
                      refine ow_batch [.p] rfl ?_
                      obtain ⟨e439, h440, H⟩ := of_bind H
                      refine ow_ixE (e := eTimpl_Pair) (xs := p1.Last_) (j := i421) rfl rfl rfl rfl rfl sl41 ty129 rfl (fun w1 hw1 => rds_bor g13 w1 hw1) h440 rfl ?_
                      refine ow_batch [.fa 129 1 1 fa129_1] rfl ?_
                      refine ow_r rfl (dstOk_lt rfl) (ry_load1 rfl rfl ty3 (at_KA (at_castA (at_eltE (fun w1 hw1 => rds_bor g13 w1 hw1) h440 (fun _ _ h => h)) rfl) 1 1)) ?_
                      refine ow_batch [.p, .p] rfl ?_
                      obtain ⟨y441, h442, H⟩ := of_bind H
                      refine ow_q rfl rfl (dstOk_lt rfl) (qy_call rfl fn94 rfl (fun w1 hw1 => spec_l1In_ok w1  h442)) (fun _ _ => trivial) ?_
                      refine ow_batch [.p] rfl ?_
                      refine ow_batch [.p] rfl ?_
                      obtain rfl := of_some H
                      exact OW.sub key ⟨rfl, rfl, rfl, rfl, trivial⟩
                    · have H := of_if_t rfl H
                      refine ow_batch [.p, .p, .p, .p, .p, .p, .p, .p, .p, .p, .p] rfl ?_
                      obtain rfl := of_some H
                      exact OW.sub key ⟨rfl, rfl, rfl, rfl, trivial⟩
                · have H := of_if_f hb H
                  refine c_exit ?_
                  refine x_qs_exit ?_
                  refine x_ql_exit ?_
                  refine x_qb_here ?_
                  refine x_qs ?_
                  refine c_seq ?_
                  refine c_reg ?_
                  refine ow_batch [.p] rfl ?_
                  refine ow_nil ?_
                  refine x_qs ?_
                  refine c_ret ?_
                  exact x_retR (rs := [.tmp 4]) (vs := [.bool true]) rfl ⟨rfl, trivial⟩ (fun w' hw' => by
                      obtain rfl := of_some H
                      exact ⟨rfl, hw'.ext⟩)
          · clear H
            have H := hu408
            clear hu408
            generalize (decide (i150 > 9999)) = t407 at H key ⊢
            cases t407
            · have H := of_if_f rfl H
              refine ow_batch [.fa 43 1 1 fa43_1] rfl ?_
              refine ow_r rfl (dstOk_lt rfl) (ry_box1 (off := 1) rfl rfl ty41 (boxIn (i := 0) rfl) rfl) ?_
              refine ow_batch [.lenS 41 129 sl41, .p] rfl ?_
              obtain ⟨y405, h406, H⟩ := of_bind H
              refine ow_q rfl rfl (dstOk_lt rfl) (qy_call rfl fn100 rfl (fun w1 hw1 => spec_l1Min_ok w1  h406)) (fun _ _ => trivial) ?_
              refine ow_batch [.p] rfl ?_
              refine ow_batch [.p] rfl ?_
              obtain rfl := of_some H
              exact OW.sub key ⟨rfl, rfl, rfl, trivial⟩
            · have H := of_if_t rfl H
              refine ow_batch [.p, .p, .p, .p, .p, .p, .p] rfl ?_
              obtain rfl := of_some H
              exact OW.sub key ⟨rfl, rfl, rfl, trivial⟩
  · generalize (!y19) = t22 at key ⊢
    cases t22
    · refine ow_batch [.fa 43 0 0 fa43_0] rfl ?_
      refine ow_r rfl (dstOk_lt rfl) (ry_box1 (off := 0) rfl rfl ty27 (boxIn (i := 0) rfl) rfl) ?_
      refine ow_batch [.lenS 27 22 sl27, .p, .p] rfl ?_
      refine ow_batch [.p] rfl ?_
      exact OW.sub key ⟨rfl, rfl, rfl, trivial⟩
    · refine ow_batch [.p, .p, .p, .p, .p, .p] rfl ?_
      exact OW.sub key ⟨rfl, rfl, rfl, trivial⟩

set_option maxHeartbeats 4000000 in
set_option maxRecDepth 100000 in
theorem spec_l10Sum_ok (w : World) {p0 : List Int} {a_0 : Option Addr} {n_0 c_0 : Nat} {r : Int} (H : spec_l10Sum p0 = some r)  (g0 : (eList (eVal (Value.int .i64) (fun _ => rfl)) 3).rd w [] p0 [.slice a_0 n_0 c_0]) :
    Calls Tryd.prog 101 #[.slice a_0 n_0 c_0] w (fun en w' => en = .returned (.int .i64 r) ∧ Ext [] w w') := by
  obtain rfl := rd_n g0
  unfold spec_l10Sum at H
  refine f_enter (vs := [.slice a_0 p0.length c_0]) Tryd.func101 rfl Tryd.ntmps101 rfl (St.init w []) ?_
  refine c_seq ?_
  refine c_reg ?_
  refine ow_batch [.p] rfl ?_
  refine ow_nil ?_
  refine x_qs ?_
  refine c_seq ?_
  refine c_reg ?_
  refine ow_batch [.p] rfl ?_
  refine ow_nil ?_
  refine x_qs ?_
  refine c_seq ?_
  refine c_seq ?_
  refine c_reg ?_
  refine ow_batch [.p] rfl ?_
  refine ow_nil ?_
  refine x_qs ?_
  refine c_block ?_
  refine CW.at (loopI2 (fun (i14 : Int) (i15 : Int) => St w [] []) (fun (i14 : Int) (i15 : Int) => [(0, .slice a_0 p0.length c_0), (3, .int .i64 i14), (4, .int .i64 i15)]) (fun kk => fun (i14 : Int) (i15 : Int) => spec_l10Sum_L1 p0 kk i14 i15 = some r) (fun _ _ H => ?_) (fun k1 ihk1 i14 i15 H => ?_) Fuel (0) (0) (H)) (fun _ h => St.sel [] rfl rfl h) ⟨rfl, rfl, rfl,  trivial⟩
  · unfold spec_l10Sum_L1 at H
    exact absurd H (by simp)
  · unfold spec_l10Sum_L1 at H
    refine c_seq ?_
    refine c_seq ?_
    refine c_reg ?_
    refine ow_batch [.p, .p, .lenS 22 3 sl22, .p] rfl ?_
    refine ow_nil ?_
    refine x_qs ?_
    refine c_if rfl (fun hb => ?_) (fun hb => ?_)
    · have H := of_if_t hb H
      refine c_skip ?_
      refine x_qs ?_
      refine c_seq ?_
      refine c_block ?_
      refine c_reg ?_
      refine ow_batch [.p, .p, .p] rfl ?_
      obtain ⟨e20, h21, H⟩ := of_bind H
      refine ow_ixE (e := eVal (Value.int .i64) (fun _ => rfl)) (xs := p0) (j := i15) rfl rfl rfl rfl rfl sl22 ty3 rfl (fun w1 hw1 => rds_bor g0 w1 hw1) h21 (by rw [Nat.mul_one]) ?_
      refine ow_r rfl (dstOk_lt rfl) (ry_load1 rfl rfl ty3 (at_elV (fun w1 hw1 => rds_bor g0 w1 hw1) h21)) ?_
      refine ow_batch [.p, .p] rfl ?_
      refine ow_nil ?_
      refine x_qb ?_
      refine x_qs ?_
      refine c_reg ?_
      refine ow_batch [.p, .p, .p] rfl ?_
      refine ow_nil ?_
      exact x_ql (RW.at (ihk1 (IntKind.i64.wrap (i14 + e20)) (IntKind.i64.wrap (i15 + 1)) (H)) (fun _ h => St.sel [] rfl rfl h) ⟨rfl, rfl, rfl, trivial⟩)
    · have H := of_if_f hb H
      refine c_exit ?_
      refine x_qs_exit ?_
      refine x_ql_exit ?_
      refine x_qb_here ?_
      refine x_qs ?_
      refine c_seq ?_
      refine c_reg ?_
      refine ow_batch [.p, .p] rfl ?_
      refine ow_nil ?_
      refine x_qs ?_
      refine c_ret ?_
      exact x_retR (rs := [.tmp 2]) (vs := [.int .i64 i14]) rfl ⟨rfl, trivial⟩ (fun w' hw' => by
          obtain rfl := of_some H
          exact ⟨rfl, hw'.ext⟩)

set_option maxHeartbeats 4000000 in
set_option maxRecDepth 100000 in
theorem spec_Count_ok (w : World) {p0 : Int} {p1 : Timpl_Score} {cs1 : List Value} {r : Int} (H : spec_Count p0 p1 = some r)  (g1 : (eTimpl_Score).rd w [] p1 cs1) :
    Calls Tryd.prog 53 #[.int .i64 p0, .agg cs1.toArray] w (fun en w' => en = .returned (.int .i64 r) ∧ Ext [] w w') := by
  obtain ⟨c10, c11, rfl, g12, g13⟩ := rdo_Timpl_Score g1
  obtain ⟨a14, c15, rfl⟩ := rd_sl1 g12
  obtain ⟨a16, c17, rfl⟩ := rd_sl1 g13
  unfold spec_Count at H
  refine f_enter (vs := [.int .i64 p0, .agg #[.slice a14 p1.Table_.length c15, .slice a16 p1.Last_.length c17]]) Tryd.func53 rfl Tryd.ntmps53 rfl (St.init w []) ?_
  refine c_seq ?_
  refine c_reg ?_
  refine ow_box (cs := [.slice a14 p1.Table_.length c15, .slice a16 p1.Last_.length c17]) rfl rfl rfl rfl rfl rfl (fun _ => kp) (fun b18 => ?_)
  refine ow_batch [.p] rfl ?_
  refine ow_nil ?_
  refine x_qs ?_
  refine c_seq ?_
  refine c_seq ?_
  refine c_reg ?_
  refine ow_batch [.p] rfl ?_
  refine ow_r rfl (dstOk_lt rfl) (ry_box (off := 0) (ds := [.slice a14 p1.Table_.length c15, .slice a16 p1.Last_.length c17]) rfl rfl ty43 (boxIn (i := 0) rfl) rfl rfl) ?_
  obtain ⟨y19, h20, H⟩ := of_bind H
  refine ow_q rfl rfl (dstOk_lt rfl) (qy_call rfl fn51 rfl (fun w1 hw1 => spec_ScoreOk_ok w1 (cs1 := [.slice a14 p1.Table_.length c15, .slice a16 p1.Last_.length c17]) h20 (rdm_Timpl_Score (x := p1) (c0 := [.slice a14 p1.Table_.length c15]) (c1 := [.slice a16 p1.Last_.length c17]) (rds_bor g12 w1 hw1) (rds_bor g13 w1 hw1)))) (fun _ _ => trivial) ?_
  refine ow_batch [.p] rfl ?_
  refine ow_nil ?_
  refine x_qs ?_
  refine c_if rfl (fun hb => ?_) (fun hb => ?_)
  · have H := of_if_t hb H
    refine c_seq ?_
    refine c_reg ?_
    refine ow_batch [.p] rfl ?_
    refine ow_nil ?_
    refine x_qs ?_
    refine c_ret ?_
    refine x_qs_ret ?_
    exact x_retR (rs := [.tmp 4]) (vs := [.int .i64 0]) rfl ⟨rfl, trivial⟩ (fun w' hw' => by
        obtain rfl := of_some H
        exact ⟨rfl, hw'.ext⟩)
  · have H := of_if_f hb H
    refine c_skip ?_
    refine x_qs ?_
    refine c_seq ?_
    refine c_reg ?_
    refine ow_batch [.p] rfl ?_
    refine ow_nil ?_
    refine x_qs ?_
    refine c_seq ?_
    refine c_seq ?_
    refine c_reg ?_
    refine ow_batch [.p] rfl ?_
    refine ow_nil ?_
    refine x_qs ?_
    refine c_block ?_
    refine CW.at (loopI2 (fun (i34 : Int) (i35 : Int) => St w [] [Res.box b18 43 [.slice a14 p1.Table_.length c15, .slice a16 p1.Last_.length c17]]) (fun (i34 : Int) (i35 : Int) => [(0, .int .i64 p0), (3, .pointer (some ⟨b18, 0, none⟩)), (5, .int .i64 i34), (6, .int .i64 i35)]) (fun kk => fun (i34 : Int) (i35 : Int) => spec_Count_L1 p0 p1 kk i34 i35 = some r) (fun _ _ H => ?_) (fun k1 ihk1 i34 i35 H => ?_) Fuel (0) (0) (H)) (fun _ h => St.sel [0] rfl rfl h) ⟨rfl, rfl, rfl, rfl,  trivial⟩
    · unfold spec_Count_L1 at H
      exact absurd H (by simp)
    · unfold spec_Count_L1 at H
      refine c_seq ?_
      refine c_seq ?_
      refine c_reg ?_
      refine ow_batch [.p, .p, .p] rfl ?_
      refine ow_nil ?_
      refine x_qs ?_
      refine c_if rfl (fun hb => ?_) (fun hb => ?_)
      · have H := of_if_t hb H
        refine c_skip ?_
        refine x_qs ?_
        refine c_seq ?_
        refine c_block ?_
        refine c_reg ?_
        refine ow_batch [.p, .fa 43 0 0 fa43_0] rfl ?_
        refine ow_r rfl (dstOk_lt rfl) (ry_box1 (off := 0) rfl rfl ty27 (boxIn (i := 0) rfl) rfl) ?_
        refine ow_batch [.p] rfl ?_
        obtain ⟨e48, h49, H⟩ := of_bind H
        refine ow_ixB rfl rfl rfl rfl rfl sl27 ty22 rfl g12 h49 (fun q52 c53 hd50 hA51 => ?_)
        obtain ⟨a54, c55, rfl⟩ := rd_sl1 hd50
        refine ow_r rfl (dstOk_lt rfl) (ry_load1 rfl rfl ty22 (at_bor bor hA51)) ?_
        obtain ⟨y56, h57, H⟩ := of_bind H
        refine ow_q rfl rfl (dstOk_lt rfl) (qy_call rfl fn101 rfl (fun w1 hw1 => spec_l10Sum_ok w1  h57 (rds_bor hd50 w1 hw1))) (fun _ _ => trivial) ?_
        refine ow_batch [.p, .p] rfl ?_
        refine ow_nil ?_
        refine x_qb ?_
        refine x_qs ?_
        refine c_reg ?_
        refine ow_batch [.p, .p, .p] rfl ?_
        refine ow_nil ?_
        exact x_ql (RW.at (ihk1 (IntKind.i64.wrap (i34 + y56)) (IntKind.i64.wrap (i35 + 1)) (H)) (fun _ h => St.sel [0] rfl rfl h) ⟨rfl, rfl, rfl, rfl, trivial⟩)
      · have H := of_if_f hb H
        refine c_exit ?_
        refine x_qs_exit ?_
        refine x_ql_exit ?_
        refine x_qb_here ?_
        refine x_qs ?_
        refine c_seq ?_
        refine c_reg ?_
        refine ow_batch [.p, .p] rfl ?_
        refine ow_nil ?_
        refine x_qs ?_
        refine c_ret ?_
        exact x_retR (rs := [.tmp 4]) (vs := [.int .i64 i34]) rfl ⟨rfl, trivial⟩ (fun w' hw' => by
            obtain rfl := of_some H
            exact ⟨rfl, hw'.ext⟩)

set_option maxHeartbeats 4000000 in
set_option maxRecDepth 100000 in
theorem spec_Right_ok (w : World) {p0 : Int} {p1 : Timpl_Score} {cs1 : List Value} {r : Int} (H : spec_Right p0 p1 = some r)  (g1 : (eTimpl_Score).rd w [] p1 cs1) :
    Calls Tryd.prog 54 #[.int .i64 p0, .agg cs1.toArray] w (fun en w' => en = .returned (.int .i64 r) ∧ Ext [] w w') := by
  obtain ⟨c10, c11, rfl, g12, g13⟩ := rdo_Timpl_Score g1
  obtain ⟨a14, c15, rfl⟩ := rd_sl1 g12
  obtain ⟨a16, c17, rfl⟩ := rd_sl1 g13
  unfold spec_Right at H
  refine f_enter (vs := [.int .i64 p0, .agg #[.slice a14 p1.Table_.length c15, .slice a16 p1.Last_.length c17]]) Tryd.func54 rfl Tryd.ntmps54 rfl (St.init w []) ?_
  refine c_seq ?_
  refine c_reg ?_
  refine ow_box (cs := [.slice a14 p1.Table_.length c15, .slice a16 p1.Last_.length c17]) rfl rfl rfl rfl rfl rfl (fun _ => kp) (fun b18 => ?_)
  refine ow_batch [.p] rfl ?_
  refine ow_nil ?_
  refine x_qs ?_
  refine c_seq ?_
  refine c_seq ?_
  refine c_reg ?_
  refine ow_batch [.p] rfl ?_
  refine ow_r rfl (dstOk_lt rfl) (ry_box (off := 0) (ds := [.slice a14 p1.Table_.length c15, .slice a16 p1.Last_.length c17]) rfl rfl ty43 (boxIn (i := 0) rfl) rfl rfl) ?_
  obtain ⟨y19, h20, H⟩ := of_bind H
  refine ow_q rfl rfl (dstOk_lt rfl) (qy_call rfl fn51 rfl (fun w1 hw1 => spec_ScoreOk_ok w1 (cs1 := [.slice a14 p1.Table_.length c15, .slice a16 p1.Last_.length c17]) h20 (rdm_Timpl_Score (x := p1) (c0 := [.slice a14 p1.Table_.length c15]) (c1 := [.slice a16 p1.Last_.length c17]) (rds_bor g12 w1 hw1) (rds_bor g13 w1 hw1)))) (fun _ _ => trivial) ?_
  refine ow_batch [.p] rfl ?_
  refine ow_nil ?_
  refine x_qs ?_
  refine c_if rfl (fun hb => ?_) (fun hb => ?_)
  · have H := of_if_t hb H
    refine c_seq ?_
    refine c_reg ?_
    refine ow_batch [.p] rfl ?_
    refine ow_nil ?_
    refine x_qs ?_
    refine c_ret ?_
    refine x_qs_ret ?_
    exact x_retR (rs := [.tmp 4]) (vs := [.int .i64 0]) rfl ⟨rfl, trivial⟩ (fun w' hw' => by
        obtain rfl := of_some H
        exact ⟨rfl, hw'.ext⟩)
  · have H := of_if_f hb H
    refine c_skip ?_
    refine x_qs ?_
    refine c_seq ?_
    refine c_reg ?_
    refine ow_batch [.p] rfl ?_
    refine ow_nil ?_
    refine x_qs ?_
    refine c_seq ?_
    refine c_seq ?_
    refine c_reg ?_
    refine ow_batch [.p] rfl ?_
    refine ow_nil ?_
    refine x_qs ?_
    refine c_block ?_
    refine CW.at (loopI2 (fun (i34 : Int) (i35 : Int) => St w [] [Res.box b18 43 [.slice a14 p1.Table_.length c15, .slice a16 p1.Last_.length c17]]) (fun (i34 : Int) (i35 : Int) => [(0, .int .i64 p0), (3, .pointer (some ⟨b18, 0, none⟩)), (5, .int .i64 i34), (6, .int .i64 i35)]) (fun kk => fun (i34 : Int) (i35 : Int) => spec_Right_L1 p0 p1 kk i34 i35 = some r) (fun _ _ H => ?_) (fun k1 ihk1 i34 i35 H => ?_) Fuel (0) (0) (H)) (fun _ h => St.sel [0] rfl rfl h) ⟨rfl, rfl, rfl, rfl,  trivial⟩
    · unfold spec_Right_L1 at H
      exact absurd H (by simp)
    · unfold spec_Right_L1 at H
      refine c_seq ?_
      refine c_seq ?_
      refine c_reg ?_
      refine ow_batch [.p, .p, .p] rfl ?_
      refine ow_nil ?_
      refine x_qs ?_
      refine c_if rfl (fun hb => ?_) (fun hb => ?_)
      · have H := of_if_t hb H
        refine c_skip ?_
        refine x_qs ?_
        refine c_seq ?_
        refine c_block ?_
        refine c_reg ?_
        refine ow_batch [.p, .fa 43 0 0 fa43_0] rfl ?_
        refine ow_r rfl (dstOk_lt rfl) (ry_box1 (off := 0) rfl rfl ty27 (boxIn (i := 0) rfl) rfl) ?_
        refine ow_batch [.p] rfl ?_
        obtain ⟨e48, h49, H⟩ := of_bind H
        refine ow_ixB rfl rfl rfl rfl rfl sl27 ty22 rfl g12 h49 (fun q52 c53 hd50 hA51 => ?_)
        obtain ⟨a54, c55, rfl⟩ := rd_sl1 hd50
        refine ow_r rfl (dstOk_lt rfl) (ry_load1 rfl rfl ty22 (at_bor bor hA51)) ?_
        refine ow_batch [.p] rfl ?_
        obtain ⟨e56, h57, H⟩ := of_bind H
        refine ow_ixE (e := eVal (Value.int .i64) (fun _ => rfl)) (xs := e48) (j := i35) rfl rfl rfl rfl rfl sl22 ty3 rfl (fun w1 hw1 => rds_bor hd50 w1 hw1) h57 (by rw [Nat.mul_one]) ?_
        refine ow_r rfl (dstOk_lt rfl) (ry_load1 rfl rfl ty3 (at_elV (fun w1 hw1 => rds_bor hd50 w1 hw1) h57)) ?_
        refine ow_batch [.p, .p] rfl ?_
        refine ow_nil ?_
        refine x_qb ?_
        refine x_qs ?_
        refine c_reg ?_
        refine ow_batch [.p, .p, .p] rfl ?_
        refine ow_nil ?_
        exact x_ql (RW.at (ihk1 (IntKind.i64.wrap (i34 + e56)) (IntKind.i64.wrap (i35 + 1)) (H)) (fun _ h => St.sel [0] rfl rfl h) ⟨rfl, rfl, rfl, rfl, trivial⟩)
      · have H := of_if_f hb H
        refine c_exit ?_
        refine x_qs_exit ?_
        refine x_ql_exit ?_
        refine x_qb_here ?_
        refine x_qs ?_
        refine c_seq ?_
        refine c_reg ?_
        refine ow_batch [.p, .p] rfl ?_
        refine ow_nil ?_
        refine x_qs ?_
        refine c_ret ?_
        exact x_retR (rs := [.tmp 4]) (vs := [.int .i64 i34]) rfl ⟨rfl, trivial⟩ (fun w' hw' => by
            obtain rfl := of_some H
            exact ⟨rfl, hw'.ext⟩)

set_option maxHeartbeats 4000000 in
set_option maxRecDepth 100000 in
theorem spec_Kappa_ok (w : World) {p0 : Int} {p1 : Timpl_Score} {cs1 : List Value} {r : Int × Int} (H : spec_Kappa p0 p1 = some r)  (g1 : (eTimpl_Score).rd w [] p1 cs1) :
    Calls Tryd.prog 52 #[.int .i64 p0, .agg cs1.toArray] w (fun en w' => en = .returned (.tuple #[.int .i64 r.1, .int .i64 r.2]) ∧ Ext [] w w') := by
  obtain ⟨c10, c11, rfl, g12, g13⟩ := rdo_Timpl_Score g1
  obtain ⟨a14, c15, rfl⟩ := rd_sl1 g12
  obtain ⟨a16, c17, rfl⟩ := rd_sl1 g13
  unfold spec_Kappa at H
  refine f_enter (vs := [.int .i64 p0, .agg #[.slice a14 p1.Table_.length c15, .slice a16 p1.Last_.length c17]]) Tryd.func52 rfl Tryd.ntmps52 rfl (St.init w []) ?_
  refine c_seq ?_
  refine c_reg ?_
  refine ow_box (cs := [.slice a14 p1.Table_.length c15, .slice a16 p1.Last_.length c17]) rfl rfl rfl rfl rfl rfl (fun _ => kp) (fun b18 => ?_)
  refine ow_batch [.p, .p] rfl ?_
  refine ow_nil ?_
  refine x_qs ?_
  refine c_seq ?_
  refine c_seq ?_
  refine c_reg ?_
  refine ow_batch [.p] rfl ?_
  refine ow_r rfl (dstOk_lt rfl) (ry_box (off := 0) (ds := [.slice a14 p1.Table_.length c15, .slice a16 p1.Last_.length c17]) rfl rfl ty43 (boxIn (i := 0) rfl) rfl rfl) ?_
  obtain ⟨y19, h20, H⟩ := of_bind H
  refine ow_q rfl rfl (dstOk_lt rfl) (qy_call rfl fn51 rfl (fun w1 hw1 => spec_ScoreOk_ok w1 (cs1 := [.slice a14 p1.Table_.length c15, .slice a16 p1.Last_.length c17]) h20 (rdm_Timpl_Score (x := p1) (c0 := [.slice a14 p1.Table_.length c15]) (c1 := [.slice a16 p1.Last_.length c17]) (rds_bor g12 w1 hw1) (rds_bor g13 w1 hw1)))) (fun _ _ => trivial) ?_
  refine ow_batch [.p] rfl ?_
  refine ow_nil ?_
  refine x_qs ?_
  refine c_if rfl (fun hb => ?_) (fun hb => ?_)
  · have H := of_if_t hb H
    refine c_seq ?_
    refine c_reg ?_
    refine ow_batch [.p, .p] rfl ?_
    refine ow_nil ?_
    refine x_qs ?_
    refine c_ret ?_
    refine x_qs_ret ?_
    exact x_retR (rs := [.tmp 4, .tmp 5]) (vs := [.int .i64 0, .int .i64 0]) rfl ⟨rfl, rfl, trivial⟩ (fun w' hw' => by
        obtain rfl := of_some H
        exact ⟨rfl, hw'.ext⟩)
  · have H := of_if_f hb H
    refine c_skip ?_
    refine x_qs ?_
    refine c_seq ?_
    refine c_reg ?_
    refine ow_batch [.p] rfl ?_
    refine ow_nil ?_
    refine x_qs ?_
    refine c_seq ?_
    refine c_seq ?_
    refine c_reg ?_
    refine ow_batch [.p] rfl ?_
    refine ow_nil ?_
    refine x_qs ?_
    refine c_block ?_
    refine CW.at (loopI2 (fun (i70 : Int) (i71 : Int) => St w [] [Res.box b18 43 [.slice a14 p1.Table_.length c15, .slice a16 p1.Last_.length c17]]) (fun (i70 : Int) (i71 : Int) => [(0, .int .i64 p0), (3, .pointer (some ⟨b18, 0, none⟩)), (6, .int .i64 i70), (7, .int .i64 i71)]) (fun kk => fun (i70 : Int) (i71 : Int) => spec_Kappa_L1 p0 p1 kk i70 i71 = some r) (fun _ _ H => ?_) (fun k1 ihk1 i70 i71 H => ?_) Fuel (0) (0) (H)) (fun _ h => St.sel [0] rfl rfl h) ⟨rfl, rfl, rfl, rfl,  trivial⟩
    · unfold spec_Kappa_L1 at H
      exact absurd H (by simp)
    · unfold spec_Kappa_L1 at H
      refine c_seq ?_
      refine c_seq ?_
      refine c_reg ?_
      refine ow_batch [.p, .p, .p] rfl ?_
      refine ow_nil ?_
      refine x_qs ?_
      refine c_if rfl (fun hb => ?_) (fun hb => ?_)
      · have H := of_if_t hb H
        refine c_skip ?_
        refine x_qs ?_
        refine c_seq ?_
        refine c_block ?_
        refine c_seq ?_
        refine c_reg ?_
        refine ow_batch [.p] rfl ?_
        refine ow_nil ?_
        refine x_qs ?_
        refine c_seq ?_
        refine c_seq ?_
        refine c_reg ?_
        refine ow_batch [.p] rfl ?_
        refine ow_nil ?_
        refine x_qs ?_
        refine c_block ?_
        refine CW.at (loopI2 (fun (i132 : Int) (i133 : Int) => St w [] [Res.box b18 43 [.slice a14 p1.Table_.length c15, .slice a16 p1.Last_.length c17]]) (fun (i132 : Int) (i133 : Int) => [(0, .int .i64 p0), (3, .pointer (some ⟨b18, 0, none⟩)), (6, .int .i64 i70), (7, .int .i64 i71), (8, .int .i64 i132), (9, .int .i64 i133)]) (fun kk => fun (i132 : Int) (i133 : Int) => spec_Kappa_L2 p0 p1 i71 (spec_Kappa_L1 p0 p1 k1) i70 kk i132 i133 = some r) (fun _ _ H => ?_) (fun k2 ihk2 i132 i133 H => ?_) Fuel (0) (0) (H)) (fun _ h => St.sel [0] rfl rfl h) ⟨rfl, rfl, rfl, rfl, rfl, rfl,  trivial⟩
        · unfold spec_Kappa_L2 at H
          exact absurd H (by simp)
        · unfold spec_Kappa_L2 at H
          refine c_seq ?_
          refine c_seq ?_
          refine c_reg ?_
          refine ow_batch [.p, .p, .p] rfl ?_
          refine ow_nil ?_
          refine x_qs ?_
          refine c_if rfl (fun hb => ?_) (fun hb => ?_)
          · have H := of_if_t hb H
            refine c_skip ?_
            refine x_qs ?_
            refine c_seq ?_
            refine c_block ?_
            refine c_reg ?_
            refine ow_batch [.p, .fa 43 0 0 fa43_0] rfl ?_
            refine ow_r rfl (dstOk_lt rfl) (ry_box1 (off := 0) rfl rfl ty27 (boxIn (i := 0) rfl) rfl) ?_
            refine ow_batch [.p] rfl ?_
            obtain ⟨e146, h147, H⟩ := of_bind H
            refine ow_ixB rfl rfl rfl rfl rfl sl27 ty22 rfl g12 h147 (fun q150 c151 hd148 hA149 => ?_)
            obtain ⟨a152, c153, rfl⟩ := rd_sl1 hd148
            refine ow_r rfl (dstOk_lt rfl) (ry_load1 rfl rfl ty22 (at_bor bor hA149)) ?_
            refine ow_batch [.p] rfl ?_
            obtain ⟨e154, h155, H⟩ := of_bind H
            refine ow_ixE (e := eVal (Value.int .i64) (fun _ => rfl)) (xs := e146) (j := i71) rfl rfl rfl rfl rfl sl22 ty3 rfl (fun w1 hw1 => rds_bor hd148 w1 hw1) h155 (by rw [Nat.mul_one]) ?_
            refine ow_r rfl (dstOk_lt rfl) (ry_load1 rfl rfl ty3 (at_elV (fun w1 hw1 => rds_bor hd148 w1 hw1) h155)) ?_
            refine ow_batch [.p, .p] rfl ?_
            refine ow_nil ?_
            refine x_qb ?_
            refine x_qs ?_
            refine c_reg ?_
            refine ow_batch [.p, .p, .p] rfl ?_
            refine ow_nil ?_
            exact x_ql (RW.at (ihk2 (IntKind.i64.wrap (i132 + e154)) (IntKind.i64.wrap (i133 + 1)) (H)) (fun _ h => St.sel [0] rfl rfl h) ⟨rfl, rfl, rfl, rfl, rfl, rfl, trivial⟩)
          · have H := of_if_f hb H
            refine c_exit ?_
            refine x_qs_exit ?_
            refine x_ql_exit ?_
            refine x_qb_here ?_
            refine x_qs ?_
            refine c_reg ?_
            refine ow_batch [.p, .fa 43 0 0 fa43_0] rfl ?_
            refine ow_r rfl (dstOk_lt rfl) (ry_box1 (off := 0) rfl rfl ty27 (boxIn (i := 0) rfl) rfl) ?_
            refine ow_batch [.p] rfl ?_
            obtain ⟨e156, h157, H⟩ := of_bind H
            refine ow_ixB rfl rfl rfl rfl rfl sl27 ty22 rfl g12 h157 (fun q160 c161 hd158 hA159 => ?_)
            obtain ⟨a162, c163, rfl⟩ := rd_sl1 hd158
            refine ow_r rfl (dstOk_lt rfl) (ry_load1 rfl rfl ty22 (at_bor bor hA159)) ?_
            obtain ⟨y164, h165, H⟩ := of_bind H
            refine ow_q rfl rfl (dstOk_lt rfl) (qy_call rfl fn101 rfl (fun w1 hw1 => spec_l10Sum_ok w1  h165 (rds_bor hd158 w1 hw1))) (fun _ _ => trivial) ?_
            refine ow_batch [.p, .p, .p, .p] rfl ?_
            refine ow_nil ?_
            refine x_qb ?_
            refine x_qs ?_
            refine c_reg ?_
            refine ow_batch [.p, .p, .p] rfl ?_
            refine ow_nil ?_
            exact x_ql (RW.at (ihk1 (IntKind.i64.wrap (i70 + (IntKind.i64.wrap (y164 * i132)))) (IntKind.i64.wrap (i71 + 1)) (H)) (fun _ h => St.sel [0] rfl rfl h) ⟨rfl, rfl, rfl, rfl, trivial⟩)
      · have H := of_if_f hb H
        refine c_exit ?_
        refine x_qs_exit ?_
        refine x_ql_exit ?_
        refine x_qb_here ?_
        refine x_qs ?_
        refine c_seq ?_
        refine c_reg ?_
        refine ow_batch [.p] rfl ?_
        refine ow_r rfl (dstOk_lt rfl) (ry_box (off := 0) (ds := [.slice a14 p1.Table_.length c15, .slice a16 p1.Last_.length c17]) rfl rfl ty43 (boxIn (i := 0) rfl) rfl rfl) ?_
        obtain ⟨y166, h167, H⟩ := of_bind H
        refine ow_q rfl rfl (dstOk_lt rfl) (qy_call rfl fn53 rfl (fun w1 hw1 => spec_Count_ok w1 (cs1 := [.slice a14 p1.Table_.length c15, .slice a16 p1.Last_.length c17]) h167 (rdm_Timpl_Score (x := p1) (c0 := [.slice a14 p1.Table_.length c15]) (c1 := [.slice a16 p1.Last_.length c17]) (rds_bor g12 w1 hw1) (rds_bor g13 w1 hw1)))) (fun _ _ => trivial) ?_
        refine ow_batch [.p] rfl ?_
        refine ow_nil ?_
        refine x_qs ?_
        refine c_seq ?_
        refine c_reg ?_
        refine ow_batch [.p, .p] rfl ?_
        refine ow_r rfl (dstOk_lt rfl) (ry_box (off := 0) (ds := [.slice a14 p1.Table_.length c15, .slice a16 p1.Last_.length c17]) rfl rfl ty43 (boxIn (i := 0) rfl) rfl rfl) ?_
        obtain ⟨y168, h169, H⟩ := of_bind H
        refine ow_q rfl rfl (dstOk_lt rfl) (qy_call rfl fn54 rfl (fun w1 hw1 => spec_Right_ok w1 (cs1 := [.slice a14 p1.Table_.length c15, .slice a16 p1.Last_.length c17]) h169 (rdm_Timpl_Score (x := p1) (c0 := [.slice a14 p1.Table_.length c15]) (c1 := [.slice a16 p1.Last_.length c17]) (rds_bor g12 w1 hw1) (rds_bor g13 w1 hw1)))) (fun _ _ => trivial) ?_
        refine ow_batch [.p, .p, .p, .p, .p, .p, .p, .p, .p, .p] rfl ?_
        refine ow_nil ?_
        refine x_qs ?_
        refine c_ret ?_
        exact x_retR (rs := [.tmp 4, .tmp 5]) (vs := [.int .i64 (IntKind.i64.wrap ((IntKind.i64.wrap (y166 * y168)) - i70)), .int .i64 (IntKind.i64.wrap ((IntKind.i64.wrap (y166 * y166)) - i70))]) rfl ⟨rfl, rfl, trivial⟩ (fun w' hw' => by
            obtain rfl := of_some H
            exact ⟨rfl, hw'.ext⟩)

set_option maxHeartbeats 4000000 in
set_option maxRecDepth 100000 in
theorem spec_LastRight_ok (w : World) {p0 : Int} {p1 : Timpl_Score} {cs1 : List Value} {r : Int} (H : spec_LastRight p0 p1 = some r)  (g1 : (eTimpl_Score).rd w [] p1 cs1) :
    Calls Tryd.prog 55 #[.int .i64 p0, .agg cs1.toArray] w (fun en w' => en = .returned (.int .i64 r) ∧ Ext [] w w') := by
  obtain ⟨c10, c11, rfl, g12, g13⟩ := rdo_Timpl_Score g1
  obtain ⟨a14, c15, rfl⟩ := rd_sl1 g12
  obtain ⟨a16, c17, rfl⟩ := rd_sl1 g13
  unfold spec_LastRight at H
  refine f_enter (vs := [.int .i64 p0, .agg #[.slice a14 p1.Table_.length c15, .slice a16 p1.Last_.length c17]]) Tryd.func55 rfl Tryd.ntmps55 rfl (St.init w []) ?_
  refine c_seq ?_
  refine c_reg ?_
  refine ow_box (cs := [.slice a14 p1.Table_.length c15, .slice a16 p1.Last_.length c17]) rfl rfl rfl rfl rfl rfl (fun _ => kp) (fun b18 => ?_)
  refine ow_batch [.p] rfl ?_
  refine ow_nil ?_
  refine x_qs ?_
  refine c_seq ?_
  refine c_seq ?_
  refine c_reg ?_
  refine ow_batch [.p] rfl ?_
  refine ow_r rfl (dstOk_lt rfl) (ry_box (off := 0) (ds := [.slice a14 p1.Table_.length c15, .slice a16 p1.Last_.length c17]) rfl rfl ty43 (boxIn (i := 0) rfl) rfl rfl) ?_
  obtain ⟨y19, h20, H⟩ := of_bind H
  refine ow_q rfl rfl (dstOk_lt rfl) (qy_call rfl fn51 rfl (fun w1 hw1 => spec_ScoreOk_ok w1 (cs1 := [.slice a14 p1.Table_.length c15, .slice a16 p1.Last_.length c17]) h20 (rdm_Timpl_Score (x := p1) (c0 := [.slice a14 p1.Table_.length c15]) (c1 := [.slice a16 p1.Last_.length c17]) (rds_bor g12 w1 hw1) (rds_bor g13 w1 hw1)))) (fun _ _ => trivial) ?_
  refine ow_batch [.p] rfl ?_
  refine ow_nil ?_
  refine x_qs ?_
  refine c_if rfl (fun hb => ?_) (fun hb => ?_)
  · have H := of_if_t hb H
    refine c_seq ?_
    refine c_reg ?_
    refine ow_batch [.p] rfl ?_
    refine ow_nil ?_
    refine x_qs ?_
    refine c_ret ?_
    refine x_qs_ret ?_
    exact x_retR (rs := [.tmp 4]) (vs := [.int .i64 0]) rfl ⟨rfl, trivial⟩ (fun w' hw' => by
        obtain rfl := of_some H
        exact ⟨rfl, hw'.ext⟩)
  · have H := of_if_f hb H
    refine c_skip ?_
    refine x_qs ?_
    refine c_seq ?_
    refine c_reg ?_
    refine ow_batch [.p] rfl ?_
    refine ow_nil ?_
    refine x_qs ?_
    refine c_seq ?_
    refine c_seq ?_
    refine c_reg ?_
    refine ow_batch [.p] rfl ?_
    refine ow_nil ?_
    refine x_qs ?_
    refine c_block ?_
    refine CW.at (loopI2 (fun (i25 : Int) (i26 : Int) => St w [] [Res.box b18 43 [.slice a14 p1.Table_.length c15, .slice a16 p1.Last_.length c17]]) (fun (i25 : Int) (i26 : Int) => [(0, .int .i64 p0), (3, .pointer (some ⟨b18, 0, none⟩)), (5, .int .i64 i25), (6, .int .i64 i26)]) (fun kk => fun (i25 : Int) (i26 : Int) => spec_LastRight_L1 p0 p1 kk i25 i26 = some r) (fun _ _ H => ?_) (fun k1 ihk1 i25 i26 H => ?_) Fuel (0) (0) (H)) (fun _ h => St.sel [0] rfl rfl h) ⟨rfl, rfl, rfl, rfl,  trivial⟩
    · unfold spec_LastRight_L1 at H
      exact absurd H (by simp)
    · unfold spec_LastRight_L1 at H
      refine c_seq ?_
      refine c_seq ?_
      refine c_reg ?_
      refine ow_batch [.p, .p, .p] rfl ?_
      refine ow_nil ?_
      refine x_qs ?_
      refine c_if rfl (fun hb => ?_) (fun hb => ?_)
      · have H := of_if_t hb H
        refine c_skip ?_
        refine x_qs ?_
        refine c_seq ?_
        refine c_block ?_
        refine c_reg ?_
        refine ow_batch [.p, .fa 43 1 1 fa43_1] rfl ?_
        refine ow_r rfl (dstOk_lt rfl) (ry_box1 (off := 1) rfl rfl ty41 (boxIn (i := 0) rfl) rfl) ?_
        refine ow_batch [.p, .p] rfl ?_
        obtain ⟨y31, h32, H⟩ := of_bind H
        refine ow_q rfl rfl (dstOk_lt rfl) (qy_call rfl fn99 rfl (fun w1 hw1 => spec_l25Pairs_ok w1  h32 (rds_bor g13 w1 hw1))) (fun _ _ => trivial) ?_
        refine ow_batch [.p, .p] rfl ?_
        refine ow_nil ?_
        refine x_qb ?_
        refine x_qs ?_
        refine c_reg ?_
        refine ow_batch [.p, .p, .p] rfl ?_
        refine ow_nil ?_
        exact x_ql (RW.at (ihk1 (IntKind.i64.wrap (i25 + y31)) (IntKind.i64.wrap (i26 + 1)) (H)) (fun _ h => St.sel [0] rfl rfl h) ⟨rfl, rfl, rfl, rfl, trivial⟩)
      · have H := of_if_f hb H
        refine c_exit ?_
        refine x_qs_exit ?_
        refine x_ql_exit ?_
        refine x_qb_here ?_
        refine x_qs ?_
        refine c_seq ?_
        refine c_reg ?_
        refine ow_batch [.p, .p] rfl ?_
        refine ow_nil ?_
        refine x_qs ?_
        refine c_ret ?_
        exact x_retR (rs := [.tmp 4]) (vs := [.int .i64 i25]) rfl ⟨rfl, trivial⟩ (fun w' hw' => by
            obtain rfl := of_some H
            exact ⟨rfl, hw'.ext⟩)

set_option maxHeartbeats 4000000 in
set_option maxRecDepth 100000 in
theorem spec_ScoreText_ok (w : World) {p0 : Int} {p1 : Timpl_Score} {cs1 : List Value} {r : List UInt8} (H : spec_ScoreText p0 p1 = some r)  (g1 : (eTimpl_Score).rd w [] p1 cs1) :
    Calls Tryd.prog 18 #[.int .i64 p0, .agg cs1.toArray] w (fun en w' => en = .returned (vS r) ∧ Ext [] w w') := by
  obtain ⟨c10, c11, rfl, g12, g13⟩ := rdo_Timpl_Score g1
  obtain ⟨a14, c15, rfl⟩ := rd_sl1 g12
  obtain ⟨a16, c17, rfl⟩ := rd_sl1 g13
  unfold spec_ScoreText at H
  refine f_enter (vs := [.int .i64 p0, .agg #[.slice a14 p1.Table_.length c15, .slice a16 p1.Last_.length c17]]) Tryd.func18 rfl Tryd.ntmps18 rfl (St.init w []) ?_
  refine c_seq ?_
  refine c_reg ?_
  refine ow_box (cs := [.slice a14 p1.Table_.length c15, .slice a16 p1.Last_.length c17]) rfl rfl rfl rfl rfl rfl (fun _ => kp) (fun b18 => ?_)
  refine ow_batch [.p] rfl ?_
  refine ow_nil ?_
  refine x_qs ?_
  refine c_seq ?_
  refine c_seq ?_
  refine c_reg ?_
  refine ow_batch [.p] rfl ?_
  refine ow_r rfl (dstOk_lt rfl) (ry_box (off := 0) (ds := [.slice a14 p1.Table_.length c15, .slice a16 p1.Last_.length c17]) rfl rfl ty43 (boxIn (i := 0) rfl) rfl rfl) ?_
  obtain ⟨y19, h20, H⟩ := of_bind H
  refine ow_q rfl rfl (dstOk_lt rfl) (qy_call rfl fn51 rfl (fun w1 hw1 => spec_ScoreOk_ok w1 (cs1 := [.slice a14 p1.Table_.length c15, .slice a16 p1.Last_.length c17]) h20 (rdm_Timpl_Score (x := p1) (c0 := [.slice a14 p1.Table_.length c15]) (c1 := [.slice a16 p1.Last_.length c17]) (rds_bor g12 w1 hw1) (rds_bor g13 w1 hw1)))) (fun _ _ => trivial) ?_
  refine ow_batch [.p] rfl ?_
  refine ow_nil ?_
  refine x_qs ?_
  refine c_if rfl (fun hb => ?_) (fun hb => ?_)
  · have H := of_if_t hb H
    refine c_seq ?_
    refine c_reg ?_
    refine ow_batch [.p] rfl ?_
    refine ow_nil ?_
    refine x_qs ?_
    refine c_ret ?_
    refine x_qs_ret ?_
    exact x_retR (rs := [.tmp 4]) (vs := [vS ([] : List UInt8)]) rfl ⟨rfl, trivial⟩ (fun w' hw' => by
        obtain rfl := of_some H
        exact ⟨rfl, hw'.ext⟩)
  · have H := of_if_f hb H
    refine c_skip ?_
    refine x_qs ?_
    refine c_seq ?_
    refine c_reg ?_
    refine ow_batch [.p] rfl ?_
    refine ow_r rfl (dstOk_lt rfl) (ry_box (off := 0) (ds := [.slice a14 p1.Table_.length c15, .slice a16 p1.Last_.length c17]) rfl rfl ty43 (boxIn (i := 0) rfl) rfl rfl) ?_
    obtain ⟨y21, h22, H⟩ := of_bind H
    refine ow_q rfl rfl (dstOk_lt rfl) (qy_call rfl fn52 rfl (fun w1 hw1 => spec_Kappa_ok w1 (cs1 := [.slice a14 p1.Table_.length c15, .slice a16 p1.Last_.length c17]) h22 (rdm_Timpl_Score (x := p1) (c0 := [.slice a14 p1.Table_.length c15]) (c1 := [.slice a16 p1.Last_.length c17]) (rds_bor g12 w1 hw1) (rds_bor g13 w1 hw1)))) (fun _ _ => trivial) ?_
    refine ow_batch [.p, .p, .p, .p, .p] rfl ?_
    refine ow_nil ?_
    refine x_qs ?_
    refine c_seq ?_
    refine c_regQ mixed (by kernel_rfl) ?_
    refine ow_batch [.p] rfl ?_
    refine ow_r rfl (dstOk_lt rfl) (ry_box (off := 0) (ds := [.slice a14 p1.Table_.length c15, .slice a16 p1.Last_.length c17]) rfl rfl ty43 (boxIn (i := 0) rfl) rfl rfl) ?_
    obtain ⟨y23, h24, H⟩ := of_bind H
    refine ow_q rfl rfl (dstOk_lt rfl) (qy_call rfl fn53 rfl (fun w1 hw1 => spec_Count_ok w1 (cs1 := [.slice a14 p1.Table_.length c15, .slice a16 p1.Last_.length c17]) h24 (rdm_Timpl_Score (x := p1) (c0 := [.slice a14 p1.Table_.length c15]) (c1 := [.slice a16 p1.Last_.length c17]) (rds_bor g12 w1 hw1) (rds_bor g13 w1 hw1)))) (fun _ _ => trivial) ?_
    obtain ⟨y25, h26, H⟩ := of_bind H
    refine ow_q rfl rfl (dstOk_lt rfl) (qy_call rfl fn35 rfl (fun w1 hw1 => spec_Digits_ok w1  h26)) (fun _ _ => trivial) ?_
    obtain ⟨s27, h28, H⟩ := of_bind H
    refine ow_r rfl (dstOk_lt rfl) (ry_sadd rfl rfl rfl h28) ?_
    obtain ⟨s29, h30, H⟩ := of_bind H
    refine ow_r rfl (dstOk_lt rfl) (ry_sadd rfl rfl rfl h30) ?_
    refine ow_batch [.p] rfl ?_
    refine ow_r rfl (dstOk_lt rfl) (ry_box (off := 0) (ds := [.slice a14 p1.Table_.length c15, .slice a16 p1.Last_.length c17]) rfl rfl ty43 (boxIn (i := 0) rfl) rfl rfl) ?_
    obtain ⟨y31, h32, H⟩ := of_bind H
    refine ow_q rfl rfl (dstOk_lt rfl) (qy_call rfl fn54 rfl (fun w1 hw1 => spec_Right_ok w1 (cs1 := [.slice a14 p1.Table_.length c15, .slice a16 p1.Last_.length c17]) h32 (rdm_Timpl_Score (x := p1) (c0 := [.slice a14 p1.Table_.length c15]) (c1 := [.slice a16 p1.Last_.length c17]) (rds_bor g12 w1 hw1) (rds_bor g13 w1 hw1)))) (fun _ _ => trivial) ?_
    obtain ⟨y33, h34, H⟩ := of_bind H
    refine ow_q rfl rfl (dstOk_lt rfl) (qy_call rfl fn35 rfl (fun w1 hw1 => spec_Digits_ok w1  h34)) (fun _ _ => trivial) ?_
    obtain ⟨s35, h36, H⟩ := of_bind H
    refine ow_r rfl (dstOk_lt rfl) (ry_sadd rfl rfl rfl h36) ?_
    obtain ⟨s37, h38, H⟩ := of_bind H
    refine ow_r rfl (dstOk_lt rfl) (ry_sadd rfl rfl rfl h38) ?_
    refine ow_batch [.p] rfl ?_
    refine ow_r rfl (dstOk_lt rfl) (ry_box (off := 0) (ds := [.slice a14 p1.Table_.length c15, .slice a16 p1.Last_.length c17]) rfl rfl ty43 (boxIn (i := 0) rfl) rfl rfl) ?_
    obtain ⟨y39, h40, H⟩ := of_bind H
    refine ow_q rfl rfl (dstOk_lt rfl) (qy_call rfl fn55 rfl (fun w1 hw1 => spec_LastRight_ok w1 (cs1 := [.slice a14 p1.Table_.length c15, .slice a16 p1.Last_.length c17]) h40 (rdm_Timpl_Score (x := p1) (c0 := [.slice a14 p1.Table_.length c15]) (c1 := [.slice a16 p1.Last_.length c17]) (rds_bor g12 w1 hw1) (rds_bor g13 w1 hw1)))) (fun _ _ => trivial) ?_
    obtain ⟨y41, h42, H⟩ := of_bind H
    refine ow_q rfl rfl (dstOk_lt rfl) (qy_call rfl fn35 rfl (fun w1 hw1 => spec_Digits_ok w1  h42)) (fun _ _ => trivial) ?_
    obtain ⟨s43, h44, H⟩ := of_bind H
    refine ow_r rfl (dstOk_lt rfl) (ry_sadd rfl rfl rfl h44) ?_
    obtain ⟨s45, h46, H⟩ := of_bind H
    refine ow_r rfl (dstOk_lt rfl) (ry_sadd rfl rfl rfl h46) ?_
    refine ow_batch [.p] rfl ?_
    obtain ⟨y47, h48, H⟩ := of_bind H
    refine ow_q rfl rfl (dstOk_lt rfl) (qy_call rfl fn35 rfl (fun w1 hw1 => spec_Digits_ok w1  h48)) (fun _ _ => trivial) ?_
    obtain ⟨s49, h50, H⟩ := of_bind H
    refine ow_r rfl (dstOk_lt rfl) (ry_sadd rfl rfl rfl h50) ?_
    obtain ⟨s51, h52, H⟩ := of_bind H
    refine ow_r rfl (dstOk_lt rfl) (ry_sadd rfl rfl rfl h52) ?_
    refine ow_batch [.p] rfl ?_
    obtain ⟨y53, h54, H⟩ := of_bind H
    refine ow_q rfl rfl (dstOk_lt rfl) (qy_call rfl fn35 rfl (fun w1 hw1 => spec_Digits_ok w1  h54)) (fun _ _ => trivial) ?_
    obtain ⟨s55, h56, H⟩ := of_bind H
    refine ow_r rfl (dstOk_lt rfl) (ry_sadd rfl rfl rfl h56) ?_
    refine ow_batch [.p] rfl ?_
    refine ow_nilQ ?_
    refine x_qs ?_
    refine c_ret ?_
    exact x_retR (rs := [.tmp 4]) (vs := [vS s55]) rfl ⟨rfl, trivial⟩ (fun w' hw' => by
        obtain rfl := of_some H
        exact ⟨rfl, hw'.ext⟩)

set_option maxHeartbeats 4000000 in
set_option maxRecDepth 100000 in
theorem impl_ScoreOk_1_ok (w : World) {p0 : Int}  {r : Bool} (H : impl_ScoreOk_1 p0 = some r)   :
    Calls Tryd.prog 103 #[.int .i64 p0] w (fun en w' => en = .returned (.bool r) ∧ Ext [] w w') := by
  unfold impl_ScoreOk_1 at H
  refine f_enter (vs := [.int .i64 p0]) Tryd.func103 rfl Tryd.ntmps103 rfl (St.init w []) ?_
  refine c_seq ?_
  refine c_reg ?_
  refine ow_batch [.p] rfl ?_
  refine ow_nil ?_
  refine x_qs ?_
  refine c_seq ?_
  refine c_reg ?_
  refine ow_batch [.p] rfl ?_
  obtain ⟨y10, h11, H⟩ := of_bind H
  refine ow_q rfl rfl (dstOk_lt rfl) (qy_call rfl fn95 rfl (fun w1 hw1 => impl_within_ok w1  h11)) (fun _ _ => trivial) ?_
  refine ow_batch [.p, .p] rfl ?_
  refine ow_nil ?_
  refine x_qs ?_
  refine c_ret ?_
  exact x_retR (rs := [.tmp 2]) (vs := [.bool (!y10)]) rfl ⟨rfl, trivial⟩ (fun w' hw' => by
      obtain rfl := of_some H
      exact ⟨rfl, hw'.ext⟩)

set_option maxHeartbeats 4000000 in
set_option maxRecDepth 100000 in
theorem impl_tableSum_ok (w : World) {p0 : List (List Int)} {a_0 : Option Addr} {n_0 c_0 : Nat} {r : Int} (H : impl_tableSum p0 = some r)  (g0 : (eList (eList (eVal (Value.int .i64) (fun _ => rfl)) 3) 22).rd w [] p0 [.slice a_0 n_0 c_0]) :
    Calls Tryd.prog 104 #[.slice a_0 n_0 c_0] w (fun en w' => en = .returned (.int .i64 r) ∧ Ext [] w w') := by
  obtain rfl := rd_n g0
  unfold impl_tableSum at H
  refine f_enter (vs := [.slice a_0 p0.length c_0]) Tryd.func104 rfl Tryd.ntmps104 rfl (St.init w []) ?_
  refine c_seq ?_
  refine c_reg ?_
  refine ow_batch [.p] rfl ?_
  refine ow_nil ?_
  refine x_qs ?_
  refine c_seq ?_
  refine c_reg ?_
  refine ow_batch [.p] rfl ?_
  refine ow_nil ?_
  refine x_qs ?_
  refine c_seq ?_
  refine c_seq ?_
  refine c_reg ?_
  refine ow_batch [.p, .lenS 27 22 sl27, .p] rfl ?_
  refine ow_nil ?_
  refine x_qs ?_
  refine c_block ?_
  refine CW.at (loopI2 (fun (i22 : Int) (i23 : Int) => St w [] []) (fun (i22 : Int) (i23 : Int) => [(3, .int .i64 i22), (6, .slice a_0 p0.length c_0), (7, .int .i64 (p0.length : Int)), (8, .int .i64 i23)]) (fun kk => fun (i22 : Int) (i23 : Int) => impl_tableSum_L1 p0 kk i22 i23 = some r) (fun _ _ H => ?_) (fun k1 ihk1 i22 i23 H => ?_) Fuel (0) (0) (H)) (fun _ h => St.sel [] rfl rfl h) ⟨rfl, rfl, rfl, rfl,  trivial⟩
  · unfold impl_tableSum_L1 at H
    exact absurd H (by simp)
  · unfold impl_tableSum_L1 at H
    refine c_seq ?_
    refine c_reg ?_
    refine ow_batch [.p] rfl ?_
    refine ow_nil ?_
    refine x_qs ?_
    refine c_seq ?_
    refine c_if rfl (fun hb => ?_) (fun hb => ?_)
    · have H := of_if_t hb H
      refine c_skip ?_
      refine x_qs ?_
      refine c_seq ?_
      refine c_block ?_
      refine c_seq ?_
      refine c_reg ?_
      obtain ⟨e36, h37, H⟩ := of_bind H
      refine ow_ixB rfl rfl rfl rfl rfl sl27 ty22 rfl g0 h37 (fun q40 c41 hd38 hA39 => ?_)
      obtain ⟨a42, c43, rfl⟩ := rd_sl1 hd38
      refine ow_r rfl (dstOk_lt rfl) (ry_load1 rfl rfl ty22 (at_bor bor hA39)) ?_
      refine ow_batch [.p] rfl ?_
      refine ow_nil ?_
      refine x_qs ?_
      refine c_reg ?_
      refine ow_batch [.p, .p] rfl ?_
      obtain ⟨y44, h45, H⟩ := of_bind H
      refine ow_q rfl rfl (dstOk_lt rfl) (qy_call rfl fn105 rfl (fun w1 hw1 => impl_total_ok w1  h45 (rds_bor hd38 w1 hw1))) (fun _ _ => trivial) ?_
      refine ow_batch [.p, .p] rfl ?_
      refine ow_nil ?_
      refine x_qb ?_
      refine x_qs ?_
      refine c_reg ?_
      refine ow_batch [.p, .p] rfl ?_
      refine ow_nil ?_
      exact x_ql (RW.at (ihk1 (IntKind.i64.wrap (i22 + y44)) (IntKind.i64.wrap (i23 + 1)) (H)) (fun _ h => St.sel [] rfl rfl h) ⟨rfl, rfl, rfl, rfl, trivial⟩)
    · have H := of_if_f hb H
      refine c_exit ?_
      refine x_qs_exit ?_
      refine x_ql_exit ?_
      refine x_qb_here ?_
      refine x_qs ?_
      refine c_seq ?_
      refine c_reg ?_
      refine ow_batch [.p, .p] rfl ?_
      refine ow_nil ?_
      refine x_qs ?_
      refine c_ret ?_
      exact x_retR (rs := [.tmp 2]) (vs := [.int .i64 i22]) rfl ⟨rfl, trivial⟩ (fun w' hw' => by
          obtain rfl := of_some H
          exact ⟨rfl, hw'.ext⟩)

set_option maxHeartbeats 4000000 in
set_option maxRecDepth 100000 in
theorem lib_slices_IndexFunc___int_int___impl_ScoreOk_1_ok (w : World) {p0 : List Int} {a_0 : Option Addr} {n_0 c_0 : Nat} {r : Int} (H : lib_slices_IndexFunc___int_int___impl_ScoreOk_1 p0 = some r)  (g0 : (eList (eVal (Value.int .i64) (fun _ => rfl)) 3).rd w [] p0 [.slice a_0 n_0 c_0]) :
    Calls Tryd.prog 122 #[.slice a_0 n_0 c_0, .func (.func 103) #[] #[]] w (fun en w' => en = .returned (.int .i64 r) ∧ Ext [] w w') := by
  obtain rfl := rd_n g0
  unfold lib_slices_IndexFunc___int_int___impl_ScoreOk_1 at H
  refine f_enter (vs := [.slice a_0 p0.length c_0, .func (.func 103) #[] #[]]) Tryd.func122 rfl Tryd.ntmps122 rfl (St.init w []) ?_
  refine c_seq ?_
  refine c_reg ?_
  refine ow_batch [.p] rfl ?_
  refine ow_nil ?_
  refine x_qs ?_
  refine c_seq ?_
  refine c_seq ?_
  refine c_reg ?_
  refine ow_batch [.p, .lenS 22 3 sl22, .p] rfl ?_
  refine ow_nil ?_
  refine x_qs ?_
  refine c_block ?_
  refine CW.at (loopI1 (fun (i15 : Int) => St w [] []) (fun (i15 : Int) => [(0, .slice a_0 p0.length c_0), (1, .func (.func 103) #[] #[]), (7, .int .i64 (p0.length : Int)), (8, .int .i64 i15)]) (fun kk => fun (i15 : Int) => lib_slices_IndexFunc___int_int___impl_ScoreOk_1_L1 p0 kk i15 = some r) (fun _ H => ?_) (fun k1 ihk1 i15 H => ?_) Fuel (0) (H)) (fun _ h => St.sel [] rfl rfl h) ⟨rfl, rfl, rfl, rfl,  trivial⟩
  · unfold lib_slices_IndexFunc___int_int___impl_ScoreOk_1_L1 at H
    exact absurd H (by simp)
  · unfold lib_slices_IndexFunc___int_int___impl_ScoreOk_1_L1 at H
    refine c_seq ?_
    refine c_reg ?_
    refine ow_batch [.p] rfl ?_
    refine ow_nil ?_
    refine x_qs ?_
    refine c_seq ?_
    refine c_if rfl (fun hb => ?_) (fun hb => ?_)
    · have H := of_if_t hb H
      refine c_skip ?_
      refine x_qs ?_
      refine c_seq ?_
      refine c_block ?_
      refine c_seq ?_
      refine c_reg ?_
      refine ow_batch [.p, .p] rfl ?_
      refine ow_nil ?_
      refine x_qs ?_
      refine c_seq ?_
      refine c_reg ?_
      refine ow_batch [.p, .p, .p] rfl ?_
      obtain ⟨e21, h22, H⟩ := of_bind H
      refine ow_ixE (e := eVal (Value.int .i64) (fun _ => rfl)) (xs := p0) (j := i15) rfl rfl rfl rfl rfl sl22 ty3 rfl (fun w1 hw1 => rds_bor g0 w1 hw1) h22 (by rw [Nat.mul_one]) ?_
      refine ow_r rfl (dstOk_lt rfl) (ry_load1 rfl rfl ty3 (at_elV (fun w1 hw1 => rds_bor g0 w1 hw1) h22)) ?_
      obtain ⟨y23, h24, H⟩ := of_bind H
      refine ow_q rfl rfl (dstOk_lt rfl) (qy_callV (cap := []) rfl fn103 rfl rfl (fun w1 hw1 => impl_ScoreOk_1_ok w1  h24)) (fun _ _ => trivial) ?_
      refine ow_nil ?_
      refine x_qs ?_
      refine c_if rfl (fun hb => ?_) (fun hb => ?_)
      · have H := of_if_t hb H
        refine c_seq ?_
        refine c_reg ?_
        refine ow_batch [.p, .p] rfl ?_
        refine ow_nil ?_
        refine x_qs ?_
        refine c_ret ?_
        refine x_qb_ret ?_
        refine x_qs_ret ?_
        refine x_ql_ret ?_
        refine x_qb_ret ?_
        refine x_qs_ret ?_
        exact x_retR (rs := [.tmp 4]) (vs := [.int .i64 i15]) rfl ⟨rfl, trivial⟩ (fun w' hw' => by
            obtain rfl := of_some H
            exact ⟨rfl, hw'.ext⟩)
      · have H := of_if_f hb H
        refine c_skip ?_
        refine x_qb ?_
        refine x_qs ?_
        refine c_reg ?_
        refine ow_batch [.p, .p] rfl ?_
        refine ow_nil ?_
        exact x_ql (RW.at (ihk1 (IntKind.i64.wrap (i15 + 1)) (H)) (fun _ h => St.sel [] rfl rfl h) ⟨rfl, rfl, rfl, rfl, trivial⟩)
    · have H := of_if_f hb H
      refine c_exit ?_
      refine x_qs_exit ?_
      refine x_ql_exit ?_
      refine x_qb_here ?_
      refine x_qs ?_
      refine c_seq ?_
      refine c_reg ?_
      refine ow_batch [.p] rfl ?_
      refine ow_nil ?_
      refine x_qs ?_
      refine c_ret ?_
      exact x_retR (rs := [.tmp 4]) (vs := [.int .i64 (-1)]) rfl ⟨rfl, trivial⟩ (fun w' hw' => by
          obtain rfl := of_some H
          exact ⟨rfl, hw'.ext⟩)

set_option maxHeartbeats 4000000 in
set_option maxRecDepth 100000 in
theorem lib_slices_ContainsFunc___int_int___impl_ScoreOk_1_ok (w : World) {p0 : List Int} {a_0 : Option Addr} {n_0 c_0 : Nat} {r : Bool} (H : lib_slices_ContainsFunc___int_int___impl_ScoreOk_1 p0 = some r)  (g0 : (eList (eVal (Value.int .i64) (fun _ => rfl)) 3).rd w [] p0 [.slice a_0 n_0 c_0]) :
    Calls Tryd.prog 96 #[.slice a_0 n_0 c_0, .func (.func 103) #[] #[]] w (fun en w' => en = .returned (.bool r) ∧ Ext [] w w') := by
  obtain rfl := rd_n g0
  unfold lib_slices_ContainsFunc___int_int___impl_ScoreOk_1 at H
  refine f_enter (vs := [.slice a_0 p0.length c_0, .func (.func 103) #[] #[]]) Tryd.func96 rfl Tryd.ntmps96 rfl (St.init w []) ?_
  refine c_seq ?_
  refine c_reg ?_
  refine ow_batch [.p] rfl ?_
  refine ow_nil ?_
  refine x_qs ?_
  refine c_seq ?_
  refine c_reg ?_
  refine ow_batch [.p, .p] rfl ?_
  obtain ⟨y10, h11, H⟩ := of_bind H
  refine ow_q rfl rfl (dstOk_lt rfl) (qy_call rfl fn122 rfl (fun w1 hw1 => lib_slices_IndexFunc___int_int___impl_ScoreOk_1_ok w1  h11 (rds_bor g0 w1 hw1))) (fun _ _ => trivial) ?_
  refine ow_batch [.p, .p] rfl ?_
  refine ow_nil ?_
  refine x_qs ?_
  refine c_ret ?_
  exact x_retR (rs := [.tmp 4]) (vs := [.bool (decide (y10 ≥ 0))]) rfl ⟨rfl, trivial⟩ (fun w' hw' => by
      obtain rfl := of_some H
      exact ⟨rfl, hw'.ext⟩)

set_option maxHeartbeats 4000000 in
set_option maxRecDepth 100000 in
theorem impl_ScoreOk_ok (w : World) {p0 : Int} {p1 : Timpl_Score} {cs1 : List Value} {r : Bool} (H : impl_ScoreOk p0 p1 = some r)  (g1 : (eTimpl_Score).rd w [] p1 cs1) :
    Calls Tryd.prog 57 #[.int .i64 p0, .agg cs1.toArray] w (fun en w' => en = .returned (.bool r) ∧ Ext [] w w') := by
  obtain ⟨c10, c11, rfl, g12, g13⟩ := rdo_Timpl_Score g1
  obtain ⟨a14, c15, rfl⟩ := rd_sl1 g12
  obtain ⟨a16, c17, rfl⟩ := rd_sl1 g13
  unfold impl_ScoreOk at H
  refine f_enter (vs := [.int .i64 p0, .agg #[.slice a14 p1.Table_.length c15, .slice a16 p1.Last_.length c17]]) Tryd.func57 rfl Tryd.ntmps57 rfl (St.init w []) ?_
  refine c_seq ?_
  refine c_reg ?_
  refine ow_box (cs := [.slice a14 p1.Table_.length c15, .slice a16 p1.Last_.length c17]) rfl rfl rfl rfl rfl rfl (fun _ => kp) (fun b18 => ?_)
  refine ow_batch [.p] rfl ?_
  refine ow_nil ?_
  refine x_qs ?_
  refine c_seq ?_
  refine c_seq ?_
  refine c_reg ?_
  refine ow_batch [.p] rfl ?_
  obtain ⟨y19, h20, H⟩ := of_bind H
  refine ow_q rfl rfl (dstOk_lt rfl) (qy_call rfl fn95 rfl (fun w1 hw1 => impl_within_ok w1  h20)) (fun _ _ => trivial) ?_
  refine ow_batch [.p, .p] rfl ?_
  refine ow_cut [(20, .bool ((!y19) || ((p1.Table_.length : Int) != p0))), (0, .int .i64 p0), (3, .pointer (some ⟨b18, 0, none⟩))] 6 ?_ (fun key => OW.sub (R := [(0, .int .i64 p0), (3, .pointer (some ⟨b18, 0, none⟩)), (14, .bool (!y19))]) ?_ ⟨rfl, rfl, rfl, trivial⟩)
  · refine ow_nil ?_
    refine x_qs ?_
    refine c_if rfl (fun hb => ?_) (fun hb => ?_)
    · have H := of_if_t hb H
      refine c_seq ?_
      refine c_reg ?_
      refine ow_batch [.p] rfl ?_
      refine ow_nil ?_
      refine x_qs ?_
      refine c_ret ?_
      refine x_qs_ret ?_
      exact x_retR (rs := [.tmp 4]) (vs := [.bool false]) rfl ⟨rfl, trivial⟩ (fun w' hw' => by
          obtain rfl := of_some H
          exact ⟨rfl, hw'.ext⟩)
    · have H := of_if_f hb H
      refine c_skip ?_
      refine x_qs ?_
      refine c_seq ?_
      refine c_seq ?_
      refine c_reg ?_
      refine ow_batch [.fa 43 0 0 fa43_0] rfl ?_
      refine ow_r rfl (dstOk_lt rfl) (ry_box1 (off := 0) rfl rfl ty27 (boxIn (i := 0) rfl) rfl) ?_
      refine ow_batch [.lenS 27 22 sl27, .p] rfl ?_
      refine ow_nil ?_
      refine x_qs ?_
      refine c_block ?_
      refine CW.at (loopI1 (fun (i37 : Int) => St w [] [Res.box b18 43 [.slice a14 p1.Table_.length c15, .slice a16 p1.Last_.length c17]]) (fun (i37 : Int) => [(0, .int .i64 p0), (3, .pointer (some ⟨b18, 0, none⟩)), (22, .slice a14 p1.Table_.length c15), (23, .int .i64 (p1.Table_.length : Int)), (24, .int .i64 i37)]) (fun kk => fun (i37 : Int) => impl_ScoreOk_L1 p1 p0 kk i37 = some r) (fun _ H => ?_) (fun k1 ihk1 i37 H => ?_) Fuel (0) (H)) (fun _ h => St.sel [0] rfl rfl h) ⟨rfl, rfl, rfl, rfl, rfl,  trivial⟩
      · unfold impl_ScoreOk_L1 at H
        exact absurd H (by simp)
      · unfold impl_ScoreOk_L1 at H
        refine c_seq ?_
        refine c_reg ?_
        refine ow_batch [.p] rfl ?_
        refine ow_nil ?_
        refine x_qs ?_
        refine c_seq ?_
        refine c_if rfl (fun hb => ?_) (fun hb => ?_)
        · have H := of_if_t hb H
          refine c_skip ?_
          refine x_qs ?_
          refine c_seq ?_
          refine c_block ?_
          refine c_seq ?_
          refine c_reg ?_
          obtain ⟨e52, h53, H⟩ := of_bind H
          refine ow_ixB rfl rfl rfl rfl rfl sl27 ty22 rfl g12 h53 (fun q56 c57 hd54 hA55 => ?_)
          obtain ⟨a58, c59, rfl⟩ := rd_sl1 hd54
          refine ow_r rfl (dstOk_lt rfl) (ry_load1 rfl rfl ty22 (at_bor bor hA55)) ?_
          refine ow_batch [.p] rfl ?_
          refine ow_nil ?_
          refine x_qs ?_
          refine c_seq ?_
          refine c_reg ?_
          refine ow_batch [.p, .lenS 22 3 sl22, .p, .p, .p] rfl ?_
          obtain ⟨u60, hu64, H⟩ := of_bind H
          refine ow_cut [(35, .bool u60), (0, .int .i64 p0), (3, .pointer (some ⟨b18, 0, none⟩)), (22, .slice a14 p1.Table_.length c15), (23, .int .i64 (p1.Table_.length : Int)), (24, .int .i64 i37)] 3 ?_ (fun key => OW.sub (R := [(0, .int .i64 p0), (3, .pointer (some ⟨b18, 0, none⟩)), (6, .slice a58 e52.length c59), (22, .slice a14 p1.Table_.length c15), (23, .int .i64 (p1.Table_.length : Int)), (24, .int .i64 i37), (32, .bool ((e52.length : Int) != p0))]) ?_ ⟨rfl, rfl, rfl, rfl, rfl, rfl, rfl, trivial⟩)
          · refine ow_nil ?_
            refine x_qs ?_
            refine c_if rfl (fun hb => ?_) (fun hb => ?_)
            · have H := of_if_t hb H
              refine c_seq ?_
              refine c_reg ?_
              refine ow_batch [.p] rfl ?_
              refine ow_nil ?_
              refine x_qs ?_
              refine c_ret ?_
              refine x_qb_ret ?_
              refine x_qs_ret ?_
              refine x_ql_ret ?_
              refine x_qb_ret ?_
              refine x_qs_ret ?_
              exact x_retR (rs := [.tmp 4]) (vs := [.bool false]) rfl ⟨rfl, trivial⟩ (fun w' hw' => by
                  obtain rfl := of_some H
                  exact ⟨rfl, hw'.ext⟩)
            · have H := of_if_f hb H
              refine c_skip ?_
              refine x_qb ?_
              refine x_qs ?_
              refine c_reg ?_
              refine ow_batch [.p, .p] rfl ?_
              refine ow_nil ?_
              exact x_ql (RW.at (ihk1 (IntKind.i64.wrap (i37 + 1)) (H)) (fun _ h => St.sel [0] rfl rfl h) ⟨rfl, rfl, rfl, rfl, rfl, trivial⟩)
          · clear H
            have H := hu64
            clear hu64
            generalize ((e52.length : Int) != p0) = t63 at H key ⊢
            cases t63
            · have H := of_if_f rfl H
              refine ow_batch [.p] rfl ?_
              obtain ⟨y61, h62, H⟩ := of_bind H
              refine ow_q rfl rfl (dstOk_lt rfl) (qy_call rfl fn96 rfl (fun w1 hw1 => lib_slices_ContainsFunc___int_int___impl_ScoreOk_1_ok w1  h62 (rds_bor hd54 w1 hw1))) (fun _ _ => trivial) ?_
              refine ow_batch [.p] rfl ?_
              obtain rfl := of_some H
              exact OW.sub key ⟨rfl, rfl, rfl, rfl, rfl, rfl, trivial⟩
            · have H := of_if_t rfl H
              refine ow_batch [.p, .p, .p] rfl ?_
              obtain rfl := of_some H
              exact OW.sub key ⟨rfl, rfl, rfl, rfl, rfl, rfl, trivial⟩
        · have H := of_if_f hb H
          refine c_exit ?_
          refine x_qs_exit ?_
          refine x_ql_exit ?_
          refine x_qb_here ?_
          refine x_qs ?_
          refine c_seq ?_
          refine c_reg ?_
          refine ow_batch [.fa 43 0 0 fa43_0] rfl ?_
          refine ow_r rfl (dstOk_lt rfl) (ry_box1 (off := 0) rfl rfl ty27 (boxIn (i := 0) rfl) rfl) ?_
          obtain ⟨y65, h66, H⟩ := of_bind H
          refine ow_q rfl rfl (dstOk_lt rfl) (qy_call rfl fn104 rfl (fun w1 hw1 => impl_tableSum_ok w1  h66 (rds_bor g12 w1 hw1))) (fun _ _ => trivial) ?_
          refine ow_batch [.p] rfl ?_
          refine ow_nil ?_
          refine x_qs ?_
          refine c_seq ?_
          refine c_seq ?_
          refine c_reg ?_
          refine ow_batch [.p, .p, .p] rfl ?_
          refine ow_cut [(49, .bool ((decide (y65 > 9999)) || ((p1.Last_.length : Int) != (if 20 < y65 then 20 else y65)))), (0, .int .i64 p0), (3, .pointer (some ⟨b18, 0, none⟩))] 7 ?_ (fun key => OW.sub (R := [(0, .int .i64 p0), (3, .pointer (some ⟨b18, 0, none⟩)), (7, .int .i64 y65), (42, .bool (decide (y65 > 9999)))]) ?_ ⟨rfl, rfl, rfl, rfl, trivial⟩)
          · refine ow_nil ?_
            refine x_qs ?_
            refine c_if rfl (fun hb => ?_) (fun hb => ?_)
            · have H := of_if_t hb H
              refine c_seq ?_
              refine c_reg ?_
              refine ow_batch [.p] rfl ?_
              refine ow_nil ?_
              refine x_qs ?_
              refine c_ret ?_
              refine x_qs_ret ?_
              exact x_retR (rs := [.tmp 4]) (vs := [.bool false]) rfl ⟨rfl, trivial⟩ (fun w' hw' => by
                  obtain rfl := of_some H
                  exact ⟨rfl, hw'.ext⟩)
            · have H := of_if_f hb H
              refine c_skip ?_
              refine x_qs ?_
              refine c_seq ?_
              refine c_reg ?_
              refine ow_makeMap (κ := Timpl_Pair) kfTimpl_Pair rfl rfl rfl rfl (fun _ => kp) (fun b69 => ?_)
              refine ow_batch [.p] rfl ?_
              refine ow_nil ?_
              refine x_qs ?_
              refine c_seq ?_
              refine c_seq ?_
              refine c_reg ?_
              refine ow_batch [.fa 43 1 1 fa43_1] rfl ?_
              refine ow_r rfl (dstOk_lt rfl) (ry_box1 (off := 1) rfl rfl ty41 (boxIn (i := 0) rfl) rfl) ?_
              refine ow_batch [.lenS 41 129 sl41, .p] rfl ?_
              refine ow_nil ?_
              refine x_qs ?_
              refine c_block ?_
              refine CW.at (loopI2 (fun (i95 : Int) (m96 : List (Timpl_Pair × Int)) => St w [] [Res.box b18 43 [.slice a14 p1.Table_.length c15, .slice a16 p1.Last_.length c17], Res.map kfTimpl_Pair b69 m96]) (fun (i95 : Int) (m96 : List (Timpl_Pair × Int)) => [(0, .int .i64 p0), (3, .pointer (some ⟨b18, 0, none⟩)), (8, .map (some b69)), (52, .slice a16 p1.Last_.length c17), (53, .int .i64 (p1.Last_.length : Int)), (54, .int .i64 i95)]) (fun kk => fun (i95 : Int) (m96 : List (Timpl_Pair × Int)) => impl_ScoreOk_L2 p1 p0 kk i95 m96 = some r) (fun _ _ H => ?_) (fun k2 ihk2 i95 m96 H => ?_) Fuel (0) (([] : List (Timpl_Pair × Int))) (H)) (fun _ h => St.sel [0, 1] rfl rfl h) ⟨rfl, rfl, rfl, rfl, rfl, rfl,  trivial⟩
              · unfold impl_ScoreOk_L2 at H
                exact absurd H (by simp)
              · unfold impl_ScoreOk_L2 at H
                refine c_seq ?_
                refine c_reg ?_
                refine ow_batch [.p] rfl ?_
                refine ow_nil ?_
                refine x_qs ?_
                refine c_seq ?_
                refine c_if rfl (fun hb => ?_) (fun hb => ?_)
                · have H := of_if_t hb H
                  refine c_skip ?_
                  refine x_qs ?_
                  refine c_seq ?_
                  refine c_block ?_
                  refine c_seq ?_
                  refine c_reg ?_
                  obtain ⟨e122, h123, H⟩ := of_bind H
                  refine ow_ixE (e := eTimpl_Pair) (xs := p1.Last_) (j := i95) rfl rfl rfl rfl rfl sl41 ty129 rfl (fun w1 hw1 => rds_bor g13 w1 hw1) h123 rfl ?_
                  refine ow_r rfl (dstOk_lt rfl) (ry_load (cs := [.int .i64 e122.Truth_, .int .i64 e122.Said_]) rfl rfl ty129 (at_castA (at_eltE (fun w1 hw1 => rds_bor g13 w1 hw1) h123 (fun _ _ h => h)) rfl) rfl) ?_
                  refine ow_alloc rfl rfl rfl rfl ty129 (fun _ => kp) (fun b124 => ?_)
                  refine ow_storeC (off := 0) [.int .i64 e122.Truth_, .int .i64 e122.Said_] [_, _] (i := 2) rfl rfl rfl rfl rfl rfl ty129 rfl rfl (by intro u hu; simp only [List.mem_cons, List.not_mem_nil, or_false] at hu; rcases hu with rfl | rfl <;> rfl) rfl rfl rfl kp ?_
                  refine ow_nil ?_
                  refine x_qs ?_
                  refine c_seq ?_
                  refine c_regHT 6 [(0, true), (1, true), (2, true), (3, true), (4, false), (5, true)] (St w [] [Res.box b18 43 [.slice a14 p1.Table_.length c15, .slice a16 p1.Last_.length c17], Res.mapG kfTimpl_Pair b69 m96, Res.box b124 129 [.int .i64 e122.Truth_, .int .i64 e122.Said_]]) mixed (by kernel_rfl) (panicOk_qs (panicOk_qb (panicOk_qs (panicOk_ql (panicOk_qb (panicOk_qs panicOk_body)))))) (fun _ h => St.mask [true, true, true] rfl (St.toG 1 rfl (fun _ => rfl) h)) ?_
                  refine ow_batch [.p] rfl ?_
                  refine ow_rH rfl (dstOk_lt rfl) (ry_box (off := 0) (ds := [.int .i64 e122.Truth_, .int .i64 e122.Said_]) rfl rfl ty129 (boxIn (i := 2) rfl) rfl rfl) ?_
                  refine ow_rH rfl (dstOk_lt rfl) (ry_lookup (f := kfTimpl_Pair) (es := m96) (k := e122) rfl rfl rfl mt133 iz3 ko129 (mapInG (i := 1) rfl)) ?_
                  refine ow_batch [.p] rfl ?_
                  refine ow_mapEntry (f := kfTimpl_Pair) (r := 1) (es := m96) (k := e122) rfl rfl rfl rfl rfl rfl mt133 iz3 ko129 rfl (fun _ h => St.mask [true, true, true] rfl (St.toG 1 rfl (by first | exact fun _ => rfl | exact mEnt_get _ _) h)) ?_
                  refine ow_batch [.p] rfl ?_
                  refine ow_nilH ?_
                  refine x_qt ?_
                  refine ow_entryStore (f := kfTimpl_Pair) (r := 1) (es := m96) (k := e122) rfl rfl rfl rfl rfl rfl rfl rfl kp ?_
                  refine ow_nil ?_
                  refine x_qs ?_
                  refine c_seq ?_
                  refine c_regQ mixed (by kernel_rfl) ?_
                  refine ow_batch [.fa 129 0 0 fa129_0] rfl ?_
                  refine ow_r rfl (dstOk_lt rfl) (ry_box1 (off := 0) rfl rfl ty3 (boxIn (i := 2) rfl) rfl) ?_
                  refine ow_batch [.p, .p] rfl ?_
                  obtain ⟨y125, h126, H⟩ := of_bind H
                  refine ow_q rfl rfl (dstOk_lt rfl) (qy_call rfl fn95 rfl (fun w1 hw1 => impl_within_ok w1  h126)) (fun _ _ => trivial) ?_
                  refine ow_batch [.p, .p] rfl ?_
                  obtain ⟨u127, hu131, H⟩ := of_bind H
                  refine ow_cut [(77, .bool u127), (0, .int .i64 p0), (3, .pointer (some ⟨b18, 0, none⟩)), (8, .map (some b69)), (10, .pointer (some ⟨b124, 0, none⟩)), (52, .slice a16 p1.Last_.length c17), (53, .int .i64 (p1.Last_.length : Int)), (54, .int .i64 i95)] 7 ?_ (fun key => OW.sub (R := [(0, .int .i64 p0), (3, .pointer (some ⟨b18, 0, none⟩)), (8, .map (some b69)), (10, .pointer (some ⟨b124, 0, none⟩)), (52, .slice a16 p1.Last_.length c17), (53, .int .i64 (p1.Last_.length : Int)), (54, .int .i64 i95), (70, .bool (!y125))]) ?_ ⟨rfl, rfl, rfl, rfl, rfl, rfl, rfl, rfl, trivial⟩)
                  · refine ow_batch [.p] rfl ?_
                    obtain ⟨u132, hu144, H⟩ := of_bind H
                    refine ow_cut [(93, .bool u132), (0, .int .i64 p0), (3, .pointer (some ⟨b18, 0, none⟩)), (8, .map (some b69)), (52, .slice a16 p1.Last_.length c17), (53, .int .i64 (p1.Last_.length : Int)), (54, .int .i64 i95)] 15 ?_ (fun key => OW.sub (R := [(0, .int .i64 p0), (3, .pointer (some ⟨b18, 0, none⟩)), (8, .map (some b69)), (10, .pointer (some ⟨b124, 0, none⟩)), (52, .slice a16 p1.Last_.length c17), (53, .int .i64 (p1.Last_.length : Int)), (54, .int .i64 i95), (78, .bool u127)]) ?_ ⟨rfl, rfl, rfl, rfl, rfl, rfl, rfl, rfl, trivial⟩)
                    · refine ow_nilQ ?_
                      refine x_qs ?_
                      refine c_if rfl (fun hb => ?_) (fun hb => ?_)
                      · have H := of_if_t hb H
                        refine c_seq ?_
                        refine c_reg ?_
                        refine ow_batch [.p] rfl ?_
                        refine ow_nil ?_
                        refine x_qs ?_
                        refine c_ret ?_
                        refine x_qb_ret ?_
                        refine x_qs_ret ?_
                        refine x_ql_ret ?_
                        refine x_qb_ret ?_
                        refine x_qs_ret ?_
                        exact x_retR (rs := [.tmp 4]) (vs := [.bool false]) rfl ⟨rfl, trivial⟩ (fun w' hw' => by
                            obtain rfl := of_some H
                            exact ⟨rfl, hw'.ext⟩)
                      · have H := of_if_f hb H
                        refine c_skip ?_
                        refine x_qb ?_
                        refine x_qs ?_
                        refine c_reg ?_
                        refine ow_batch [.p, .p] rfl ?_
                        refine ow_nil ?_
                        exact x_ql (RW.at (ihk2 (IntKind.i64.wrap (i95 + 1)) ((mPut m96 e122 (IntKind.i64.wrap ((mGet m96 e122) + 1)))) (H)) (fun _ h => St.sel [0, 1] rfl rfl h) ⟨rfl, rfl, rfl, rfl, rfl, rfl, trivial⟩)
                    · clear H
                      have H := hu144
                      clear hu144
                      generalize u127 = t143 at H key ⊢
                      cases t143
                      · have H := of_if_f rfl H
                        refine ow_batch [.p] rfl ?_
                        refine ow_r rfl (dstOk_lt rfl) (ry_box (off := 0) (ds := [.int .i64 e122.Truth_, .int .i64 e122.Said_]) rfl rfl ty129 (boxIn (i := 2) rfl) rfl rfl) ?_
                        refine ow_r rfl (dstOk_lt rfl) (ry_lookup (f := kfTimpl_Pair) (es := (mPut m96 e122 (IntKind.i64.wrap ((mGet m96 e122) + 1)))) (k := e122) rfl rfl rfl mt133 iz3 ko129 (mapInR (i := 1) rfl)) ?_
                        refine ow_batch [.fa 43 0 0 fa43_0] rfl ?_
                        refine ow_r rfl (dstOk_lt rfl) (ry_box1 (off := 0) rfl rfl ty27 (boxIn (i := 0) rfl) rfl) ?_
                        refine ow_batch [.fa 129 0 0 fa129_0] rfl ?_
                        refine ow_r rfl (dstOk_lt rfl) (ry_box1 (off := 0) rfl rfl ty3 (boxIn (i := 2) rfl) rfl) ?_
                        obtain ⟨e133, h134, H⟩ := of_bind H
                        refine ow_ixB rfl rfl rfl rfl rfl sl27 ty22 rfl g12 h134 (fun q137 c138 hd135 hA136 => ?_)
                        obtain ⟨a139, c140, rfl⟩ := rd_sl1 hd135
                        refine ow_r rfl (dstOk_lt rfl) (ry_load1 rfl rfl ty22 (at_bor bor hA136)) ?_
                        refine ow_batch [.fa 129 1 1 fa129_1] rfl ?_
                        refine ow_r rfl (dstOk_lt rfl) (ry_box1 (off := 1) rfl rfl ty3 (boxIn (i := 2) rfl) rfl) ?_
                        obtain ⟨e141, h142, H⟩ := of_bind H
                        refine ow_ixE (e := eVal (Value.int .i64) (fun _ => rfl)) (xs := e133) (j := e122.Said_) rfl rfl rfl rfl rfl sl22 ty3 rfl (fun w1 hw1 => rds_bor hd135 w1 hw1) h142 (by rw [Nat.mul_one]) ?_
                        refine ow_r rfl (dstOk_lt rfl) (ry_load1 rfl rfl ty3 (at_elV (fun w1 hw1 => rds_bor hd135 w1 hw1) h142)) ?_
                        refine ow_batch [.p] rfl ?_
                        refine ow_batch [.p] rfl ?_
                        obtain rfl := of_some H
                        exact OW.sub key ⟨rfl, rfl, rfl, rfl, rfl, rfl, rfl, trivial⟩
                      · have H := of_if_t rfl H
                        refine ow_batch [.p, .p, .p, .p, .p, .p, .p, .p, .p, .p, .p, .p, .p, .p, .p] rfl ?_
                        obtain rfl := of_some H
                        exact OW.sub key ⟨rfl, rfl, rfl, rfl, rfl, rfl, rfl, trivial⟩
                  · clear H
                    have H := hu131
                    clear hu131
                    generalize (!y125) = t130 at H key ⊢
                    cases t130
                    · have H := of_if_f rfl H
                      refine ow_batch [.fa 129 1 1 fa129_1] rfl ?_
                      refine ow_r rfl (dstOk_lt rfl) (ry_box1 (off := 1) rfl rfl ty3 (boxIn (i := 2) rfl) rfl) ?_
                      refine ow_batch [.p, .p] rfl ?_
                      obtain ⟨y128, h129, H⟩ := of_bind H
                      refine ow_q rfl rfl (dstOk_lt rfl) (qy_call rfl fn95 rfl (fun w1 hw1 => impl_within_ok w1  h129)) (fun _ _ => trivial) ?_
                      refine ow_batch [.p] rfl ?_
                      refine ow_batch [.p] rfl ?_
                      obtain rfl := of_some H
                      exact OW.sub key ⟨rfl, rfl, rfl, rfl, rfl, rfl, rfl, rfl, trivial⟩
                    · have H := of_if_t rfl H
                      refine ow_batch [.p, .p, .p, .p, .p, .p, .p] rfl ?_
                      obtain rfl := of_some H
                      exact OW.sub key ⟨rfl, rfl, rfl, rfl, rfl, rfl, rfl, rfl, trivial⟩
                · have H := of_if_f hb H
                  refine c_exit ?_
                  refine x_qs_exit ?_
                  refine x_ql_exit ?_
                  refine x_qb_here ?_
                  refine x_qs ?_
                  refine c_seq ?_
                  refine c_reg ?_
                  refine ow_batch [.p] rfl ?_
                  refine ow_nil ?_
                  refine x_qs ?_
                  refine c_ret ?_
                  exact x_retR (rs := [.tmp 4]) (vs := [.bool true]) rfl ⟨rfl, trivial⟩ (fun w' hw' => by
                      obtain rfl := of_some H
                      exact ⟨rfl, hw'.ext⟩)
          · generalize (decide (y65 > 9999)) = t68 at key ⊢
            cases t68
            · refine ow_batch [.fa 43 1 1 fa43_1] rfl ?_
              refine ow_r rfl (dstOk_lt rfl) (ry_box1 (off := 1) rfl rfl ty41 (boxIn (i := 0) rfl) rfl) ?_
              refine ow_batch [.lenS 41 129 sl41, .p] rfl ?_
              refine ow_r rfl (dstOk_lt rfl) (ry_min rfl rfl rfl) ?_
              refine ow_batch [.p] rfl ?_
              refine ow_batch [.p] rfl ?_
              exact OW.sub key ⟨rfl, rfl, rfl, trivial⟩
            · refine ow_batch [.p, .p, .p, .p, .p, .p, .p] rfl ?_
              exact OW.sub key ⟨rfl, rfl, rfl, trivial⟩
  · generalize (!y19) = t22 at key ⊢
    cases t22
    · refine ow_batch [.fa 43 0 0 fa43_0] rfl ?_
      refine ow_r rfl (dstOk_lt rfl) (ry_box1 (off := 0) rfl rfl ty27 (boxIn (i := 0) rfl) rfl) ?_
      refine ow_batch [.lenS 27 22 sl27, .p, .p] rfl ?_
      refine ow_batch [.p] rfl ?_
      exact OW.sub key ⟨rfl, rfl, rfl, trivial⟩
    · refine ow_batch [.p, .p, .p, .p, .p, .p] rfl ?_
      exact OW.sub key ⟨rfl, rfl, rfl, trivial⟩

set_option maxHeartbeats 4000000 in
set_option maxRecDepth 100000 in
theorem impl_Count_ok (w : World) {p0 : Int} {p1 : Timpl_Score} {cs1 : List Value} {r : Int} (H : impl_Count p0 p1 = some r)  (g1 : (eTimpl_Score).rd w [] p1 cs1) :
    Calls Tryd.prog 60 #[.int .i64 p0, .agg cs1.toArray] w (fun en w' => en = .returned (.int .i64 r) ∧ Ext [] w w') := by
  obtain ⟨c10, c11, rfl, g12, g13⟩ := rdo_Timpl_Score g1
  obtain ⟨a14, c15, rfl⟩ := rd_sl1 g12
  obtain ⟨a16, c17, rfl⟩ := rd_sl1 g13
  unfold impl_Count at H
  refine f_enter (vs := [.int .i64 p0, .agg #[.slice a14 p1.Table_.length c15, .slice a16 p1.Last_.length c17]]) Tryd.func60 rfl Tryd.ntmps60 rfl (St.init w []) ?_
  refine c_seq ?_
  refine c_reg ?_
  refine ow_box (cs := [.slice a14 p1.Table_.length c15, .slice a16 p1.Last_.length c17]) rfl rfl rfl rfl rfl rfl (fun _ => kp) (fun b18 => ?_)
  refine ow_batch [.p] rfl ?_
  refine ow_nil ?_
  refine x_qs ?_
  refine c_seq ?_
  refine c_seq ?_
  refine c_reg ?_
  refine ow_batch [.p] rfl ?_
  refine ow_r rfl (dstOk_lt rfl) (ry_box (off := 0) (ds := [.slice a14 p1.Table_.length c15, .slice a16 p1.Last_.length c17]) rfl rfl ty43 (boxIn (i := 0) rfl) rfl rfl) ?_
  obtain ⟨y19, h20, H⟩ := of_bind H
  refine ow_q rfl rfl (dstOk_lt rfl) (qy_call rfl fn57 rfl (fun w1 hw1 => impl_ScoreOk_ok w1 (cs1 := [.slice a14 p1.Table_.length c15, .slice a16 p1.Last_.length c17]) h20 (rdm_Timpl_Score (x := p1) (c0 := [.slice a14 p1.Table_.length c15]) (c1 := [.slice a16 p1.Last_.length c17]) (rds_bor g12 w1 hw1) (rds_bor g13 w1 hw1)))) (fun _ _ => trivial) ?_
  refine ow_batch [.p] rfl ?_
  refine ow_nil ?_
  refine x_qs ?_
  refine c_if rfl (fun hb => ?_) (fun hb => ?_)
  · have H := of_if_t hb H
    refine c_seq ?_
    refine c_reg ?_
    refine ow_batch [.p] rfl ?_
    refine ow_nil ?_
    refine x_qs ?_
    refine c_ret ?_
    refine x_qs_ret ?_
    exact x_retR (rs := [.tmp 4]) (vs := [.int .i64 0]) rfl ⟨rfl, trivial⟩ (fun w' hw' => by
        obtain rfl := of_some H
        exact ⟨rfl, hw'.ext⟩)
  · have H := of_if_f hb H
    refine c_skip ?_
    refine x_qs ?_
    refine c_seq ?_
    refine c_reg ?_
    refine ow_batch [.fa 43 0 0 fa43_0] rfl ?_
    refine ow_r rfl (dstOk_lt rfl) (ry_box1 (off := 0) rfl rfl ty27 (boxIn (i := 0) rfl) rfl) ?_
    obtain ⟨y21, h22, H⟩ := of_bind H
    refine ow_q rfl rfl (dstOk_lt rfl) (qy_call rfl fn104 rfl (fun w1 hw1 => impl_tableSum_ok w1  h22 (rds_bor g12 w1 hw1))) (fun _ _ => trivial) ?_
    refine ow_batch [.p] rfl ?_
    refine ow_nil ?_
    refine x_qs ?_
    refine c_ret ?_
    exact x_retR (rs := [.tmp 4]) (vs := [.int .i64 y21]) rfl ⟨rfl, trivial⟩ (fun w' hw' => by
        obtain rfl := of_some H
        exact ⟨rfl, hw'.ext⟩)

set_option maxHeartbeats 4000000 in
set_option maxRecDepth 100000 in
theorem impl_Right_ok (w : World) {p0 : Int} {p1 : Timpl_Score} {cs1 : List Value} {r : Int} (H : impl_Right p0 p1 = some r)  (g1 : (eTimpl_Score).rd w [] p1 cs1) :
    Calls Tryd.prog 61 #[.int .i64 p0, .agg cs1.toArray] w (fun en w' => en = .returned (.int .i64 r) ∧ Ext [] w w') := by
  obtain ⟨c10, c11, rfl, g12, g13⟩ := rdo_Timpl_Score g1
  obtain ⟨a14, c15, rfl⟩ := rd_sl1 g12
  obtain ⟨a16, c17, rfl⟩ := rd_sl1 g13
  unfold impl_Right at H
  refine f_enter (vs := [.int .i64 p0, .agg #[.slice a14 p1.Table_.length c15, .slice a16 p1.Last_.length c17]]) Tryd.func61 rfl Tryd.ntmps61 rfl (St.init w []) ?_
  refine c_seq ?_
  refine c_reg ?_
  refine ow_box (cs := [.slice a14 p1.Table_.length c15, .slice a16 p1.Last_.length c17]) rfl rfl rfl rfl rfl rfl (fun _ => kp) (fun b18 => ?_)
  refine ow_batch [.p] rfl ?_
  refine ow_nil ?_
  refine x_qs ?_
  refine c_seq ?_
  refine c_seq ?_
  refine c_reg ?_
  refine ow_batch [.p] rfl ?_
  refine ow_r rfl (dstOk_lt rfl) (ry_box (off := 0) (ds := [.slice a14 p1.Table_.length c15, .slice a16 p1.Last_.length c17]) rfl rfl ty43 (boxIn (i := 0) rfl) rfl rfl) ?_
  obtain ⟨y19, h20, H⟩ := of_bind H
  refine ow_q rfl rfl (dstOk_lt rfl) (qy_call rfl fn57 rfl (fun w1 hw1 => impl_ScoreOk_ok w1 (cs1 := [.slice a14 p1.Table_.length c15, .slice a16 p1.Last_.length c17]) h20 (rdm_Timpl_Score (x := p1) (c0 := [.slice a14 p1.Table_.length c15]) (c1 := [.slice a16 p1.Last_.length c17]) (rds_bor g12 w1 hw1) (rds_bor g13 w1 hw1)))) (fun _ _ => trivial) ?_
  refine ow_batch [.p] rfl ?_
  refine ow_nil ?_
  refine x_qs ?_
  refine c_if rfl (fun hb => ?_) (fun hb => ?_)
  · have H := of_if_t hb H
    refine c_seq ?_
    refine c_reg ?_
    refine ow_batch [.p] rfl ?_
    refine ow_nil ?_
    refine x_qs ?_
    refine c_ret ?_
    refine x_qs_ret ?_
    exact x_retR (rs := [.tmp 4]) (vs := [.int .i64 0]) rfl ⟨rfl, trivial⟩ (fun w' hw' => by
        obtain rfl := of_some H
        exact ⟨rfl, hw'.ext⟩)
  · have H := of_if_f hb H
    refine c_skip ?_
    refine x_qs ?_
    refine c_seq ?_
    refine c_reg ?_
    refine ow_batch [.p] rfl ?_
    refine ow_nil ?_
    refine x_qs ?_
    refine c_seq ?_
    refine c_seq ?_
    refine c_reg ?_
    refine ow_batch [.p, .p] rfl ?_
    refine ow_nil ?_
    refine x_qs ?_
    refine c_block ?_
    refine CW.at (loopI2 (fun (i34 : Int) (i35 : Int) => St w [] [Res.box b18 43 [.slice a14 p1.Table_.length c15, .slice a16 p1.Last_.length c17]]) (fun (i34 : Int) (i35 : Int) => [(3, .pointer (some ⟨b18, 0, none⟩)), (5, .int .i64 i35), (11, .int .i64 p0), (12, .int .i64 i34)]) (fun kk => fun (i34 : Int) (i35 : Int) => impl_Right_L1 p0 p1 kk i34 i35 = some r) (fun _ _ H => ?_) (fun k1 ihk1 i34 i35 H => ?_) Fuel (0) (0) (H)) (fun _ h => St.sel [0] rfl rfl h) ⟨rfl, rfl, rfl, rfl,  trivial⟩
    · unfold impl_Right_L1 at H
      exact absurd H (by simp)
    · unfold impl_Right_L1 at H
      refine c_seq ?_
      refine c_reg ?_
      refine ow_batch [.p] rfl ?_
      refine ow_nil ?_
      refine x_qs ?_
      refine c_seq ?_
      refine c_if rfl (fun hb => ?_) (fun hb => ?_)
      · have H := of_if_t hb H
        refine c_skip ?_
        refine x_qs ?_
        refine c_seq ?_
        refine c_block ?_
        refine c_seq ?_
        refine c_reg ?_
        refine ow_batch [.p, .p] rfl ?_
        refine ow_nil ?_
        refine x_qs ?_
        refine c_reg ?_
        refine ow_batch [.p, .fa 43 0 0 fa43_0] rfl ?_
        refine ow_r rfl (dstOk_lt rfl) (ry_box1 (off := 0) rfl rfl ty27 (boxIn (i := 0) rfl) rfl) ?_
        refine ow_batch [.p] rfl ?_
        obtain ⟨e48, h49, H⟩ := of_bind H
        refine ow_ixB rfl rfl rfl rfl rfl sl27 ty22 rfl g12 h49 (fun q52 c53 hd50 hA51 => ?_)
        obtain ⟨a54, c55, rfl⟩ := rd_sl1 hd50
        refine ow_r rfl (dstOk_lt rfl) (ry_load1 rfl rfl ty22 (at_bor bor hA51)) ?_
        refine ow_batch [.p] rfl ?_
        obtain ⟨e56, h57, H⟩ := of_bind H
        refine ow_ixE (e := eVal (Value.int .i64) (fun _ => rfl)) (xs := e48) (j := i34) rfl rfl rfl rfl rfl sl22 ty3 rfl (fun w1 hw1 => rds_bor hd50 w1 hw1) h57 (by rw [Nat.mul_one]) ?_
        refine ow_r rfl (dstOk_lt rfl) (ry_load1 rfl rfl ty3 (at_elV (fun w1 hw1 => rds_bor hd50 w1 hw1) h57)) ?_
        refine ow_batch [.p, .p] rfl ?_
        refine ow_nil ?_
        refine x_qb ?_
        refine x_qs ?_
        refine c_reg ?_
        refine ow_batch [.p, .p] rfl ?_
        refine ow_nil ?_
        exact x_ql (RW.at (ihk1 (IntKind.i64.wrap (i34 + 1)) (IntKind.i64.wrap (i35 + e56)) (H)) (fun _ h => St.sel [0] rfl rfl h) ⟨rfl, rfl, rfl, rfl, trivial⟩)
      · have H := of_if_f hb H
        refine c_exit ?_
        refine x_qs_exit ?_
        refine x_ql_exit ?_
        refine x_qb_here ?_
        refine x_qs ?_
        refine c_seq ?_
        refine c_reg ?_
        refine ow_batch [.p, .p] rfl ?_
        refine ow_nil ?_
        refine x_qs ?_
        refine c_ret ?_
        exact x_retR (rs := [.tmp 4]) (vs := [.int .i64 i35]) rfl ⟨rfl, trivial⟩ (fun w' hw' => by
            obtain rfl := of_some H
            exact ⟨rfl, hw'.ext⟩)

set_option maxHeartbeats 4000000 in
set_option maxRecDepth 100000 in
theorem impl_Kappa_ok (w : World) {p0 : Int} {p1 : Timpl_Score} {cs1 : List Value} {r : Int × Int} (H : impl_Kappa p0 p1 = some r)  (g1 : (eTimpl_Score).rd w [] p1 cs1) :
    Calls Tryd.prog 58 #[.int .i64 p0, .agg cs1.toArray] w (fun en w' => en = .returned (.tuple #[.int .i64 r.1, .int .i64 r.2]) ∧ Ext [] w w') := by
  obtain ⟨c10, c11, rfl, g12, g13⟩ := rdo_Timpl_Score g1
  obtain ⟨a14, c15, rfl⟩ := rd_sl1 g12
  obtain ⟨a16, c17, rfl⟩ := rd_sl1 g13
  unfold impl_Kappa at H
  refine f_enter (vs := [.int .i64 p0, .agg #[.slice a14 p1.Table_.length c15, .slice a16 p1.Last_.length c17]]) Tryd.func58 rfl Tryd.ntmps58 rfl (St.init w []) ?_
  refine c_seq ?_
  refine c_reg ?_
  refine ow_box (cs := [.slice a14 p1.Table_.length c15, .slice a16 p1.Last_.length c17]) rfl rfl rfl rfl rfl rfl (fun _ => kp) (fun b18 => ?_)
  refine ow_batch [.p, .p] rfl ?_
  refine ow_nil ?_
  refine x_qs ?_
  refine c_seq ?_
  refine c_seq ?_
  refine c_reg ?_
  refine ow_batch [.p] rfl ?_
  refine ow_r rfl (dstOk_lt rfl) (ry_box (off := 0) (ds := [.slice a14 p1.Table_.length c15, .slice a16 p1.Last_.length c17]) rfl rfl ty43 (boxIn (i := 0) rfl) rfl rfl) ?_
  obtain ⟨y19, h20, H⟩ := of_bind H
  refine ow_q rfl rfl (dstOk_lt rfl) (qy_call rfl fn57 rfl (fun w1 hw1 => impl_ScoreOk_ok w1 (cs1 := [.slice a14 p1.Table_.length c15, .slice a16 p1.Last_.length c17]) h20 (rdm_Timpl_Score (x := p1) (c0 := [.slice a14 p1.Table_.length c15]) (c1 := [.slice a16 p1.Last_.length c17]) (rds_bor g12 w1 hw1) (rds_bor g13 w1 hw1)))) (fun _ _ => trivial) ?_
  refine ow_batch [.p] rfl ?_
  refine ow_nil ?_
  refine x_qs ?_
  refine c_if rfl (fun hb => ?_) (fun hb => ?_)
  · have H := of_if_t hb H
    refine c_seq ?_
    refine c_reg ?_
    refine ow_batch [.p, .p] rfl ?_
    refine ow_nil ?_
    refine x_qs ?_
    refine c_ret ?_
    refine x_qs_ret ?_
    exact x_retR (rs := [.tmp 4, .tmp 5]) (vs := [.int .i64 0, .int .i64 0]) rfl ⟨rfl, rfl, trivial⟩ (fun w' hw' => by
        obtain rfl := of_some H
        exact ⟨rfl, hw'.ext⟩)
  · have H := of_if_f hb H
    refine c_skip ?_
    refine x_qs ?_
    refine c_seq ?_
    refine c_reg ?_
    refine ow_batch [.p] rfl ?_
    refine ow_nil ?_
    refine x_qs ?_
    refine c_seq ?_
    refine c_seq ?_
    refine c_reg ?_
    refine ow_batch [.p, .p] rfl ?_
    refine ow_nil ?_
    refine x_qs ?_
    refine c_block ?_
    refine CW.at (loopI2 (fun (i70 : Int) (i71 : Int) => St w [] [Res.box b18 43 [.slice a14 p1.Table_.length c15, .slice a16 p1.Last_.length c17]]) (fun (i70 : Int) (i71 : Int) => [(0, .int .i64 p0), (3, .pointer (some ⟨b18, 0, none⟩)), (6, .int .i64 i71), (16, .int .i64 p0), (17, .int .i64 i70)]) (fun kk => fun (i70 : Int) (i71 : Int) => impl_Kappa_L1 p0 p1 kk i70 i71 = some r) (fun _ _ H => ?_) (fun k1 ihk1 i70 i71 H => ?_) Fuel (0) (0) (H)) (fun _ h => St.sel [0] rfl rfl h) ⟨rfl, rfl, rfl, rfl, rfl,  trivial⟩
    · unfold impl_Kappa_L1 at H
      exact absurd H (by simp)
    · unfold impl_Kappa_L1 at H
      refine c_seq ?_
      refine c_reg ?_
      refine ow_batch [.p] rfl ?_
      refine ow_nil ?_
      refine x_qs ?_
      refine c_seq ?_
      refine c_if rfl (fun hb => ?_) (fun hb => ?_)
      · have H := of_if_t hb H
        refine c_skip ?_
        refine x_qs ?_
        refine c_seq ?_
        refine c_block ?_
        refine c_seq ?_
        refine c_reg ?_
        refine ow_batch [.p, .p] rfl ?_
        refine ow_nil ?_
        refine x_qs ?_
        refine c_seq ?_
        refine c_reg ?_
        refine ow_batch [.p] rfl ?_
        refine ow_nil ?_
        refine x_qs ?_
        refine c_seq ?_
        refine c_seq ?_
        refine c_reg ?_
        refine ow_batch [.fa 43 0 0 fa43_0] rfl ?_
        refine ow_r rfl (dstOk_lt rfl) (ry_box1 (off := 0) rfl rfl ty27 (boxIn (i := 0) rfl) rfl) ?_
        refine ow_batch [.lenS 27 22 sl27, .p] rfl ?_
        refine ow_nil ?_
        refine x_qs ?_
        refine c_block ?_
        refine CW.at (loopI2 (fun (i132 : Int) (i133 : Int) => St w [] [Res.box b18 43 [.slice a14 p1.Table_.length c15, .slice a16 p1.Last_.length c17]]) (fun (i132 : Int) (i133 : Int) => [(0, .int .i64 p0), (3, .pointer (some ⟨b18, 0, none⟩)), (6, .int .i64 i71), (7, .int .i64 i70), (8, .int .i64 i133), (16, .int .i64 p0), (17, .int .i64 i70), (21, .slice a14 p1.Table_.length c15), (22, .int .i64 (p1.Table_.length : Int)), (23, .int .i64 i132)]) (fun kk => fun (i132 : Int) (i133 : Int) => impl_Kappa_L2 p1 i70 (impl_Kappa_L1 p0 p1 k1) i71 kk i132 i133 = some r) (fun _ _ H => ?_) (fun k2 ihk2 i132 i133 H => ?_) Fuel (0) (0) (H)) (fun _ h => St.sel [0] rfl rfl h) ⟨rfl, rfl, rfl, rfl, rfl, rfl, rfl, rfl, rfl, rfl,  trivial⟩
        · unfold impl_Kappa_L2 at H
          exact absurd H (by simp)
        · unfold impl_Kappa_L2 at H
          refine c_seq ?_
          refine c_reg ?_
          refine ow_batch [.p] rfl ?_
          refine ow_nil ?_
          refine x_qs ?_
          refine c_seq ?_
          refine c_if rfl (fun hb => ?_) (fun hb => ?_)
          · have H := of_if_t hb H
            refine c_skip ?_
            refine x_qs ?_
            refine c_seq ?_
            refine c_block ?_
            refine c_seq ?_
            refine c_reg ?_
            obtain ⟨e146, h147, H⟩ := of_bind H
            refine ow_ixB rfl rfl rfl rfl rfl sl27 ty22 rfl g12 h147 (fun q150 c151 hd148 hA149 => ?_)
            obtain ⟨a152, c153, rfl⟩ := rd_sl1 hd148
            refine ow_r rfl (dstOk_lt rfl) (ry_load1 rfl rfl ty22 (at_bor bor hA149)) ?_
            refine ow_batch [.p] rfl ?_
            refine ow_nil ?_
            refine x_qs ?_
            refine c_reg ?_
            refine ow_batch [.p, .p, .p] rfl ?_
            obtain ⟨e154, h155, H⟩ := of_bind H
            refine ow_ixE (e := eVal (Value.int .i64) (fun _ => rfl)) (xs := e146) (j := i70) rfl rfl rfl rfl rfl sl22 ty3 rfl (fun w1 hw1 => rds_bor hd148 w1 hw1) h155 (by rw [Nat.mul_one]) ?_
            refine ow_r rfl (dstOk_lt rfl) (ry_load1 rfl rfl ty3 (at_elV (fun w1 hw1 => rds_bor hd148 w1 hw1) h155)) ?_
            refine ow_batch [.p, .p] rfl ?_
            refine ow_nil ?_
            refine x_qb ?_
            refine x_qs ?_
            refine c_reg ?_
            refine ow_batch [.p, .p] rfl ?_
            refine ow_nil ?_
            exact x_ql (RW.at (ihk2 (IntKind.i64.wrap (i132 + 1)) (IntKind.i64.wrap (i133 + e154)) (H)) (fun _ h => St.sel [0] rfl rfl h) ⟨rfl, rfl, rfl, rfl, rfl, rfl, rfl, rfl, rfl, rfl, trivial⟩)
          · have H := of_if_f hb H
            refine c_exit ?_
            refine x_qs_exit ?_
            refine x_ql_exit ?_
            refine x_qb_here ?_
            refine x_qs ?_
            refine c_reg ?_
            refine ow_batch [.p, .fa 43 0 0 fa43_0] rfl ?_
            refine ow_r rfl (dstOk_lt rfl) (ry_box1 (off := 0) rfl rfl ty27 (boxIn (i := 0) rfl) rfl) ?_
            refine ow_batch [.p] rfl ?_
            obtain ⟨e156, h157, H⟩ := of_bind H
            refine ow_ixB rfl rfl rfl rfl rfl sl27 ty22 rfl g12 h157 (fun q160 c161 hd158 hA159 => ?_)
            obtain ⟨a162, c163, rfl⟩ := rd_sl1 hd158
            refine ow_r rfl (dstOk_lt rfl) (ry_load1 rfl rfl ty22 (at_bor bor hA159)) ?_
            obtain ⟨y164, h165, H⟩ := of_bind H
            refine ow_q rfl rfl (dstOk_lt rfl) (qy_call rfl fn105 rfl (fun w1 hw1 => impl_total_ok w1  h165 (rds_bor hd158 w1 hw1))) (fun _ _ => trivial) ?_
            refine ow_batch [.p, .p, .p, .p] rfl ?_
            refine ow_nil ?_
            refine x_qb ?_
            refine x_qs ?_
            refine c_reg ?_
            refine ow_batch [.p, .p] rfl ?_
            refine ow_nil ?_
            exact x_ql (RW.at (ihk1 (IntKind.i64.wrap (i70 + 1)) (IntKind.i64.wrap (i71 + (IntKind.i64.wrap (y164 * i133)))) (H)) (fun _ h => St.sel [0] rfl rfl h) ⟨rfl, rfl, rfl, rfl, rfl, trivial⟩)
      · have H := of_if_f hb H
        refine c_exit ?_
        refine x_qs_exit ?_
        refine x_ql_exit ?_
        refine x_qb_here ?_
        refine x_qs ?_
        refine c_seq ?_
        refine c_reg ?_
        refine ow_batch [.p] rfl ?_
        refine ow_r rfl (dstOk_lt rfl) (ry_box (off := 0) (ds := [.slice a14 p1.Table_.length c15, .slice a16 p1.Last_.length c17]) rfl rfl ty43 (boxIn (i := 0) rfl) rfl rfl) ?_
        obtain ⟨y166, h167, H⟩ := of_bind H
        refine ow_q rfl rfl (dstOk_lt rfl) (qy_call rfl fn60 rfl (fun w1 hw1 => impl_Count_ok w1 (cs1 := [.slice a14 p1.Table_.length c15, .slice a16 p1.Last_.length c17]) h167 (rdm_Timpl_Score (x := p1) (c0 := [.slice a14 p1.Table_.length c15]) (c1 := [.slice a16 p1.Last_.length c17]) (rds_bor g12 w1 hw1) (rds_bor g13 w1 hw1)))) (fun _ _ => trivial) ?_
        refine ow_batch [.p] rfl ?_
        refine ow_nil ?_
        refine x_qs ?_
        refine c_seq ?_
        refine c_reg ?_
        refine ow_batch [.p, .p] rfl ?_
        refine ow_r rfl (dstOk_lt rfl) (ry_box (off := 0) (ds := [.slice a14 p1.Table_.length c15, .slice a16 p1.Last_.length c17]) rfl rfl ty43 (boxIn (i := 0) rfl) rfl rfl) ?_
        obtain ⟨y168, h169, H⟩ := of_bind H
        refine ow_q rfl rfl (dstOk_lt rfl) (qy_call rfl fn61 rfl (fun w1 hw1 => impl_Right_ok w1 (cs1 := [.slice a14 p1.Table_.length c15, .slice a16 p1.Last_.length c17]) h169 (rdm_Timpl_Score (x := p1) (c0 := [.slice a14 p1.Table_.length c15]) (c1 := [.slice a16 p1.Last_.length c17]) (rds_bor g12 w1 hw1) (rds_bor g13 w1 hw1)))) (fun _ _ => trivial) ?_
        refine ow_batch [.p, .p, .p, .p, .p, .p, .p, .p, .p, .p] rfl ?_
        refine ow_nil ?_
        refine x_qs ?_
        refine c_ret ?_
        exact x_retR (rs := [.tmp 4, .tmp 5]) (vs := [.int .i64 (IntKind.i64.wrap ((IntKind.i64.wrap (y166 * y168)) - i71)), .int .i64 (IntKind.i64.wrap ((IntKind.i64.wrap (y166 * y166)) - i71))]) rfl ⟨rfl, rfl, trivial⟩ (fun w' hw' => by
            obtain rfl := of_some H
            exact ⟨rfl, hw'.ext⟩)

set_option maxHeartbeats 4000000 in
set_option maxRecDepth 100000 in
theorem impl_LastRight_ok (w : World) {p0 : Int} {p1 : Timpl_Score} {cs1 : List Value} {r : Int} (H : impl_LastRight p0 p1 = some r)  (g1 : (eTimpl_Score).rd w [] p1 cs1) :
    Calls Tryd.prog 62 #[.int .i64 p0, .agg cs1.toArray] w (fun en w' => en = .returned (.int .i64 r) ∧ Ext [] w w') := by
  obtain ⟨c10, c11, rfl, g12, g13⟩ := rdo_Timpl_Score g1
  obtain ⟨a14, c15, rfl⟩ := rd_sl1 g12
  obtain ⟨a16, c17, rfl⟩ := rd_sl1 g13
  unfold impl_LastRight at H
  refine f_enter (vs := [.int .i64 p0, .agg #[.slice a14 p1.Table_.length c15, .slice a16 p1.Last_.length c17]]) Tryd.func62 rfl Tryd.ntmps62 rfl (St.init w []) ?_
  refine c_seq ?_
  refine c_reg ?_
  refine ow_box (cs := [.slice a14 p1.Table_.length c15, .slice a16 p1.Last_.length c17]) rfl rfl rfl rfl rfl rfl (fun _ => kp) (fun b18 => ?_)
  refine ow_batch [.p] rfl ?_
  refine ow_nil ?_
  refine x_qs ?_
  refine c_seq ?_
  refine c_seq ?_
  refine c_reg ?_
  refine ow_batch [.p] rfl ?_
  refine ow_r rfl (dstOk_lt rfl) (ry_box (off := 0) (ds := [.slice a14 p1.Table_.length c15, .slice a16 p1.Last_.length c17]) rfl rfl ty43 (boxIn (i := 0) rfl) rfl rfl) ?_
  obtain ⟨y19, h20, H⟩ := of_bind H
  refine ow_q rfl rfl (dstOk_lt rfl) (qy_call rfl fn57 rfl (fun w1 hw1 => impl_ScoreOk_ok w1 (cs1 := [.slice a14 p1.Table_.length c15, .slice a16 p1.Last_.length c17]) h20 (rdm_Timpl_Score (x := p1) (c0 := [.slice a14 p1.Table_.length c15]) (c1 := [.slice a16 p1.Last_.length c17]) (rds_bor g12 w1 hw1) (rds_bor g13 w1 hw1)))) (fun _ _ => trivial) ?_
  refine ow_batch [.p] rfl ?_
  refine ow_nil ?_
  refine x_qs ?_
  refine c_if rfl (fun hb => ?_) (fun hb => ?_)
  · have H := of_if_t hb H
    refine c_seq ?_
    refine c_reg ?_
    refine ow_batch [.p] rfl ?_
    refine ow_nil ?_
    refine x_qs ?_
    refine c_ret ?_
    refine x_qs_ret ?_
    exact x_retR (rs := [.tmp 4]) (vs := [.int .i64 0]) rfl ⟨rfl, trivial⟩ (fun w' hw' => by
        obtain rfl := of_some H
        exact ⟨rfl, hw'.ext⟩)
  · have H := of_if_f hb H
    refine c_skip ?_
    refine x_qs ?_
    refine c_seq ?_
    refine c_reg ?_
    refine ow_batch [.p] rfl ?_
    refine ow_nil ?_
    refine x_qs ?_
    refine c_seq ?_
    refine c_seq ?_
    refine c_reg ?_
    refine ow_batch [.fa 43 1 1 fa43_1] rfl ?_
    refine ow_r rfl (dstOk_lt rfl) (ry_box1 (off := 1) rfl rfl ty41 (boxIn (i := 0) rfl) rfl) ?_
    refine ow_batch [.lenS 41 129 sl41, .p] rfl ?_
    refine ow_nil ?_
    refine x_qs ?_
    refine c_block ?_
    refine CW.at (loopI2 (fun (i26 : Int) (i27 : Int) => St w [] []) (fun (i26 : Int) (i27 : Int) => [(5, .int .i64 i27), (13, .slice a16 p1.Last_.length c17), (14, .int .i64 (p1.Last_.length : Int)), (15, .int .i64 i26)]) (fun kk => fun (i26 : Int) (i27 : Int) => impl_LastRight_L1 p1 kk i26 i27 = some r) (fun _ _ H => ?_) (fun k1 ihk1 i26 i27 H => ?_) Fuel (0) (0) (H)) (fun _ h => St.sel [] rfl rfl h) ⟨rfl, rfl, rfl, rfl,  trivial⟩
    · unfold impl_LastRight_L1 at H
      exact absurd H (by simp)
    · unfold impl_LastRight_L1 at H
      refine c_seq ?_
      refine c_reg ?_
      refine ow_batch [.p] rfl ?_
      refine ow_nil ?_
      refine x_qs ?_
      refine c_seq ?_
      refine c_if rfl (fun hb => ?_) (fun hb => ?_)
      · have H := of_if_t hb H
        refine c_skip ?_
        refine x_qs ?_
        refine c_seq ?_
        refine c_block ?_
        refine c_seq ?_
        refine c_reg ?_
        obtain ⟨e34, h35, H⟩ := of_bind H
        refine ow_ixE (e := eTimpl_Pair) (xs := p1.Last_) (j := i26) rfl rfl rfl rfl rfl sl41 ty129 rfl (fun w1 hw1 => rds_bor g13 w1 hw1) h35 rfl ?_
        refine ow_r rfl (dstOk_lt rfl) (ry_load (cs := [.int .i64 e34.Truth_, .int .i64 e34.Said_]) rfl rfl ty129 (at_castA (at_eltE (fun w1 hw1 => rds_bor g13 w1 hw1) h35 (fun _ _ h => h)) rfl) rfl) ?_
        refine ow_alloc rfl rfl rfl rfl ty129 (fun _ => kp) (fun b36 => ?_)
        refine ow_storeC (off := 0) [.int .i64 e34.Truth_, .int .i64 e34.Said_] [_, _] (i := 0) rfl rfl rfl rfl rfl rfl ty129 rfl rfl (by intro u hu; simp only [List.mem_cons, List.not_mem_nil, or_false] at hu; rcases hu with rfl | rfl <;> rfl) rfl rfl rfl kp ?_
        refine ow_nil ?_
        refine x_qs ?_
        refine c_seq ?_
        refine c_reg ?_
        refine ow_batch [.fa 129 0 0 fa129_0] rfl ?_
        refine ow_r rfl (dstOk_lt rfl) (ry_box1 (off := 0) rfl rfl ty3 (boxIn (i := 0) rfl) rfl) ?_
        refine ow_batch [.fa 129 1 1 fa129_1] rfl ?_
        refine ow_r rfl (dstOk_lt rfl) (ry_box1 (off := 1) rfl rfl ty3 (boxIn (i := 0) rfl) rfl) ?_
        refine ow_batch [.p] rfl ?_
        refine ow_nil ?_
        refine x_qs ?_
        refine c_if rfl (fun hb => ?_) (fun hb => ?_)
        · have H := of_if_t hb H
          refine c_reg ?_
          refine ow_batch [.p, .p, .p] rfl ?_
          refine ow_nil ?_
          refine x_qb ?_
          refine x_qs ?_
          refine c_reg ?_
          refine ow_batch [.p, .p] rfl ?_
          refine ow_nil ?_
          exact x_ql (RW.at (ihk1 (IntKind.i64.wrap (i26 + 1)) (IntKind.i64.wrap (i27 + 1)) (H)) (fun _ h => St.sel [] rfl rfl h) ⟨rfl, rfl, rfl, rfl, trivial⟩)
        · have H := of_if_f hb H
          refine c_skip ?_
          refine x_qb ?_
          refine x_qs ?_
          refine c_reg ?_
          refine ow_batch [.p, .p] rfl ?_
          refine ow_nil ?_
          exact x_ql (RW.at (ihk1 (IntKind.i64.wrap (i26 + 1)) (i27) (H)) (fun _ h => St.sel [] rfl rfl h) ⟨rfl, rfl, rfl, rfl, trivial⟩)
      · have H := of_if_f hb H
        refine c_exit ?_
        refine x_qs_exit ?_
        refine x_ql_exit ?_
        refine x_qb_here ?_
        refine x_qs ?_
        refine c_seq ?_
        refine c_reg ?_
        refine ow_batch [.p, .p] rfl ?_
        refine ow_nil ?_
        refine x_qs ?_
        refine c_ret ?_
        exact x_retR (rs := [.tmp 4]) (vs := [.int .i64 i27]) rfl ⟨rfl, trivial⟩ (fun w' hw' => by
            obtain rfl := of_some H
            exact ⟨rfl, hw'.ext⟩)

set_option maxHeartbeats 4000000 in
set_option maxRecDepth 100000 in
theorem impl_ScoreText_ok (w : World) {p0 : Int} {p1 : Timpl_Score} {cs1 : List Value} {r : List UInt8} (H : impl_ScoreText p0 p1 = some r)  (g1 : (eTimpl_Score).rd w [] p1 cs1) (gT : (ePow10 Tryd.prog).rd w [] () []) :
    Calls Tryd.prog 20 #[.int .i64 p0, .agg cs1.toArray] w (fun en w' => en = .returned (vS r) ∧ Ext [] w w') := by
  obtain ⟨c10, c11, rfl, g12, g13⟩ := rdo_Timpl_Score g1
  obtain ⟨a14, c15, rfl⟩ := rd_sl1 g12
  obtain ⟨a16, c17, rfl⟩ := rd_sl1 g13
  unfold impl_ScoreText at H
  refine f_enter (vs := [.int .i64 p0, .agg #[.slice a14 p1.Table_.length c15, .slice a16 p1.Last_.length c17]]) Tryd.func20 rfl Tryd.ntmps20 rfl (St.init w []) ?_
  refine c_seq ?_
  refine c_reg ?_
  refine ow_box (cs := [.slice a14 p1.Table_.length c15, .slice a16 p1.Last_.length c17]) rfl rfl rfl rfl rfl rfl (fun _ => kp) (fun b18 => ?_)
  refine ow_batch [.p] rfl ?_
  refine ow_nil ?_
  refine x_qs ?_
  refine c_seq ?_
  refine c_seq ?_
  refine c_reg ?_
  refine ow_batch [.p] rfl ?_
  refine ow_r rfl (dstOk_lt rfl) (ry_box (off := 0) (ds := [.slice a14 p1.Table_.length c15, .slice a16 p1.Last_.length c17]) rfl rfl ty43 (boxIn (i := 0) rfl) rfl rfl) ?_
  obtain ⟨y19, h20, H⟩ := of_bind H
  refine ow_q rfl rfl (dstOk_lt rfl) (qy_call rfl fn57 rfl (fun w1 hw1 => impl_ScoreOk_ok w1 (cs1 := [.slice a14 p1.Table_.length c15, .slice a16 p1.Last_.length c17]) h20 (rdm_Timpl_Score (x := p1) (c0 := [.slice a14 p1.Table_.length c15]) (c1 := [.slice a16 p1.Last_.length c17]) (rds_bor g12 w1 hw1) (rds_bor g13 w1 hw1)))) (fun _ _ => trivial) ?_
  refine ow_batch [.p] rfl ?_
  refine ow_nil ?_
  refine x_qs ?_
  refine c_if rfl (fun hb => ?_) (fun hb => ?_)
  · have H := of_if_t hb H
    refine c_seq ?_
    refine c_reg ?_
    refine ow_batch [.p] rfl ?_
    refine ow_nil ?_
    refine x_qs ?_
    refine c_ret ?_
    refine x_qs_ret ?_
    exact x_retR (rs := [.tmp 4]) (vs := [vS ([] : List UInt8)]) rfl ⟨rfl, trivial⟩ (fun w' hw' => by
        obtain rfl := of_some H
        exact ⟨rfl, hw'.ext⟩)
  · have H := of_if_f hb H
    refine c_skip ?_
    refine x_qs ?_
    refine c_seq ?_
    refine c_reg ?_
    refine ow_batch [.p] rfl ?_
    refine ow_r rfl (dstOk_lt rfl) (ry_box (off := 0) (ds := [.slice a14 p1.Table_.length c15, .slice a16 p1.Last_.length c17]) rfl rfl ty43 (boxIn (i := 0) rfl) rfl rfl) ?_
    obtain ⟨y21, h22, H⟩ := of_bind H
    refine ow_q rfl rfl (dstOk_lt rfl) (qy_call rfl fn58 rfl (fun w1 hw1 => impl_Kappa_ok w1 (cs1 := [.slice a14 p1.Table_.length c15, .slice a16 p1.Last_.length c17]) h22 (rdm_Timpl_Score (x := p1) (c0 := [.slice a14 p1.Table_.length c15]) (c1 := [.slice a16 p1.Last_.length c17]) (rds_bor g12 w1 hw1) (rds_bor g13 w1 hw1)))) (fun _ _ => trivial) ?_
    refine ow_batch [.p, .p, .p, .p, .p] rfl ?_
    refine ow_nil ?_
    refine x_qs ?_
    refine c_seq ?_
    refine c_regT 18 mixed (by kernel_rfl) ?_
    refine ow_batch [.p] rfl ?_
    refine ow_r rfl (dstOk_lt rfl) (ry_box (off := 0) (ds := [.slice a14 p1.Table_.length c15, .slice a16 p1.Last_.length c17]) rfl rfl ty43 (boxIn (i := 0) rfl) rfl rfl) ?_
    obtain ⟨y23, h24, H⟩ := of_bind H
    refine ow_q rfl rfl (dstOk_lt rfl) (qy_call rfl fn60 rfl (fun w1 hw1 => impl_Count_ok w1 (cs1 := [.slice a14 p1.Table_.length c15, .slice a16 p1.Last_.length c17]) h24 (rdm_Timpl_Score (x := p1) (c0 := [.slice a14 p1.Table_.length c15]) (c1 := [.slice a16 p1.Last_.length c17]) (rds_bor g12 w1 hw1) (rds_bor g13 w1 hw1)))) (fun _ _ => trivial) ?_
    obtain ⟨y25, h26, H⟩ := of_bind H
    refine ow_q rfl rfl (dstOk_lt rfl) (qy_call rfl fn45 rfl (fun w1 hw1 => impl_Digits_ok w1  h26 (rds_bor gT w1 hw1))) (fun _ _ => trivial) ?_
    refine ow_batch [.p] rfl ?_
    refine ow_r rfl (dstOk_lt rfl) (ry_box (off := 0) (ds := [.slice a14 p1.Table_.length c15, .slice a16 p1.Last_.length c17]) rfl rfl ty43 (boxIn (i := 0) rfl) rfl rfl) ?_
    obtain ⟨y27, h28, H⟩ := of_bind H
    refine ow_q rfl rfl (dstOk_lt rfl) (qy_call rfl fn61 rfl (fun w1 hw1 => impl_Right_ok w1 (cs1 := [.slice a14 p1.Table_.length c15, .slice a16 p1.Last_.length c17]) h28 (rdm_Timpl_Score (x := p1) (c0 := [.slice a14 p1.Table_.length c15]) (c1 := [.slice a16 p1.Last_.length c17]) (rds_bor g12 w1 hw1) (rds_bor g13 w1 hw1)))) (fun _ _ => trivial) ?_
    obtain ⟨y29, h30, H⟩ := of_bind H
    refine ow_q rfl rfl (dstOk_lt rfl) (qy_call rfl fn45 rfl (fun w1 hw1 => impl_Digits_ok w1  h30 (rds_bor gT w1 hw1))) (fun _ _ => trivial) ?_
    refine ow_batch [.p] rfl ?_
    refine ow_r rfl (dstOk_lt rfl) (ry_box (off := 0) (ds := [.slice a14 p1.Table_.length c15, .slice a16 p1.Last_.length c17]) rfl rfl ty43 (boxIn (i := 0) rfl) rfl rfl) ?_
    obtain ⟨y31, h32, H⟩ := of_bind H
    refine ow_q rfl rfl (dstOk_lt rfl) (qy_call rfl fn62 rfl (fun w1 hw1 => impl_LastRight_ok w1 (cs1 := [.slice a14 p1.Table_.length c15, .slice a16 p1.Last_.length c17]) h32 (rdm_Timpl_Score (x := p1) (c0 := [.slice a14 p1.Table_.length c15]) (c1 := [.slice a16 p1.Last_.length c17]) (rds_bor g12 w1 hw1) (rds_bor g13 w1 hw1)))) (fun _ _ => trivial) ?_
    obtain ⟨y33, h34, H⟩ := of_bind H
    refine ow_q rfl rfl (dstOk_lt rfl) (qy_call rfl fn45 rfl (fun w1 hw1 => impl_Digits_ok w1  h34 (rds_bor gT w1 hw1))) (fun _ _ => trivial) ?_
    refine ow_batch [.p] rfl ?_
    obtain ⟨y35, h36, H⟩ := of_bind H
    refine ow_q rfl rfl (dstOk_lt rfl) (qy_call rfl fn45 rfl (fun w1 hw1 => impl_Digits_ok w1  h36 (rds_bor gT w1 hw1))) (fun _ _ => trivial) ?_
    obtain ⟨s37, h38, H⟩ := of_bind H
    refine ow_r rfl (dstOk_lt rfl) (ry_sadd rfl rfl rfl h38) ?_
    refine ow_batch [.p] rfl ?_
    obtain ⟨y39, h40, H⟩ := of_bind H
    refine ow_q rfl rfl (dstOk_lt rfl) (qy_call rfl fn45 rfl (fun w1 hw1 => impl_Digits_ok w1  h40 (rds_bor gT w1 hw1))) (fun _ _ => trivial) ?_
    obtain ⟨s41, h42, H⟩ := of_bind H
    refine ow_r rfl (dstOk_lt rfl) (ry_sadd rfl rfl rfl h42) ?_
    refine ow_nilQ ?_
    refine ow_blit (val := vS) (h1 := fun _ => rfl) [([99, 111, 117, 110, 116] : List UInt8), y25, ([114, 105, 103, 104, 116] : List UInt8), y29, ([108, 97, 115, 116] : List UInt8), y33, ([107, 97, 112, 112, 97] : List UInt8), s41] [(0, [vS ([99, 111, 117, 110, 116] : List UInt8)]), (1, [vS y25]), (2, [vS ([114, 105, 103, 104, 116] : List UInt8)]), (3, [vS y29]), (4, [vS ([108, 97, 115, 116] : List UInt8)]), (5, [vS y33]), (6, [vS ([107, 97, 112, 112, 97] : List UInt8)]), (7, [vS s41])] rfl rfl rfl rfl rfl sl48 ty9 rfl rfl rfl ⟨rfl, rfl, Nat.le_of_ble_eq_true rfl, rfl, rfl, Nat.le_of_ble_eq_true rfl, rfl, rfl, Nat.le_of_ble_eq_true rfl, rfl, rfl, Nat.le_of_ble_eq_true rfl, rfl, rfl, Nat.le_of_ble_eq_true rfl, rfl, rfl, Nat.le_of_ble_eq_true rfl, rfl, rfl, Nat.le_of_ble_eq_true rfl, rfl, rfl, Nat.le_of_ble_eq_true rfl,  trivial⟩ rfl rfl (fun _ => kp) (fun b43 => ?_)
    obtain ⟨s44, h45, H⟩ := of_bind H
    refine ow_q rfl rfl (dstOk_lt rfl) (qy_call rfl fn59 rfl (fun w1 hw1 => join_ok (T := 9) Tryd.lays156 Tryd.Builder_Extra_156 w1 h45 (rds_own (e := eList (eStr) 9) (r := 1) rfl w1 hw1))) (fun _ _ => trivial) ?_
    refine ow_batch [.p] rfl ?_
    refine ow_nil ?_
    refine x_qs ?_
    refine c_ret ?_
    exact x_retR (rs := [.tmp 4]) (vs := [vS s44]) rfl ⟨rfl, trivial⟩ (fun w' hw' => by
        obtain rfl := of_some H
        exact ⟨rfl, hw'.ext⟩)

set_option maxHeartbeats 4000000 in
set_option maxRecDepth 100000 in
theorem laws_eqPair_ok (w : World) {p0 : Timpl_Pair} {p1 : Timpl_Pair}  {r : Bool} (H : laws_eqPair p0 p1 = some r)   :
    Calls Tryd.prog 109 #[.agg #[.int .i64 p0.Truth_, .int .i64 p0.Said_], .agg #[.int .i64 p1.Truth_, .int .i64 p1.Said_]] w (fun en w' => en = .returned (.bool r) ∧ Ext [] w w') := by
  unfold laws_eqPair at H
  refine f_enter (vs := [.agg #[.int .i64 p0.Truth_, .int .i64 p0.Said_], .agg #[.int .i64 p1.Truth_, .int .i64 p1.Said_]]) Tryd.func109 rfl Tryd.ntmps109 rfl (St.init w []) ?_
  refine c_seq ?_
  refine c_reg ?_
  refine ow_box (cs := [.int .i64 p0.Truth_, .int .i64 p0.Said_]) rfl rfl rfl rfl rfl rfl (fun _ => kp) (fun b10 => ?_)
  refine ow_box (cs := [.int .i64 p1.Truth_, .int .i64 p1.Said_]) rfl rfl rfl rfl rfl rfl (fun _ => kp) (fun b11 => ?_)
  refine ow_batch [.p] rfl ?_
  refine ow_nil ?_
  refine x_qs ?_
  refine c_seq ?_
  refine c_seq ?_
  refine c_reg ?_
  refine ow_batch [.fa 129 0 0 fa129_0] rfl ?_
  refine ow_r rfl (dstOk_lt rfl) (ry_box1 (off := 0) rfl rfl ty3 (boxIn (i := 0) rfl) rfl) ?_
  refine ow_batch [.fa 129 0 0 fa129_0] rfl ?_
  refine ow_r rfl (dstOk_lt rfl) (ry_box1 (off := 0) rfl rfl ty3 (boxIn (i := 1) rfl) rfl) ?_
  refine ow_batch [.p] rfl ?_
  refine ow_nil ?_
  refine x_qs ?_
  refine c_if rfl (fun hb => ?_) (fun hb => ?_)
  · have H := of_if_t hb H
    refine c_seq ?_
    refine c_reg ?_
    refine ow_batch [.p] rfl ?_
    refine ow_nil ?_
    refine x_qs ?_
    refine c_ret ?_
    refine x_qs_ret ?_
    exact x_retR (rs := [.tmp 4]) (vs := [.bool false]) rfl ⟨rfl, trivial⟩ (fun w' hw' => by
        obtain rfl := of_some H
        exact ⟨rfl, hw'.ext⟩)
  · have H := of_if_f hb H
    refine c_skip ?_
    refine x_qs ?_
    refine c_seq ?_
    refine c_seq ?_
    refine c_reg ?_
    refine ow_batch [.fa 129 1 1 fa129_1] rfl ?_
    refine ow_r rfl (dstOk_lt rfl) (ry_box1 (off := 1) rfl rfl ty3 (boxIn (i := 0) rfl) rfl) ?_
    refine ow_batch [.fa 129 1 1 fa129_1] rfl ?_
    refine ow_r rfl (dstOk_lt rfl) (ry_box1 (off := 1) rfl rfl ty3 (boxIn (i := 1) rfl) rfl) ?_
    refine ow_batch [.p] rfl ?_
    refine ow_nil ?_
    refine x_qs ?_
    refine c_if rfl (fun hb => ?_) (fun hb => ?_)
    · have H := of_if_t hb H
      refine c_seq ?_
      refine c_reg ?_
      refine ow_batch [.p] rfl ?_
      refine ow_nil ?_
      refine x_qs ?_
      refine c_ret ?_
      refine x_qs_ret ?_
      exact x_retR (rs := [.tmp 4]) (vs := [.bool false]) rfl ⟨rfl, trivial⟩ (fun w' hw' => by
          obtain rfl := of_some H
          exact ⟨rfl, hw'.ext⟩)
    · have H := of_if_f hb H
      refine c_skip ?_
      refine x_qs ?_
      refine c_seq ?_
      refine c_reg ?_
      refine ow_batch [.p] rfl ?_
      refine ow_nil ?_
      refine x_qs ?_
      refine c_ret ?_
      exact x_retR (rs := [.tmp 4]) (vs := [.bool true]) rfl ⟨rfl, trivial⟩ (fun w' hw' => by
          obtain rfl := of_some H
          exact ⟨rfl, hw'.ext⟩)

set_option maxHeartbeats 4000000 in
set_option maxRecDepth 100000 in
theorem laws_eqPairS_ok (w : World) {p0 : List Timpl_Pair} {p1 : List Timpl_Pair} {a_0 : Option Addr} {n_0 c_0 : Nat} {a_1 : Option Addr} {n_1 c_1 : Nat} {r : Bool} (H : laws_eqPairS p0 p1 = some r)  (g0 : (eList (eTimpl_Pair) 129).rd w [] p0 [.slice a_0 n_0 c_0]) (g1 : (eList (eTimpl_Pair) 129).rd w [] p1 [.slice a_1 n_1 c_1]) :
    Calls Tryd.prog 63 #[.slice a_0 n_0 c_0, .slice a_1 n_1 c_1] w (fun en w' => en = .returned (.bool r) ∧ Ext [] w w') := by
  obtain rfl := rd_n g0
  obtain rfl := rd_n g1
  unfold laws_eqPairS at H
  refine f_enter (vs := [.slice a_0 p0.length c_0, .slice a_1 p1.length c_1]) Tryd.func63 rfl Tryd.ntmps63 rfl (St.init w []) ?_
  refine c_seq ?_
  refine c_reg ?_
  refine ow_batch [.p] rfl ?_
  refine ow_nil ?_
  refine x_qs ?_
  refine c_seq ?_
  refine c_seq ?_
  refine c_reg ?_
  refine ow_batch [.p, .lenS 41 129 sl41, .p, .lenS 41 129 sl41, .p] rfl ?_
  refine ow_nil ?_
  refine x_qs ?_
  refine c_if rfl (fun hb => ?_) (fun hb => ?_)
  · have H := of_if_t hb H
    refine c_seq ?_
    refine c_reg ?_
    refine ow_batch [.p] rfl ?_
    refine ow_nil ?_
    refine x_qs ?_
    refine c_ret ?_
    refine x_qs_ret ?_
    exact x_retR (rs := [.tmp 4]) (vs := [.bool false]) rfl ⟨rfl, trivial⟩ (fun w' hw' => by
        obtain rfl := of_some H
        exact ⟨rfl, hw'.ext⟩)
  · have H := of_if_f hb H
    refine c_skip ?_
    refine x_qs ?_
    refine c_seq ?_
    refine c_seq ?_
    refine c_reg ?_
    refine ow_batch [.p] rfl ?_
    refine ow_nil ?_
    refine x_qs ?_
    refine c_block ?_
    refine CW.at (loopI1 (fun (i18 : Int) => St w [] []) (fun (i18 : Int) => [(0, .slice a_0 p0.length c_0), (1, .slice a_1 p1.length c_1), (5, .int .i64 i18)]) (fun kk => fun (i18 : Int) => laws_eqPairS_L1 p0 p1 kk i18 = some r) (fun _ H => ?_) (fun k1 ihk1 i18 H => ?_) Fuel (0) (H)) (fun _ h => St.sel [] rfl rfl h) ⟨rfl, rfl, rfl,  trivial⟩
    · unfold laws_eqPairS_L1 at H
      exact absurd H (by simp)
    · unfold laws_eqPairS_L1 at H
      refine c_seq ?_
      refine c_seq ?_
      refine c_reg ?_
      refine ow_batch [.p, .p, .lenS 41 129 sl41, .p] rfl ?_
      refine ow_nil ?_
      refine x_qs ?_
      refine c_if rfl (fun hb => ?_) (fun hb => ?_)
      · have H := of_if_t hb H
        refine c_skip ?_
        refine x_qs ?_
        refine c_seq ?_
        refine c_block ?_
        refine c_seq ?_
        refine c_regQ mixed (by kernel_rfl) ?_
        refine ow_batch [.p, .p] rfl ?_
        obtain ⟨e26, h27, H⟩ := of_bind H
        refine ow_ixE (e := eTimpl_Pair) (xs := p0) (j := i18) rfl rfl rfl rfl rfl sl41 ty129 rfl (fun w1 hw1 => rds_bor g0 w1 hw1) h27 rfl ?_
        refine ow_r rfl (dstOk_lt rfl) (ry_load (cs := [.int .i64 e26.Truth_, .int .i64 e26.Said_]) rfl rfl ty129 (at_castA (at_eltE (fun w1 hw1 => rds_bor g0 w1 hw1) h27 (fun _ _ h => h)) rfl) rfl) ?_
        refine ow_batch [.p, .p] rfl ?_
        obtain ⟨e28, h29, H⟩ := of_bind H
        refine ow_ixE (e := eTimpl_Pair) (xs := p1) (j := i18) rfl rfl rfl rfl rfl sl41 ty129 rfl (fun w1 hw1 => rds_bor g1 w1 hw1) h29 rfl ?_
        refine ow_r rfl (dstOk_lt rfl) (ry_load (cs := [.int .i64 e28.Truth_, .int .i64 e28.Said_]) rfl rfl ty129 (at_castA (at_eltE (fun w1 hw1 => rds_bor g1 w1 hw1) h29 (fun _ _ h => h)) rfl) rfl) ?_
        obtain ⟨y30, h31, H⟩ := of_bind H
        refine ow_q rfl rfl (dstOk_lt rfl) (qy_call rfl fn109 rfl (fun w1 hw1 => laws_eqPair_ok w1 (p0 := e26) (p1 := e28) h31)) (fun _ _ => trivial) ?_
        refine ow_batch [.p] rfl ?_
        refine ow_nilQ ?_
        refine x_qs ?_
        refine c_if rfl (fun hb => ?_) (fun hb => ?_)
        · have H := of_if_t hb H
          refine c_seq ?_
          refine c_reg ?_
          refine ow_batch [.p] rfl ?_
          refine ow_nil ?_
          refine x_qs ?_
          refine c_ret ?_
          refine x_qb_ret ?_
          refine x_qs_ret ?_
          refine x_ql_ret ?_
          refine x_qb_ret ?_
          refine x_qs_ret ?_
          exact x_retR (rs := [.tmp 4]) (vs := [.bool false]) rfl ⟨rfl, trivial⟩ (fun w' hw' => by
              obtain rfl := of_some H
              exact ⟨rfl, hw'.ext⟩)
        · have H := of_if_f hb H
          refine c_skip ?_
          refine x_qb ?_
          refine x_qs ?_
          refine c_reg ?_
          refine ow_batch [.p, .p, .p] rfl ?_
          refine ow_nil ?_
          exact x_ql (RW.at (ihk1 (IntKind.i64.wrap (i18 + 1)) (H)) (fun _ h => St.sel [] rfl rfl h) ⟨rfl, rfl, rfl, trivial⟩)
      · have H := of_if_f hb H
        refine c_exit ?_
        refine x_qs_exit ?_
        refine x_ql_exit ?_
        refine x_qb_here ?_
        refine x_qs ?_
        refine c_seq ?_
        refine c_reg ?_
        refine ow_batch [.p] rfl ?_
        refine ow_nil ?_
        refine x_qs ?_
        refine c_ret ?_
        exact x_retR (rs := [.tmp 4]) (vs := [.bool true]) rfl ⟨rfl, trivial⟩ (fun w' hw' => by
            obtain rfl := of_some H
            exact ⟨rfl, hw'.ext⟩)

set_option maxHeartbeats 4000000 in
set_option maxRecDepth 100000 in
theorem laws_eqScore_ok (w : World) {p0 : Timpl_Score} {p1 : Timpl_Score} {cs0 : List Value} {cs1 : List Value} {r : Bool} (H : laws_eqScore p0 p1 = some r)  (g0 : (eTimpl_Score).rd w [] p0 cs0) (g1 : (eTimpl_Score).rd w [] p1 cs1) :
    Calls Tryd.prog 21 #[.agg cs0.toArray, .agg cs1.toArray] w (fun en w' => en = .returned (.bool r) ∧ Ext [] w w') := by
  obtain ⟨c10, c11, rfl, g12, g13⟩ := rdo_Timpl_Score g0
  obtain ⟨a14, c15, rfl⟩ := rd_sl1 g12
  obtain ⟨a16, c17, rfl⟩ := rd_sl1 g13
  obtain ⟨c18, c19, rfl, g20, g21⟩ := rdo_Timpl_Score g1
  obtain ⟨a22, c23, rfl⟩ := rd_sl1 g20
  obtain ⟨a24, c25, rfl⟩ := rd_sl1 g21
  unfold laws_eqScore at H
  refine f_enter (vs := [.agg #[.slice a14 p0.Table_.length c15, .slice a16 p0.Last_.length c17], .agg #[.slice a22 p1.Table_.length c23, .slice a24 p1.Last_.length c25]]) Tryd.func21 rfl Tryd.ntmps21 rfl (St.init w []) ?_
  refine c_seq ?_
  refine c_reg ?_
  refine ow_box (cs := [.slice a14 p0.Table_.length c15, .slice a16 p0.Last_.length c17]) rfl rfl rfl rfl rfl rfl (fun _ => kp) (fun b26 => ?_)
  refine ow_box (cs := [.slice a22 p1.Table_.length c23, .slice a24 p1.Last_.length c25]) rfl rfl rfl rfl rfl rfl (fun _ => kp) (fun b27 => ?_)
  refine ow_batch [.p] rfl ?_
  refine ow_nil ?_
  refine x_qs ?_
  refine c_seq ?_
  refine c_seq ?_
  refine c_reg ?_
  refine ow_batch [.fa 43 0 0 fa43_0] rfl ?_
  refine ow_r rfl (dstOk_lt rfl) (ry_box1 (off := 0) rfl rfl ty27 (boxIn (i := 0) rfl) rfl) ?_
  refine ow_batch [.fa 43 0 0 fa43_0] rfl ?_
  refine ow_r rfl (dstOk_lt rfl) (ry_box1 (off := 0) rfl rfl ty27 (boxIn (i := 1) rfl) rfl) ?_
  obtain ⟨y28, h29, H⟩ := of_bind H
  refine ow_q rfl rfl (dstOk_lt rfl) (qy_call rfl fn49 rfl (fun w1 hw1 => laws_eqIntSS_ok w1  h29 (rds_bor g12 w1 hw1) (rds_bor g20 w1 hw1))) (fun _ _ => trivial) ?_
  refine ow_batch [.p] rfl ?_
  refine ow_nil ?_
  refine x_qs ?_
  refine c_if rfl (fun hb => ?_) (fun hb => ?_)
  · have H := of_if_t hb H
    refine c_seq ?_
    refine c_reg ?_
    refine ow_batch [.p] rfl ?_
    refine ow_nil ?_
    refine x_qs ?_
    refine c_ret ?_
    refine x_qs_ret ?_
    exact x_retR (rs := [.tmp 4]) (vs := [.bool false]) rfl ⟨rfl, trivial⟩ (fun w' hw' => by
        obtain rfl := of_some H
        exact ⟨rfl, hw'.ext⟩)
  · have H := of_if_f hb H
    refine c_skip ?_
    refine x_qs ?_
    refine c_seq ?_
    refine c_seq ?_
    refine c_reg ?_
    refine ow_batch [.fa 43 1 1 fa43_1] rfl ?_
    refine ow_r rfl (dstOk_lt rfl) (ry_box1 (off := 1) rfl rfl ty41 (boxIn (i := 0) rfl) rfl) ?_
    refine ow_batch [.fa 43 1 1 fa43_1] rfl ?_
    refine ow_r rfl (dstOk_lt rfl) (ry_box1 (off := 1) rfl rfl ty41 (boxIn (i := 1) rfl) rfl) ?_
    obtain ⟨y30, h31, H⟩ := of_bind H
    refine ow_q rfl rfl (dstOk_lt rfl) (qy_call rfl fn63 rfl (fun w1 hw1 => laws_eqPairS_ok w1  h31 (rds_bor g13 w1 hw1) (rds_bor g21 w1 hw1))) (fun _ _ => trivial) ?_
    refine ow_batch [.p] rfl ?_
    refine ow_nil ?_
    refine x_qs ?_
    refine c_if rfl (fun hb => ?_) (fun hb => ?_)
    · have H := of_if_t hb H
      refine c_seq ?_
      refine c_reg ?_
      refine ow_batch [.p] rfl ?_
      refine ow_nil ?_
      refine x_qs ?_
      refine c_ret ?_
      refine x_qs_ret ?_
      exact x_retR (rs := [.tmp 4]) (vs := [.bool false]) rfl ⟨rfl, trivial⟩ (fun w' hw' => by
          obtain rfl := of_some H
          exact ⟨rfl, hw'.ext⟩)
    · have H := of_if_f hb H
      refine c_skip ?_
      refine x_qs ?_
      refine c_seq ?_
      refine c_reg ?_
      refine ow_batch [.p] rfl ?_
      refine ow_nil ?_
      refine x_qs ?_
      refine c_ret ?_
      exact x_retR (rs := [.tmp 4]) (vs := [.bool true]) rfl ⟨rfl, trivial⟩ (fun w' hw' => by
          obtain rfl := of_some H
          exact ⟨rfl, hw'.ext⟩)

set_option maxHeartbeats 4000000 in
set_option maxRecDepth 100000 in
theorem laws_FnExactScoreText_ok (w : World) {p0 : Int} {p1 : Tlaws_Score} {cs1 : List Value} {r : Bool} (H : laws_FnExactScoreText p0 p1 = some r)  (g1 : (eTlaws_Score).rd w [] p1 cs1) (gT : (ePow10 Tryd.prog).rd w [] () []) :
    Calls Tryd.prog 5 #[.int .i64 p0, .agg cs1.toArray] w (fun en w' => en = .returned (.bool r) ∧ Ext [] w w') := by
  obtain ⟨c10, c11, rfl, g12, g13⟩ := rdo_Tlaws_Score g1
  obtain ⟨a14, c15, rfl⟩ := rd_sl1 g12
  obtain ⟨a16, c17, rfl⟩ := rd_sl1 g13
  unfold laws_FnExactScoreText at H
  refine f_enter (vs := [.int .i64 p0, .agg #[.slice a14 p1.Table_.length c15, .slice a16 p1.Last_.length c17]]) Tryd.func5 rfl Tryd.ntmps5 rfl (St.init w []) ?_
  refine c_seq ?_
  refine c_reg ?_
  refine ow_box (cs := [.slice a14 p1.Table_.length c15, .slice a16 p1.Last_.length c17]) rfl rfl rfl rfl rfl rfl (fun _ => kp) (fun b18 => ?_)
  refine ow_batch [.p] rfl ?_
  refine ow_nil ?_
  refine x_qs ?_
  refine c_seq ?_
  refine c_reg ?_
  refine ow_batch [.p] rfl ?_
  refine ow_nil ?_
  refine x_qs ?_
  refine c_seq ?_
  refine c_reg ?_
  refine ow_r rfl (dstOk_lt rfl) (ry_box (off := 0) (ds := [.slice a14 p1.Table_.length c15, .slice a16 p1.Last_.length c17]) rfl rfl ty38 (boxIn (i := 0) rfl) rfl rfl) ?_
  refine ow_batch [.p] rfl ?_
  obtain ⟨y19, h20, H⟩ := of_bind H
  refine ow_q rfl rfl (dstOk_lt rfl) (qy_call rfl fn17 rfl (fun w1 hw1 => laws_szScore_ok w1 (cs0 := [.slice a14 p1.Table_.length c15, .slice a16 p1.Last_.length c17]) h20 (rdm_Tlaws_Score (x := p1) (c0 := [.slice a14 p1.Table_.length c15]) (c1 := [.slice a16 p1.Last_.length c17]) (rds_bor g12 w1 hw1) (rds_bor g13 w1 hw1)))) (fun _ _ => trivial) ?_
  refine ow_batch [.p] rfl ?_
  refine ow_nil ?_
  refine x_qs ?_
  refine c_seq ?_
  refine c_seq ?_
  refine c_reg ?_
  refine ow_batch [.p, .p] rfl ?_
  refine ow_nil ?_
  refine x_qs ?_
  refine c_if rfl (fun hb => ?_) (fun hb => ?_)
  · have H := of_if_t hb H
    refine c_seq ?_
    refine c_reg ?_
    refine ow_batch [.p] rfl ?_
    refine ow_nil ?_
    refine x_qs ?_
    refine c_ret ?_
    refine x_qs_ret ?_
    exact x_retR (rs := [.tmp 4]) (vs := [.bool true]) rfl ⟨rfl, trivial⟩ (fun w' hw' => by
        obtain rfl := of_some H
        exact ⟨rfl, hw'.ext⟩)
  · have H := of_if_f hb H
    refine c_skip ?_
    refine x_qs ?_
    refine c_seq ?_
    refine c_reg ?_
    refine ow_batch [.p] rfl ?_
    refine ow_r rfl (dstOk_lt rfl) (ry_box (off := 0) (ds := [.slice a14 p1.Table_.length c15, .slice a16 p1.Last_.length c17]) rfl rfl ty38 (boxIn (i := 0) rfl) rfl rfl) ?_
    obtain ⟨y21, h22, H⟩ := of_bind H
    refine ow_callS rfl fn19 rfl rfl rfl rfl (fun w1 hw1 => laws_toScore_ok w1 (cs0 := [.slice a14 p1.Table_.length c15, .slice a16 p1.Last_.length c17]) h22 (hw1.carve [] rfl rfl) (rdm_Tlaws_Score (x := p1) (c0 := [.slice a14 p1.Table_.length c15]) (c1 := [.slice a16 p1.Last_.length c17]) (rds_bor g12 w1 hw1) (rds_bor g13 w1 hw1))) (fun v23 w1 w2 hw1 hR25 => ?_)
    obtain ⟨a26, n27, c28, F29, a30, n31, c32, F33, rfl, hS24⟩ := hR25
    obtain rfl := own_nS (i := 0) hS24 rfl
    obtain rfl := own_nS (i := 1) hS24 rfl
    refine ⟨St w [] [_, _, _], hw1.comp [] rfl rfl hS24, fun _ _ => trivial, ?_⟩
    obtain ⟨y34, h35, H⟩ := of_bind H
    refine ow_q rfl rfl (dstOk_lt rfl) (qy_call rfl fn18 rfl (fun w1 hw1 => spec_ScoreText_ok w1 (cs1 := [.slice a26 y21.Table_.length c28, .slice a30 y21.Last_.length c32]) h35 (rdm_Timpl_Score (x := y21) (c0 := [.slice a26 y21.Table_.length c28]) (c1 := [.slice a30 y21.Last_.length c32]) (rds_own (e := eList (eList (eVal (Value.int .i64) (fun _ => rfl)) 3) 22) (r := 1) rfl w1 hw1) (rds_own (e := eList (eTimpl_Pair) 129) (r := 2) rfl w1 hw1)))) (fun _ _ => trivial) ?_
    refine ow_batch [.p] rfl ?_
    refine ow_nil ?_
    refine x_qs ?_
    refine c_seq ?_
    refine c_reg ?_
    refine ow_r rfl (dstOk_lt rfl) (ry_box (off := 0) (ds := [.slice a14 p1.Table_.length c15, .slice a16 p1.Last_.length c17]) rfl rfl ty38 (boxIn (i := 0) rfl) rfl rfl) ?_
    obtain ⟨y36, h37, H⟩ := of_bind H
    refine ow_callS rfl fn19 rfl rfl rfl rfl (fun w1 hw1 => laws_toScore_ok w1 (cs0 := [.slice a14 p1.Table_.length c15, .slice a16 p1.Last_.length c17]) h37 (hw1.carve [] rfl rfl) (rdm_Tlaws_Score (x := p1) (c0 := [.slice a14 p1.Table_.length c15]) (c1 := [.slice a16 p1.Last_.length c17]) (rds_bor g12 w1 hw1) (rds_bor g13 w1 hw1))) (fun v38 w1 w2 hw1 hR40 => ?_)
    obtain ⟨a41, n42, c43, F44, a45, n46, c47, F48, rfl, hS39⟩ := hR40
    obtain rfl := own_nS (i := 0) hS39 rfl
    obtain rfl := own_nS (i := 1) hS39 rfl
    refine ⟨St w [] [_, _, _, _, _], hw1.comp [] rfl rfl hS39, fun _ _ => trivial, ?_⟩
    refine ow_alloc rfl rfl rfl rfl ty43 (fun _ => kp) (fun b49 => ?_)
    refine ow_storeC (off := 0) [.slice a41 y36.Table_.length c43, .slice a45 y36.Last_.length c47] [_, _] (i := 5) rfl rfl rfl rfl rfl rfl ty43 rfl rfl (by intro u hu; simp only [List.mem_cons, List.not_mem_nil, or_false] at hu; rcases hu with rfl | rfl <;> rfl) rfl rfl rfl kp ?_
    refine ow_nil ?_
    refine x_qs ?_
    refine c_seq ?_
    refine c_reg ?_
    refine ow_batch [.p] rfl ?_
    refine ow_r rfl (dstOk_lt rfl) (ry_box (off := 0) (ds := [.slice a41 y36.Table_.length c43, .slice a45 y36.Last_.length c47]) rfl rfl ty43 (boxIn (i := 5) rfl) rfl rfl) ?_
    obtain ⟨y50, h51, H⟩ := of_bind H
    refine ow_q rfl rfl (dstOk_lt rfl) (qy_call rfl fn20 rfl (fun w1 hw1 => impl_ScoreText_ok w1 (cs1 := [.slice a41 y36.Table_.length c43, .slice a45 y36.Last_.length c47]) h51 (rdm_Timpl_Score (x := y36) (c0 := [.slice a41 y36.Table_.length c43]) (c1 := [.slice a45 y36.Last_.length c47]) (rds_own (e := eList (eList (eVal (Value.int .i64) (fun _ => rfl)) 3) 22) (r := 3) rfl w1 hw1) (rds_own (e := eList (eTimpl_Pair) 129) (r := 4) rfl w1 hw1)) (rds_bor gT w1 hw1))) (fun _ _ => trivial) ?_
    refine ow_batch [.p] rfl ?_
    refine ow_nil ?_
    refine x_qs ?_
    refine c_seq ?_
    refine c_seq ?_
    refine c_reg ?_
    refine ow_batch [.p, .p, .p] rfl ?_
    refine ow_nil ?_
    refine x_qs ?_
    refine c_if rfl (fun hb => ?_) (fun hb => ?_)
    · have H := of_if_t hb H
      refine c_seq ?_
      refine c_reg ?_
      refine ow_batch [.p] rfl ?_
      refine ow_nil ?_
      refine x_qs ?_
      refine c_ret ?_
      refine x_qs_ret ?_
      exact x_retR (rs := [.tmp 4]) (vs := [.bool false]) rfl ⟨rfl, trivial⟩ (fun w' hw' => by
          obtain rfl := of_some H
          exact ⟨rfl, hw'.ext⟩)
    · have H := of_if_f hb H
      refine c_skip ?_
      refine x_qs ?_
      refine c_seq ?_
      refine c_seq ?_
      refine c_regHT 3 [(0, true), (1, true), (2, false)] (St w [] [Res.box b18 38 [.slice a14 p1.Table_.length c15, .slice a16 p1.Last_.length c17], Res.own (eList (eList (eVal (Value.int .i64) (fun _ => rfl)) 3) 22) F29 y21.Table_ [.slice a26 y21.Table_.length c28], Res.own (eList (eTimpl_Pair) 129) F33 y21.Last_ [.slice a30 y21.Last_.length c32], Res.own (eList (eList (eVal (Value.int .i64) (fun _ => rfl)) 3) 22) F44 y36.Table_ [.slice a41 y36.Table_.length c43], Res.own (eList (eTimpl_Pair) 129) F48 y36.Last_ [.slice a45 y36.Last_.length c47], Res.box b49 43 [.slice a41 y36.Table_.length c43, .slice a45 y36.Last_.length c47]]) mixed (by kernel_rfl) (panicOk_qs (panicOk_qs panicOk_body)) (fun _ h => St.mask [true, true, true, true, true, true] rfl h) ?_
      refine ow_rH rfl (dstOk_lt rfl) (ry_box (off := 0) (ds := [.slice a41 y36.Table_.length c43, .slice a45 y36.Last_.length c47]) rfl rfl ty43 (boxIn (i := 5) rfl) rfl rfl) ?_
      refine ow_rH rfl (dstOk_lt rfl) (ry_box (off := 0) (ds := [.slice a14 p1.Table_.length c15, .slice a16 p1.Last_.length c17]) rfl rfl ty38 (boxIn (i := 0) rfl) rfl rfl) ?_
      obtain ⟨y65, h66, H⟩ := of_bind H
      refine ow_callS rfl fn19 rfl rfl rfl rfl (fun w1 hw1 => laws_toScore_ok w1 (cs0 := [.slice a14 p1.Table_.length c15, .slice a16 p1.Last_.length c17]) h66 (hw1.carve [] rfl rfl) (rdm_Tlaws_Score (x := p1) (c0 := [.slice a14 p1.Table_.length c15]) (c1 := [.slice a16 p1.Last_.length c17]) (rds_bor g12 w1 hw1) (rds_bor g13 w1 hw1))) (fun v67 w1 w2 hw1 hR69 => ?_)
      obtain ⟨a70, n71, c72, F73, a74, n75, c76, F77, rfl, hS68⟩ := hR69
      obtain rfl := own_nS (i := 0) hS68 rfl
      obtain rfl := own_nS (i := 1) hS68 rfl
      refine ⟨St w [] [_, _, _, _, _, _, _, _], hw1.comp [] rfl rfl hS68, (fun _ h => St.mask [true, true, true, true, true, true] rfl h), ?_⟩
      refine ow_nilH ?_
      refine x_qt ?_
      obtain ⟨y78, h79, H⟩ := of_bind H
      refine ow_q rfl rfl (dstOk_lt rfl) (qy_call rfl fn21 rfl (fun w1 hw1 => laws_eqScore_ok w1 (cs0 := [.slice a41 y36.Table_.length c43, .slice a45 y36.Last_.length c47]) (cs1 := [.slice a70 y65.Table_.length c72, .slice a74 y65.Last_.length c76]) h79 (rdm_Timpl_Score (x := y36) (c0 := [.slice a41 y36.Table_.length c43]) (c1 := [.slice a45 y36.Last_.length c47]) (rds_own (e := eList (eList (eVal (Value.int .i64) (fun _ => rfl)) 3) 22) (r := 3) rfl w1 hw1) (rds_own (e := eList (eTimpl_Pair) 129) (r := 4) rfl w1 hw1)) (rdm_Timpl_Score (x := y65) (c0 := [.slice a70 y65.Table_.length c72]) (c1 := [.slice a74 y65.Last_.length c76]) (rds_own (e := eList (eList (eVal (Value.int .i64) (fun _ => rfl)) 3) 22) (r := 6) rfl w1 hw1) (rds_own (e := eList (eTimpl_Pair) 129) (r := 7) rfl w1 hw1)))) (fun _ _ => trivial) ?_
      refine ow_batch [.p] rfl ?_
      refine ow_nil ?_
      refine x_qs ?_
      refine c_if rfl (fun hb => ?_) (fun hb => ?_)
      · have H := of_if_t hb H
        refine c_seq ?_
        refine c_reg ?_
        refine ow_batch [.p] rfl ?_
        refine ow_nil ?_
        refine x_qs ?_
        refine c_ret ?_
        refine x_qs_ret ?_
        exact x_retR (rs := [.tmp 4]) (vs := [.bool false]) rfl ⟨rfl, trivial⟩ (fun w' hw' => by
            obtain rfl := of_some H
            exact ⟨rfl, hw'.ext⟩)
      · have H := of_if_f hb H
        refine c_skip ?_
        refine x_qs ?_
        refine c_seq ?_
        refine c_reg ?_
        refine ow_batch [.p] rfl ?_
        refine ow_nil ?_
        refine x_qs ?_
        refine c_ret ?_
        exact x_retR (rs := [.tmp 4]) (vs := [.bool true]) rfl ⟨rfl, trivial⟩ (fun w' hw' => by
            obtain rfl := of_some H
            exact ⟨rfl, hw'.ext⟩)

end Go.Vk
