/- The code does what the functions of data say. Printed by program. -/

import Derived.Test.YtkhdakkhmikfcaaRF

import Derived.Test.YtkhdakkhmikfcaaChecked

namespace Go.Vk

open Go.Proofs Go.RowKit



def eTimpl_Pair : Enc Timpl_Pair := eFlat (fun x => [.int .i64 x.Truth_, .int .i64 x.Said_]) 2 (fun _ => rfl) (by intro x u hu; simp only [List.mem_cons, List.not_mem_nil, or_false] at hu; rcases hu with rfl | rfl <;> rfl)

def eTimpl_Score : Enc Timpl_Score := eIso (ePair (eList (eList (eVal (Value.int .i64) (fun _ => rfl)) 3) 53) (eList (eTimpl_Pair) 60)) (fun x => (x.Table_, x.Last_))

theorem rdm_Timpl_Score {w : World} {X : List Nat} {x : Timpl_Score} {c0 c1 : List Value} (h0 : (eList (eList (eVal (Value.int .i64) (fun _ => rfl)) 3) 53).rd w X x.Table_ c0) (h1 : (eList (eTimpl_Pair) 60).rd w X x.Last_ c1) : (eTimpl_Score).rd w X x (c0 ++ c1) := by
  show (ePair (eList (eList (eVal (Value.int .i64) (fun _ => rfl)) 3) 53) (eList (eTimpl_Pair) 60)).rd w X (x.Table_, x.Last_) _
  exact (ePair_rd h0 h1)

theorem rdo_Timpl_Score {w : World} {X : List Nat} {x : Timpl_Score} {cs : List Value} (h : (eTimpl_Score).rd w X x cs) : ∃ c0 c1, cs = (c0 ++ c1) ∧ (eList (eList (eVal (Value.int .i64) (fun _ => rfl)) 3) 53).rd w X x.Table_ c0 ∧ (eList (eTimpl_Pair) 60).rd w X x.Last_ c1 := by
  have h : (ePair (eList (eList (eVal (Value.int .i64) (fun _ => rfl)) 3) 53) (eList (eTimpl_Pair) 60)).rd w X (x.Table_, x.Last_) cs := h
  obtain ⟨c0, c1, rfl, h0, h1⟩ := h
  exact ⟨c0, c1, rfl, h0, h1⟩

def kfTimpl_Pair (x : Timpl_Pair) : List Value := [.int .i64 x.Truth_, .int .i64 x.Said_]

theorem ke60 : ∀ a b : Timpl_Pair, eqSB Try.prog 60 (kfTimpl_Pair a) (kfTimpl_Pair b) = some (a.Truth_ == b.Truth_ && (a.Said_ == b.Said_ && true)) := by
  intro a b
  kernel_rfl

theorem ko60 : KeyOk Try.prog 60 kfTimpl_Pair := keyOk_of ke60 (by intro a b; cases a; cases b; rw [Bool.eq_iff_iff]; simp) (by intro a; simp [kfTimpl_Pair, Instr.sameBits]) (by kernel_rfl)

theorem sl53 : isSl Try.prog 53 3 := isSl_of (by kernel_rfl)

theorem sl22 : isSl Try.prog 22 53 := isSl_of (by kernel_rfl)

theorem ty53 : isTy Try.prog 53 false 1 24 [.slice none 0 0] := isTy_of (by kernel_rfl)

theorem ty22 : isTy Try.prog 22 false 1 24 [.slice none 0 0] := isTy_of (by kernel_rfl)

theorem ty3 : isTy Try.prog 3 false 1 8 [.int .i64 0] := isTy_of (by kernel_rfl)

theorem ty60 : isTy Try.prog 60 true 2 16 [.int .i64 0, .int .i64 0] := isTy_of (by kernel_rfl)

theorem fa60_0 : isFa Try.prog 60 0 0 := isFa_of (by kernel_rfl)

theorem fa60_1 : isFa Try.prog 60 1 1 := isFa_of (by kernel_rfl)

theorem sl28 : isSl Try.prog 28 60 := isSl_of (by kernel_rfl)

theorem ty30 : isTy Try.prog 30 true 2 48 [.slice none 0 0, .slice none 0 0] := isTy_of (by kernel_rfl)

theorem fa30_0 : isFa Try.prog 30 0 0 := isFa_of (by kernel_rfl)

theorem fa30_1 : isFa Try.prog 30 1 1 := isFa_of (by kernel_rfl)

theorem ty28 : isTy Try.prog 28 false 1 24 [.slice none 0 0] := isTy_of (by kernel_rfl)

theorem fn45 : isFn Try.prog 45 := ⟨Try.f45, Try.func45, rfl, by decide⟩

theorem mixed : Try.prog.follows .mixedOrders = true := by kernel_rfl

theorem fn41 : isFn Try.prog 41 := ⟨Try.f41, Try.func41, rfl, by decide⟩

theorem fn57 : isFn Try.prog 57 := ⟨Try.f57, Try.func57, rfl, by decide⟩

theorem fn33 : isFn Try.prog 33 := ⟨Try.f33, Try.func33, rfl, by decide⟩

theorem fn42 : isFn Try.prog 42 := ⟨Try.f42, Try.func42, rfl, by decide⟩

theorem fn47 : isFn Try.prog 47 := ⟨Try.f47, Try.func47, rfl, by decide⟩

theorem fn44 : isFn Try.prog 44 := ⟨Try.f44, Try.func44, rfl, by decide⟩

theorem fn59 : isFn Try.prog 59 := ⟨Try.f59, Try.func59, rfl, by decide⟩

theorem fn76 : isFn Try.prog 76 := ⟨Try.f76, Try.func76, rfl, by decide⟩

theorem fn58 : isFn Try.prog 58 := ⟨Try.f58, Try.func58, rfl, by decide⟩

theorem fn43 : isFn Try.prog 43 := ⟨Try.f43, Try.func43, rfl, by decide⟩

theorem in3 : isInt Try.prog 3 .i64 := isInt_of (by kernel_rfl)

theorem iz3 : isZ0 Try.prog 3 := isZ0_of (by kernel_rfl)

theorem mt71 : isMap Try.prog 71 60 3 := (by kernel_rfl : Try.prog.underlying 71 = some (.map 60 3))

theorem fn34 : isFn Try.prog 34 := ⟨Try.f34, Try.func34, rfl, by decide⟩

theorem fn18 : isFn Try.prog 18 := ⟨Try.f18, Try.func18, rfl, by decide⟩

theorem fn19 : isFn Try.prog 19 := ⟨Try.f19, Try.func19, rfl, by decide⟩

theorem fs30 : isFs Try.prog 30 [(0, 1), (1, 1)] := isFs_of (by kernel_rfl)

theorem fn49 : isFn Try.prog 49 := ⟨Try.f49, Try.func49, rfl, by decide⟩

theorem fs60 : isFs Try.prog 60 [(0, 1), (1, 1)] := isFs_of (by kernel_rfl)

theorem fn27 : isFn Try.prog 27 := ⟨Try.f27, Try.func27, rfl, by decide⟩

theorem sl46 : isSl Try.prog 46 5 := isSl_of (by kernel_rfl)

theorem ty5 : isTy Try.prog 5 false 1 1 [.int .u8 0] := isTy_of (by kernel_rfl)

theorem us5 : (Try.prog.underlying 5).isSome = true := by kernel_rfl

theorem ty89 : isTy Try.prog 89 true 3 40 [.slice none 0 0, .int .i64 0, .int .i64 0] := isTy_of (by kernel_rfl)

theorem fs89 : isFs Try.prog 89 [(0, 1), (1, 1), (2, 1)] := isFs_of (by kernel_rfl)

theorem fa89_2 : isFa Try.prog 89 2 2 := isFa_of (by kernel_rfl)

theorem fa89_1 : isFa Try.prog 89 1 1 := isFa_of (by kernel_rfl)

theorem fa89_0 : isFa Try.prog 89 0 0 := isFa_of (by kernel_rfl)

theorem ty46 : isTy Try.prog 46 false 1 24 [.slice none 0 0] := isTy_of (by kernel_rfl)

theorem fn82 : isFn Try.prog 82 := ⟨Try.f82, Try.func82, rfl, by decide⟩

theorem fn72 : isFn Try.prog 72 := ⟨Try.f72, Try.func72, rfl, by decide⟩

theorem fn84 : isFn Try.prog 84 := ⟨Try.f84, Try.func84, rfl, by decide⟩

theorem fn74 : isFn Try.prog 74 := ⟨Try.f74, Try.func74, rfl, by decide⟩

theorem fn75 : isFn Try.prog 75 := ⟨Try.f75, Try.func75, rfl, by decide⟩

theorem fn83 : isFn Try.prog 83 := ⟨Try.f83, Try.func83, rfl, by decide⟩

theorem fn71 : isFn Try.prog 71 := ⟨Try.f71, Try.func71, rfl, by decide⟩

theorem fn73 : isFn Try.prog 73 := ⟨Try.f73, Try.func73, rfl, by decide⟩

theorem fn56 : isFn Try.prog 56 := ⟨Try.f56, Try.func56, rfl, by decide⟩

theorem fn14 : isFn Try.prog 14 := ⟨Try.f14, Try.func14, rfl, by decide⟩

theorem fa37_0 : isFa Try.prog 37 0 0 := isFa_of (by kernel_rfl)

theorem fa37_1 : isFa Try.prog 37 1 1 := isFa_of (by kernel_rfl)

theorem ty37 : isTy Try.prog 37 true 2 16 [.int .i64 0, .int .i64 0] := isTy_of (by kernel_rfl)

theorem fn79 : isFn Try.prog 79 := ⟨Try.f79, Try.func79, rfl, by decide⟩

theorem fs37 : isFs Try.prog 37 [(0, 1), (1, 1)] := isFs_of (by kernel_rfl)

theorem fn80 : isFn Try.prog 80 := ⟨Try.f80, Try.func80, rfl, by decide⟩

theorem fn66 : isFn Try.prog 66 := ⟨Try.f66, Try.func66, rfl, by decide⟩

theorem fn48 : isFn Try.prog 48 := ⟨Try.f48, Try.func48, rfl, by decide⟩

theorem fn31 : isFn Try.prog 31 := ⟨Try.f31, Try.func31, rfl, by decide⟩

theorem fn32 : isFn Try.prog 32 := ⟨Try.f32, Try.func32, rfl, by decide⟩

theorem fn21 : isFn Try.prog 21 := ⟨Try.f21, Try.func21, rfl, by decide⟩

theorem fn23 : isFn Try.prog 23 := ⟨Try.f23, Try.func23, rfl, by decide⟩

theorem fn17 : isFn Try.prog 17 := ⟨Try.f17, Try.func17, rfl, by decide⟩

set_option maxHeartbeats 4000000 in
set_option maxRecDepth 100000 in
theorem spec_l1In_ok (w : World) {p0 : Int} {p1 : Int} {p2 : Int}  {r : Bool} (H : spec_l1In p0 p1 p2 = some r)   :
    Calls Try.prog 45 #[.int .i64 p0, .int .i64 p1, .int .i64 p2] w (fun en w' => en = .returned (.bool r) ∧ Ext [] w w') := by
  unfold spec_l1In at H
  refine f_enter (vs := [.int .i64 p0, .int .i64 p1, .int .i64 p2]) Try.func45 rfl Try.ntmps45 rfl (St.init w []) ?_
  refine c_seq ?_
  refine c_reg ?_
  refine ow_batch [.p] rfl ?_
  refine ow_nil ?_
  refine x_qs ?_
  refine c_seq ?_
  refine c_reg ?_
  refine ow_batch [.p, .p, .p, .p] rfl ?_
  refine ow_cut [(14, .bool ((decide (p0 ≥ p1)) && (decide (p0 ≤ p2)))), (6, .bool false)] 4 ?_ (fun key => OW.sub (R := [(0, .int .i64 p0), (2, .int .i64 p2), (6, .bool false), (10, .bool (decide (p0 ≥ p1)))]) ?_ ⟨rfl, rfl, rfl, rfl, trivial⟩)
  · refine ow_batch [.p] rfl ?_
    refine ow_nil ?_
    refine x_qs ?_
    refine c_ret ?_
    exact x_retR (rs := [.tmp 6]) (vs := [.bool ((decide (p0 ≥ p1)) && (decide (p0 ≤ p2)))]) rfl ⟨rfl, trivial⟩ (fun w' hw' => by
        obtain rfl := of_some H
        exact ⟨rfl, hw'.ext⟩)
  · generalize (decide (p0 ≥ p1)) = t2 at key ⊢
    cases t2
    · refine ow_batch [.p, .p, .p, .p] rfl ?_
      exact OW.sub key ⟨rfl, rfl, trivial⟩
    · refine ow_batch [.p, .p, .p] rfl ?_
      refine ow_batch [.p] rfl ?_
      exact OW.sub key ⟨rfl, rfl, trivial⟩

set_option maxHeartbeats 4000000 in
set_option maxRecDepth 100000 in
theorem spec_l25Pairs_ok (w : World) {p0 : List Timpl_Pair} {p1 : Int} {p2 : Int} {a_0 : Option Addr} {n_0 c_0 : Nat} {r : Int} (H : spec_l25Pairs p0 p1 p2 = some r)  (g0 : (eList (eTimpl_Pair) 60).rd w [] p0 [.slice a_0 n_0 c_0]) :
    Calls Try.prog 41 #[.slice a_0 n_0 c_0, .int .i64 p1, .int .i64 p2] w (fun en w' => en = .returned (.int .i64 r) ∧ Ext [] w w') := by
  obtain rfl := rd_n g0
  unfold spec_l25Pairs at H
  refine f_enter (vs := [.slice a_0 p0.length c_0, .int .i64 p1, .int .i64 p2]) Try.func41 rfl Try.ntmps41 rfl (St.init w []) ?_
  refine c_seq ?_
  refine c_reg ?_
  refine ow_batch [.p] rfl ?_
  refine ow_nil ?_
  refine x_qs ?_
  refine c_seq ?_
  refine c_reg ?_
  refine ow_batch [.p] rfl ?_
  refine ow_nil ?_
  refine x_qs ?_
  refine c_seq ?_
  refine c_seq ?_
  refine c_reg ?_
  refine ow_batch [.p] rfl ?_
  refine ow_nil ?_
  refine x_qs ?_
  refine c_block ?_
  refine CW.at (loopI2 (fun (i11 : Int) (i12 : Int) => St w [] []) (fun (i11 : Int) (i12 : Int) => [(0, .slice a_0 p0.length c_0), (1, .int .i64 p1), (2, .int .i64 p2), (7, .int .i64 i11), (8, .int .i64 i12)]) (fun kk => fun (i11 : Int) (i12 : Int) => spec_l25Pairs_L1 p0 p1 p2 kk i11 i12 = some r) (fun _ _ H => ?_) (fun k1 ihk1 i11 i12 H => ?_) Fuel (0) (0) (H)) (fun _ h => St.sel [] rfl rfl h) ⟨rfl, rfl, rfl, rfl, rfl,  trivial⟩
  · unfold spec_l25Pairs_L1 at H
    exact absurd H (by simp)
  · unfold spec_l25Pairs_L1 at H
    refine c_seq ?_
    refine c_seq ?_
    refine c_reg ?_
    refine ow_batch [.p, .p, .lenS 28 60 sl28, .p] rfl ?_
    refine ow_nil ?_
    refine x_qs ?_
    refine c_if rfl (fun hb => ?_) (fun hb => ?_)
    · have H := of_if_t hb H
      refine c_skip ?_
      refine x_qs ?_
      refine c_seq ?_
      refine c_block ?_
      refine c_seq ?_
      refine c_reg ?_
      refine ow_batch [.p, .p] rfl ?_
      obtain ⟨e22, h23, H⟩ := of_bind H
      refine ow_ixE (e := eTimpl_Pair) (xs := p0) (j := i12) rfl rfl rfl rfl rfl sl28 ty60 rfl (fun w1 hw1 => rds_bor g0 w1 hw1) h23 rfl ?_
      refine ow_batch [.fa 60 0 0 fa60_0] rfl ?_
      refine ow_r rfl (dstOk_lt rfl) (ry_load1 rfl rfl ty3 (at_KA (at_castA (at_eltE (fun w1 hw1 => rds_bor g0 w1 hw1) h23 (fun _ _ h => h)) rfl) 0 1)) ?_
      refine ow_batch [.p, .p, .p] rfl ?_
      obtain ⟨u24, hu28, H⟩ := of_bind H
      refine ow_cut [(30, .bool u24), (0, .slice a_0 p0.length c_0), (1, .int .i64 p1), (2, .int .i64 p2), (7, .int .i64 i11), (8, .int .i64 i12)] 8 ?_ (fun key => OW.sub (R := [(0, .slice a_0 p0.length c_0), (1, .int .i64 p1), (2, .int .i64 p2), (7, .int .i64 i11), (8, .int .i64 i12), (22, .bool (e22.Truth_ == p1))]) ?_ ⟨rfl, rfl, rfl, rfl, rfl, rfl, trivial⟩)
      · refine ow_nil ?_
        refine x_qs ?_
        refine c_if rfl (fun hb => ?_) (fun hb => ?_)
        · have H := of_if_t hb H
          refine c_reg ?_
          refine ow_batch [.p, .p, .p] rfl ?_
          refine ow_nil ?_
          refine x_qb ?_
          refine x_qs ?_
          refine c_reg ?_
          refine ow_batch [.p, .p, .p] rfl ?_
          refine ow_nil ?_
          exact x_ql (RW.at (ihk1 (IntKind.i64.wrap (i11 + 1)) (IntKind.i64.wrap (i12 + 1)) (H)) (fun _ h => St.sel [] rfl rfl h) ⟨rfl, rfl, rfl, rfl, rfl, trivial⟩)
        · have H := of_if_f hb H
          refine c_skip ?_
          refine x_qb ?_
          refine x_qs ?_
          refine c_reg ?_
          refine ow_batch [.p, .p, .p] rfl ?_
          refine ow_nil ?_
          exact x_ql (RW.at (ihk1 (i11) (IntKind.i64.wrap (i12 + 1)) (H)) (fun _ h => St.sel [] rfl rfl h) ⟨rfl, rfl, rfl, rfl, rfl, trivial⟩)
      · clear H
        have H := hu28
        clear hu28
        generalize (e22.Truth_ == p1) = t27 at H ⊢
        cases t27
        · have H := of_if_f rfl H
          refine ow_batch [.p, .p, .p, .p, .p, .p, .p, .p] rfl ?_
          obtain rfl := of_some H
          exact OW.sub key ⟨rfl, rfl, rfl, rfl, rfl, rfl, trivial⟩
        · have H := of_if_t rfl H
          refine ow_batch [.p, .p] rfl ?_
          obtain ⟨e25, h26, H⟩ := of_bind H
          refine ow_ixE (e := eTimpl_Pair) (xs := p0) (j := i12) rfl rfl rfl rfl rfl sl28 ty60 rfl (fun w1 hw1 => rds_bor g0 w1 hw1) h26 rfl ?_
          refine ow_batch [.fa 60 1 1 fa60_1] rfl ?_
          refine ow_r rfl (dstOk_lt rfl) (ry_load1 rfl rfl ty3 (at_KA (at_castA (at_eltE (fun w1 hw1 => rds_bor g0 w1 hw1) h26 (fun _ _ h => h)) rfl) 1 1)) ?_
          refine ow_batch [.p, .p] rfl ?_
          refine ow_batch [.p] rfl ?_
          obtain rfl := of_some H
          exact OW.sub key ⟨rfl, rfl, rfl, rfl, rfl, rfl, trivial⟩
    · have H := of_if_f hb H
      refine c_exit ?_
      refine x_qs_exit ?_
      refine x_ql_exit ?_
      refine x_qb_here ?_
      refine x_qs ?_
      refine c_seq ?_
      refine c_reg ?_
      refine ow_batch [.p, .p] rfl ?_
      refine ow_nil ?_
      refine x_qs ?_
      refine c_ret ?_
      exact x_retR (rs := [.tmp 6]) (vs := [.int .i64 i11]) rfl ⟨rfl, trivial⟩ (fun w' hw' => by
          obtain rfl := of_some H
          exact ⟨rfl, hw'.ext⟩)

set_option maxHeartbeats 4000000 in
set_option maxRecDepth 100000 in
theorem spec_l1Min_ok (w : World) {p0 : Int} {p1 : Int}  {r : Int} (H : spec_l1Min p0 p1 = some r)   :
    Calls Try.prog 57 #[.int .i64 p0, .int .i64 p1] w (fun en w' => en = .returned (.int .i64 r) ∧ Ext [] w w') := by
  unfold spec_l1Min at H
  refine f_enter (vs := [.int .i64 p0, .int .i64 p1]) Try.func57 rfl Try.ntmps57 rfl (St.init w []) ?_
  refine c_seq ?_
  refine c_reg ?_
  refine ow_batch [.p] rfl ?_
  refine ow_nil ?_
  refine x_qs ?_
  refine c_seq ?_
  refine c_seq ?_
  refine c_reg ?_
  refine ow_batch [.p, .p, .p] rfl ?_
  refine ow_nil ?_
  refine x_qs ?_
  refine c_if rfl (fun hb => ?_) (fun hb => ?_)
  · have H := of_if_t hb H
    refine c_seq ?_
    refine c_reg ?_
    refine ow_batch [.p, .p] rfl ?_
    refine ow_nil ?_
    refine x_qs ?_
    refine c_ret ?_
    refine x_qs_ret ?_
    exact x_retR (rs := [.tmp 4]) (vs := [.int .i64 p0]) rfl ⟨rfl, trivial⟩ (fun w' hw' => by
        obtain rfl := of_some H
        exact ⟨rfl, hw'.ext⟩)
  · have H := of_if_f hb H
    refine c_skip ?_
    refine x_qs ?_
    refine c_seq ?_
    refine c_reg ?_
    refine ow_batch [.p, .p] rfl ?_
    refine ow_nil ?_
    refine x_qs ?_
    refine c_ret ?_
    exact x_retR (rs := [.tmp 4]) (vs := [.int .i64 p1]) rfl ⟨rfl, trivial⟩ (fun w' hw' => by
        obtain rfl := of_some H
        exact ⟨rfl, hw'.ext⟩)

set_option maxHeartbeats 4000000 in
set_option maxRecDepth 100000 in
theorem spec_ScoreOk_ok (w : World) {p0 : Int} {p1 : Timpl_Score} {cs1 : List Value} {r : Bool} (H : spec_ScoreOk p0 p1 = some r)  (g1 : (eTimpl_Score).rd w [] p1 cs1) :
    Calls Try.prog 33 #[.int .i64 p0, .agg cs1.toArray] w (fun en w' => en = .returned (.bool r) ∧ Ext [] w w') := by
  obtain ⟨c1, c2, rfl, g3, g4⟩ := rdo_Timpl_Score g1
  obtain ⟨a5, c6, rfl⟩ := rd_sl1 g3
  obtain ⟨a7, c8, rfl⟩ := rd_sl1 g4
  unfold spec_ScoreOk at H
  refine f_enter (vs := [.int .i64 p0, .agg #[.slice a5 p1.Table_.length c6, .slice a7 p1.Last_.length c8]]) Try.func33 rfl Try.ntmps33 rfl (St.init w []) ?_
  refine c_seq ?_
  refine c_reg ?_
  refine ow_box (cs := [.slice a5 p1.Table_.length c6, .slice a7 p1.Last_.length c8]) rfl rfl rfl rfl rfl rfl (fun _ => kp) (fun b9 => ?_)
  refine ow_batch [.p] rfl ?_
  refine ow_nil ?_
  refine x_qs ?_
  refine c_seq ?_
  refine c_seq ?_
  refine c_reg ?_
  refine ow_batch [.p] rfl ?_
  obtain ⟨y10, h11, H⟩ := of_bind H
  refine ow_q rfl rfl (dstOk_lt rfl) (qy_call rfl fn45 rfl (fun w1 hw1 => spec_l1In_ok w1  h11)) (fun _ _ => trivial) ?_
  refine ow_batch [.p, .p] rfl ?_
  refine ow_cut [(18, .bool ((!y10) || ((p1.Table_.length : Int) != p0))), (0, .int .i64 p0), (3, .pointer (some ⟨b9, 0, none⟩))] 6 ?_ (fun key => OW.sub (R := [(0, .int .i64 p0), (3, .pointer (some ⟨b9, 0, none⟩)), (12, .bool (!y10))]) ?_ ⟨rfl, rfl, rfl, trivial⟩)
  · refine ow_nil ?_
    refine x_qs ?_
    refine c_if rfl (fun hb => ?_) (fun hb => ?_)
    · have H := of_if_t hb H
      refine c_seq ?_
      refine c_reg ?_
      refine ow_batch [.p] rfl ?_
      refine ow_nil ?_
      refine x_qs ?_
      refine c_ret ?_
      refine x_qs_ret ?_
      exact x_retR (rs := [.tmp 4]) (vs := [.bool false]) rfl ⟨rfl, trivial⟩ (fun w' hw' => by
          obtain rfl := of_some H
          exact ⟨rfl, hw'.ext⟩)
    · have H := of_if_f hb H
      refine c_skip ?_
      refine x_qs ?_
      refine c_seq ?_
      refine c_reg ?_
      refine ow_batch [.p] rfl ?_
      refine ow_nil ?_
      refine x_qs ?_
      refine c_seq ?_
      refine c_seq ?_
      refine c_reg ?_
      refine ow_batch [.p] rfl ?_
      refine ow_nil ?_
      refine x_qs ?_
      refine c_block ?_
      refine CW.at (loopI2 (fun (i141 : Int) (i142 : Int) => St w [] [Res.box b9 30 [.slice a5 p1.Table_.length c6, .slice a7 p1.Last_.length c8]]) (fun (i141 : Int) (i142 : Int) => [(0, .int .i64 p0), (3, .pointer (some ⟨b9, 0, none⟩)), (5, .int .i64 i141), (6, .int .i64 i142)]) (fun kk => fun (i141 : Int) (i142 : Int) => spec_ScoreOk_L1 p0 p1 kk i141 i142 = some r) (fun _ _ H => ?_) (fun k1 ihk1 i141 i142 H => ?_) Fuel (0) (0) (H)) (fun _ h => St.sel [0] rfl rfl h) ⟨rfl, rfl, rfl, rfl,  trivial⟩
      · unfold spec_ScoreOk_L1 at H
        exact absurd H (by simp)
      · unfold spec_ScoreOk_L1 at H
        refine c_seq ?_
        refine c_seq ?_
        refine c_reg ?_
        refine ow_batch [.p, .p, .p] rfl ?_
        refine ow_nil ?_
        refine x_qs ?_
        refine c_if rfl (fun hb => ?_) (fun hb => ?_)
        · have H := of_if_t hb H
          refine c_skip ?_
          refine x_qs ?_
          refine c_seq ?_
          refine c_block ?_
          refine c_seq ?_
          refine c_seq ?_
          refine c_reg ?_
          refine ow_batch [.fa 30 0 0 fa30_0] rfl ?_
          refine ow_r rfl (dstOk_lt rfl) (ry_box1 (off := 0) rfl rfl ty22 (boxIn (i := 0) rfl) rfl) ?_
          refine ow_batch [.p] rfl ?_
          obtain ⟨e270, h271, H⟩ := of_bind H
          refine ow_ixB rfl rfl rfl rfl rfl sl22 ty53 rfl g3 h271 (fun q274 c275 hd272 hA273 => ?_)
          obtain ⟨a276, c277, rfl⟩ := rd_sl1 hd272
          refine ow_r rfl (dstOk_lt rfl) (ry_load1 rfl rfl ty53 (at_bor bor hA273)) ?_
          refine ow_batch [.lenS 53 3 sl53, .p, .p] rfl ?_
          refine ow_nil ?_
          refine x_qs ?_
          refine c_if rfl (fun hb => ?_) (fun hb => ?_)
          · have H := of_if_t hb H
            refine c_seq ?_
            refine c_reg ?_
            refine ow_batch [.p] rfl ?_
            refine ow_nil ?_
            refine x_qs ?_
            refine c_ret ?_
            refine x_qs_ret ?_
            refine x_qb_ret ?_
            refine x_qs_ret ?_
            refine x_ql_ret ?_
            refine x_qb_ret ?_
            refine x_qs_ret ?_
            exact x_retR (rs := [.tmp 4]) (vs := [.bool false]) rfl ⟨rfl, trivial⟩ (fun w' hw' => by
                obtain rfl := of_some H
                exact ⟨rfl, hw'.ext⟩)
          · have H := of_if_f hb H
            refine c_skip ?_
            refine x_qs ?_
            refine c_seq ?_
            refine c_reg ?_
            refine ow_batch [.p] rfl ?_
            refine ow_nil ?_
            refine x_qs ?_
            refine c_block ?_
            refine CW.at (loopI2 (fun (i317 : Int) (i318 : Int) => St w [] [Res.box b9 30 [.slice a5 p1.Table_.length c6, .slice a7 p1.Last_.length c8]]) (fun (i317 : Int) (i318 : Int) => [(0, .int .i64 p0), (3, .pointer (some ⟨b9, 0, none⟩)), (5, .int .i64 i317), (6, .int .i64 i142), (7, .int .i64 i318)]) (fun kk => fun (i317 : Int) (i318 : Int) => spec_ScoreOk_L2 p0 p1 i142 (spec_ScoreOk_L1 p0 p1 k1) kk i317 i318 = some r) (fun _ _ H => ?_) (fun k2 ihk2 i317 i318 H => ?_) Fuel (i141) (0) (H)) (fun _ h => St.sel [0] rfl rfl h) ⟨rfl, rfl, rfl, rfl, rfl,  trivial⟩
            · unfold spec_ScoreOk_L2 at H
              exact absurd H (by simp)
            · unfold spec_ScoreOk_L2 at H
              refine c_seq ?_
              refine c_seq ?_
              refine c_reg ?_
              refine ow_batch [.p, .p, .p] rfl ?_
              refine ow_nil ?_
              refine x_qs ?_
              refine c_if rfl (fun hb => ?_) (fun hb => ?_)
              · have H := of_if_t hb H
                refine c_skip ?_
                refine x_qs ?_
                refine c_seq ?_
                refine c_block ?_
                refine c_seq ?_
                refine c_seq ?_
                refine c_regQ mixed (by kernel_rfl) ?_
                refine ow_batch [.fa 30 0 0 fa30_0] rfl ?_
                refine ow_r rfl (dstOk_lt rfl) (ry_box1 (off := 0) rfl rfl ty22 (boxIn (i := 0) rfl) rfl) ?_
                refine ow_batch [.p] rfl ?_
                obtain ⟨e358, h359, H⟩ := of_bind H
                refine ow_ixB rfl rfl rfl rfl rfl sl22 ty53 rfl g3 h359 (fun q362 c363 hd360 hA361 => ?_)
                obtain ⟨a364, c365, rfl⟩ := rd_sl1 hd360
                refine ow_r rfl (dstOk_lt rfl) (ry_load1 rfl rfl ty53 (at_bor bor hA361)) ?_
                refine ow_batch [.p] rfl ?_
                obtain ⟨e366, h367, H⟩ := of_bind H
                refine ow_ixE (e := eVal (Value.int .i64) (fun _ => rfl)) (xs := e358) (j := i318) rfl rfl rfl rfl rfl sl53 ty3 rfl (fun w1 hw1 => rds_bor hd360 w1 hw1) h367 (by rw [Nat.mul_one]) ?_
                refine ow_r rfl (dstOk_lt rfl) (ry_load1 rfl rfl ty3 (at_elV (fun w1 hw1 => rds_bor hd360 w1 hw1) h367)) ?_
                obtain ⟨y368, h369, H⟩ := of_bind H
                refine ow_q rfl rfl (dstOk_lt rfl) (qy_call rfl fn45 rfl (fun w1 hw1 => spec_l1In_ok w1  h369)) (fun _ _ => trivial) ?_
                refine ow_batch [.p, .p] rfl ?_
                obtain ⟨u370, hu384, H⟩ := of_bind H
                refine ow_cut [(62, .bool u370), (0, .int .i64 p0), (3, .pointer (some ⟨b9, 0, none⟩)), (5, .int .i64 i317), (6, .int .i64 i142), (7, .int .i64 i318)] 15 ?_ (fun key => OW.sub (R := [(0, .int .i64 p0), (3, .pointer (some ⟨b9, 0, none⟩)), (5, .int .i64 i317), (6, .int .i64 i142), (7, .int .i64 i318), (47, .bool (!y368))]) ?_ ⟨rfl, rfl, rfl, rfl, rfl, rfl, trivial⟩)
                · refine ow_nilQ ?_
                  refine x_qs ?_
                  refine c_if rfl (fun hb => ?_) (fun hb => ?_)
                  · have H := of_if_t hb H
                    refine c_seq ?_
                    refine c_reg ?_
                    refine ow_batch [.p] rfl ?_
                    refine ow_nil ?_
                    refine x_qs ?_
                    refine c_ret ?_
                    refine x_qs_ret ?_
                    refine x_qb_ret ?_
                    refine x_qs_ret ?_
                    refine x_ql_ret ?_
                    refine x_qb_ret ?_
                    refine x_qb_ret ?_
                    refine x_qs_ret ?_
                    refine x_ql_ret ?_
                    refine x_qb_ret ?_
                    refine x_qs_ret ?_
                    exact x_retR (rs := [.tmp 4]) (vs := [.bool false]) rfl ⟨rfl, trivial⟩ (fun w' hw' => by
                        obtain rfl := of_some H
                        exact ⟨rfl, hw'.ext⟩)
                  · have H := of_if_f hb H
                    refine c_skip ?_
                    refine x_qs ?_
                    refine c_reg ?_
                    refine ow_batch [.p, .fa 30 0 0 fa30_0] rfl ?_
                    refine ow_r rfl (dstOk_lt rfl) (ry_box1 (off := 0) rfl rfl ty22 (boxIn (i := 0) rfl) rfl) ?_
                    refine ow_batch [.p] rfl ?_
                    obtain ⟨e385, h386, H⟩ := of_bind H
                    refine ow_ixB rfl rfl rfl rfl rfl sl22 ty53 rfl g3 h386 (fun q389 c390 hd387 hA388 => ?_)
                    obtain ⟨a391, c392, rfl⟩ := rd_sl1 hd387
                    refine ow_r rfl (dstOk_lt rfl) (ry_load1 rfl rfl ty53 (at_bor bor hA388)) ?_
                    refine ow_batch [.p] rfl ?_
                    obtain ⟨e393, h394, H⟩ := of_bind H
                    refine ow_ixE (e := eVal (Value.int .i64) (fun _ => rfl)) (xs := e385) (j := i318) rfl rfl rfl rfl rfl sl53 ty3 rfl (fun w1 hw1 => rds_bor hd387 w1 hw1) h394 (by rw [Nat.mul_one]) ?_
                    refine ow_r rfl (dstOk_lt rfl) (ry_load1 rfl rfl ty3 (at_elV (fun w1 hw1 => rds_bor hd387 w1 hw1) h394)) ?_
                    refine ow_batch [.p, .p] rfl ?_
                    refine ow_nil ?_
                    refine x_qb ?_
                    refine x_qs ?_
                    refine c_reg ?_
                    refine ow_batch [.p, .p, .p] rfl ?_
                    refine ow_nil ?_
                    exact x_ql (RW.at (ihk2 (IntKind.i64.wrap (i317 + e393)) (IntKind.i64.wrap (i318 + 1)) (H)) (fun _ h => St.sel [0] rfl rfl h) ⟨rfl, rfl, rfl, rfl, rfl, trivial⟩)
                · clear H
                  have H := hu384
                  clear hu384
                  generalize (!y368) = t383 at H ⊢
                  cases t383
                  · have H := of_if_f rfl H
                    refine ow_batch [.fa 30 1 1 fa30_1] rfl ?_
                    refine ow_r rfl (dstOk_lt rfl) (ry_box1 (off := 1) rfl rfl ty28 (boxIn (i := 0) rfl) rfl) ?_
                    refine ow_batch [.p, .p] rfl ?_
                    obtain ⟨y371, h372, H⟩ := of_bind H
                    refine ow_q rfl rfl (dstOk_lt rfl) (qy_call rfl fn41 rfl (fun w1 hw1 => spec_l25Pairs_ok w1  h372 (rds_bor g4 w1 hw1))) (fun _ _ => trivial) ?_
                    refine ow_batch [.fa 30 0 0 fa30_0] rfl ?_
                    refine ow_r rfl (dstOk_lt rfl) (ry_box1 (off := 0) rfl rfl ty22 (boxIn (i := 0) rfl) rfl) ?_
                    refine ow_batch [.p] rfl ?_
                    obtain ⟨e373, h374, H⟩ := of_bind H
                    refine ow_ixB rfl rfl rfl rfl rfl sl22 ty53 rfl g3 h374 (fun q377 c378 hd375 hA376 => ?_)
                    obtain ⟨a379, c380, rfl⟩ := rd_sl1 hd375
                    refine ow_r rfl (dstOk_lt rfl) (ry_load1 rfl rfl ty53 (at_bor bor hA376)) ?_
                    refine ow_batch [.p] rfl ?_
                    obtain ⟨e381, h382, H⟩ := of_bind H
                    refine ow_ixE (e := eVal (Value.int .i64) (fun _ => rfl)) (xs := e373) (j := i318) rfl rfl rfl rfl rfl sl53 ty3 rfl (fun w1 hw1 => rds_bor hd375 w1 hw1) h382 (by rw [Nat.mul_one]) ?_
                    refine ow_r rfl (dstOk_lt rfl) (ry_load1 rfl rfl ty3 (at_elV (fun w1 hw1 => rds_bor hd375 w1 hw1) h382)) ?_
                    refine ow_batch [.p] rfl ?_
                    refine ow_batch [.p] rfl ?_
                    obtain rfl := of_some H
                    exact OW.sub key ⟨rfl, rfl, rfl, rfl, rfl, rfl, trivial⟩
                  · have H := of_if_t rfl H
                    refine ow_batch [.p, .p, .p, .p, .p, .p, .p, .p, .p, .p, .p, .p, .p, .p, .p] rfl ?_
                    obtain rfl := of_some H
                    exact OW.sub key ⟨rfl, rfl, rfl, rfl, rfl, rfl, trivial⟩
              · have H := of_if_f hb H
                refine c_exit ?_
                refine x_qs_exit ?_
                refine x_ql_exit ?_
                refine x_qb_here ?_
                refine x_qb ?_
                refine x_qs ?_
                refine c_reg ?_
                refine ow_batch [.p, .p, .p] rfl ?_
                refine ow_nil ?_
                exact x_ql (RW.at (ihk1 (i317) (IntKind.i64.wrap (i142 + 1)) (H)) (fun _ h => St.sel [0] rfl rfl h) ⟨rfl, rfl, rfl, rfl, trivial⟩)
        · have H := of_if_f hb H
          refine c_exit ?_
          refine x_qs_exit ?_
          refine x_ql_exit ?_
          refine x_qb_here ?_
          refine x_qs ?_
          refine c_seq ?_
          refine c_seq ?_
          refine c_regQ mixed (by kernel_rfl) ?_
          refine ow_batch [.p, .p, .p] rfl ?_
          obtain ⟨u395, hu399, H⟩ := of_bind H
          refine ow_cut [(82, .bool u395), (0, .int .i64 p0), (3, .pointer (some ⟨b9, 0, none⟩))] 7 ?_ (fun key => OW.sub (R := [(0, .int .i64 p0), (3, .pointer (some ⟨b9, 0, none⟩)), (5, .int .i64 i141), (75, .bool (decide (i141 > 9999)))]) ?_ ⟨rfl, rfl, rfl, rfl, trivial⟩)
          · refine ow_nilQ ?_
            refine x_qs ?_
            refine c_if rfl (fun hb => ?_) (fun hb => ?_)
            · have H := of_if_t hb H
              refine c_seq ?_
              refine c_reg ?_
              refine ow_batch [.p] rfl ?_
              refine ow_nil ?_
              refine x_qs ?_
              refine c_ret ?_
              refine x_qs_ret ?_
              exact x_retR (rs := [.tmp 4]) (vs := [.bool false]) rfl ⟨rfl, trivial⟩ (fun w' hw' => by
                  obtain rfl := of_some H
                  exact ⟨rfl, hw'.ext⟩)
            · have H := of_if_f hb H
              refine c_skip ?_
              refine x_qs ?_
              refine c_seq ?_
              refine c_seq ?_
              refine c_reg ?_
              refine ow_batch [.p] rfl ?_
              refine ow_nil ?_
              refine x_qs ?_
              refine c_block ?_
              refine CW.at (loopI1 (fun (i412 : Int) => St w [] [Res.box b9 30 [.slice a5 p1.Table_.length c6, .slice a7 p1.Last_.length c8]]) (fun (i412 : Int) => [(0, .int .i64 p0), (3, .pointer (some ⟨b9, 0, none⟩)), (8, .int .i64 i412)]) (fun kk => fun (i412 : Int) => spec_ScoreOk_L3 p1 p0 kk i412 = some r) (fun _ H => ?_) (fun k3 ihk3 i412 H => ?_) Fuel (0) (H)) (fun _ h => St.sel [0] rfl rfl h) ⟨rfl, rfl, rfl,  trivial⟩
              · unfold spec_ScoreOk_L3 at H
                exact absurd H (by simp)
              · unfold spec_ScoreOk_L3 at H
                refine c_seq ?_
                refine c_seq ?_
                refine c_reg ?_
                refine ow_batch [.p, .fa 30 1 1 fa30_1] rfl ?_
                refine ow_r rfl (dstOk_lt rfl) (ry_box1 (off := 1) rfl rfl ty28 (boxIn (i := 0) rfl) rfl) ?_
                refine ow_batch [.lenS 28 60 sl28, .p] rfl ?_
                refine ow_nil ?_
                refine x_qs ?_
                refine c_if rfl (fun hb => ?_) (fun hb => ?_)
                · have H := of_if_t hb H
                  refine c_skip ?_
                  refine x_qs ?_
                  refine c_seq ?_
                  refine c_block ?_
                  refine c_seq ?_
                  refine c_reg ?_
                  refine ow_batch [.fa 30 1 1 fa30_1] rfl ?_
                  refine ow_r rfl (dstOk_lt rfl) (ry_box1 (off := 1) rfl rfl ty28 (boxIn (i := 0) rfl) rfl) ?_
                  refine ow_batch [.p] rfl ?_
                  obtain ⟨e425, h426, H⟩ := of_bind H
                  refine ow_ixE (e := eTimpl_Pair) (xs := p1.Last_) (j := i412) rfl rfl rfl rfl rfl sl28 ty60 rfl (fun w1 hw1 => rds_bor g4 w1 hw1) h426 rfl ?_
                  refine ow_batch [.fa 60 0 0 fa60_0] rfl ?_
                  refine ow_r rfl (dstOk_lt rfl) (ry_load1 rfl rfl ty3 (at_KA (at_castA (at_eltE (fun w1 hw1 => rds_bor g4 w1 hw1) h426 (fun _ _ h => h)) rfl) 0 1)) ?_
                  refine ow_batch [.p, .p] rfl ?_
                  obtain ⟨y427, h428, H⟩ := of_bind H
                  refine ow_q rfl rfl (dstOk_lt rfl) (qy_call rfl fn45 rfl (fun w1 hw1 => spec_l1In_ok w1  h428)) (fun _ _ => trivial) ?_
                  refine ow_batch [.p, .p] rfl ?_
                  obtain ⟨u429, hu435, H⟩ := of_bind H
                  refine ow_cut [(111, .bool u429), (0, .int .i64 p0), (3, .pointer (some ⟨b9, 0, none⟩)), (8, .int .i64 i412)] 11 ?_ (fun key => OW.sub (R := [(0, .int .i64 p0), (3, .pointer (some ⟨b9, 0, none⟩)), (8, .int .i64 i412), (100, .bool (!y427))]) ?_ ⟨rfl, rfl, rfl, rfl, trivial⟩)
                  · refine ow_nil ?_
                    refine x_qs ?_
                    refine c_if rfl (fun hb => ?_) (fun hb => ?_)
                    · have H := of_if_t hb H
                      refine c_seq ?_
                      refine c_reg ?_
                      refine ow_batch [.p] rfl ?_
                      refine ow_nil ?_
                      refine x_qs ?_
                      refine c_ret ?_
                      refine x_qb_ret ?_
                      refine x_qs_ret ?_
                      refine x_ql_ret ?_
                      refine x_qb_ret ?_
                      refine x_qs_ret ?_
                      exact x_retR (rs := [.tmp 4]) (vs := [.bool false]) rfl ⟨rfl, trivial⟩ (fun w' hw' => by
                          obtain rfl := of_some H
                          exact ⟨rfl, hw'.ext⟩)
                    · have H := of_if_f hb H
                      refine c_skip ?_
                      refine x_qb ?_
                      refine x_qs ?_
                      refine c_reg ?_
                      refine ow_batch [.p, .p, .p] rfl ?_
                      refine ow_nil ?_
                      exact x_ql (RW.at (ihk3 (IntKind.i64.wrap (i412 + 1)) (H)) (fun _ h => St.sel [0] rfl rfl h) ⟨rfl, rfl, rfl, trivial⟩)
                  · clear H
                    have H := hu435
                    clear hu435
                    generalize (!y427) = t434 at H ⊢
                    cases t434
                    · have H := of_if_f rfl H
                      refine ow_batch [.fa 30 1 1 fa30_1] rfl ?_
                      refine ow_r rfl (dstOk_lt rfl) (ry_box1 (off := 1) rfl rfl ty28 (boxIn (i := 0) rfl) rfl) ?_
                      refine ow_batch [.p] rfl ?_
                      obtain ⟨e430, h431, H⟩ := of_bind H
                      refine ow_ixE (e := eTimpl_Pair) (xs := p1.Last_) (j := i412) rfl rfl rfl rfl rfl sl28 ty60 rfl (fun w1 hw1 => rds_bor g4 w1 hw1) h431 rfl ?_
                      refine ow_batch [.fa 60 1 1 fa60_1] rfl ?_
                      refine ow_r rfl (dstOk_lt rfl) (ry_load1 rfl rfl ty3 (at_KA (at_castA (at_eltE (fun w1 hw1 => rds_bor g4 w1 hw1) h431 (fun _ _ h => h)) rfl) 1 1)) ?_
                      refine ow_batch [.p, .p] rfl ?_
                      obtain ⟨y432, h433, H⟩ := of_bind H
                      refine ow_q rfl rfl (dstOk_lt rfl) (qy_call rfl fn45 rfl (fun w1 hw1 => spec_l1In_ok w1  h433)) (fun _ _ => trivial) ?_
                      refine ow_batch [.p] rfl ?_
                      refine ow_batch [.p] rfl ?_
                      obtain rfl := of_some H
                      exact OW.sub key ⟨rfl, rfl, rfl, rfl, trivial⟩
                    · have H := of_if_t rfl H
                      refine ow_batch [.p, .p, .p, .p, .p, .p, .p, .p, .p, .p, .p] rfl ?_
                      obtain rfl := of_some H
                      exact OW.sub key ⟨rfl, rfl, rfl, rfl, trivial⟩
                · have H := of_if_f hb H
                  refine c_exit ?_
                  refine x_qs_exit ?_
                  refine x_ql_exit ?_
                  refine x_qb_here ?_
                  refine x_qs ?_
                  refine c_seq ?_
                  refine c_reg ?_
                  refine ow_batch [.p] rfl ?_
                  refine ow_nil ?_
                  refine x_qs ?_
                  refine c_ret ?_
                  exact x_retR (rs := [.tmp 4]) (vs := [.bool true]) rfl ⟨rfl, trivial⟩ (fun w' hw' => by
                      obtain rfl := of_some H
                      exact ⟨rfl, hw'.ext⟩)
          · clear H
            have H := hu399
            clear hu399
            generalize (decide (i141 > 9999)) = t398 at H ⊢
            cases t398
            · have H := of_if_f rfl H
              refine ow_batch [.fa 30 1 1 fa30_1] rfl ?_
              refine ow_r rfl (dstOk_lt rfl) (ry_box1 (off := 1) rfl rfl ty28 (boxIn (i := 0) rfl) rfl) ?_
              refine ow_batch [.lenS 28 60 sl28, .p] rfl ?_
              obtain ⟨y396, h397, H⟩ := of_bind H
              refine ow_q rfl rfl (dstOk_lt rfl) (qy_call rfl fn57 rfl (fun w1 hw1 => spec_l1Min_ok w1  h397)) (fun _ _ => trivial) ?_
              refine ow_batch [.p] rfl ?_
              refine ow_batch [.p] rfl ?_
              obtain rfl := of_some H
              exact OW.sub key ⟨rfl, rfl, rfl, trivial⟩
            · have H := of_if_t rfl H
              refine ow_batch [.p, .p, .p, .p, .p, .p, .p] rfl ?_
              obtain rfl := of_some H
              exact OW.sub key ⟨rfl, rfl, rfl, trivial⟩
  · generalize (!y10) = t13 at key ⊢
    cases t13
    · refine ow_batch [.fa 30 0 0 fa30_0] rfl ?_
      refine ow_r rfl (dstOk_lt rfl) (ry_box1 (off := 0) rfl rfl ty22 (boxIn (i := 0) rfl) rfl) ?_
      refine ow_batch [.lenS 22 53 sl22, .p, .p] rfl ?_
      refine ow_batch [.p] rfl ?_
      exact OW.sub key ⟨rfl, rfl, rfl, trivial⟩
    · refine ow_batch [.p, .p, .p, .p, .p, .p] rfl ?_
      exact OW.sub key ⟨rfl, rfl, rfl, trivial⟩

set_option maxHeartbeats 4000000 in
set_option maxRecDepth 100000 in
theorem spec_l10Sum_ok (w : World) {p0 : List Int} {a_0 : Option Addr} {n_0 c_0 : Nat} {r : Int} (H : spec_l10Sum p0 = some r)  (g0 : (eList (eVal (Value.int .i64) (fun _ => rfl)) 3).rd w [] p0 [.slice a_0 n_0 c_0]) :
    Calls Try.prog 42 #[.slice a_0 n_0 c_0] w (fun en w' => en = .returned (.int .i64 r) ∧ Ext [] w w') := by
  obtain rfl := rd_n g0
  unfold spec_l10Sum at H
  refine f_enter (vs := [.slice a_0 p0.length c_0]) Try.func42 rfl Try.ntmps42 rfl (St.init w []) ?_
  refine c_seq ?_
  refine c_reg ?_
  refine ow_batch [.p] rfl ?_
  refine ow_nil ?_
  refine x_qs ?_
  refine c_seq ?_
  refine c_reg ?_
  refine ow_batch [.p] rfl ?_
  refine ow_nil ?_
  refine x_qs ?_
  refine c_seq ?_
  refine c_seq ?_
  refine c_reg ?_
  refine ow_batch [.p] rfl ?_
  refine ow_nil ?_
  refine x_qs ?_
  refine c_block ?_
  refine CW.at (loopI2 (fun (i5 : Int) (i6 : Int) => St w [] []) (fun (i5 : Int) (i6 : Int) => [(0, .slice a_0 p0.length c_0), (3, .int .i64 i5), (4, .int .i64 i6)]) (fun kk => fun (i5 : Int) (i6 : Int) => spec_l10Sum_L1 p0 kk i5 i6 = some r) (fun _ _ H => ?_) (fun k1 ihk1 i5 i6 H => ?_) Fuel (0) (0) (H)) (fun _ h => St.sel [] rfl rfl h) ⟨rfl, rfl, rfl,  trivial⟩
  · unfold spec_l10Sum_L1 at H
    exact absurd H (by simp)
  · unfold spec_l10Sum_L1 at H
    refine c_seq ?_
    refine c_seq ?_
    refine c_reg ?_
    refine ow_batch [.p, .p, .lenS 53 3 sl53, .p] rfl ?_
    refine ow_nil ?_
    refine x_qs ?_
    refine c_if rfl (fun hb => ?_) (fun hb => ?_)
    · have H := of_if_t hb H
      refine c_skip ?_
      refine x_qs ?_
      refine c_seq ?_
      refine c_block ?_
      refine c_reg ?_
      refine ow_batch [.p, .p, .p] rfl ?_
      obtain ⟨e11, h12, H⟩ := of_bind H
      refine ow_ixE (e := eVal (Value.int .i64) (fun _ => rfl)) (xs := p0) (j := i6) rfl rfl rfl rfl rfl sl53 ty3 rfl (fun w1 hw1 => rds_bor g0 w1 hw1) h12 (by rw [Nat.mul_one]) ?_
      refine ow_r rfl (dstOk_lt rfl) (ry_load1 rfl rfl ty3 (at_elV (fun w1 hw1 => rds_bor g0 w1 hw1) h12)) ?_
      refine ow_batch [.p, .p] rfl ?_
      refine ow_nil ?_
      refine x_qb ?_
      refine x_qs ?_
      refine c_reg ?_
      refine ow_batch [.p, .p, .p] rfl ?_
      refine ow_nil ?_
      exact x_ql (RW.at (ihk1 (IntKind.i64.wrap (i5 + e11)) (IntKind.i64.wrap (i6 + 1)) (H)) (fun _ h => St.sel [] rfl rfl h) ⟨rfl, rfl, rfl, trivial⟩)
    · have H := of_if_f hb H
      refine c_exit ?_
      refine x_qs_exit ?_
      refine x_ql_exit ?_
      refine x_qb_here ?_
      refine x_qs ?_
      refine c_seq ?_
      refine c_reg ?_
      refine ow_batch [.p, .p] rfl ?_
      refine ow_nil ?_
      refine x_qs ?_
      refine c_ret ?_
      exact x_retR (rs := [.tmp 2]) (vs := [.int .i64 i5]) rfl ⟨rfl, trivial⟩ (fun w' hw' => by
          obtain rfl := of_some H
          exact ⟨rfl, hw'.ext⟩)

set_option maxHeartbeats 4000000 in
set_option maxRecDepth 100000 in
theorem spec_Count_ok (w : World) {p0 : Int} {p1 : Timpl_Score} {cs1 : List Value} {r : Int} (H : spec_Count p0 p1 = some r)  (g1 : (eTimpl_Score).rd w [] p1 cs1) :
    Calls Try.prog 18 #[.int .i64 p0, .agg cs1.toArray] w (fun en w' => en = .returned (.int .i64 r) ∧ Ext [] w w') := by
  obtain ⟨c1, c2, rfl, g3, g4⟩ := rdo_Timpl_Score g1
  obtain ⟨a5, c6, rfl⟩ := rd_sl1 g3
  obtain ⟨a7, c8, rfl⟩ := rd_sl1 g4
  unfold spec_Count at H
  refine f_enter (vs := [.int .i64 p0, .agg #[.slice a5 p1.Table_.length c6, .slice a7 p1.Last_.length c8]]) Try.func18 rfl Try.ntmps18 rfl (St.init w []) ?_
  refine c_seq ?_
  refine c_reg ?_
  refine ow_box (cs := [.slice a5 p1.Table_.length c6, .slice a7 p1.Last_.length c8]) rfl rfl rfl rfl rfl rfl (fun _ => kp) (fun b9 => ?_)
  refine ow_batch [.p] rfl ?_
  refine ow_nil ?_
  refine x_qs ?_
  refine c_seq ?_
  refine c_seq ?_
  refine c_reg ?_
  refine ow_batch [.p] rfl ?_
  refine ow_r rfl (dstOk_lt rfl) (ry_box (off := 0) (ds := [.slice a5 p1.Table_.length c6, .slice a7 p1.Last_.length c8]) rfl rfl ty30 (boxIn (i := 0) rfl) rfl rfl) ?_
  obtain ⟨y10, h11, H⟩ := of_bind H
  refine ow_q rfl rfl (dstOk_lt rfl) (qy_call rfl fn33 rfl (fun w1 hw1 => spec_ScoreOk_ok w1 (cs1 := [.slice a5 p1.Table_.length c6, .slice a7 p1.Last_.length c8]) h11 (rdm_Timpl_Score (x := p1) (c0 := [.slice a5 p1.Table_.length c6]) (c1 := [.slice a7 p1.Last_.length c8]) (rds_bor g3 w1 hw1) (rds_bor g4 w1 hw1)))) (fun _ _ => trivial) ?_
  refine ow_batch [.p] rfl ?_
  refine ow_nil ?_
  refine x_qs ?_
  refine c_if rfl (fun hb => ?_) (fun hb => ?_)
  · have H := of_if_t hb H
    refine c_seq ?_
    refine c_reg ?_
    refine ow_batch [.p] rfl ?_
    refine ow_nil ?_
    refine x_qs ?_
    refine c_ret ?_
    refine x_qs_ret ?_
    exact x_retR (rs := [.tmp 4]) (vs := [.int .i64 0]) rfl ⟨rfl, trivial⟩ (fun w' hw' => by
        obtain rfl := of_some H
        exact ⟨rfl, hw'.ext⟩)
  · have H := of_if_f hb H
    refine c_skip ?_
    refine x_qs ?_
    refine c_seq ?_
    refine c_reg ?_
    refine ow_batch [.p] rfl ?_
    refine ow_nil ?_
    refine x_qs ?_
    refine c_seq ?_
    refine c_seq ?_
    refine c_reg ?_
    refine ow_batch [.p] rfl ?_
    refine ow_nil ?_
    refine x_qs ?_
    refine c_block ?_
    refine CW.at (loopI2 (fun (i24 : Int) (i25 : Int) => St w [] [Res.box b9 30 [.slice a5 p1.Table_.length c6, .slice a7 p1.Last_.length c8]]) (fun (i24 : Int) (i25 : Int) => [(0, .int .i64 p0), (3, .pointer (some ⟨b9, 0, none⟩)), (5, .int .i64 i24), (6, .int .i64 i25)]) (fun kk => fun (i24 : Int) (i25 : Int) => spec_Count_L1 p0 p1 kk i24 i25 = some r) (fun _ _ H => ?_) (fun k1 ihk1 i24 i25 H => ?_) Fuel (0) (0) (H)) (fun _ h => St.sel [0] rfl rfl h) ⟨rfl, rfl, rfl, rfl,  trivial⟩
    · unfold spec_Count_L1 at H
      exact absurd H (by simp)
    · unfold spec_Count_L1 at H
      refine c_seq ?_
      refine c_seq ?_
      refine c_reg ?_
      refine ow_batch [.p, .p, .p] rfl ?_
      refine ow_nil ?_
      refine x_qs ?_
      refine c_if rfl (fun hb => ?_) (fun hb => ?_)
      · have H := of_if_t hb H
        refine c_skip ?_
        refine x_qs ?_
        refine c_seq ?_
        refine c_block ?_
        refine c_reg ?_
        refine ow_batch [.p, .fa 30 0 0 fa30_0] rfl ?_
        refine ow_r rfl (dstOk_lt rfl) (ry_box1 (off := 0) rfl rfl ty22 (boxIn (i := 0) rfl) rfl) ?_
        refine ow_batch [.p] rfl ?_
        obtain ⟨e38, h39, H⟩ := of_bind H
        refine ow_ixB rfl rfl rfl rfl rfl sl22 ty53 rfl g3 h39 (fun q42 c43 hd40 hA41 => ?_)
        obtain ⟨a44, c45, rfl⟩ := rd_sl1 hd40
        refine ow_r rfl (dstOk_lt rfl) (ry_load1 rfl rfl ty53 (at_bor bor hA41)) ?_
        obtain ⟨y46, h47, H⟩ := of_bind H
        refine ow_q rfl rfl (dstOk_lt rfl) (qy_call rfl fn42 rfl (fun w1 hw1 => spec_l10Sum_ok w1  h47 (rds_bor hd40 w1 hw1))) (fun _ _ => trivial) ?_
        refine ow_batch [.p, .p] rfl ?_
        refine ow_nil ?_
        refine x_qb ?_
        refine x_qs ?_
        refine c_reg ?_
        refine ow_batch [.p, .p, .p] rfl ?_
        refine ow_nil ?_
        exact x_ql (RW.at (ihk1 (IntKind.i64.wrap (i24 + y46)) (IntKind.i64.wrap (i25 + 1)) (H)) (fun _ h => St.sel [0] rfl rfl h) ⟨rfl, rfl, rfl, rfl, trivial⟩)
      · have H := of_if_f hb H
        refine c_exit ?_
        refine x_qs_exit ?_
        refine x_ql_exit ?_
        refine x_qb_here ?_
        refine x_qs ?_
        refine c_seq ?_
        refine c_reg ?_
        refine ow_batch [.p, .p] rfl ?_
        refine ow_nil ?_
        refine x_qs ?_
        refine c_ret ?_
        exact x_retR (rs := [.tmp 4]) (vs := [.int .i64 i24]) rfl ⟨rfl, trivial⟩ (fun w' hw' => by
            obtain rfl := of_some H
            exact ⟨rfl, hw'.ext⟩)

set_option maxHeartbeats 4000000 in
set_option maxRecDepth 100000 in
theorem impl_within_ok (w : World) {p0 : Int} {p1 : Int} {p2 : Int}  {r : Bool} (H : impl_within p0 p1 p2 = some r)   :
    Calls Try.prog 47 #[.int .i64 p0, .int .i64 p1, .int .i64 p2] w (fun en w' => en = .returned (.bool r) ∧ Ext [] w w') := by
  unfold impl_within at H
  refine f_enter (vs := [.int .i64 p0, .int .i64 p1, .int .i64 p2]) Try.func47 rfl Try.ntmps47 rfl (St.init w []) ?_
  refine c_seq ?_
  refine c_reg ?_
  refine ow_batch [.p] rfl ?_
  refine ow_nil ?_
  refine x_qs ?_
  refine c_seq ?_
  refine c_reg ?_
  refine ow_batch [.p, .p, .p, .p] rfl ?_
  refine ow_cut [(14, .bool ((decide (p0 ≥ p1)) && (decide (p0 ≤ p2)))), (6, .bool false)] 4 ?_ (fun key => OW.sub (R := [(0, .int .i64 p0), (2, .int .i64 p2), (6, .bool false), (10, .bool (decide (p0 ≥ p1)))]) ?_ ⟨rfl, rfl, rfl, rfl, trivial⟩)
  · refine ow_batch [.p] rfl ?_
    refine ow_nil ?_
    refine x_qs ?_
    refine c_ret ?_
    exact x_retR (rs := [.tmp 6]) (vs := [.bool ((decide (p0 ≥ p1)) && (decide (p0 ≤ p2)))]) rfl ⟨rfl, trivial⟩ (fun w' hw' => by
        obtain rfl := of_some H
        exact ⟨rfl, hw'.ext⟩)
  · generalize (decide (p0 ≥ p1)) = t2 at key ⊢
    cases t2
    · refine ow_batch [.p, .p, .p, .p] rfl ?_
      exact OW.sub key ⟨rfl, rfl, trivial⟩
    · refine ow_batch [.p, .p, .p] rfl ?_
      refine ow_batch [.p] rfl ?_
      exact OW.sub key ⟨rfl, rfl, trivial⟩

set_option maxHeartbeats 4000000 in
set_option maxRecDepth 100000 in
theorem impl_ScoreOk_1_ok (w : World) {p0 : Int}  {r : Bool} (H : impl_ScoreOk_1 p0 = some r)   :
    Calls Try.prog 59 #[.int .i64 p0] w (fun en w' => en = .returned (.bool r) ∧ Ext [] w w') := by
  unfold impl_ScoreOk_1 at H
  refine f_enter (vs := [.int .i64 p0]) Try.func59 rfl Try.ntmps59 rfl (St.init w []) ?_
  refine c_seq ?_
  refine c_reg ?_
  refine ow_batch [.p] rfl ?_
  refine ow_nil ?_
  refine x_qs ?_
  refine c_seq ?_
  refine c_reg ?_
  refine ow_batch [.p] rfl ?_
  obtain ⟨y1, h2, H⟩ := of_bind H
  refine ow_q rfl rfl (dstOk_lt rfl) (qy_call rfl fn47 rfl (fun w1 hw1 => impl_within_ok w1  h2)) (fun _ _ => trivial) ?_
  refine ow_batch [.p, .p] rfl ?_
  refine ow_nil ?_
  refine x_qs ?_
  refine c_ret ?_
  exact x_retR (rs := [.tmp 2]) (vs := [.bool (!y1)]) rfl ⟨rfl, trivial⟩ (fun w' hw' => by
      obtain rfl := of_some H
      exact ⟨rfl, hw'.ext⟩)

set_option maxHeartbeats 4000000 in
set_option maxRecDepth 100000 in
theorem impl_total_ok (w : World) {p0 : List Int} {a_0 : Option Addr} {n_0 c_0 : Nat} {r : Int} (H : impl_total p0 = some r)  (g0 : (eList (eVal (Value.int .i64) (fun _ => rfl)) 3).rd w [] p0 [.slice a_0 n_0 c_0]) :
    Calls Try.prog 44 #[.slice a_0 n_0 c_0] w (fun en w' => en = .returned (.int .i64 r) ∧ Ext [] w w') := by
  obtain rfl := rd_n g0
  unfold impl_total at H
  refine f_enter (vs := [.slice a_0 p0.length c_0]) Try.func44 rfl Try.ntmps44 rfl (St.init w []) ?_
  refine c_seq ?_
  refine c_reg ?_
  refine ow_batch [.p] rfl ?_
  refine ow_nil ?_
  refine x_qs ?_
  refine c_seq ?_
  refine c_reg ?_
  refine ow_batch [.p] rfl ?_
  refine ow_nil ?_
  refine x_qs ?_
  refine c_seq ?_
  refine c_seq ?_
  refine c_reg ?_
  refine ow_batch [.p, .lenS 53 3 sl53, .p] rfl ?_
  refine ow_nil ?_
  refine x_qs ?_
  refine c_block ?_
  refine CW.at (loopI2 (fun (i5 : Int) (i6 : Int) => St w [] []) (fun (i5 : Int) (i6 : Int) => [(3, .int .i64 i5), (6, .slice a_0 p0.length c_0), (7, .int .i64 (p0.length : Int)), (8, .int .i64 i6)]) (fun kk => fun (i5 : Int) (i6 : Int) => impl_total_L1 p0 kk i5 i6 = some r) (fun _ _ H => ?_) (fun k1 ihk1 i5 i6 H => ?_) Fuel (0) (0) (H)) (fun _ h => St.sel [] rfl rfl h) ⟨rfl, rfl, rfl, rfl,  trivial⟩
  · unfold impl_total_L1 at H
    exact absurd H (by simp)
  · unfold impl_total_L1 at H
    refine c_seq ?_
    refine c_reg ?_
    refine ow_batch [.p] rfl ?_
    refine ow_nil ?_
    refine x_qs ?_
    refine c_seq ?_
    refine c_if rfl (fun hb => ?_) (fun hb => ?_)
    · have H := of_if_t hb H
      refine c_skip ?_
      refine x_qs ?_
      refine c_seq ?_
      refine c_block ?_
      refine c_seq ?_
      refine c_reg ?_
      obtain ⟨e11, h12, H⟩ := of_bind H
      refine ow_ixE (e := eVal (Value.int .i64) (fun _ => rfl)) (xs := p0) (j := i6) rfl rfl rfl rfl rfl sl53 ty3 rfl (fun w1 hw1 => rds_bor g0 w1 hw1) h12 (by rw [Nat.mul_one]) ?_
      refine ow_r rfl (dstOk_lt rfl) (ry_load1 rfl rfl ty3 (at_elV (fun w1 hw1 => rds_bor g0 w1 hw1) h12)) ?_
      refine ow_batch [.p] rfl ?_
      refine ow_nil ?_
      refine x_qs ?_
      refine c_reg ?_
      refine ow_batch [.p, .p, .p, .p] rfl ?_
      refine ow_nil ?_
      refine x_qb ?_
      refine x_qs ?_
      refine c_reg ?_
      refine ow_batch [.p, .p] rfl ?_
      refine ow_nil ?_
      exact x_ql (RW.at (ihk1 (IntKind.i64.wrap (i5 + e11)) (IntKind.i64.wrap (i6 + 1)) (H)) (fun _ h => St.sel [] rfl rfl h) ⟨rfl, rfl, rfl, rfl, trivial⟩)
    · have H := of_if_f hb H
      refine c_exit ?_
      refine x_qs_exit ?_
      refine x_ql_exit ?_
      refine x_qb_here ?_
      refine x_qs ?_
      refine c_seq ?_
      refine c_reg ?_
      refine ow_batch [.p, .p] rfl ?_
      refine ow_nil ?_
      refine x_qs ?_
      refine c_ret ?_
      exact x_retR (rs := [.tmp 2]) (vs := [.int .i64 i5]) rfl ⟨rfl, trivial⟩ (fun w' hw' => by
          obtain rfl := of_some H
          exact ⟨rfl, hw'.ext⟩)

set_option maxHeartbeats 4000000 in
set_option maxRecDepth 100000 in
theorem impl_tableSum_ok (w : World) {p0 : List (List Int)} {a_0 : Option Addr} {n_0 c_0 : Nat} {r : Int} (H : impl_tableSum p0 = some r)  (g0 : (eList (eList (eVal (Value.int .i64) (fun _ => rfl)) 3) 53).rd w [] p0 [.slice a_0 n_0 c_0]) :
    Calls Try.prog 43 #[.slice a_0 n_0 c_0] w (fun en w' => en = .returned (.int .i64 r) ∧ Ext [] w w') := by
  obtain rfl := rd_n g0
  unfold impl_tableSum at H
  refine f_enter (vs := [.slice a_0 p0.length c_0]) Try.func43 rfl Try.ntmps43 rfl (St.init w []) ?_
  refine c_seq ?_
  refine c_reg ?_
  refine ow_batch [.p] rfl ?_
  refine ow_nil ?_
  refine x_qs ?_
  refine c_seq ?_
  refine c_reg ?_
  refine ow_batch [.p] rfl ?_
  refine ow_nil ?_
  refine x_qs ?_
  refine c_seq ?_
  refine c_seq ?_
  refine c_reg ?_
  refine ow_batch [.p, .lenS 22 53 sl22, .p] rfl ?_
  refine ow_nil ?_
  refine x_qs ?_
  refine c_block ?_
  refine CW.at (loopI2 (fun (i13 : Int) (i14 : Int) => St w [] []) (fun (i13 : Int) (i14 : Int) => [(3, .int .i64 i13), (6, .slice a_0 p0.length c_0), (7, .int .i64 (p0.length : Int)), (8, .int .i64 i14)]) (fun kk => fun (i13 : Int) (i14 : Int) => impl_tableSum_L1 p0 kk i13 i14 = some r) (fun _ _ H => ?_) (fun k1 ihk1 i13 i14 H => ?_) Fuel (0) (0) (H)) (fun _ h => St.sel [] rfl rfl h) ⟨rfl, rfl, rfl, rfl,  trivial⟩
  · unfold impl_tableSum_L1 at H
    exact absurd H (by simp)
  · unfold impl_tableSum_L1 at H
    refine c_seq ?_
    refine c_reg ?_
    refine ow_batch [.p] rfl ?_
    refine ow_nil ?_
    refine x_qs ?_
    refine c_seq ?_
    refine c_if rfl (fun hb => ?_) (fun hb => ?_)
    · have H := of_if_t hb H
      refine c_skip ?_
      refine x_qs ?_
      refine c_seq ?_
      refine c_block ?_
      refine c_seq ?_
      refine c_reg ?_
      obtain ⟨e27, h28, H⟩ := of_bind H
      refine ow_ixB rfl rfl rfl rfl rfl sl22 ty53 rfl g0 h28 (fun q31 c32 hd29 hA30 => ?_)
      obtain ⟨a33, c34, rfl⟩ := rd_sl1 hd29
      refine ow_r rfl (dstOk_lt rfl) (ry_load1 rfl rfl ty53 (at_bor bor hA30)) ?_
      refine ow_batch [.p] rfl ?_
      refine ow_nil ?_
      refine x_qs ?_
      refine c_reg ?_
      refine ow_batch [.p, .p] rfl ?_
      obtain ⟨y35, h36, H⟩ := of_bind H
      refine ow_q rfl rfl (dstOk_lt rfl) (qy_call rfl fn44 rfl (fun w1 hw1 => impl_total_ok w1  h36 (rds_bor hd29 w1 hw1))) (fun _ _ => trivial) ?_
      refine ow_batch [.p, .p] rfl ?_
      refine ow_nil ?_
      refine x_qb ?_
      refine x_qs ?_
      refine c_reg ?_
      refine ow_batch [.p, .p] rfl ?_
      refine ow_nil ?_
      exact x_ql (RW.at (ihk1 (IntKind.i64.wrap (i13 + y35)) (IntKind.i64.wrap (i14 + 1)) (H)) (fun _ h => St.sel [] rfl rfl h) ⟨rfl, rfl, rfl, rfl, trivial⟩)
    · have H := of_if_f hb H
      refine c_exit ?_
      refine x_qs_exit ?_
      refine x_ql_exit ?_
      refine x_qb_here ?_
      refine x_qs ?_
      refine c_seq ?_
      refine c_reg ?_
      refine ow_batch [.p, .p] rfl ?_
      refine ow_nil ?_
      refine x_qs ?_
      refine c_ret ?_
      exact x_retR (rs := [.tmp 2]) (vs := [.int .i64 i13]) rfl ⟨rfl, trivial⟩ (fun w' hw' => by
          obtain rfl := of_some H
          exact ⟨rfl, hw'.ext⟩)

set_option maxHeartbeats 4000000 in
set_option maxRecDepth 100000 in
theorem lib_slices_IndexFunc___int_int___impl_ScoreOk_1_ok (w : World) {p0 : List Int} {a_0 : Option Addr} {n_0 c_0 : Nat} {r : Int} (H : lib_slices_IndexFunc___int_int___impl_ScoreOk_1 p0 = some r)  (g0 : (eList (eVal (Value.int .i64) (fun _ => rfl)) 3).rd w [] p0 [.slice a_0 n_0 c_0]) :
    Calls Try.prog 76 #[.slice a_0 n_0 c_0, .func (.func 59) #[] #[]] w (fun en w' => en = .returned (.int .i64 r) ∧ Ext [] w w') := by
  obtain rfl := rd_n g0
  unfold lib_slices_IndexFunc___int_int___impl_ScoreOk_1 at H
  refine f_enter (vs := [.slice a_0 p0.length c_0, .func (.func 59) #[] #[]]) Try.func76 rfl Try.ntmps76 rfl (St.init w []) ?_
  refine c_seq ?_
  refine c_reg ?_
  refine ow_batch [.p] rfl ?_
  refine ow_nil ?_
  refine x_qs ?_
  refine c_seq ?_
  refine c_seq ?_
  refine c_reg ?_
  refine ow_batch [.p, .lenS 53 3 sl53, .p] rfl ?_
  refine ow_nil ?_
  refine x_qs ?_
  refine c_block ?_
  refine CW.at (loopI1 (fun (i6 : Int) => St w [] []) (fun (i6 : Int) => [(0, .slice a_0 p0.length c_0), (1, .func (.func 59) #[] #[]), (7, .int .i64 (p0.length : Int)), (8, .int .i64 i6)]) (fun kk => fun (i6 : Int) => lib_slices_IndexFunc___int_int___impl_ScoreOk_1_L1 p0 kk i6 = some r) (fun _ H => ?_) (fun k1 ihk1 i6 H => ?_) Fuel (0) (H)) (fun _ h => St.sel [] rfl rfl h) ⟨rfl, rfl, rfl, rfl,  trivial⟩
  · unfold lib_slices_IndexFunc___int_int___impl_ScoreOk_1_L1 at H
    exact absurd H (by simp)
  · unfold lib_slices_IndexFunc___int_int___impl_ScoreOk_1_L1 at H
    refine c_seq ?_
    refine c_reg ?_
    refine ow_batch [.p] rfl ?_
    refine ow_nil ?_
    refine x_qs ?_
    refine c_seq ?_
    refine c_if rfl (fun hb => ?_) (fun hb => ?_)
    · have H := of_if_t hb H
      refine c_skip ?_
      refine x_qs ?_
      refine c_seq ?_
      refine c_block ?_
      refine c_seq ?_
      refine c_reg ?_
      refine ow_batch [.p, .p] rfl ?_
      refine ow_nil ?_
      refine x_qs ?_
      refine c_seq ?_
      refine c_reg ?_
      refine ow_batch [.p, .p, .p] rfl ?_
      obtain ⟨e12, h13, H⟩ := of_bind H
      refine ow_ixE (e := eVal (Value.int .i64) (fun _ => rfl)) (xs := p0) (j := i6) rfl rfl rfl rfl rfl sl53 ty3 rfl (fun w1 hw1 => rds_bor g0 w1 hw1) h13 (by rw [Nat.mul_one]) ?_
      refine ow_r rfl (dstOk_lt rfl) (ry_load1 rfl rfl ty3 (at_elV (fun w1 hw1 => rds_bor g0 w1 hw1) h13)) ?_
      obtain ⟨y14, h15, H⟩ := of_bind H
      refine ow_q rfl rfl (dstOk_lt rfl) (qy_callV (cap := []) rfl fn59 rfl rfl (fun w1 hw1 => impl_ScoreOk_1_ok w1  h15)) (fun _ _ => trivial) ?_
      refine ow_nil ?_
      refine x_qs ?_
      refine c_if rfl (fun hb => ?_) (fun hb => ?_)
      · have H := of_if_t hb H
        refine c_seq ?_
        refine c_reg ?_
        refine ow_batch [.p, .p] rfl ?_
        refine ow_nil ?_
        refine x_qs ?_
        refine c_ret ?_
        refine x_qb_ret ?_
        refine x_qs_ret ?_
        refine x_ql_ret ?_
        refine x_qb_ret ?_
        refine x_qs_ret ?_
        exact x_retR (rs := [.tmp 4]) (vs := [.int .i64 i6]) rfl ⟨rfl, trivial⟩ (fun w' hw' => by
            obtain rfl := of_some H
            exact ⟨rfl, hw'.ext⟩)
      · have H := of_if_f hb H
        refine c_skip ?_
        refine x_qb ?_
        refine x_qs ?_
        refine c_reg ?_
        refine ow_batch [.p, .p] rfl ?_
        refine ow_nil ?_
        exact x_ql (RW.at (ihk1 (IntKind.i64.wrap (i6 + 1)) (H)) (fun _ h => St.sel [] rfl rfl h) ⟨rfl, rfl, rfl, rfl, trivial⟩)
    · have H := of_if_f hb H
      refine c_exit ?_
      refine x_qs_exit ?_
      refine x_ql_exit ?_
      refine x_qb_here ?_
      refine x_qs ?_
      refine c_seq ?_
      refine c_reg ?_
      refine ow_batch [.p] rfl ?_
      refine ow_nil ?_
      refine x_qs ?_
      refine c_ret ?_
      exact x_retR (rs := [.tmp 4]) (vs := [.int .i64 (-1)]) rfl ⟨rfl, trivial⟩ (fun w' hw' => by
          obtain rfl := of_some H
          exact ⟨rfl, hw'.ext⟩)

set_option maxHeartbeats 4000000 in
set_option maxRecDepth 100000 in
theorem lib_slices_ContainsFunc___int_int___impl_ScoreOk_1_ok (w : World) {p0 : List Int} {a_0 : Option Addr} {n_0 c_0 : Nat} {r : Bool} (H : lib_slices_ContainsFunc___int_int___impl_ScoreOk_1 p0 = some r)  (g0 : (eList (eVal (Value.int .i64) (fun _ => rfl)) 3).rd w [] p0 [.slice a_0 n_0 c_0]) :
    Calls Try.prog 58 #[.slice a_0 n_0 c_0, .func (.func 59) #[] #[]] w (fun en w' => en = .returned (.bool r) ∧ Ext [] w w') := by
  obtain rfl := rd_n g0
  unfold lib_slices_ContainsFunc___int_int___impl_ScoreOk_1 at H
  refine f_enter (vs := [.slice a_0 p0.length c_0, .func (.func 59) #[] #[]]) Try.func58 rfl Try.ntmps58 rfl (St.init w []) ?_
  refine c_seq ?_
  refine c_reg ?_
  refine ow_batch [.p] rfl ?_
  refine ow_nil ?_
  refine x_qs ?_
  refine c_seq ?_
  refine c_reg ?_
  refine ow_batch [.p, .p] rfl ?_
  obtain ⟨y1, h2, H⟩ := of_bind H
  refine ow_q rfl rfl (dstOk_lt rfl) (qy_call rfl fn76 rfl (fun w1 hw1 => lib_slices_IndexFunc___int_int___impl_ScoreOk_1_ok w1  h2 (rds_bor g0 w1 hw1))) (fun _ _ => trivial) ?_
  refine ow_batch [.p, .p] rfl ?_
  refine ow_nil ?_
  refine x_qs ?_
  refine c_ret ?_
  exact x_retR (rs := [.tmp 4]) (vs := [.bool (decide (y1 ≥ 0))]) rfl ⟨rfl, trivial⟩ (fun w' hw' => by
      obtain rfl := of_some H
      exact ⟨rfl, hw'.ext⟩)

set_option maxHeartbeats 4000000 in
set_option maxRecDepth 100000 in
theorem impl_ScoreOk_ok (w : World) {p0 : Int} {p1 : Timpl_Score} {cs1 : List Value} {r : Bool} (H : impl_ScoreOk p0 p1 = some r)  (g1 : (eTimpl_Score).rd w [] p1 cs1) :
    Calls Try.prog 34 #[.int .i64 p0, .agg cs1.toArray] w (fun en w' => en = .returned (.bool r) ∧ Ext [] w w') := by
  obtain ⟨c1, c2, rfl, g3, g4⟩ := rdo_Timpl_Score g1
  obtain ⟨a5, c6, rfl⟩ := rd_sl1 g3
  obtain ⟨a7, c8, rfl⟩ := rd_sl1 g4
  unfold impl_ScoreOk at H
  refine f_enter (vs := [.int .i64 p0, .agg #[.slice a5 p1.Table_.length c6, .slice a7 p1.Last_.length c8]]) Try.func34 rfl Try.ntmps34 rfl (St.init w []) ?_
  refine c_seq ?_
  refine c_reg ?_
  refine ow_box (cs := [.slice a5 p1.Table_.length c6, .slice a7 p1.Last_.length c8]) rfl rfl rfl rfl rfl rfl (fun _ => kp) (fun b9 => ?_)
  refine ow_batch [.p] rfl ?_
  refine ow_nil ?_
  refine x_qs ?_
  refine c_seq ?_
  refine c_seq ?_
  refine c_reg ?_
  refine ow_batch [.p] rfl ?_
  obtain ⟨y10, h11, H⟩ := of_bind H
  refine ow_q rfl rfl (dstOk_lt rfl) (qy_call rfl fn47 rfl (fun w1 hw1 => impl_within_ok w1  h11)) (fun _ _ => trivial) ?_
  refine ow_batch [.p, .p] rfl ?_
  refine ow_cut [(20, .bool ((!y10) || ((p1.Table_.length : Int) != p0))), (0, .int .i64 p0), (3, .pointer (some ⟨b9, 0, none⟩))] 6 ?_ (fun key => OW.sub (R := [(0, .int .i64 p0), (3, .pointer (some ⟨b9, 0, none⟩)), (14, .bool (!y10))]) ?_ ⟨rfl, rfl, rfl, trivial⟩)
  · refine ow_nil ?_
    refine x_qs ?_
    refine c_if rfl (fun hb => ?_) (fun hb => ?_)
    · have H := of_if_t hb H
      refine c_seq ?_
      refine c_reg ?_
      refine ow_batch [.p] rfl ?_
      refine ow_nil ?_
      refine x_qs ?_
      refine c_ret ?_
      refine x_qs_ret ?_
      exact x_retR (rs := [.tmp 4]) (vs := [.bool false]) rfl ⟨rfl, trivial⟩ (fun w' hw' => by
          obtain rfl := of_some H
          exact ⟨rfl, hw'.ext⟩)
    · have H := of_if_f hb H
      refine c_skip ?_
      refine x_qs ?_
      refine c_seq ?_
      refine c_seq ?_
      refine c_reg ?_
      refine ow_batch [.fa 30 0 0 fa30_0] rfl ?_
      refine ow_r rfl (dstOk_lt rfl) (ry_box1 (off := 0) rfl rfl ty22 (boxIn (i := 0) rfl) rfl) ?_
      refine ow_batch [.lenS 22 53 sl22, .p] rfl ?_
      refine ow_nil ?_
      refine x_qs ?_
      refine c_block ?_
      refine CW.at (loopI1 (fun (i28 : Int) => St w [] [Res.box b9 30 [.slice a5 p1.Table_.length c6, .slice a7 p1.Last_.length c8]]) (fun (i28 : Int) => [(0, .int .i64 p0), (3, .pointer (some ⟨b9, 0, none⟩)), (22, .slice a5 p1.Table_.length c6), (23, .int .i64 (p1.Table_.length : Int)), (24, .int .i64 i28)]) (fun kk => fun (i28 : Int) => impl_ScoreOk_L1 p1 p0 kk i28 = some r) (fun _ H => ?_) (fun k1 ihk1 i28 H => ?_) Fuel (0) (H)) (fun _ h => St.sel [0] rfl rfl h) ⟨rfl, rfl, rfl, rfl, rfl,  trivial⟩
      · unfold impl_ScoreOk_L1 at H
        exact absurd H (by simp)
      · unfold impl_ScoreOk_L1 at H
        refine c_seq ?_
        refine c_reg ?_
        refine ow_batch [.p] rfl ?_
        refine ow_nil ?_
        refine x_qs ?_
        refine c_seq ?_
        refine c_if rfl (fun hb => ?_) (fun hb => ?_)
        · have H := of_if_t hb H
          refine c_skip ?_
          refine x_qs ?_
          refine c_seq ?_
          refine c_block ?_
          refine c_seq ?_
          refine c_reg ?_
          obtain ⟨e43, h44, H⟩ := of_bind H
          refine ow_ixB rfl rfl rfl rfl rfl sl22 ty53 rfl g3 h44 (fun q47 c48 hd45 hA46 => ?_)
          obtain ⟨a49, c50, rfl⟩ := rd_sl1 hd45
          refine ow_r rfl (dstOk_lt rfl) (ry_load1 rfl rfl ty53 (at_bor bor hA46)) ?_
          refine ow_batch [.p] rfl ?_
          refine ow_nil ?_
          refine x_qs ?_
          refine c_seq ?_
          refine c_reg ?_
          refine ow_batch [.p, .lenS 53 3 sl53, .p, .p, .p] rfl ?_
          obtain ⟨u51, hu55, H⟩ := of_bind H
          refine ow_cut [(35, .bool u51), (0, .int .i64 p0), (3, .pointer (some ⟨b9, 0, none⟩)), (22, .slice a5 p1.Table_.length c6), (23, .int .i64 (p1.Table_.length : Int)), (24, .int .i64 i28)] 3 ?_ (fun key => OW.sub (R := [(0, .int .i64 p0), (3, .pointer (some ⟨b9, 0, none⟩)), (6, .slice a49 e43.length c50), (22, .slice a5 p1.Table_.length c6), (23, .int .i64 (p1.Table_.length : Int)), (24, .int .i64 i28), (32, .bool ((e43.length : Int) != p0))]) ?_ ⟨rfl, rfl, rfl, rfl, rfl, rfl, rfl, trivial⟩)
          · refine ow_nil ?_
            refine x_qs ?_
            refine c_if rfl (fun hb => ?_) (fun hb => ?_)
            · have H := of_if_t hb H
              refine c_seq ?_
              refine c_reg ?_
              refine ow_batch [.p] rfl ?_
              refine ow_nil ?_
              refine x_qs ?_
              refine c_ret ?_
              refine x_qb_ret ?_
              refine x_qs_ret ?_
              refine x_ql_ret ?_
              refine x_qb_ret ?_
              refine x_qs_ret ?_
              exact x_retR (rs := [.tmp 4]) (vs := [.bool false]) rfl ⟨rfl, trivial⟩ (fun w' hw' => by
                  obtain rfl := of_some H
                  exact ⟨rfl, hw'.ext⟩)
            · have H := of_if_f hb H
              refine c_skip ?_
              refine x_qb ?_
              refine x_qs ?_
              refine c_reg ?_
              refine ow_batch [.p, .p] rfl ?_
              refine ow_nil ?_
              exact x_ql (RW.at (ihk1 (IntKind.i64.wrap (i28 + 1)) (H)) (fun _ h => St.sel [0] rfl rfl h) ⟨rfl, rfl, rfl, rfl, rfl, trivial⟩)
          · clear H
            have H := hu55
            clear hu55
            generalize ((e43.length : Int) != p0) = t54 at H ⊢
            cases t54
            · have H := of_if_f rfl H
              refine ow_batch [.p] rfl ?_
              obtain ⟨y52, h53, H⟩ := of_bind H
              refine ow_q rfl rfl (dstOk_lt rfl) (qy_call rfl fn58 rfl (fun w1 hw1 => lib_slices_ContainsFunc___int_int___impl_ScoreOk_1_ok w1  h53 (rds_bor hd45 w1 hw1))) (fun _ _ => trivial) ?_
              refine ow_batch [.p] rfl ?_
              obtain rfl := of_some H
              exact OW.sub key ⟨rfl, rfl, rfl, rfl, rfl, rfl, trivial⟩
            · have H := of_if_t rfl H
              refine ow_batch [.p, .p, .p] rfl ?_
              obtain rfl := of_some H
              exact OW.sub key ⟨rfl, rfl, rfl, rfl, rfl, rfl, trivial⟩
        · have H := of_if_f hb H
          refine c_exit ?_
          refine x_qs_exit ?_
          refine x_ql_exit ?_
          refine x_qb_here ?_
          refine x_qs ?_
          refine c_seq ?_
          refine c_reg ?_
          refine ow_batch [.fa 30 0 0 fa30_0] rfl ?_
          refine ow_r rfl (dstOk_lt rfl) (ry_box1 (off := 0) rfl rfl ty22 (boxIn (i := 0) rfl) rfl) ?_
          obtain ⟨y56, h57, H⟩ := of_bind H
          refine ow_q rfl rfl (dstOk_lt rfl) (qy_call rfl fn43 rfl (fun w1 hw1 => impl_tableSum_ok w1  h57 (rds_bor g3 w1 hw1))) (fun _ _ => trivial) ?_
          refine ow_batch [.p] rfl ?_
          refine ow_nil ?_
          refine x_qs ?_
          refine c_seq ?_
          refine c_seq ?_
          refine c_reg ?_
          refine ow_batch [.p, .p, .p] rfl ?_
          refine ow_cut [(49, .bool ((decide (y56 > 9999)) || ((p1.Last_.length : Int) != (if 20 < y56 then 20 else y56)))), (0, .int .i64 p0), (3, .pointer (some ⟨b9, 0, none⟩))] 7 ?_ (fun key => OW.sub (R := [(0, .int .i64 p0), (3, .pointer (some ⟨b9, 0, none⟩)), (7, .int .i64 y56), (42, .bool (decide (y56 > 9999)))]) ?_ ⟨rfl, rfl, rfl, rfl, trivial⟩)
          · refine ow_nil ?_
            refine x_qs ?_
            refine c_if rfl (fun hb => ?_) (fun hb => ?_)
            · have H := of_if_t hb H
              refine c_seq ?_
              refine c_reg ?_
              refine ow_batch [.p] rfl ?_
              refine ow_nil ?_
              refine x_qs ?_
              refine c_ret ?_
              refine x_qs_ret ?_
              exact x_retR (rs := [.tmp 4]) (vs := [.bool false]) rfl ⟨rfl, trivial⟩ (fun w' hw' => by
                  obtain rfl := of_some H
                  exact ⟨rfl, hw'.ext⟩)
            · have H := of_if_f hb H
              refine c_skip ?_
              refine x_qs ?_
              refine c_seq ?_
              refine c_reg ?_
              refine ow_makeMap (κ := Timpl_Pair) kfTimpl_Pair rfl rfl rfl rfl (fun _ => kp) (fun b60 => ?_)
              refine ow_batch [.p] rfl ?_
              refine ow_nil ?_
              refine x_qs ?_
              refine c_seq ?_
              refine c_seq ?_
              refine c_reg ?_
              refine ow_batch [.fa 30 1 1 fa30_1] rfl ?_
              refine ow_r rfl (dstOk_lt rfl) (ry_box1 (off := 1) rfl rfl ty28 (boxIn (i := 0) rfl) rfl) ?_
              refine ow_batch [.lenS 28 60 sl28, .p] rfl ?_
              refine ow_nil ?_
              refine x_qs ?_
              refine c_block ?_
              refine CW.at (loopI2 (fun (i86 : Int) (m87 : List (Timpl_Pair × Int)) => St w [] [Res.box b9 30 [.slice a5 p1.Table_.length c6, .slice a7 p1.Last_.length c8], Res.map kfTimpl_Pair b60 m87]) (fun (i86 : Int) (m87 : List (Timpl_Pair × Int)) => [(0, .int .i64 p0), (3, .pointer (some ⟨b9, 0, none⟩)), (8, .map (some b60)), (52, .slice a7 p1.Last_.length c8), (53, .int .i64 (p1.Last_.length : Int)), (54, .int .i64 i86)]) (fun kk => fun (i86 : Int) (m87 : List (Timpl_Pair × Int)) => impl_ScoreOk_L2 p1 p0 kk i86 m87 = some r) (fun _ _ H => ?_) (fun k2 ihk2 i86 m87 H => ?_) Fuel (0) (([] : List (Timpl_Pair × Int))) (H)) (fun _ h => St.sel [0, 1] rfl rfl h) ⟨rfl, rfl, rfl, rfl, rfl, rfl,  trivial⟩
              · unfold impl_ScoreOk_L2 at H
                exact absurd H (by simp)
              · unfold impl_ScoreOk_L2 at H
                refine c_seq ?_
                refine c_reg ?_
                refine ow_batch [.p] rfl ?_
                refine ow_nil ?_
                refine x_qs ?_
                refine c_seq ?_
                refine c_if rfl (fun hb => ?_) (fun hb => ?_)
                · have H := of_if_t hb H
                  refine c_skip ?_
                  refine x_qs ?_
                  refine c_seq ?_
                  refine c_block ?_
                  refine c_seq ?_
                  refine c_reg ?_
                  obtain ⟨e113, h114, H⟩ := of_bind H
                  refine ow_ixE (e := eTimpl_Pair) (xs := p1.Last_) (j := i86) rfl rfl rfl rfl rfl sl28 ty60 rfl (fun w1 hw1 => rds_bor g4 w1 hw1) h114 rfl ?_
                  refine ow_r rfl (dstOk_lt rfl) (ry_load (cs := [.int .i64 e113.Truth_, .int .i64 e113.Said_]) rfl rfl ty60 (at_castA (at_eltE (fun w1 hw1 => rds_bor g4 w1 hw1) h114 (fun _ _ h => h)) rfl) rfl) ?_
                  refine ow_alloc rfl rfl rfl rfl ty60 (fun _ => kp) (fun b115 => ?_)
                  refine ow_storeC (off := 0) [.int .i64 e113.Truth_, .int .i64 e113.Said_] [_, _] (i := 2) rfl rfl rfl rfl rfl rfl ty60 rfl rfl (by intro u hu; simp only [List.mem_cons, List.not_mem_nil, or_false] at hu; rcases hu with rfl | rfl <;> rfl) rfl rfl rfl kp ?_
                  refine ow_nil ?_
                  refine x_qs ?_
                  refine c_seq ?_
                  refine c_regHT 6 [(0, true), (1, true), (2, true), (3, true), (4, false), (5, true)] (St w [] [Res.box b9 30 [.slice a5 p1.Table_.length c6, .slice a7 p1.Last_.length c8], Res.mapG kfTimpl_Pair b60 m87, Res.box b115 60 [.int .i64 e113.Truth_, .int .i64 e113.Said_]]) mixed (by kernel_rfl) (panicOk_qs (panicOk_qb (panicOk_qs (panicOk_ql (panicOk_qb (panicOk_qs panicOk_body)))))) (fun _ h => St.mask [true, true, true] rfl (St.toG 1 rfl (fun _ => rfl) h)) ?_
                  refine ow_batch [.p] rfl ?_
                  refine ow_rH rfl (dstOk_lt rfl) (ry_box (off := 0) (ds := [.int .i64 e113.Truth_, .int .i64 e113.Said_]) rfl rfl ty60 (boxIn (i := 2) rfl) rfl rfl) ?_
                  refine ow_rH rfl (dstOk_lt rfl) (ry_lookup (f := kfTimpl_Pair) (es := m87) (k := e113) rfl rfl rfl mt71 iz3 ko60 (mapInG (i := 1) rfl)) ?_
                  refine ow_batch [.p] rfl ?_
                  refine ow_mapEntry (f := kfTimpl_Pair) (r := 1) (es := m87) (k := e113) rfl rfl rfl rfl rfl rfl mt71 iz3 ko60 rfl (fun _ h => St.mask [true, true, true] rfl (St.toG 1 rfl (by first | exact fun _ => rfl | exact mEnt_get _ _) h)) ?_
                  refine ow_batch [.p] rfl ?_
                  refine ow_nilH ?_
                  refine x_qt ?_
                  refine ow_entryStore (f := kfTimpl_Pair) (r := 1) (es := m87) (k := e113) rfl rfl rfl rfl rfl rfl rfl rfl kp ?_
                  refine ow_nil ?_
                  refine x_qs ?_
                  refine c_seq ?_
                  refine c_regQ mixed (by kernel_rfl) ?_
                  refine ow_batch [.fa 60 0 0 fa60_0] rfl ?_
                  refine ow_r rfl (dstOk_lt rfl) (ry_box1 (off := 0) rfl rfl ty3 (boxIn (i := 2) rfl) rfl) ?_
                  refine ow_batch [.p, .p] rfl ?_
                  obtain ⟨y116, h117, H⟩ := of_bind H
                  refine ow_q rfl rfl (dstOk_lt rfl) (qy_call rfl fn47 rfl (fun w1 hw1 => impl_within_ok w1  h117)) (fun _ _ => trivial) ?_
                  refine ow_batch [.p, .p] rfl ?_
                  obtain ⟨u118, hu122, H⟩ := of_bind H
                  refine ow_cut [(77, .bool u118), (0, .int .i64 p0), (3, .pointer (some ⟨b9, 0, none⟩)), (8, .map (some b60)), (10, .pointer (some ⟨b115, 0, none⟩)), (52, .slice a7 p1.Last_.length c8), (53, .int .i64 (p1.Last_.length : Int)), (54, .int .i64 i86)] 7 ?_ (fun key => OW.sub (R := [(0, .int .i64 p0), (3, .pointer (some ⟨b9, 0, none⟩)), (8, .map (some b60)), (10, .pointer (some ⟨b115, 0, none⟩)), (52, .slice a7 p1.Last_.length c8), (53, .int .i64 (p1.Last_.length : Int)), (54, .int .i64 i86), (70, .bool (!y116))]) ?_ ⟨rfl, rfl, rfl, rfl, rfl, rfl, rfl, rfl, trivial⟩)
                  · refine ow_batch [.p] rfl ?_
                    obtain ⟨u123, hu135, H⟩ := of_bind H
                    refine ow_cut [(93, .bool u123), (0, .int .i64 p0), (3, .pointer (some ⟨b9, 0, none⟩)), (8, .map (some b60)), (52, .slice a7 p1.Last_.length c8), (53, .int .i64 (p1.Last_.length : Int)), (54, .int .i64 i86)] 15 ?_ (fun key => OW.sub (R := [(0, .int .i64 p0), (3, .pointer (some ⟨b9, 0, none⟩)), (8, .map (some b60)), (10, .pointer (some ⟨b115, 0, none⟩)), (52, .slice a7 p1.Last_.length c8), (53, .int .i64 (p1.Last_.length : Int)), (54, .int .i64 i86), (78, .bool u118)]) ?_ ⟨rfl, rfl, rfl, rfl, rfl, rfl, rfl, rfl, trivial⟩)
                    · refine ow_nilQ ?_
                      refine x_qs ?_
                      refine c_if rfl (fun hb => ?_) (fun hb => ?_)
                      · have H := of_if_t hb H
                        refine c_seq ?_
                        refine c_reg ?_
                        refine ow_batch [.p] rfl ?_
                        refine ow_nil ?_
                        refine x_qs ?_
                        refine c_ret ?_
                        refine x_qb_ret ?_
                        refine x_qs_ret ?_
                        refine x_ql_ret ?_
                        refine x_qb_ret ?_
                        refine x_qs_ret ?_
                        exact x_retR (rs := [.tmp 4]) (vs := [.bool false]) rfl ⟨rfl, trivial⟩ (fun w' hw' => by
                            obtain rfl := of_some H
                            exact ⟨rfl, hw'.ext⟩)
                      · have H := of_if_f hb H
                        refine c_skip ?_
                        refine x_qb ?_
                        refine x_qs ?_
                        refine c_reg ?_
                        refine ow_batch [.p, .p] rfl ?_
                        refine ow_nil ?_
                        exact x_ql (RW.at (ihk2 (IntKind.i64.wrap (i86 + 1)) ((mPut m87 e113 (IntKind.i64.wrap ((mGet m87 e113) + 1)))) (H)) (fun _ h => St.sel [0, 1] rfl rfl h) ⟨rfl, rfl, rfl, rfl, rfl, rfl, trivial⟩)
                    · clear H
                      have H := hu135
                      clear hu135
                      generalize u118 = t134 at H ⊢
                      cases t134
                      · have H := of_if_f rfl H
                        refine ow_batch [.p] rfl ?_
                        refine ow_r rfl (dstOk_lt rfl) (ry_box (off := 0) (ds := [.int .i64 e113.Truth_, .int .i64 e113.Said_]) rfl rfl ty60 (boxIn (i := 2) rfl) rfl rfl) ?_
                        refine ow_r rfl (dstOk_lt rfl) (ry_lookup (f := kfTimpl_Pair) (es := (mPut m87 e113 (IntKind.i64.wrap ((mGet m87 e113) + 1)))) (k := e113) rfl rfl rfl mt71 iz3 ko60 (mapInR (i := 1) rfl)) ?_
                        refine ow_batch [.fa 30 0 0 fa30_0] rfl ?_
                        refine ow_r rfl (dstOk_lt rfl) (ry_box1 (off := 0) rfl rfl ty22 (boxIn (i := 0) rfl) rfl) ?_
                        refine ow_batch [.fa 60 0 0 fa60_0] rfl ?_
                        refine ow_r rfl (dstOk_lt rfl) (ry_box1 (off := 0) rfl rfl ty3 (boxIn (i := 2) rfl) rfl) ?_
                        obtain ⟨e124, h125, H⟩ := of_bind H
                        refine ow_ixB rfl rfl rfl rfl rfl sl22 ty53 rfl g3 h125 (fun q128 c129 hd126 hA127 => ?_)
                        obtain ⟨a130, c131, rfl⟩ := rd_sl1 hd126
                        refine ow_r rfl (dstOk_lt rfl) (ry_load1 rfl rfl ty53 (at_bor bor hA127)) ?_
                        refine ow_batch [.fa 60 1 1 fa60_1] rfl ?_
                        refine ow_r rfl (dstOk_lt rfl) (ry_box1 (off := 1) rfl rfl ty3 (boxIn (i := 2) rfl) rfl) ?_
                        obtain ⟨e132, h133, H⟩ := of_bind H
                        refine ow_ixE (e := eVal (Value.int .i64) (fun _ => rfl)) (xs := e124) (j := e113.Said_) rfl rfl rfl rfl rfl sl53 ty3 rfl (fun w1 hw1 => rds_bor hd126 w1 hw1) h133 (by rw [Nat.mul_one]) ?_
                        refine ow_r rfl (dstOk_lt rfl) (ry_load1 rfl rfl ty3 (at_elV (fun w1 hw1 => rds_bor hd126 w1 hw1) h133)) ?_
                        refine ow_batch [.p] rfl ?_
                        refine ow_batch [.p] rfl ?_
                        obtain rfl := of_some H
                        exact OW.sub key ⟨rfl, rfl, rfl, rfl, rfl, rfl, rfl, trivial⟩
                      · have H := of_if_t rfl H
                        refine ow_batch [.p, .p, .p, .p, .p, .p, .p, .p, .p, .p, .p, .p, .p, .p, .p] rfl ?_
                        obtain rfl := of_some H
                        exact OW.sub key ⟨rfl, rfl, rfl, rfl, rfl, rfl, rfl, trivial⟩
                  · clear H
                    have H := hu122
                    clear hu122
                    generalize (!y116) = t121 at H ⊢
                    cases t121
                    · have H := of_if_f rfl H
                      refine ow_batch [.fa 60 1 1 fa60_1] rfl ?_
                      refine ow_r rfl (dstOk_lt rfl) (ry_box1 (off := 1) rfl rfl ty3 (boxIn (i := 2) rfl) rfl) ?_
                      refine ow_batch [.p, .p] rfl ?_
                      obtain ⟨y119, h120, H⟩ := of_bind H
                      refine ow_q rfl rfl (dstOk_lt rfl) (qy_call rfl fn47 rfl (fun w1 hw1 => impl_within_ok w1  h120)) (fun _ _ => trivial) ?_
                      refine ow_batch [.p] rfl ?_
                      refine ow_batch [.p] rfl ?_
                      obtain rfl := of_some H
                      exact OW.sub key ⟨rfl, rfl, rfl, rfl, rfl, rfl, rfl, rfl, trivial⟩
                    · have H := of_if_t rfl H
                      refine ow_batch [.p, .p, .p, .p, .p, .p, .p] rfl ?_
                      obtain rfl := of_some H
                      exact OW.sub key ⟨rfl, rfl, rfl, rfl, rfl, rfl, rfl, rfl, trivial⟩
                · have H := of_if_f hb H
                  refine c_exit ?_
                  refine x_qs_exit ?_
                  refine x_ql_exit ?_
                  refine x_qb_here ?_
                  refine x_qs ?_
                  refine c_seq ?_
                  refine c_reg ?_
                  refine ow_batch [.p] rfl ?_
                  refine ow_nil ?_
                  refine x_qs ?_
                  refine c_ret ?_
                  exact x_retR (rs := [.tmp 4]) (vs := [.bool true]) rfl ⟨rfl, trivial⟩ (fun w' hw' => by
                      obtain rfl := of_some H
                      exact ⟨rfl, hw'.ext⟩)
          · generalize (decide (y56 > 9999)) = t59 at key ⊢
            cases t59
            · refine ow_batch [.fa 30 1 1 fa30_1] rfl ?_
              refine ow_r rfl (dstOk_lt rfl) (ry_box1 (off := 1) rfl rfl ty28 (boxIn (i := 0) rfl) rfl) ?_
              refine ow_batch [.lenS 28 60 sl28, .p] rfl ?_
              refine ow_r rfl (dstOk_lt rfl) (ry_min rfl rfl rfl) ?_
              refine ow_batch [.p] rfl ?_
              refine ow_batch [.p] rfl ?_
              exact OW.sub key ⟨rfl, rfl, rfl, trivial⟩
            · refine ow_batch [.p, .p, .p, .p, .p, .p, .p] rfl ?_
              exact OW.sub key ⟨rfl, rfl, rfl, trivial⟩
  · generalize (!y10) = t13 at key ⊢
    cases t13
    · refine ow_batch [.fa 30 0 0 fa30_0] rfl ?_
      refine ow_r rfl (dstOk_lt rfl) (ry_box1 (off := 0) rfl rfl ty22 (boxIn (i := 0) rfl) rfl) ?_
      refine ow_batch [.lenS 22 53 sl22, .p, .p] rfl ?_
      refine ow_batch [.p] rfl ?_
      exact OW.sub key ⟨rfl, rfl, rfl, trivial⟩
    · refine ow_batch [.p, .p, .p, .p, .p, .p] rfl ?_
      exact OW.sub key ⟨rfl, rfl, rfl, trivial⟩

set_option maxHeartbeats 4000000 in
set_option maxRecDepth 100000 in
theorem impl_Count_ok (w : World) {p0 : Int} {p1 : Timpl_Score} {cs1 : List Value} {r : Int} (H : impl_Count p0 p1 = some r)  (g1 : (eTimpl_Score).rd w [] p1 cs1) :
    Calls Try.prog 19 #[.int .i64 p0, .agg cs1.toArray] w (fun en w' => en = .returned (.int .i64 r) ∧ Ext [] w w') := by
  obtain ⟨c1, c2, rfl, g3, g4⟩ := rdo_Timpl_Score g1
  obtain ⟨a5, c6, rfl⟩ := rd_sl1 g3
  obtain ⟨a7, c8, rfl⟩ := rd_sl1 g4
  unfold impl_Count at H
  refine f_enter (vs := [.int .i64 p0, .agg #[.slice a5 p1.Table_.length c6, .slice a7 p1.Last_.length c8]]) Try.func19 rfl Try.ntmps19 rfl (St.init w []) ?_
  refine c_seq ?_
  refine c_reg ?_
  refine ow_box (cs := [.slice a5 p1.Table_.length c6, .slice a7 p1.Last_.length c8]) rfl rfl rfl rfl rfl rfl (fun _ => kp) (fun b9 => ?_)
  refine ow_batch [.p] rfl ?_
  refine ow_nil ?_
  refine x_qs ?_
  refine c_seq ?_
  refine c_seq ?_
  refine c_reg ?_
  refine ow_batch [.p] rfl ?_
  refine ow_r rfl (dstOk_lt rfl) (ry_box (off := 0) (ds := [.slice a5 p1.Table_.length c6, .slice a7 p1.Last_.length c8]) rfl rfl ty30 (boxIn (i := 0) rfl) rfl rfl) ?_
  obtain ⟨y10, h11, H⟩ := of_bind H
  refine ow_q rfl rfl (dstOk_lt rfl) (qy_call rfl fn34 rfl (fun w1 hw1 => impl_ScoreOk_ok w1 (cs1 := [.slice a5 p1.Table_.length c6, .slice a7 p1.Last_.length c8]) h11 (rdm_Timpl_Score (x := p1) (c0 := [.slice a5 p1.Table_.length c6]) (c1 := [.slice a7 p1.Last_.length c8]) (rds_bor g3 w1 hw1) (rds_bor g4 w1 hw1)))) (fun _ _ => trivial) ?_
  refine ow_batch [.p] rfl ?_
  refine ow_nil ?_
  refine x_qs ?_
  refine c_if rfl (fun hb => ?_) (fun hb => ?_)
  · have H := of_if_t hb H
    refine c_seq ?_
    refine c_reg ?_
    refine ow_batch [.p] rfl ?_
    refine ow_nil ?_
    refine x_qs ?_
    refine c_ret ?_
    refine x_qs_ret ?_
    exact x_retR (rs := [.tmp 4]) (vs := [.int .i64 0]) rfl ⟨rfl, trivial⟩ (fun w' hw' => by
        obtain rfl := of_some H
        exact ⟨rfl, hw'.ext⟩)
  · have H := of_if_f hb H
    refine c_skip ?_
    refine x_qs ?_
    refine c_seq ?_
    refine c_reg ?_
    refine ow_batch [.fa 30 0 0 fa30_0] rfl ?_
    refine ow_r rfl (dstOk_lt rfl) (ry_box1 (off := 0) rfl rfl ty22 (boxIn (i := 0) rfl) rfl) ?_
    obtain ⟨y12, h13, H⟩ := of_bind H
    refine ow_q rfl rfl (dstOk_lt rfl) (qy_call rfl fn43 rfl (fun w1 hw1 => impl_tableSum_ok w1  h13 (rds_bor g3 w1 hw1))) (fun _ _ => trivial) ?_
    refine ow_batch [.p] rfl ?_
    refine ow_nil ?_
    refine x_qs ?_
    refine c_ret ?_
    exact x_retR (rs := [.tmp 4]) (vs := [.int .i64 y12]) rfl ⟨rfl, trivial⟩ (fun w' hw' => by
        obtain rfl := of_some H
        exact ⟨rfl, hw'.ext⟩)

set_option maxHeartbeats 4000000 in
set_option maxRecDepth 100000 in
theorem spec_l25Copy_ok (w : World) {M0 : List Nat} {p0 : Timpl_Score} {cs0 : List Value} {r : Timpl_Score} (H : spec_l25Copy p0 = some r) (HS : St w M0 [] w) (g0 : (eTimpl_Score).rd w M0 p0 cs0) :
    Calls Try.prog 49 #[.agg cs0.toArray] w (fun en w' => ∃ v, en = .returned v ∧ ∃ (a0 : Option Addr), ∃ (n0 : Nat), ∃ (c0 : Nat), ∃ (F0 : List Nat), ∃ (a1 : Option Addr), ∃ (n1 : Nat), ∃ (c1 : Nat), ∃ (F1 : List Nat), v = .agg #[.slice a0 n0 c0, .slice a1 n1 c1] ∧ St w M0 [Res.own (eList (eList (eVal (Value.int .i64) (fun _ => rfl)) 3) 53) F0 r.Table_ [.slice a0 n0 c0], Res.own (eList (eTimpl_Pair) 60) F1 r.Last_ [.slice a1 n1 c1]] w') := by
  obtain ⟨c1, c2, rfl, g3, g4⟩ := rdo_Timpl_Score g0
  obtain ⟨a5, c6, rfl⟩ := rd_sl1 g3
  obtain ⟨a7, c8, rfl⟩ := rd_sl1 g4
  unfold spec_l25Copy at H
  refine f_enter (vs := [.agg #[.slice a5 p0.Table_.length c6, .slice a7 p0.Last_.length c8]]) Try.func49 rfl Try.ntmps49 rfl (HS) ?_
  refine c_seq ?_
  refine c_reg ?_
  refine ow_box (cs := [.slice a5 p0.Table_.length c6, .slice a7 p0.Last_.length c8]) rfl rfl rfl rfl rfl rfl (fun _ => kp) (fun b9 => ?_)
  refine ow_alloc rfl rfl rfl rfl ty30 (fun _ => kp) (fun b10 => ?_)
  refine ow_nil ?_
  refine x_qs ?_
  refine c_seq ?_
  refine c_reg ?_
  refine ow_blit0 (e := eTimpl_Pair) rfl rfl rfl rfl sl28 ty60 (fun _ => kp) (fun b11 => ?_)
  refine ow_batch [.fa 30 1 1 fa30_1] rfl ?_
  refine ow_r rfl (dstOk_lt rfl) (ry_box1 (off := 1) rfl rfl ty28 (boxIn (i := 0) rfl) rfl) ?_
  obtain ⟨l12, h13, H⟩ := of_bind H
  refine ow_appF (r := 2) (ys := p0.Last_) rfl rfl rfl rfl rfl rfl sl28 ty60 rfl rfl rfl rfl rfl (fun w1 hw1 => rds_bor g4 w1 hw1) h13 (fun _ _ _ => kp) (fun a14 c15 F16 => ?_)
  refine ow_r rfl (dstOk_lt rfl) (ry_build2 [(1, [.slice a14 l12.length c15])] [.slice none 0 0, .slice a14 l12.length c15] rfl rfl ty30 fs30 rfl ⟨rfl, rfl, Nat.le_of_ble_eq_true rfl,  trivial⟩ rfl) ?_
  refine ow_alloc rfl rfl rfl rfl ty30 (fun _ => kp) (fun b17 => ?_)
  refine ow_storeC (off := 0) [.slice none 0 0, .slice a14 l12.length c15] [_, _] (i := 3) rfl rfl rfl rfl rfl rfl ty30 rfl rfl (by intro u hu; simp only [List.mem_cons, List.not_mem_nil, or_false] at hu; rcases hu with rfl | rfl <;> rfl) rfl rfl rfl kp ?_
  refine ow_nil ?_
  refine x_qs ?_
  refine c_seq ?_
  refine c_seq ?_
  refine c_reg ?_
  refine ow_batch [.p] rfl ?_
  refine ow_nil ?_
  refine x_qs ?_
  refine c_block ?_
  refine CW.weak ?_ (fun _ h => St.pushNil (e := eList (eVal (Value.int .i64) (fun _ => rfl)) 3) (T := 53) h)
  refine CW.at (loopI5 (fun (l58 : List (List Int)) (a59 : Option Addr) (c60 : Nat) (F61 : List Nat) (i62 : Int) => St w M0 [Res.box b9 30 [.slice a5 p0.Table_.length c6, .slice a7 p0.Last_.length c8], Res.box b10 30 [.slice none 0 0, .slice none 0 0], Res.box b17 30 [.slice a59 l58.length c60, .slice a14 l12.length c15], Res.own (eList (eList (eVal (Value.int .i64) (fun _ => rfl)) 3) 53) F61 l58 [.slice a59 l58.length c60], Res.own (eList (eTimpl_Pair) 60) F16 l12 [.slice a14 l12.length c15]]) (fun (l58 : List (List Int)) (a59 : Option Addr) (c60 : Nat) (F61 : List Nat) (i62 : Int) => [(1, .pointer (some ⟨b9, 0, none⟩)), (2, .pointer (some ⟨b10, 0, none⟩)), (3, .pointer (some ⟨b17, 0, none⟩)), (4, .int .i64 i62)]) (fun kk => fun (l58 : List (List Int)) (a59 : Option Addr) (c60 : Nat) (F61 : List Nat) (i62 : Int) => spec_l25Copy_L1 p0 l12 kk l58 i62 = some r) (fun _ _ _ _ _ H => ?_) (fun k1 ihk1 l58 a59 c60 F61 i62 H => ?_) Fuel (([] : List (List Int))) (none) (0) ([]) (0) (H)) (fun _ h => St.sel [0, 1, 3, 4, 2] rfl rfl h) ⟨rfl, rfl, rfl, rfl,  trivial⟩
  · unfold spec_l25Copy_L1 at H
    exact absurd H (by simp)
  · unfold spec_l25Copy_L1 at H
    refine c_seq ?_
    refine c_seq ?_
    refine c_reg ?_
    refine ow_batch [.p, .fa 30 0 0 fa30_0] rfl ?_
    refine ow_r rfl (dstOk_lt rfl) (ry_box1 (off := 0) rfl rfl ty22 (boxIn (i := 0) rfl) rfl) ?_
    refine ow_batch [.lenS 22 53 sl22, .p] rfl ?_
    refine ow_nil ?_
    refine x_qs ?_
    refine c_if rfl (fun hb => ?_) (fun hb => ?_)
    · have H := of_if_t hb H
      refine c_skip ?_
      refine x_qs ?_
      refine c_seq ?_
      refine c_block ?_
      refine c_regHT 10 [(0, true), (1, true), (3, true), (4, true), (5, true), (6, true), (7, true), (2, false), (8, false), (9, false)] (St w M0 [Res.box b9 30 [.slice a5 p0.Table_.length c6, .slice a7 p0.Last_.length c8], Res.box b10 30 [.slice none 0 0, .slice none 0 0], Res.box b17 30 [.slice a59 l58.length c60, .slice a14 l12.length c15], Res.own (eList (eList (eVal (Value.int .i64) (fun _ => rfl)) 3) 53) F61 l58 [.slice a59 l58.length c60], Res.own (eList (eTimpl_Pair) 60) F16 l12 [.slice a14 l12.length c15]]) mixed (by kernel_rfl) (panicOk_qb (panicOk_qs (panicOk_ql (panicOk_qb (panicOk_qs panicOk_body))))) (fun _ h => St.mask [true, true, true, true, true] rfl h) ?_
      refine ow_batch [.fa 30 0 0 fa30_0] rfl ?_
      refine ow_rH rfl (dstOk_lt rfl) (ry_box1 (off := 0) rfl rfl ty22 (boxIn (i := 2) rfl) rfl) ?_
      refine ow_batch [.fa 30 0 0 fa30_0] rfl ?_
      refine ow_rH rfl (dstOk_lt rfl) (ry_box1 (off := 0) rfl rfl ty22 (boxIn (i := 0) rfl) rfl) ?_
      refine ow_batch [.p] rfl ?_
      obtain ⟨e118, h119, H⟩ := of_bind H
      refine ow_ixB rfl rfl rfl rfl rfl sl22 ty53 rfl g3 h119 (fun q122 c123 hd120 hA121 => ?_)
      obtain ⟨a124, c125, rfl⟩ := rd_sl1 hd120
      refine ow_rH rfl (dstOk_lt rfl) (ry_load1 rfl rfl ty53 (at_bor (fun _ h => h.ext) hA121)) ?_
      refine ow_blit0 (e := eVal (Value.int .i64) (fun _ => rfl)) rfl rfl rfl rfl sl53 ty3 (fun _ => (fun _ h => St.mask [true, true, true, true, true] rfl h)) (fun b126 => ?_)
      obtain ⟨l127, h128, H⟩ := of_bind H
      refine ow_appR (r := 5) (ys := e118) rfl rfl rfl rfl rfl rfl sl53 ty3 rfl rfl rfl (fun w1 hw1 => rds_bor hd120 w1 hw1) h128 (fun _ _ _ => (fun _ h => St.mask [true, true, true, true, true] rfl h)) (fun a129 c130 F131 => ?_)
      refine ow_bslice [(0, [.slice a129 l127.length c130])] rfl rfl rfl rfl rfl sl22 ty53 rfl rfl ⟨rfl, rfl, Nat.le_of_ble_eq_true rfl,  trivial⟩ [.slice a129 l127.length c130] rfl (fun _ => (fun _ h => St.mask [true, true, true, true, true] rfl h)) (fun b132 => ?_)
      refine ow_st rfl (fun _ h => lit1 (p := 6) (q := 5) h rfl rfl rfl) ?_
      refine ow_nilH ?_
      refine x_qt ?_
      obtain ⟨l133, h134, H⟩ := of_bind H
      refine ow_appM (r := 3) (j := 7) rfl rfl rfl rfl rfl rfl sl22 ty53 rfl rfl rfl rfl rfl rfl rfl h134 (fun _ _ _ => kp) (fun a135 c136 F137 => ?_)
      refine ow_batch [.fa 30 0 0 fa30_0] rfl ?_
      refine ow_storeC (off := 0) [.slice a135 l133.length c136] [_, _] (i := 2) rfl rfl rfl rfl rfl rfl ty22 rfl rfl (by intro u hu; simp only [List.mem_cons, List.not_mem_nil, or_false] at hu; rcases hu with rfl <;> rfl) rfl rfl rfl kp ?_
      refine ow_nil ?_
      refine x_qb ?_
      refine x_qs ?_
      refine CW.weak (C' := St w M0 [_, _, _, _, _]) ?_ (fun _ h => St.sel [0, 1, 2, 4, 8] rfl rfl h)
      refine c_reg ?_
      refine ow_batch [.p, .p, .p] rfl ?_
      refine ow_nil ?_
      exact x_ql (RW.at (ihk1 (l133) (a135) (c136) (F137) (IntKind.i64.wrap (i62 + 1)) (H)) (fun _ h => St.sel [0, 1, 2, 4, 3] rfl rfl h) ⟨rfl, rfl, rfl, rfl, trivial⟩)
    · have H := of_if_f hb H
      refine c_exit ?_
      refine x_qs_exit ?_
      refine x_ql_exit ?_
      refine x_qb_here ?_
      refine x_qs ?_
      refine c_seq ?_
      refine c_reg ?_
      refine ow_r rfl (dstOk_lt rfl) (ry_box (off := 0) (ds := [.slice a59 l58.length c60, .slice a14 l12.length c15]) rfl rfl ty30 (boxIn (i := 2) rfl) rfl rfl) ?_
      refine ow_storeC (off := 0) [.slice a59 l58.length c60, .slice a14 l12.length c15] [_, _] (i := 1) rfl rfl rfl rfl rfl rfl ty30 rfl rfl (by intro u hu; simp only [List.mem_cons, List.not_mem_nil, or_false] at hu; rcases hu with rfl | rfl <;> rfl) rfl rfl rfl kp ?_
      refine ow_nil ?_
      refine x_qs ?_
      refine c_ret ?_
      exact x_retR (rs := [.cell 2 30]) (vs := [.agg #[.slice a59 l58.length c60, .slice a14 l12.length c15]]) rfl ⟨⟨_, [.slice a59 l58.length c60, .slice a14 l12.length c15], _, _, _, rfl, ty30, (at_box (T := 30) 0 (boxIn (i := 1) rfl) rfl), rfl, rfl⟩, trivial⟩ (fun w' hw' => by
          obtain rfl := of_some H
          exact ⟨_, rfl, a59, l58.length, c60, F61, a14, l12.length, c15, F16, rfl, hw'.sel [3, 4] rfl rfl⟩)

set_option maxHeartbeats 4000000 in
set_option maxRecDepth 100000 in
theorem spec_ScoreAdd_ok (w : World) {M0 : List Nat} {p0 : Int} {p1 : Timpl_Score} {p2 : Int} {p3 : Int} {cs1 : List Value} {r : Timpl_Score × Bool} (H : spec_ScoreAdd p0 p1 p2 p3 = some r) (HS : St w M0 [] w) (g1 : (eTimpl_Score).rd w M0 p1 cs1) :
    Calls Try.prog 27 #[.int .i64 p0, .agg cs1.toArray, .int .i64 p2, .int .i64 p3] w (fun en w' => ∃ v, en = .returned v ∧ ∃ (a0 : Option Addr), ∃ (n0 : Nat), ∃ (c0 : Nat), ∃ (F0 : List Nat), ∃ (a1 : Option Addr), ∃ (n1 : Nat), ∃ (c1 : Nat), ∃ (F1 : List Nat), v = .tuple #[.agg #[.slice a0 n0 c0, .slice a1 n1 c1], .bool r.2] ∧ St w M0 [Res.own (eList (eList (eVal (Value.int .i64) (fun _ => rfl)) 3) 53) F0 r.1.Table_ [.slice a0 n0 c0], Res.own (eList (eTimpl_Pair) 60) F1 r.1.Last_ [.slice a1 n1 c1]] w') := by
  obtain ⟨c1, c2, rfl, g3, g4⟩ := rdo_Timpl_Score g1
  obtain ⟨a5, c6, rfl⟩ := rd_sl1 g3
  obtain ⟨a7, c8, rfl⟩ := rd_sl1 g4
  unfold spec_ScoreAdd at H
  refine f_enter (vs := [.int .i64 p0, .agg #[.slice a5 p1.Table_.length c6, .slice a7 p1.Last_.length c8], .int .i64 p2, .int .i64 p3]) Try.func27 rfl Try.ntmps27 rfl (HS) ?_
  refine c_seq ?_
  refine c_reg ?_
  refine ow_box (cs := [.slice a5 p1.Table_.length c6, .slice a7 p1.Last_.length c8]) rfl rfl rfl rfl rfl rfl (fun _ => kp) (fun b9 => ?_)
  refine ow_alloc rfl rfl rfl rfl ty30 (fun _ => kp) (fun b10 => ?_)
  refine ow_batch [.p] rfl ?_
  refine ow_nil ?_
  refine x_qs ?_
  refine c_seq ?_
  refine c_reg ?_
  refine ow_r rfl (dstOk_lt rfl) (ry_box (off := 0) (ds := [.slice a5 p1.Table_.length c6, .slice a7 p1.Last_.length c8]) rfl rfl ty30 (boxIn (i := 0) rfl) rfl rfl) ?_
  obtain ⟨y11, h12, H⟩ := of_bind H
  refine ow_callS rfl fn49 rfl rfl rfl rfl (fun w1 hw1 => spec_l25Copy_ok w1 (cs0 := [.slice a5 p1.Table_.length c6, .slice a7 p1.Last_.length c8]) h12 (hw1.carve [] rfl rfl) (rdm_Timpl_Score (x := p1) (c0 := [.slice a5 p1.Table_.length c6]) (c1 := [.slice a7 p1.Last_.length c8]) (rds_bor g3 w1 hw1) (rds_bor g4 w1 hw1))) (fun v13 w1 w2 hw1 hR15 => ?_)
  obtain ⟨a16, n17, c18, F19, a20, n21, c22, F23, rfl, hS14⟩ := hR15
  obtain rfl := own_nS (i := 0) hS14 rfl
  obtain rfl := own_nS (i := 1) hS14 rfl
  refine ⟨St w M0 [_, _, _, _], hw1.comp [] rfl rfl hS14, fun _ _ => trivial, ?_⟩
  refine ow_alloc rfl rfl rfl rfl ty30 (fun _ => kp) (fun b24 => ?_)
  refine ow_storeC (off := 0) [.slice a16 y11.Table_.length c18, .slice a20 y11.Last_.length c22] [_, _] (i := 4) rfl rfl rfl rfl rfl rfl ty30 rfl rfl (by intro u hu; simp only [List.mem_cons, List.not_mem_nil, or_false] at hu; rcases hu with rfl | rfl <;> rfl) rfl rfl rfl kp ?_
  refine ow_nil ?_
  refine x_qs ?_
  refine c_seq ?_
  refine c_seq ?_
  refine c_reg ?_
  refine ow_batch [.p] rfl ?_
  refine ow_r rfl (dstOk_lt rfl) (ry_box (off := 0) (ds := [.slice a5 p1.Table_.length c6, .slice a7 p1.Last_.length c8]) rfl rfl ty30 (boxIn (i := 0) rfl) rfl rfl) ?_
  obtain ⟨y25, h26, H⟩ := of_bind H
  refine ow_q rfl rfl (dstOk_lt rfl) (qy_call rfl fn33 rfl (fun w1 hw1 => spec_ScoreOk_ok w1 (cs1 := [.slice a5 p1.Table_.length c6, .slice a7 p1.Last_.length c8]) h26 (rdm_Timpl_Score (x := p1) (c0 := [.slice a5 p1.Table_.length c6]) (c1 := [.slice a7 p1.Last_.length c8]) (rds_bor g3 w1 hw1) (rds_bor g4 w1 hw1)))) (fun _ _ => trivial) ?_
  refine ow_batch [.p, .p] rfl ?_
  obtain ⟨u27, hu31, H⟩ := of_bind H
  refine ow_cut [(23, .bool u27), (0, .int .i64 p0), (2, .int .i64 p2), (3, .int .i64 p3), (5, .pointer (some ⟨b9, 0, none⟩)), (8, .pointer (some ⟨b10, 0, none⟩)), (10, .pointer (some ⟨b24, 0, none⟩))] 6 ?_ (fun key => OW.sub (R := [(0, .int .i64 p0), (2, .int .i64 p2), (3, .int .i64 p3), (5, .pointer (some ⟨b9, 0, none⟩)), (8, .pointer (some ⟨b10, 0, none⟩)), (10, .pointer (some ⟨b24, 0, none⟩)), (17, .bool (!y25))]) ?_ ⟨rfl, rfl, rfl, rfl, rfl, rfl, rfl, trivial⟩)
  · refine ow_batch [.p] rfl ?_
    obtain ⟨u33, hu37, H⟩ := of_bind H
    refine ow_cut [(30, .bool u33), (0, .int .i64 p0), (2, .int .i64 p2), (3, .int .i64 p3), (5, .pointer (some ⟨b9, 0, none⟩)), (8, .pointer (some ⟨b10, 0, none⟩)), (10, .pointer (some ⟨b24, 0, none⟩))] 6 ?_ (fun key => OW.sub (R := [(0, .int .i64 p0), (2, .int .i64 p2), (3, .int .i64 p3), (5, .pointer (some ⟨b9, 0, none⟩)), (8, .pointer (some ⟨b10, 0, none⟩)), (10, .pointer (some ⟨b24, 0, none⟩)), (24, .bool u27)]) ?_ ⟨rfl, rfl, rfl, rfl, rfl, rfl, rfl, trivial⟩)
    · refine ow_batch [.p] rfl ?_
      obtain ⟨u38, hu42, H⟩ := of_bind H
      refine ow_cut [(36, .bool u38), (2, .int .i64 p2), (3, .int .i64 p3), (8, .pointer (some ⟨b10, 0, none⟩)), (10, .pointer (some ⟨b24, 0, none⟩))] 5 ?_ (fun key => OW.sub (R := [(0, .int .i64 p0), (2, .int .i64 p2), (3, .int .i64 p3), (5, .pointer (some ⟨b9, 0, none⟩)), (8, .pointer (some ⟨b10, 0, none⟩)), (10, .pointer (some ⟨b24, 0, none⟩)), (31, .bool u33)]) ?_ ⟨rfl, rfl, rfl, rfl, rfl, rfl, rfl, trivial⟩)
      · refine ow_nil ?_
        refine x_qs ?_
        refine c_if rfl (fun hb => ?_) (fun hb => ?_)
        · have H := of_if_t hb H
          refine c_seq ?_
          refine c_reg ?_
          refine ow_r rfl (dstOk_lt rfl) (ry_box (off := 0) (ds := [.slice a16 y11.Table_.length c18, .slice a20 y11.Last_.length c22]) rfl rfl ty30 (boxIn (i := 4) rfl) rfl rfl) ?_
          refine ow_storeC (off := 0) [.slice a16 y11.Table_.length c18, .slice a20 y11.Last_.length c22] [_, _] (i := 1) rfl rfl rfl rfl rfl rfl ty30 rfl rfl (by intro u hu; simp only [List.mem_cons, List.not_mem_nil, or_false] at hu; rcases hu with rfl | rfl <;> rfl) rfl rfl rfl kp ?_
          refine ow_batch [.p] rfl ?_
          refine ow_nil ?_
          refine x_qs ?_
          refine c_ret ?_
          refine x_qs_ret ?_
          exact x_retR (rs := [.cell 8 30, .tmp 9]) (vs := [.agg #[.slice a16 y11.Table_.length c18, .slice a20 y11.Last_.length c22], .bool false]) rfl ⟨⟨_, [.slice a16 y11.Table_.length c18, .slice a20 y11.Last_.length c22], _, _, _, rfl, ty30, (at_box (T := 30) 0 (boxIn (i := 1) rfl) rfl), rfl, rfl⟩, rfl, trivial⟩ (fun w' hw' => by
              obtain rfl := of_some H
              exact ⟨_, rfl, a16, y11.Table_.length, c18, F19, a20, y11.Last_.length, c22, F23, rfl, hw'.sel [2, 3] rfl rfl⟩)
        · have H := of_if_f hb H
          refine c_skip ?_
          refine x_qs ?_
          refine c_seq ?_
          obtain ⟨e43, h44, H⟩ := of_bind H
          refine cw_ex4 (fun w1 hw1 => foc (r := 2) hw1 rfl h44) (fun b46 G47 F48 c49 => ?_)
          refine cw_fact (fun w1 hw1 => hw1.1) (fun q45 => ?_)
          obtain ⟨ha50, hn51⟩ := q45
          refine CW.weak (C' := St w M0 [_, _, _, _, _, _, _]) ?_ (fun w1 hw1 => hw1.2)
          refine cw_ex2 (fun w1 hw1 => opn_sl (i := 6) hw1 rfl) (fun a52 c53 => ?_)
          refine cw_fact (fun w1 hw1 => hw1.1) (fun q54 => ?_)
          subst q54
          refine CW.weak (C' := St w M0 [_, _, _, _, _, _, _]) ?_ (fun w1 hw1 => hw1.2)
          refine c_regT 16 mixed (by kernel_rfl) ?_
          refine ow_batch [.fa 30 0 0 fa30_0] rfl ?_
          refine ow_r rfl (dstOk_lt rfl) (ry_box1 (off := 0) rfl rfl ty22 (boxIn (i := 4) rfl) rfl) ?_
          refine ow_batch [.p] rfl ?_
          refine ow_ixH rfl rfl rfl rfl rfl sl22 ty53 rfl (holeIn (p := 5) rfl) hn51 ha50 (idx_some h44).1 ?_
          refine ow_r rfl (dstOk_lt rfl) (ry_hole1 5 0 rfl rfl rfl ty53 (by first | rfl | simp only [add_lit, add_add, add_zero]) rfl) ?_
          refine ow_batch [.p, .fa 30 0 0 fa30_0] rfl ?_
          refine ow_r rfl (dstOk_lt rfl) (ry_box1 (off := 0) rfl rfl ty22 (boxIn (i := 4) rfl) rfl) ?_
          refine ow_batch [.p] rfl ?_
          refine ow_ixH rfl rfl rfl rfl rfl sl22 ty53 rfl (holeIn (p := 5) rfl) hn51 ha50 (idx_some h44).1 ?_
          refine ow_r rfl (dstOk_lt rfl) (ry_hole1 5 0 rfl rfl rfl ty53 (by first | rfl | simp only [add_lit, add_add, add_zero]) rfl) ?_
          refine ow_batch [.p] rfl ?_
          obtain ⟨e55, h56, H⟩ := of_bind H
          refine ow_ixE (e := eVal (Value.int .i64) (fun _ => rfl)) (xs := e43) (j := p3) rfl rfl rfl rfl rfl sl53 ty3 rfl (fun w1 hw1 => rds_own (r := 6) rfl w1 hw1) h56 (by rw [Nat.mul_one]) ?_
          refine ow_r rfl (dstOk_lt rfl) (ry_load1 rfl rfl ty3 (at_elV (fun w1 hw1 => rds_own (r := 6) rfl w1 hw1) h56)) ?_
          refine ow_batch [.p] rfl ?_
          obtain ⟨e57, h58, H⟩ := of_bind H
          refine ow_ixE (e := eVal (Value.int .i64) (fun _ => rfl)) (xs := e43) (j := p3) rfl rfl rfl rfl rfl sl53 ty3 rfl (fun w1 hw1 => rds_own (r := 6) rfl w1 hw1) h58 (by rw [Nat.mul_one]) ?_
          refine ow_nilQ ?_
          refine ow_storeV (i := 6) (j := p3) rfl rfl rfl rfl rfl rfl ty3 rfl h58 (fun _ => rfl) kp ?_
          refine ow_nil ?_
          refine x_qs ?_
          refine c_seq ?_
          refine c_reg ?_
          refine ow_batch [.fa 30 1 1 fa30_1] rfl ?_
          refine ow_r rfl (dstOk_lt rfl) (ry_box1 (off := 1) rfl rfl ty28 (boxIn (i := 4) rfl) rfl) ?_
          refine ow_batch [.p, .p] rfl ?_
          refine ow_r rfl (dstOk_lt rfl) (ry_build2 [(0, [.int .i64 p2]), (1, [.int .i64 p3])] [.int .i64 p2, .int .i64 p3] rfl rfl ty60 fs60 rfl ⟨rfl, rfl, Nat.le_of_ble_eq_true rfl, rfl, rfl, Nat.le_of_ble_eq_true rfl,  trivial⟩ rfl) ?_
          refine ow_blitF ([(Timpl_Pair.mk p2 p3)] : List Timpl_Pair) [(0, [.int .i64 p2, .int .i64 p3])] rfl rfl rfl rfl rfl sl28 ty60 rfl rfl rfl rfl ⟨rfl, rfl, Nat.le_of_ble_eq_true rfl,  trivial⟩ rfl (fun _ => kp) (fun b59 => (?_ : OW _ _ _ (St w M0 [Res.box b9 30 [.slice a5 p1.Table_.length c6, .slice a7 p1.Last_.length c8], Res.box b10 30 [.slice none 0 0, .slice none 0 0], Res.nil, Res.own (eList (eTimpl_Pair) 60) F23 y11.Last_ [.slice a20 y11.Last_.length c22], Res.box b24 30 [.slice a16 y11.Table_.length c18, .slice a20 y11.Last_.length c22], Res.hole (eList (eVal (Value.int .i64) (fun _ => rfl)) 3) 53 b46 c18 y11.Table_ p2.toNat G47 [.slice a52 e43.length c53], Res.own (eList (eVal (Value.int .i64) (fun _ => rfl)) 3) F48 (e43.set p3.toNat (IntKind.i64.wrap (e55 + 1))) [.slice a52 e43.length c53], Res.own (eList (eTimpl_Pair) 60) [b59] [(Timpl_Pair.mk p2 p3)] [.slice (some ⟨b59, 0, none⟩) ([(Timpl_Pair.mk p2 p3)] : List Timpl_Pair).length 1]]) _ _ _))
          obtain ⟨l60, h61, H⟩ := of_bind H
          refine ow_appF (r := 3) (ys := ([(Timpl_Pair.mk p2 p3)] : List Timpl_Pair)) rfl rfl rfl rfl rfl rfl sl28 ty60 rfl rfl rfl rfl rfl (fun w1 hw1 => rds_own (r := 7) rfl w1 hw1) h61 (fun _ _ _ => kp) (fun a62 c63 F64 => ?_)
          refine ow_fact rfl (fun w1 hw1 => own_nn (i := 3) hw1 rfl (app_ne h61)) (fun hz65 => ?_)
          refine ow_batch [.fa 30 1 1 fa30_1] rfl ?_
          refine ow_storeC (off := 1) [.slice a62 l60.length c63] [_, _] (i := 4) rfl rfl rfl rfl rfl rfl ty28 rfl rfl (by intro u hu; simp only [List.mem_cons, List.not_mem_nil, or_false] at hu; rcases hu with rfl <;> rfl) rfl rfl rfl kp ?_
          refine ow_nil ?_
          refine x_qs ?_
          refine c_seq ?_
          refine c_seq ?_
          refine c_reg ?_
          refine ow_batch [.fa 30 1 1 fa30_1] rfl ?_
          refine ow_r rfl (dstOk_lt rfl) (ry_box1 (off := 1) rfl rfl ty28 (boxIn (i := 4) rfl) rfl) ?_
          refine ow_batch [.lenS 28 60 sl28, .p] rfl ?_
          refine ow_nil ?_
          refine x_qs ?_
          refine c_if rfl (fun hb => ?_) (fun hb => ?_)
          · have H := of_if_t hb H
            refine c_reg ?_
            refine ow_blit0 (e := eTimpl_Pair) rfl rfl rfl rfl sl28 ty60 (fun _ => kp) (fun b66 => ?_)
            refine ow_batch [.fa 30 1 1 fa30_1] rfl ?_
            refine ow_r rfl (dstOk_lt rfl) (ry_box1 (off := 1) rfl rfl ty28 (boxIn (i := 4) rfl) rfl) ?_
            obtain ⟨l67, h68, H⟩ := of_bind H
            refine ow_vsub (e := eTimpl_Pair) (xs := l60) rfl rfl rfl rfl sl28 ty60 rfl rfl rfl h68 (fun w1 hw1 => rds_own (r := 3) rfl w1 hw1) ?_
            obtain ⟨l69, h70, H⟩ := of_bind H
            refine ow_appF (r := 8) (ys := l67) rfl rfl rfl rfl rfl rfl sl28 ty60 rfl rfl rfl rfl rfl (rd_sub (fun w1 hw1 => rds_own (r := 3) rfl w1 hw1) h68) h70 (fun _ _ _ => kp) (fun a71 c72 F73 => ?_)
            refine ow_batch [.fa 30 1 1 fa30_1] rfl ?_
            refine ow_storeC (off := 1) [.slice a71 l69.length c72] [_, _] (i := 4) rfl rfl rfl rfl rfl rfl ty28 rfl rfl (by intro u hu; simp only [List.mem_cons, List.not_mem_nil, or_false] at hu; rcases hu with rfl <;> rfl) rfl rfl rfl kp ?_
            refine ow_nil ?_
            refine x_qs ?_
            refine c_seq ?_
            refine c_reg ?_
            refine ow_r rfl (dstOk_lt rfl) (ry_box (off := 0) (ds := [.slice a16 y11.Table_.length c18, .slice a71 l69.length c72]) rfl rfl ty30 (boxIn (i := 4) rfl) rfl rfl) ?_
            refine ow_storeC (off := 0) [.slice a16 y11.Table_.length c18, .slice a71 l69.length c72] [_, _] (i := 1) rfl rfl rfl rfl rfl rfl ty30 rfl rfl (by intro u hu; simp only [List.mem_cons, List.not_mem_nil, or_false] at hu; rcases hu with rfl | rfl <;> rfl) rfl rfl rfl kp ?_
            refine ow_batch [.p] rfl ?_
            refine ow_nil ?_
            refine x_qs ?_
            refine c_ret ?_
            refine xw_ex (fun w1 hw1 => unf (p := 5) (q := 6) hw1 rfl rfl rfl hn51 ha50) (fun F74 => ?_)
            refine xw_st (C' := St w M0 [_, _, _, _, _, _, _, _, _, _]) (fun _ h => h) ?_
            exact x_retR (rs := [.cell 8 30, .tmp 9]) (vs := [.agg #[.slice a16 y11.Table_.length c18, .slice a71 l69.length c72], .bool true]) rfl ⟨⟨_, [.slice a16 y11.Table_.length c18, .slice a71 l69.length c72], _, _, _, rfl, ty30, (at_box (T := 30) 0 (boxIn (i := 1) rfl) rfl), rfl, rfl⟩, rfl, trivial⟩ (fun w' hw' => by
                obtain rfl := of_some H
                exact ⟨_, rfl, a16, y11.Table_.length, c18, F74, a71, l69.length, c72, F73, rfl, hw'.sel [9, 8] rfl rfl⟩)
          · have H := of_if_f hb H
            refine c_skip ?_
            refine x_qs ?_
            refine c_seq ?_
            refine c_reg ?_
            refine ow_r rfl (dstOk_lt rfl) (ry_box (off := 0) (ds := [.slice a16 y11.Table_.length c18, .slice a62 l60.length c63]) rfl rfl ty30 (boxIn (i := 4) rfl) rfl rfl) ?_
            refine ow_storeC (off := 0) [.slice a16 y11.Table_.length c18, .slice a62 l60.length c63] [_, _] (i := 1) rfl rfl rfl rfl rfl rfl ty30 rfl rfl (by intro u hu; simp only [List.mem_cons, List.not_mem_nil, or_false] at hu; rcases hu with rfl | rfl <;> rfl) rfl rfl rfl kp ?_
            refine ow_batch [.p] rfl ?_
            refine ow_nil ?_
            refine x_qs ?_
            refine c_ret ?_
            refine xw_ex (fun w1 hw1 => unf (p := 5) (q := 6) hw1 rfl rfl rfl hn51 ha50) (fun F75 => ?_)
            refine xw_st (C' := St w M0 [_, _, _, _, _, _, _, _, _]) (fun _ h => h) ?_
            exact x_retR (rs := [.cell 8 30, .tmp 9]) (vs := [.agg #[.slice a16 y11.Table_.length c18, .slice a62 l60.length c63], .bool true]) rfl ⟨⟨_, [.slice a16 y11.Table_.length c18, .slice a62 l60.length c63], _, _, _, rfl, ty30, (at_box (T := 30) 0 (boxIn (i := 1) rfl) rfl), rfl, rfl⟩, rfl, trivial⟩ (fun w' hw' => by
                obtain rfl := of_some H
                exact ⟨_, rfl, a16, y11.Table_.length, c18, F75, a62, l60.length, c63, F64, rfl, hw'.sel [8, 3] rfl rfl⟩)
      · clear H
        have H := hu42
        clear hu42
        generalize u33 = t41 at H ⊢
        cases t41
        · have H := of_if_f rfl H
          refine ow_batch [.p] rfl ?_
          refine ow_r rfl (dstOk_lt rfl) (ry_box (off := 0) (ds := [.slice a5 p1.Table_.length c6, .slice a7 p1.Last_.length c8]) rfl rfl ty30 (boxIn (i := 0) rfl) rfl rfl) ?_
          obtain ⟨y39, h40, H⟩ := of_bind H
          refine ow_q rfl rfl (dstOk_lt rfl) (qy_call rfl fn18 rfl (fun w1 hw1 => spec_Count_ok w1 (cs1 := [.slice a5 p1.Table_.length c6, .slice a7 p1.Last_.length c8]) h40 (rdm_Timpl_Score (x := p1) (c0 := [.slice a5 p1.Table_.length c6]) (c1 := [.slice a7 p1.Last_.length c8]) (rds_bor g3 w1 hw1) (rds_bor g4 w1 hw1)))) (fun _ _ => trivial) ?_
          refine ow_batch [.p] rfl ?_
          refine ow_batch [.p] rfl ?_
          obtain rfl := of_some H
          exact OW.sub key ⟨rfl, rfl, rfl, rfl, rfl, trivial⟩
        · have H := of_if_t rfl H
          refine ow_batch [.p, .p, .p, .p, .p] rfl ?_
          obtain rfl := of_some H
          exact OW.sub key ⟨rfl, rfl, rfl, rfl, rfl, trivial⟩
    · clear H
      have H := hu37
      clear hu37
      generalize u27 = t36 at H ⊢
      cases t36
      · have H := of_if_f rfl H
        refine ow_batch [.p, .p, .p] rfl ?_
        obtain ⟨y34, h35, H⟩ := of_bind H
        refine ow_q rfl rfl (dstOk_lt rfl) (qy_call rfl fn45 rfl (fun w1 hw1 => spec_l1In_ok w1  h35)) (fun _ _ => trivial) ?_
        refine ow_batch [.p] rfl ?_
        refine ow_batch [.p] rfl ?_
        obtain rfl := of_some H
        exact OW.sub key ⟨rfl, rfl, rfl, rfl, rfl, rfl, rfl, trivial⟩
      · have H := of_if_t rfl H
        refine ow_batch [.p, .p, .p, .p, .p, .p] rfl ?_
        obtain rfl := of_some H
        exact OW.sub key ⟨rfl, rfl, rfl, rfl, rfl, rfl, rfl, trivial⟩
  · clear H
    have H := hu31
    clear hu31
    generalize (!y25) = t30 at H ⊢
    cases t30
    · have H := of_if_f rfl H
      refine ow_batch [.p, .p, .p] rfl ?_
      obtain ⟨y28, h29, H⟩ := of_bind H
      refine ow_q rfl rfl (dstOk_lt rfl) (qy_call rfl fn45 rfl (fun w1 hw1 => spec_l1In_ok w1  h29)) (fun _ _ => trivial) ?_
      refine ow_batch [.p] rfl ?_
      refine ow_batch [.p] rfl ?_
      obtain rfl := of_some H
      exact OW.sub key ⟨rfl, rfl, rfl, rfl, rfl, rfl, rfl, trivial⟩
    · have H := of_if_t rfl H
      refine ow_batch [.p, .p, .p, .p, .p, .p] rfl ?_
      obtain rfl := of_some H
      exact OW.sub key ⟨rfl, rfl, rfl, rfl, rfl, rfl, rfl, trivial⟩

set_option maxHeartbeats 4000000 in
set_option maxRecDepth 100000 in
theorem laws_big_ok (w : World) {p0 : List Int} {a_0 : Option Addr} {n_0 c_0 : Nat} {r : Bool} (H : laws_big p0 = some r)  (g0 : (eList (eVal (Value.int .u8) (fun _ => rfl)) 5).rd w [] p0 [.slice a_0 n_0 c_0]) :
    Calls Try.prog 31 #[.slice a_0 n_0 c_0] w (fun en w' => en = .returned (.bool r) ∧ Ext [] w w') := by
  obtain rfl := rd_n g0
  unfold laws_big at H
  refine f_enter (vs := [.slice a_0 p0.length c_0]) Try.func31 rfl Try.ntmps31 rfl (St.init w []) ?_
  refine c_seq ?_
  refine c_reg ?_
  refine ow_batch [.p] rfl ?_
  refine ow_nil ?_
  refine x_qs ?_
  refine c_seq ?_
  refine c_reg ?_
  refine ow_batch [.p, .lenS 46 5 sl46, .p, .p] rfl ?_
  refine ow_nil ?_
  refine x_qs ?_
  refine c_ret ?_
  exact x_retR (rs := [.tmp 2]) (vs := [.bool (decide ((p0.length : Int) > 1048576))]) rfl ⟨rfl, trivial⟩ (fun w' hw' => by
      obtain rfl := of_some H
      exact ⟨rfl, hw'.ext⟩)

set_option maxHeartbeats 4000000 in
set_option maxRecDepth 100000 in
theorem spec_l1New_ok (w : World) {M0 : List Nat} {p0 : List Int} {a_0 : Option Addr} {n_0 c_0 : Nat} {r : Tspec_l1Cur} (H : spec_l1New p0 = some r) (HS : St w M0 [] w) (g0 : (eList (eVal (Value.int .u8) (fun _ => rfl)) 5).rd w M0 p0 [.slice a_0 n_0 c_0]) :
    Calls Try.prog 71 #[.slice a_0 n_0 c_0] w (fun en w' => ∃ v, en = .returned v ∧ ∃ (b0 : Nat), v = .pointer (some ⟨b0, 0, none⟩) ∧ St w M0 [Res.box b0 89 [.slice a_0 n_0 c_0, .int .i64 r.i_, .int .i64 r.h_]] w') := by
  obtain rfl := rd_n g0
  unfold spec_l1New at H
  refine f_enter (vs := [.slice a_0 p0.length c_0]) Try.func71 rfl Try.ntmps71 rfl (HS) ?_
  refine c_seq ?_
  refine c_reg ?_
  refine ow_batch [.p] rfl ?_
  refine ow_nil ?_
  refine x_qs ?_
  refine c_seq ?_
  refine c_reg ?_
  refine ow_batch [.p, .lenS 46 5 sl46, .p, .p] rfl ?_
  refine ow_nil ?_
  refine x_qs ?_
  refine c_seq ?_
  refine c_seq ?_
  refine c_reg ?_
  refine ow_batch [.p] rfl ?_
  refine ow_nil ?_
  refine x_qs ?_
  refine c_block ?_
  refine CW.at (loopI2 (fun (i7 : Int) (i9 : Int) => St w M0 []) (fun (i7 : Int) (i9 : Int) => [(0, .slice a_0 p0.length c_0), (3, .int .i64 i7), (4, .int .i64 i9)]) (fun kk => fun (i7 : Int) (i9 : Int) => spec_l1New_L1 p0 kk i7 i9 = some r) (fun _ _ H => ?_) (fun k1 ihk1 i7 i9 H => ?_) Fuel (IntKind.i64.wrap (26583 + (p0.length : Int))) (0) (H)) (fun _ h => St.sel [] rfl rfl h) ⟨rfl, rfl, rfl,  trivial⟩
  · unfold spec_l1New_L1 at H
    exact absurd H (by simp)
  · unfold spec_l1New_L1 at H
    refine c_seq ?_
    refine c_seq ?_
    refine c_reg ?_
    refine ow_batch [.p, .p, .lenS 46 5 sl46, .p, .p] rfl ?_
    refine ow_cut [(15, .bool ((decide (i9 < (p0.length : Int))) && (decide (i9 < 4000)))), (0, .slice a_0 p0.length c_0), (3, .int .i64 i7), (4, .int .i64 i9)] 3 ?_ (fun key => OW.sub (R := [(0, .slice a_0 p0.length c_0), (3, .int .i64 i7), (4, .int .i64 i9), (12, .bool (decide (i9 < (p0.length : Int))))]) ?_ ⟨rfl, rfl, rfl, rfl, trivial⟩)
    · refine ow_nil ?_
      refine x_qs ?_
      refine c_if rfl (fun hb => ?_) (fun hb => ?_)
      · have H := of_if_t hb H
        refine c_skip ?_
        refine x_qs ?_
        refine c_seq ?_
        refine c_block ?_
        refine c_reg ?_
        refine ow_batch [.p, .p, .p, .p] rfl ?_
        obtain ⟨e19, h20, H⟩ := of_bind H
        refine ow_ixE (e := eVal (Value.int .u8) (fun _ => rfl)) (xs := p0) (j := i9) rfl rfl rfl rfl rfl sl46 ty5 rfl (fun w1 hw1 => rds_bor g0 w1 hw1) h20 (by rw [Nat.mul_one]) ?_
        refine ow_r rfl (dstOk_lt rfl) (ry_load1 rfl rfl ty5 (at_elV (fun w1 hw1 => rds_bor g0 w1 hw1) h20)) ?_
        refine ow_batch [.cv 5 3 .i64 us5 in3, .p, .p, .p, .p] rfl ?_
        refine ow_nil ?_
        refine x_qb ?_
        refine x_qs ?_
        refine c_reg ?_
        refine ow_batch [.p, .p, .p] rfl ?_
        refine ow_nil ?_
        exact x_ql (RW.at (ihk1 (ibits .and .i64 (IntKind.i64.wrap ((IntKind.i64.wrap ((IntKind.i64.wrap (i7 * 131)) + (IntKind.i64.wrap e19))) + 7)) 1073741823) (IntKind.i64.wrap (i9 + 1)) (H)) (fun _ h => St.sel [] rfl rfl h) ⟨rfl, rfl, rfl, trivial⟩)
      · have H := of_if_f hb H
        refine c_exit ?_
        refine x_qs_exit ?_
        refine x_ql_exit ?_
        refine x_qb_here ?_
        refine x_qs ?_
        refine c_seq ?_
        refine c_reg ?_
        refine ow_batch [.p, .p] rfl ?_
        refine ow_r rfl (dstOk_lt rfl) (ry_build2 [(0, [.slice a_0 p0.length c_0]), (2, [.int .i64 i7])] [.slice a_0 p0.length c_0, .int .i64 0, .int .i64 i7] rfl rfl ty89 fs89 rfl ⟨rfl, rfl, Nat.le_of_ble_eq_true rfl, rfl, rfl, Nat.le_of_ble_eq_true rfl,  trivial⟩ rfl) ?_
        refine ow_box (cs := [.slice a_0 p0.length c_0, .int .i64 0, .int .i64 i7]) rfl rfl rfl rfl rfl rfl (fun _ => kp) (fun b21 => ?_)
        refine ow_batch [.p] rfl ?_
        refine ow_nil ?_
        refine x_qs ?_
        refine c_ret ?_
        exact x_retR (rs := [.tmp 2]) (vs := [.pointer (some ⟨b21, 0, none⟩)]) rfl ⟨rfl, trivial⟩ (fun w' hw' => by
            obtain rfl := of_some H
            exact ⟨_, rfl, b21, rfl, hw'.sel [0] rfl rfl⟩)
    · generalize (decide (i9 < (p0.length : Int))) = t18 at key ⊢
      cases t18
      · refine ow_batch [.p, .p, .p] rfl ?_
        exact OW.sub key ⟨rfl, rfl, rfl, rfl, trivial⟩
      · refine ow_batch [.p, .p] rfl ?_
        refine ow_batch [.p] rfl ?_
        exact OW.sub key ⟨rfl, rfl, rfl, rfl, trivial⟩

set_option maxHeartbeats 4000000 in
set_option maxRecDepth 100000 in
theorem spec_l1Byte_ok (w : World) {M0 : List Nat} {p0b : List Int} {p0 : Tspec_l1Cur} {b_0 : Nat} {a_p0b : Option Addr} {n_p0b c_p0b : Nat} {r : Int × Tspec_l1Cur} (H : spec_l1Byte p0b p0 = some r) (HS : St w M0 [Res.box b_0 89 [.slice a_p0b p0b.length c_p0b, .int .i64 p0.i_, .int .i64 p0.h_]] w) (g_p0b : (eList (eVal (Value.int .u8) (fun _ => rfl)) 5).rd w M0 p0b [.slice a_p0b n_p0b c_p0b]) :
    Calls Try.prog 82 #[.pointer (some ⟨b_0, 0, none⟩)] w (fun en w' => ∃ v, en = .returned v ∧ v = .int .i64 r.1 ∧ St w M0 [Res.box b_0 89 [.slice a_p0b n_p0b c_p0b, .int .i64 r.2.i_, .int .i64 r.2.h_]] w') := by
  obtain rfl := rd_n g_p0b
  unfold spec_l1Byte at H
  refine f_enter (vs := [.pointer (some ⟨b_0, 0, none⟩)]) Try.func82 rfl Try.ntmps82 rfl (HS) ?_
  refine c_seq ?_
  refine c_reg ?_
  refine ow_batch [.p] rfl ?_
  refine ow_nil ?_
  refine x_qs ?_
  refine c_seq ?_
  refine c_reg ?_
  refine ow_batch [.p, .p, .p, .fa 89 2 2 fa89_2] rfl ?_
  refine ow_r rfl (dstOk_lt rfl) (ry_box1 (off := 2) rfl rfl ty3 (boxIn (i := 0) rfl) rfl) ?_
  refine ow_batch [.p, .p, .p, .fa 89 2 2 fa89_2] rfl ?_
  refine ow_storeC (off := 2) [.int .i64 (IntKind.i64.wrap ((IntKind.i64.wrap (p0.h_ * 6364136223846793005)) + 1442695040888963407))] [_, _, _] (i := 0) rfl rfl rfl rfl rfl rfl ty3 rfl rfl (by intro u hu; simp only [List.mem_cons, List.not_mem_nil, or_false] at hu; rcases hu with rfl <;> rfl) rfl rfl rfl kp ?_
  refine ow_nil ?_
  refine x_qs ?_
  refine c_seq ?_
  refine c_regQ mixed (by kernel_rfl) ?_
  refine ow_batch [.p, .p, .fa 89 2 2 fa89_2] rfl ?_
  refine ow_r rfl (dstOk_lt rfl) (ry_box1 (off := 2) rfl rfl ty3 (boxIn (i := 0) rfl) rfl) ?_
  refine ow_batch [.p, .p, .p, .fa 89 2 2 fa89_2] rfl ?_
  refine ow_r rfl (dstOk_lt rfl) (ry_box1 (off := 2) rfl rfl ty3 (boxIn (i := 0) rfl) rfl) ?_
  refine ow_batch [.p, .p, .p, .p] rfl ?_
  refine ow_nilQ ?_
  refine x_qs ?_
  refine c_seq ?_
  refine c_seq ?_
  refine c_regQ mixed (by kernel_rfl) ?_
  refine ow_batch [.p, .p, .fa 89 1 1 fa89_1] rfl ?_
  refine ow_r rfl (dstOk_lt rfl) (ry_box1 (off := 1) rfl rfl ty3 (boxIn (i := 0) rfl) rfl) ?_
  refine ow_batch [.p, .p, .fa 89 0 0 fa89_0] rfl ?_
  refine ow_r rfl (dstOk_lt rfl) (ry_box1 (off := 0) rfl rfl ty46 (boxIn (i := 0) rfl) rfl) ?_
  refine ow_batch [.lenS 46 5 sl46, .p] rfl ?_
  refine ow_nilQ ?_
  refine x_qs ?_
  refine c_if rfl (fun hb => ?_) (fun hb => ?_)
  · have H := of_if_t hb H
    refine c_seq ?_
    refine c_regQ mixed (by kernel_rfl) ?_
    refine ow_batch [.p, .p, .p, .fa 89 0 0 fa89_0] rfl ?_
    refine ow_r rfl (dstOk_lt rfl) (ry_box1 (off := 0) rfl rfl ty46 (boxIn (i := 0) rfl) rfl) ?_
    refine ow_batch [.p, .p, .fa 89 1 1 fa89_1] rfl ?_
    refine ow_r rfl (dstOk_lt rfl) (ry_box1 (off := 1) rfl rfl ty3 (boxIn (i := 0) rfl) rfl) ?_
    obtain ⟨e1, h2, H⟩ := of_bind H
    refine ow_ixE (e := eVal (Value.int .u8) (fun _ => rfl)) (xs := p0b) (j := p0.i_) rfl rfl rfl rfl rfl sl46 ty5 rfl (fun w1 hw1 => rds_bor g_p0b w1 hw1) h2 (by rw [Nat.mul_one]) ?_
    refine ow_r rfl (dstOk_lt rfl) (ry_load1 rfl rfl ty5 (at_elV (fun w1 hw1 => rds_bor g_p0b w1 hw1) h2)) ?_
    refine ow_batch [.cv 5 3 .i64 us5 in3, .p, .p, .p] rfl ?_
    refine ow_nilQ ?_
    refine x_qs ?_
    refine c_reg ?_
    refine ow_batch [.p, .p, .p, .fa 89 1 1 fa89_1] rfl ?_
    refine ow_r rfl (dstOk_lt rfl) (ry_box1 (off := 1) rfl rfl ty3 (boxIn (i := 0) rfl) rfl) ?_
    refine ow_batch [.p, .p, .fa 89 1 1 fa89_1] rfl ?_
    refine ow_storeC (off := 1) [.int .i64 (IntKind.i64.wrap (p0.i_ + 1))] [_, _, _] (i := 0) rfl rfl rfl rfl rfl rfl ty3 rfl rfl (by intro u hu; simp only [List.mem_cons, List.not_mem_nil, or_false] at hu; rcases hu with rfl <;> rfl) rfl rfl rfl kp ?_
    refine ow_nil ?_
    refine x_qs ?_
    refine c_seq ?_
    refine c_reg ?_
    refine ow_batch [.p, .p] rfl ?_
    refine ow_nil ?_
    refine x_qs ?_
    refine c_ret ?_
    exact x_retR (rs := [.tmp 2]) (vs := [.int .i64 (ibits .and .i64 (IntKind.i64.wrap ((ibits .and .i64 (ibits .xor .i64 (ishr .i64 (IntKind.i64.wrap ((IntKind.i64.wrap (p0.h_ * 6364136223846793005)) + 1442695040888963407)) 33) (ishr .i64 (IntKind.i64.wrap ((IntKind.i64.wrap (p0.h_ * 6364136223846793005)) + 1442695040888963407)) 45)) 255) + (IntKind.i64.wrap e1))) 255)]) rfl ⟨rfl, trivial⟩ (fun w' hw' => by
        obtain rfl := of_some H
        exact ⟨_, rfl, rfl, hw'.sel [0] rfl rfl⟩)
  · have H := of_if_f hb H
    refine c_skip ?_
    refine x_qs ?_
    refine c_seq ?_
    refine c_reg ?_
    refine ow_batch [.p, .p] rfl ?_
    refine ow_nil ?_
    refine x_qs ?_
    refine c_ret ?_
    exact x_retR (rs := [.tmp 2]) (vs := [.int .i64 (ibits .and .i64 (ibits .xor .i64 (ishr .i64 (IntKind.i64.wrap ((IntKind.i64.wrap (p0.h_ * 6364136223846793005)) + 1442695040888963407)) 33) (ishr .i64 (IntKind.i64.wrap ((IntKind.i64.wrap (p0.h_ * 6364136223846793005)) + 1442695040888963407)) 45)) 255)]) rfl ⟨rfl, trivial⟩ (fun w' hw' => by
        obtain rfl := of_some H
        exact ⟨_, rfl, rfl, hw'.sel [0] rfl rfl⟩)

set_option maxHeartbeats 4000000 in
set_option maxRecDepth 100000 in
theorem spec_l1Below_ok (w : World) {M0 : List Nat} {p0b : List Int} {p0 : Tspec_l1Cur} {p1 : Int} {b_0 : Nat} {a_p0b : Option Addr} {n_p0b c_p0b : Nat} {r : Int × Tspec_l1Cur} (H : spec_l1Below p0b p0 p1 = some r) (HS : St w M0 [Res.box b_0 89 [.slice a_p0b p0b.length c_p0b, .int .i64 p0.i_, .int .i64 p0.h_]] w) (g_p0b : (eList (eVal (Value.int .u8) (fun _ => rfl)) 5).rd w M0 p0b [.slice a_p0b n_p0b c_p0b]) :
    Calls Try.prog 72 #[.pointer (some ⟨b_0, 0, none⟩), .int .i64 p1] w (fun en w' => ∃ v, en = .returned v ∧ v = .int .i64 r.1 ∧ St w M0 [Res.box b_0 89 [.slice a_p0b n_p0b c_p0b, .int .i64 r.2.i_, .int .i64 r.2.h_]] w') := by
  obtain rfl := rd_n g_p0b
  unfold spec_l1Below at H
  refine f_enter (vs := [.pointer (some ⟨b_0, 0, none⟩), .int .i64 p1]) Try.func72 rfl Try.ntmps72 rfl (HS) ?_
  refine c_seq ?_
  refine c_reg ?_
  refine ow_batch [.p] rfl ?_
  refine ow_nil ?_
  refine x_qs ?_
  refine c_seq ?_
  refine c_seq ?_
  refine c_reg ?_
  refine ow_batch [.p, .p] rfl ?_
  refine ow_nil ?_
  refine x_qs ?_
  refine c_if rfl (fun hb => ?_) (fun hb => ?_)
  · have H := of_if_t hb H
    refine c_seq ?_
    refine c_reg ?_
    refine ow_batch [.p] rfl ?_
    refine ow_nil ?_
    refine x_qs ?_
    refine c_ret ?_
    refine x_qs_ret ?_
    exact x_retR (rs := [.tmp 4]) (vs := [.int .i64 0]) rfl ⟨rfl, trivial⟩ (fun w' hw' => by
        obtain rfl := of_some H
        exact ⟨_, rfl, rfl, hw'.sel [0] rfl rfl⟩)
  · have H := of_if_f hb H
    refine c_skip ?_
    refine x_qs ?_
    refine c_seq ?_
    refine c_seq ?_
    refine c_reg ?_
    refine ow_batch [.p, .p] rfl ?_
    refine ow_nil ?_
    refine x_qs ?_
    refine c_if rfl (fun hb => ?_) (fun hb => ?_)
    · have H := of_if_t hb H
      refine c_seq ?_
      refine c_reg ?_
      refine ow_batch [.p] rfl ?_
      obtain ⟨y1, h2, H⟩ := of_bind H
      refine ow_callS rfl fn82 rfl rfl rfl rfl (fun w1 hw1 => spec_l1Byte_ok w1  h2 (hw1.carve [0] rfl rfl) (rdB [0] rfl rfl hw1 g_p0b)) (fun v3 w1 w2 hw1 hR5 => ?_)
      obtain ⟨rfl, hS4⟩ := hR5
      refine ⟨St w M0 [_, _], hw1.comp [0] rfl rfl hS4, fun _ _ => trivial, ?_⟩
      refine ow_batch [.p] rfl ?_
      obtain ⟨x6, h7, H⟩ := of_bind H
      refine ow_r rfl (dstOk_lt rfl) (ry_rem rfl rfl rfl h7) ?_
      refine ow_batch [.p] rfl ?_
      refine ow_nil ?_
      refine x_qs ?_
      refine c_ret ?_
      refine x_qs_ret ?_
      exact x_retR (rs := [.tmp 4]) (vs := [.int .i64 x6]) rfl ⟨rfl, trivial⟩ (fun w' hw' => by
          obtain rfl := of_some H
          exact ⟨_, rfl, rfl, hw'.sel [1] rfl rfl⟩)
    · have H := of_if_f hb H
      refine c_skip ?_
      refine x_qs ?_
      refine c_seq ?_
      refine c_reg ?_
      refine ow_batch [.p] rfl ?_
      obtain ⟨y8, h9, H⟩ := of_bind H
      refine ow_callS rfl fn82 rfl rfl rfl rfl (fun w1 hw1 => spec_l1Byte_ok w1  h9 (hw1.carve [0] rfl rfl) (rdB [0] rfl rfl hw1 g_p0b)) (fun v10 w1 w2 hw1 hR12 => ?_)
      obtain ⟨rfl, hS11⟩ := hR12
      refine ⟨St w M0 [_, _], hw1.comp [0] rfl rfl hS11, fun _ _ => trivial, ?_⟩
      refine ow_batch [.p] rfl ?_
      refine ow_nil ?_
      refine x_qs ?_
      refine c_seq ?_
      refine c_reg ?_
      refine ow_batch [.p] rfl ?_
      obtain ⟨y13, h14, H⟩ := of_bind H
      refine ow_callS rfl fn82 rfl rfl rfl rfl (fun w1 hw1 => spec_l1Byte_ok w1  h14 (hw1.carve [1] rfl rfl) (rdB [1] rfl rfl hw1 g_p0b)) (fun v15 w1 w2 hw1 hR17 => ?_)
      obtain ⟨rfl, hS16⟩ := hR17
      refine ⟨St w M0 [_, _, _], hw1.comp [1] rfl rfl hS16, fun _ _ => trivial, ?_⟩
      refine ow_batch [.p] rfl ?_
      refine ow_nil ?_
      refine x_qs ?_
      refine c_seq ?_
      refine CW.weak (C' := St w M0 [_]) ?_ (fun _ h => St.sel [2] rfl rfl h)
      refine c_reg ?_
      refine ow_batch [.p] rfl ?_
      obtain ⟨y18, h19, H⟩ := of_bind H
      refine ow_callS rfl fn82 rfl rfl rfl rfl (fun w1 hw1 => spec_l1Byte_ok w1  h19 (hw1.carve [0] rfl rfl) (rdB [0] rfl rfl hw1 g_p0b)) (fun v20 w1 w2 hw1 hR22 => ?_)
      obtain ⟨rfl, hS21⟩ := hR22
      refine ⟨St w M0 [_, _], hw1.comp [0] rfl rfl hS21, fun _ _ => trivial, ?_⟩
      refine ow_batch [.p] rfl ?_
      refine ow_nil ?_
      refine x_qs ?_
      refine c_seq ?_
      refine c_reg ?_
      refine ow_batch [.p] rfl ?_
      obtain ⟨y23, h24, H⟩ := of_bind H
      refine ow_callS rfl fn82 rfl rfl rfl rfl (fun w1 hw1 => spec_l1Byte_ok w1  h24 (hw1.carve [1] rfl rfl) (rdB [1] rfl rfl hw1 g_p0b)) (fun v25 w1 w2 hw1 hR27 => ?_)
      obtain ⟨rfl, hS26⟩ := hR27
      refine ⟨St w M0 [_, _, _], hw1.comp [1] rfl rfl hS26, fun _ _ => trivial, ?_⟩
      refine ow_batch [.p] rfl ?_
      refine ow_nil ?_
      refine x_qs ?_
      refine c_seq ?_
      refine CW.weak (C' := St w M0 [_]) ?_ (fun _ h => St.sel [2] rfl rfl h)
      refine c_reg ?_
      refine ow_batch [.p, .p, .p, .p, .p, .p, .p, .p, .p, .p, .p] rfl ?_
      obtain ⟨x28, h29, H⟩ := of_bind H
      refine ow_r rfl (dstOk_lt rfl) (ry_rem rfl rfl rfl h29) ?_
      refine ow_batch [.p] rfl ?_
      refine ow_nil ?_
      refine x_qs ?_
      refine c_ret ?_
      exact x_retR (rs := [.tmp 4]) (vs := [.int .i64 x28]) rfl ⟨rfl, trivial⟩ (fun w' hw' => by
          obtain rfl := of_some H
          exact ⟨_, rfl, rfl, hw'.sel [0] rfl rfl⟩)

set_option maxHeartbeats 4000000 in
set_option maxRecDepth 100000 in
theorem spec_ScoreNew_ok (w : World) {M0 : List Nat} {p0 : Int}  {r : Timpl_Score} (H : spec_ScoreNew p0 = some r) (HS : St w M0 [] w)  :
    Calls Try.prog 84 #[.int .i64 p0] w (fun en w' => ∃ v, en = .returned v ∧ ∃ (a0 : Option Addr), ∃ (n0 : Nat), ∃ (c0 : Nat), ∃ (F0 : List Nat), ∃ (a1 : Option Addr), ∃ (n1 : Nat), ∃ (c1 : Nat), ∃ (F1 : List Nat), v = .agg #[.slice a0 n0 c0, .slice a1 n1 c1] ∧ St w M0 [Res.own (eList (eList (eVal (Value.int .i64) (fun _ => rfl)) 3) 53) F0 r.Table_ [.slice a0 n0 c0], Res.own (eList (eTimpl_Pair) 60) F1 r.Last_ [.slice a1 n1 c1]] w') := by
  unfold spec_ScoreNew at H
  refine f_enter (vs := [.int .i64 p0]) Try.func84 rfl Try.ntmps84 rfl (HS) ?_
  refine c_seq ?_
  refine c_reg ?_
  refine ow_alloc rfl rfl rfl rfl ty30 (fun _ => kp) (fun b1 => ?_)
  refine ow_nil ?_
  refine x_qs ?_
  refine c_seq ?_
  refine c_reg ?_
  refine ow_r rfl (dstOk_lt rfl) (ry_build2 [] [.slice none 0 0, .slice none 0 0] rfl rfl ty30 fs30 rfl trivial rfl) ?_
  refine ow_alloc rfl rfl rfl rfl ty30 (fun _ => kp) (fun b2 => ?_)
  refine ow_storeC (off := 0) [.slice none 0 0, .slice none 0 0] [_, _] (i := 1) rfl rfl rfl rfl rfl rfl ty30 rfl rfl (by intro u hu; simp only [List.mem_cons, List.not_mem_nil, or_false] at hu; rcases hu with rfl | rfl <;> rfl) rfl rfl rfl kp ?_
  refine ow_nil ?_
  refine x_qs ?_
  refine c_seq ?_
  refine c_seq ?_
  refine c_reg ?_
  refine ow_batch [.p] rfl ?_
  obtain ⟨y3, h4, H⟩ := of_bind H
  refine ow_q rfl rfl (dstOk_lt rfl) (qy_call rfl fn45 rfl (fun w1 hw1 => spec_l1In_ok w1  h4)) (fun _ _ => trivial) ?_
  refine ow_batch [.p] rfl ?_
  refine ow_nil ?_
  refine x_qs ?_
  refine c_if rfl (fun hb => ?_) (fun hb => ?_)
  · have H := of_if_t hb H
    refine c_seq ?_
    refine c_reg ?_
    refine ow_r rfl (dstOk_lt rfl) (ry_box (off := 0) (ds := [.slice none 0 0, .slice none 0 0]) rfl rfl ty30 (boxIn (i := 1) rfl) rfl rfl) ?_
    refine ow_storeC (off := 0) [.slice none 0 0, .slice none 0 0] [_, _] (i := 0) rfl rfl rfl rfl rfl rfl ty30 rfl rfl (by intro u hu; simp only [List.mem_cons, List.not_mem_nil, or_false] at hu; rcases hu with rfl | rfl <;> rfl) rfl rfl rfl kp ?_
    refine ow_nil ?_
    refine x_qs ?_
    refine c_ret ?_
    refine x_qs_ret ?_
    refine xw_st (fun _ h => St.pushNil (e := eList (eVal (Value.int .i64) (fun _ => rfl)) 3) (T := 53) h) ?_
    refine xw_st (fun _ h => St.pushNil (e := eTimpl_Pair) (T := 60) h) ?_
    exact x_retR (rs := [.cell 2 30]) (vs := [.agg #[.slice none 0 0, .slice none 0 0]]) rfl ⟨⟨_, [.slice none 0 0, .slice none 0 0], _, _, _, rfl, ty30, (at_box (T := 30) 0 (boxIn (i := 0) rfl) rfl), rfl, rfl⟩, trivial⟩ (fun w' hw' => by
        obtain rfl := of_some H
        exact ⟨_, rfl, none, 0, 0, [], none, 0, 0, [], rfl, hw'.sel [2, 3] rfl rfl⟩)
  · have H := of_if_f hb H
    refine c_skip ?_
    refine x_qs ?_
    refine c_seq ?_
    refine c_seq ?_
    refine c_reg ?_
    refine ow_batch [.p] rfl ?_
    refine ow_nil ?_
    refine x_qs ?_
    refine c_block ?_
    refine CW.weak ?_ (fun _ h => St.pushNil (e := eList (eVal (Value.int .i64) (fun _ => rfl)) 3) (T := 53) h)
    refine CW.at (loopI5 (fun (l23 : List (List Int)) (a24 : Option Addr) (c25 : Nat) (F26 : List Nat) (i27 : Int) => St w M0 [Res.box b1 30 [.slice none 0 0, .slice none 0 0], Res.box b2 30 [.slice a24 l23.length c25, .slice none 0 0], Res.own (eList (eList (eVal (Value.int .i64) (fun _ => rfl)) 3) 53) F26 l23 [.slice a24 l23.length c25]]) (fun (l23 : List (List Int)) (a24 : Option Addr) (c25 : Nat) (F26 : List Nat) (i27 : Int) => [(0, .int .i64 p0), (2, .pointer (some ⟨b1, 0, none⟩)), (3, .pointer (some ⟨b2, 0, none⟩)), (4, .int .i64 i27)]) (fun kk => fun (l23 : List (List Int)) (a24 : Option Addr) (c25 : Nat) (F26 : List Nat) (i27 : Int) => spec_ScoreNew_L1 p0 kk l23 i27 = some r) (fun _ _ _ _ _ H => ?_) (fun k1 ihk1 l23 a24 c25 F26 i27 H => ?_) Fuel (([] : List (List Int))) (none) (0) ([]) (0) (H)) (fun _ h => St.sel [0, 1, 2] rfl rfl h) ⟨rfl, rfl, rfl, rfl,  trivial⟩
    · unfold spec_ScoreNew_L1 at H
      exact absurd H (by simp)
    · unfold spec_ScoreNew_L1 at H
      refine c_seq ?_
      refine c_seq ?_
      refine c_reg ?_
      refine ow_batch [.p, .p, .p] rfl ?_
      refine ow_nil ?_
      refine x_qs ?_
      refine c_if rfl (fun hb => ?_) (fun hb => ?_)
      · have H := of_if_t hb H
        refine c_skip ?_
        refine x_qs ?_
        refine c_seq ?_
        refine c_block ?_
        refine c_regHT 5 [(0, true), (1, true), (2, true), (3, false), (4, false)] (St w M0 [Res.box b1 30 [.slice none 0 0, .slice none 0 0], Res.box b2 30 [.slice a24 l23.length c25, .slice none 0 0], Res.own (eList (eList (eVal (Value.int .i64) (fun _ => rfl)) 3) 53) F26 l23 [.slice a24 l23.length c25]]) mixed (by kernel_rfl) (panicOk_qb (panicOk_qs (panicOk_ql (panicOk_qb (panicOk_qs panicOk_body))))) (fun _ h => St.mask [true, true, true] rfl h) ?_
        refine ow_batch [.fa 30 0 0 fa30_0] rfl ?_
        refine ow_rH rfl (dstOk_lt rfl) (ry_box1 (off := 0) rfl rfl ty22 (boxIn (i := 1) rfl) rfl) ?_
        refine ow_batch [.p] rfl ?_
        obtain ⟨l50, h51, H⟩ := of_bind H
        refine ow_make (e := eVal (Value.int .i64) (fun _ => rfl)) (zero := (0 : Int)) rfl rfl rfl rfl rfl rfl sl53 ty3 rfl rfl rfl rfl (fun _ => ⟨rfl, rfl⟩) h51 (fun _ => (fun _ h => St.mask [true, true, true] rfl h)) (fun b52 => ?_)
        refine ow_bslice [(0, [.slice (some ⟨b52, 0, none⟩) l50.length l50.length])] rfl rfl rfl rfl rfl sl22 ty53 rfl rfl ⟨rfl, rfl, Nat.le_of_ble_eq_true rfl,  trivial⟩ [.slice (some ⟨b52, 0, none⟩) l50.length l50.length] rfl (fun _ => (fun _ h => St.mask [true, true, true] rfl h)) (fun b53 => ?_)
        refine ow_st rfl (fun _ h => lit1 (p := 4) (q := 3) h rfl rfl rfl) ?_
        refine ow_nilH ?_
        refine x_qt ?_
        obtain ⟨l54, h55, H⟩ := of_bind H
        refine ow_appM (r := 2) (j := 5) rfl rfl rfl rfl rfl rfl sl22 ty53 rfl rfl rfl rfl rfl rfl rfl h55 (fun _ _ _ => kp) (fun a56 c57 F58 => ?_)
        refine ow_batch [.fa 30 0 0 fa30_0] rfl ?_
        refine ow_storeC (off := 0) [.slice a56 l54.length c57] [_, _] (i := 1) rfl rfl rfl rfl rfl rfl ty22 rfl rfl (by intro u hu; simp only [List.mem_cons, List.not_mem_nil, or_false] at hu; rcases hu with rfl <;> rfl) rfl rfl rfl kp ?_
        refine ow_nil ?_
        refine x_qb ?_
        refine x_qs ?_
        refine CW.weak (C' := St w M0 [_, _, _]) ?_ (fun _ h => St.sel [0, 1, 6] rfl rfl h)
        refine c_reg ?_
        refine ow_batch [.p, .p, .p] rfl ?_
        refine ow_nil ?_
        exact x_ql (RW.at (ihk1 (l54) (a56) (c57) (F58) (IntKind.i64.wrap (i27 + 1)) (H)) (fun _ h => St.sel [0, 1, 2] rfl rfl h) ⟨rfl, rfl, rfl, rfl, trivial⟩)
      · have H := of_if_f hb H
        refine c_exit ?_
        refine x_qs_exit ?_
        refine x_ql_exit ?_
        refine x_qb_here ?_
        refine x_qs ?_
        refine c_seq ?_
        refine c_reg ?_
        refine ow_r rfl (dstOk_lt rfl) (ry_box (off := 0) (ds := [.slice a24 l23.length c25, .slice none 0 0]) rfl rfl ty30 (boxIn (i := 1) rfl) rfl rfl) ?_
        refine ow_storeC (off := 0) [.slice a24 l23.length c25, .slice none 0 0] [_, _] (i := 0) rfl rfl rfl rfl rfl rfl ty30 rfl rfl (by intro u hu; simp only [List.mem_cons, List.not_mem_nil, or_false] at hu; rcases hu with rfl | rfl <;> rfl) rfl rfl rfl kp ?_
        refine ow_nil ?_
        refine x_qs ?_
        refine c_ret ?_
        refine xw_st (fun _ h => St.pushNil (e := eTimpl_Pair) (T := 60) h) ?_
        exact x_retR (rs := [.cell 2 30]) (vs := [.agg #[.slice a24 l23.length c25, .slice none 0 0]]) rfl ⟨⟨_, [.slice a24 l23.length c25, .slice none 0 0], _, _, _, rfl, ty30, (at_box (T := 30) 0 (boxIn (i := 0) rfl) rfl), rfl, rfl⟩, trivial⟩ (fun w' hw' => by
            obtain rfl := of_some H
            exact ⟨_, rfl, a24, l23.length, c25, F26, none, 0, 0, [], rfl, hw'.sel [2, 3] rfl rfl⟩)

set_option maxHeartbeats 4000000 in
set_option maxRecDepth 100000 in
theorem spec_l1Once_ok (w : World) {M0 : List Nat} {p0b : List Int} {p0 : Tspec_l1Cur} {p1 : Int} {b_0 : Nat} {a_p0b : Option Addr} {n_p0b c_p0b : Nat} {r : Bool × Tspec_l1Cur} (H : spec_l1Once p0b p0 p1 = some r) (HS : St w M0 [Res.box b_0 89 [.slice a_p0b p0b.length c_p0b, .int .i64 p0.i_, .int .i64 p0.h_]] w) (g_p0b : (eList (eVal (Value.int .u8) (fun _ => rfl)) 5).rd w M0 p0b [.slice a_p0b n_p0b c_p0b]) :
    Calls Try.prog 74 #[.pointer (some ⟨b_0, 0, none⟩), .int .i64 p1] w (fun en w' => ∃ v, en = .returned v ∧ v = .bool r.1 ∧ St w M0 [Res.box b_0 89 [.slice a_p0b n_p0b c_p0b, .int .i64 r.2.i_, .int .i64 r.2.h_]] w') := by
  obtain rfl := rd_n g_p0b
  unfold spec_l1Once at H
  refine f_enter (vs := [.pointer (some ⟨b_0, 0, none⟩), .int .i64 p1]) Try.func74 rfl Try.ntmps74 rfl (HS) ?_
  refine c_seq ?_
  refine c_reg ?_
  refine ow_batch [.p] rfl ?_
  refine ow_nil ?_
  refine x_qs ?_
  refine c_seq ?_
  refine c_reg ?_
  refine ow_batch [.p, .p] rfl ?_
  obtain ⟨y1, h2, H⟩ := of_bind H
  refine ow_callS rfl fn72 rfl rfl rfl rfl (fun w1 hw1 => spec_l1Below_ok w1  h2 (hw1.carve [0] rfl rfl) (rdB [0] rfl rfl hw1 g_p0b)) (fun v3 w1 w2 hw1 hR5 => ?_)
  obtain ⟨rfl, hS4⟩ := hR5
  refine ⟨St w M0 [_, _], hw1.comp [0] rfl rfl hS4, fun _ _ => trivial, ?_⟩
  refine ow_batch [.p, .p] rfl ?_
  refine ow_nil ?_
  refine x_qs ?_
  refine c_ret ?_
  exact x_retR (rs := [.tmp 4]) (vs := [.bool (y1.1 == 0)]) rfl ⟨rfl, trivial⟩ (fun w' hw' => by
      obtain rfl := of_some H
      exact ⟨_, rfl, rfl, hw'.sel [1] rfl rfl⟩)

set_option maxHeartbeats 4000000 in
set_option maxRecDepth 100000 in
theorem spec_l1PickInt_ok (w : World) {M0 : List Nat} {p0b : List Int} {p0 : Tspec_l1Cur} {p1 : List Int} {b_0 : Nat} {a_p0b : Option Addr} {n_p0b c_p0b : Nat} {a_1 : Option Addr} {n_1 c_1 : Nat} {r : Int × Tspec_l1Cur} (H : spec_l1PickInt p0b p0 p1 = some r) (HS : St w M0 [Res.box b_0 89 [.slice a_p0b p0b.length c_p0b, .int .i64 p0.i_, .int .i64 p0.h_]] w) (g_p0b : (eList (eVal (Value.int .u8) (fun _ => rfl)) 5).rd w M0 p0b [.slice a_p0b n_p0b c_p0b]) (g1 : (eList (eVal (Value.int .i64) (fun _ => rfl)) 3).rd w M0 p1 [.slice a_1 n_1 c_1]) :
    Calls Try.prog 75 #[.pointer (some ⟨b_0, 0, none⟩), .slice a_1 n_1 c_1] w (fun en w' => ∃ v, en = .returned v ∧ v = .int .i64 r.1 ∧ St w M0 [Res.box b_0 89 [.slice a_p0b n_p0b c_p0b, .int .i64 r.2.i_, .int .i64 r.2.h_]] w') := by
  obtain rfl := rd_n g_p0b
  obtain rfl := rd_n g1
  unfold spec_l1PickInt at H
  refine f_enter (vs := [.pointer (some ⟨b_0, 0, none⟩), .slice a_1 p1.length c_1]) Try.func75 rfl Try.ntmps75 rfl (HS) ?_
  refine c_seq ?_
  refine c_reg ?_
  refine ow_batch [.p] rfl ?_
  refine ow_nil ?_
  refine x_qs ?_
  refine c_seq ?_
  refine c_reg ?_
  refine ow_batch [.p, .p, .p, .lenS 53 3 sl53] rfl ?_
  obtain ⟨y1, h2, H⟩ := of_bind H
  refine ow_callS rfl fn72 rfl rfl rfl rfl (fun w1 hw1 => spec_l1Below_ok w1  h2 (hw1.carve [0] rfl rfl) (rdB [0] rfl rfl hw1 g_p0b)) (fun v3 w1 w2 hw1 hR5 => ?_)
  obtain ⟨rfl, hS4⟩ := hR5
  refine ⟨St w M0 [_, _], hw1.comp [0] rfl rfl hS4, fun _ _ => trivial, ?_⟩
  obtain ⟨e6, h7, H⟩ := of_bind H
  refine ow_ixE (e := eVal (Value.int .i64) (fun _ => rfl)) (xs := p1) (j := y1.1) rfl rfl rfl rfl rfl sl53 ty3 rfl (fun w1 hw1 => rds_bor g1 w1 hw1) h7 (by rw [Nat.mul_one]) ?_
  refine ow_r rfl (dstOk_lt rfl) (ry_load1 rfl rfl ty3 (at_elV (fun w1 hw1 => rds_bor g1 w1 hw1) h7)) ?_
  refine ow_batch [.p] rfl ?_
  refine ow_nil ?_
  refine x_qs ?_
  refine c_ret ?_
  exact x_retR (rs := [.tmp 4]) (vs := [.int .i64 e6]) rfl ⟨rfl, trivial⟩ (fun w' hw' => by
      obtain rfl := of_some H
      exact ⟨_, rfl, rfl, hw'.sel [1] rfl rfl⟩)

set_option maxHeartbeats 4000000 in
set_option maxRecDepth 100000 in
theorem spec_l25Right_ok (w : World) {M0 : List Nat} {p0b : List Int} {p0 : Tspec_l1Cur} {p1 : Int} {b_0 : Nat} {a_p0b : Option Addr} {n_p0b c_p0b : Nat} {r : Timpl_Score × Tspec_l1Cur} (H : spec_l25Right p0b p0 p1 = some r) (HS : St w M0 [Res.box b_0 89 [.slice a_p0b p0b.length c_p0b, .int .i64 p0.i_, .int .i64 p0.h_]] w) (g_p0b : (eList (eVal (Value.int .u8) (fun _ => rfl)) 5).rd w M0 p0b [.slice a_p0b n_p0b c_p0b]) :
    Calls Try.prog 83 #[.pointer (some ⟨b_0, 0, none⟩), .int .i64 p1] w (fun en w' => ∃ v, en = .returned v ∧ ∃ (a0 : Option Addr), ∃ (n0 : Nat), ∃ (c0 : Nat), ∃ (F0 : List Nat), ∃ (a1 : Option Addr), ∃ (n1 : Nat), ∃ (c1 : Nat), ∃ (F1 : List Nat), v = .agg #[.slice a0 n0 c0, .slice a1 n1 c1] ∧ St w M0 [Res.own (eList (eList (eVal (Value.int .i64) (fun _ => rfl)) 3) 53) F0 r.1.Table_ [.slice a0 n0 c0], Res.own (eList (eTimpl_Pair) 60) F1 r.1.Last_ [.slice a1 n1 c1], Res.box b_0 89 [.slice a_p0b n_p0b c_p0b, .int .i64 r.2.i_, .int .i64 r.2.h_]] w') := by
  obtain rfl := rd_n g_p0b
  unfold spec_l25Right at H
  refine f_enter (vs := [.pointer (some ⟨b_0, 0, none⟩), .int .i64 p1]) Try.func83 rfl Try.ntmps83 rfl (HS) ?_
  refine c_seq ?_
  refine c_reg ?_
  refine ow_alloc rfl rfl rfl rfl ty30 (fun _ => kp) (fun b1 => ?_)
  refine ow_nil ?_
  refine x_qs ?_
  refine c_seq ?_
  refine c_reg ?_
  refine ow_batch [.p] rfl ?_
  obtain ⟨y2, h3, H⟩ := of_bind H
  refine ow_callS rfl fn84 rfl rfl rfl rfl (fun w1 hw1 => spec_ScoreNew_ok w1  h3 (hw1.carve [] rfl rfl)) (fun v4 w1 w2 hw1 hR6 => ?_)
  obtain ⟨a7, n8, c9, F10, a11, n12, c13, F14, rfl, hS5⟩ := hR6
  obtain rfl := own_nS (i := 0) hS5 rfl
  obtain rfl := own_nS (i := 1) hS5 rfl
  refine ⟨St w M0 [_, _, _, _], hw1.comp [] rfl rfl hS5, fun _ _ => trivial, ?_⟩
  refine ow_alloc rfl rfl rfl rfl ty30 (fun _ => kp) (fun b15 => ?_)
  refine ow_storeC (off := 0) [.slice a7 y2.Table_.length c9, .slice a11 y2.Last_.length c13] [_, _] (i := 4) rfl rfl rfl rfl rfl rfl ty30 rfl rfl (by intro u hu; simp only [List.mem_cons, List.not_mem_nil, or_false] at hu; rcases hu with rfl | rfl <;> rfl) rfl rfl rfl kp ?_
  refine ow_nil ?_
  refine x_qs ?_
  refine c_seq ?_
  refine c_seq ?_
  refine c_reg ?_
  refine ow_batch [.p] rfl ?_
  obtain ⟨y16, h17, H⟩ := of_bind H
  refine ow_callS rfl fn74 rfl rfl rfl rfl (fun w1 hw1 => spec_l1Once_ok w1  h17 (hw1.carve [0] rfl rfl) (rdB [0] rfl rfl hw1 g_p0b)) (fun v18 w1 w2 hw1 hR20 => ?_)
  obtain ⟨rfl, hS19⟩ := hR20
  refine ⟨St w M0 [_, _, _, _, _, _], hw1.comp [0] rfl rfl hS19, fun _ _ => trivial, ?_⟩
  refine ow_nil ?_
  refine x_qs ?_
  refine c_if rfl (fun hb => ?_) (fun hb => ?_)
  · have H := of_if_t hb H
    refine c_seq ?_
    obtain ⟨e21, h22, H⟩ := of_bind H
    refine cw_ex4 (fun w1 hw1 => foc (r := 2) hw1 rfl h22) (fun b24 G25 F26 c27 => ?_)
    refine cw_fact (fun w1 hw1 => hw1.1) (fun q23 => ?_)
    obtain ⟨ha28, hn29⟩ := q23
    refine CW.weak (C' := St w M0 [_, _, _, _, _, _, _, _]) ?_ (fun w1 hw1 => hw1.2)
    refine cw_ex2 (fun w1 hw1 => opn_sl (i := 7) hw1 rfl) (fun a30 c31 => ?_)
    refine cw_fact (fun w1 hw1 => hw1.1) (fun q32 => ?_)
    subst q32
    refine CW.weak (C' := St w M0 [_, _, _, _, _, _, _, _]) ?_ (fun w1 hw1 => hw1.2)
    refine c_regHT 7 [(0, true), (1, true), (2, true), (3, true), (4, true), (5, false), (6, true)] (St w M0 [Res.nil, Res.box b1 30 [.slice none 0 0, .slice none 0 0], Res.nil, Res.own (eList (eTimpl_Pair) 60) F14 y2.Last_ [.slice a11 y2.Last_.length c13], Res.box b15 30 [.slice a7 y2.Table_.length c9, .slice a11 y2.Last_.length c13], Res.nil, Res.hole (eList (eVal (Value.int .i64) (fun _ => rfl)) 3) 53 b24 c9 y2.Table_ ((0 : Int).toNat) G25 [.slice a30 e21.length c31], Res.own (eList (eVal (Value.int .i64) (fun _ => rfl)) 3) F26 e21 [.slice a30 e21.length c31]]) mixed (by kernel_rfl) (panicOk_qs (panicOk_qs panicOk_body)) (fun _ h => St.mask [true, true, true, true, true, false, true, true] rfl h) ?_
    refine ow_batch [.fa 30 0 0 fa30_0] rfl ?_
    refine ow_rH rfl (dstOk_lt rfl) (ry_box1 (off := 0) rfl rfl ty22 (boxIn (i := 4) rfl) rfl) ?_
    refine ow_ixH rfl rfl rfl rfl rfl sl22 ty53 rfl (holeIn (p := 6) rfl) hn29 ha28 (idx_some h22).1 ?_
    refine ow_rH rfl (dstOk_lt rfl) (ry_hole1 6 0 rfl rfl rfl ty53 (by first | rfl | simp only [add_lit, add_add, add_zero]) rfl) ?_
    refine ow_batch [.p] rfl ?_
    obtain ⟨y38, h39, H⟩ := of_bind H
    refine ow_callS rfl fn72 rfl rfl rfl rfl (fun w1 hw1 => spec_l1Below_ok w1  h39 (hw1.carve [5] rfl rfl) (rdB [5] rfl rfl hw1 g_p0b)) (fun v40 w1 w2 hw1 hR42 => ?_)
    obtain ⟨rfl, hS41⟩ := hR42
    refine ⟨St w M0 [_, _, _, _, _, _, _, _, _], hw1.comp [5] rfl rfl hS41, (fun _ h => St.mask [true, true, true, true, true, false, true, true] rfl h), ?_⟩
    refine ow_batch [.p] rfl ?_
    refine ow_nilH ?_
    refine x_qt ?_
    obtain ⟨e43, h44, H⟩ := of_bind H
    refine ow_ixE (e := eVal (Value.int .i64) (fun _ => rfl)) (xs := e21) (j := 0) rfl rfl rfl rfl rfl sl53 ty3 rfl (fun w1 hw1 => rds_own (r := 7) rfl w1 hw1) h44 (by rw [Nat.mul_one]) ?_
    refine ow_storeV (i := 7) (j := 0) rfl rfl rfl rfl rfl rfl ty3 rfl h44 (fun _ => rfl) kp ?_
    refine ow_nil ?_
    refine x_qs ?_
    refine c_seq ?_
    refine c_seq ?_
    refine CW.weak (C' := St w M0 [_, _, _, _, _, _]) ?_ (fun _ h => St.sel [1, 3, 4, 6, 7, 8] rfl rfl h)
    refine c_reg ?_
    refine ow_batch [.p] rfl ?_
    refine ow_nil ?_
    refine x_qs ?_
    refine c_block ?_
    refine cw_ex (fun w1 hw1 => unf (p := 3) (q := 4) hw1 rfl rfl rfl hn29 ha28) (fun F45 => ?_)
    refine CW.weak (C' := St w M0 [_, _, _, _, _, _, _]) ?_ (fun _ h => h)
    refine CW.at (loopI5 (fun (l58 : List Timpl_Pair) (a59 : Option Addr) (c60 : Nat) (F61 : List Nat) (i62 : Int) => St w M0 [Res.box b_0 89 [.slice a_p0b p0b.length c_p0b, .int .i64 y38.2.i_, .int .i64 y38.2.h_], Res.box b1 30 [.slice none 0 0, .slice none 0 0], Res.box b15 30 [.slice a7 y2.Table_.length c9, .slice a59 l58.length c60], Res.own (eList (eList (eVal (Value.int .i64) (fun _ => rfl)) 3) 53) F45 (y2.Table_.set (0 : Int).toNat (e21.set (0 : Int).toNat (IntKind.i64.wrap (9999 - y38.1)))) [.slice a7 y2.Table_.length c9], Res.own (eList (eTimpl_Pair) 60) F61 l58 [.slice a59 l58.length c60]]) (fun (l58 : List Timpl_Pair) (a59 : Option Addr) (c60 : Nat) (F61 : List Nat) (i62 : Int) => [(0, .pointer (some ⟨b_0, 0, none⟩)), (4, .pointer (some ⟨b1, 0, none⟩)), (5, .pointer (some ⟨b15, 0, none⟩)), (6, .int .i64 i62)]) (fun kk => fun (l58 : List Timpl_Pair) (a59 : Option Addr) (c60 : Nat) (F61 : List Nat) (i62 : Int) => spec_l25Right_L1 y2 e21 y38 kk l58 i62 = some r) (fun _ _ _ _ _ H => ?_) (fun k1 ihk1 l58 a59 c60 F61 i62 H => ?_) Fuel (y2.Last_) (a11) (c13) (F14) (0) (H)) (fun _ h => St.sel [5, 0, 2, 6, 1] rfl rfl h) ⟨rfl, rfl, rfl, rfl,  trivial⟩
    · unfold spec_l25Right_L1 at H
      exact absurd H (by simp)
    · unfold spec_l25Right_L1 at H
      refine c_seq ?_
      refine c_seq ?_
      refine c_reg ?_
      refine ow_batch [.p, .p] rfl ?_
      refine ow_nil ?_
      refine x_qs ?_
      refine c_if rfl (fun hb => ?_) (fun hb => ?_)
      · have H := of_if_t hb H
        refine c_skip ?_
        refine x_qs ?_
        refine c_seq ?_
        refine c_block ?_
        refine c_reg ?_
        refine ow_batch [.fa 30 1 1 fa30_1] rfl ?_
        refine ow_r rfl (dstOk_lt rfl) (ry_box1 (off := 1) rfl rfl ty28 (boxIn (i := 2) rfl) rfl) ?_
        refine ow_r rfl (dstOk_lt rfl) (ry_build2 [] [.int .i64 0, .int .i64 0] rfl rfl ty60 fs60 rfl trivial rfl) ?_
        refine ow_blitF ([(Timpl_Pair.mk 0 0)] : List Timpl_Pair) [(0, [.int .i64 0, .int .i64 0])] rfl rfl rfl rfl rfl sl28 ty60 rfl rfl rfl rfl ⟨rfl, rfl, Nat.le_of_ble_eq_true rfl,  trivial⟩ rfl (fun _ => kp) (fun b75 => (?_ : OW _ _ _ (St w M0 [Res.box b_0 89 [.slice a_p0b p0b.length c_p0b, .int .i64 y38.2.i_, .int .i64 y38.2.h_], Res.box b1 30 [.slice none 0 0, .slice none 0 0], Res.box b15 30 [.slice a7 y2.Table_.length c9, .slice a59 l58.length c60], Res.own (eList (eList (eVal (Value.int .i64) (fun _ => rfl)) 3) 53) F45 (y2.Table_.set (0 : Int).toNat (e21.set (0 : Int).toNat (IntKind.i64.wrap (9999 - y38.1)))) [.slice a7 y2.Table_.length c9], Res.own (eList (eTimpl_Pair) 60) F61 l58 [.slice a59 l58.length c60], Res.own (eList (eTimpl_Pair) 60) [b75] [(Timpl_Pair.mk 0 0)] [.slice (some ⟨b75, 0, none⟩) ([(Timpl_Pair.mk 0 0)] : List Timpl_Pair).length 1]]) _ _ _))
        obtain ⟨l76, h77, H⟩ := of_bind H
        refine ow_appF (r := 4) (ys := ([(Timpl_Pair.mk 0 0)] : List Timpl_Pair)) rfl rfl rfl rfl rfl rfl sl28 ty60 rfl rfl rfl rfl rfl (fun w1 hw1 => rds_own (r := 5) rfl w1 hw1) h77 (fun _ _ _ => kp) (fun a78 c79 F80 => ?_)
        refine ow_fact rfl (fun w1 hw1 => own_nn (i := 4) hw1 rfl (app_ne h77)) (fun hz81 => ?_)
        refine ow_batch [.fa 30 1 1 fa30_1] rfl ?_
        refine ow_storeC (off := 1) [.slice a78 l76.length c79] [_, _] (i := 2) rfl rfl rfl rfl rfl rfl ty28 rfl rfl (by intro u hu; simp only [List.mem_cons, List.not_mem_nil, or_false] at hu; rcases hu with rfl <;> rfl) rfl rfl rfl kp ?_
        refine ow_nil ?_
        refine x_qb ?_
        refine x_qs ?_
        refine c_reg ?_
        refine ow_batch [.p, .p, .p] rfl ?_
        refine ow_nil ?_
        exact x_ql (RW.at (ihk1 (l76) (a78) (c79) (F80) (IntKind.i64.wrap (i62 + 1)) (H)) (fun _ h => St.sel [0, 1, 2, 3, 4] rfl rfl h) ⟨rfl, rfl, rfl, rfl, trivial⟩)
      · have H := of_if_f hb H
        refine c_exit ?_
        refine x_qs_exit ?_
        refine x_ql_exit ?_
        refine x_qb_here ?_
        refine x_qs ?_
        refine c_seq ?_
        refine c_reg ?_
        refine ow_r rfl (dstOk_lt rfl) (ry_box (off := 0) (ds := [.slice a7 y2.Table_.length c9, .slice a59 l58.length c60]) rfl rfl ty30 (boxIn (i := 2) rfl) rfl rfl) ?_
        refine ow_storeC (off := 0) [.slice a7 y2.Table_.length c9, .slice a59 l58.length c60] [_, _] (i := 1) rfl rfl rfl rfl rfl rfl ty30 rfl rfl (by intro u hu; simp only [List.mem_cons, List.not_mem_nil, or_false] at hu; rcases hu with rfl | rfl <;> rfl) rfl rfl rfl kp ?_
        refine ow_nil ?_
        refine x_qs ?_
        refine c_ret ?_
        refine x_qs_ret ?_
        exact x_retR (rs := [.cell 4 30]) (vs := [.agg #[.slice a7 y2.Table_.length c9, .slice a59 l58.length c60]]) rfl ⟨⟨_, [.slice a7 y2.Table_.length c9, .slice a59 l58.length c60], _, _, _, rfl, ty30, (at_box (T := 30) 0 (boxIn (i := 1) rfl) rfl), rfl, rfl⟩, trivial⟩ (fun w' hw' => by
            obtain rfl := of_some H
            exact ⟨_, rfl, a7, y2.Table_.length, c9, F45, a59, l58.length, c60, F61, rfl, hw'.sel [3, 4, 0] rfl rfl⟩)
  · have H := of_if_f hb H
    refine c_skip ?_
    refine x_qs ?_
    refine c_seq ?_
    refine c_reg ?_
    refine ow_batch [.p] rfl ?_
    refine ow_blit (val := Value.int .i64) (h1 := fun _ => rfl) [0, 1, 5, 20, 30] [(0, [.int .i64 0]), (1, [.int .i64 1]), (2, [.int .i64 5]), (3, [.int .i64 20]), (4, [.int .i64 30])] rfl rfl rfl rfl rfl sl53 ty3 rfl rfl rfl ⟨rfl, rfl, Nat.le_of_ble_eq_true rfl, rfl, rfl, Nat.le_of_ble_eq_true rfl, rfl, rfl, Nat.le_of_ble_eq_true rfl, rfl, rfl, Nat.le_of_ble_eq_true rfl, rfl, rfl, Nat.le_of_ble_eq_true rfl,  trivial⟩ rfl rfl (fun _ => kp) (fun b82 => ?_)
    obtain ⟨y83, h84, H⟩ := of_bind H
    refine ow_callS rfl fn75 rfl rfl rfl rfl (fun w1 hw1 => spec_l1PickInt_ok w1  h84 (hw1.carve [5] rfl rfl) (rdB [5] rfl rfl hw1 g_p0b) (rdO 6 [5] rfl hw1 rfl rfl)) (fun v85 w1 w2 hw1 hR87 => ?_)
    obtain ⟨rfl, hS86⟩ := hR87
    refine ⟨St w M0 [_, _, _, _, _, _, _, _], hw1.comp [5] rfl rfl hS86, fun _ _ => trivial, ?_⟩
    refine ow_batch [.p] rfl ?_
    refine ow_nil ?_
    refine x_qs ?_
    refine c_seq ?_
    refine c_seq ?_
    refine CW.weak (C' := St w M0 [_, _, _, _, _, _]) ?_ (fun _ h => St.sel [1, 2, 3, 4, 6, 7] rfl rfl h)
    refine c_reg ?_
    refine ow_batch [.p] rfl ?_
    refine ow_nil ?_
    refine x_qs ?_
    refine c_block ?_
    refine CW.at (loopI11 (fun (i176 : Int) (i177 : Int) (l178 : List (List Int)) (a179 : Option Addr) (c180 : Nat) (F181 : List Nat) (l182 : List Timpl_Pair) (a183 : Option Addr) (c184 : Nat) (F185 : List Nat) (i186 : Int) => St w M0 [Res.box b_0 89 [.slice a_p0b p0b.length c_p0b, .int .i64 i176, .int .i64 i177], Res.box b1 30 [.slice none 0 0, .slice none 0 0], Res.box b15 30 [.slice a179 l178.length c180, .slice a183 l182.length c184], Res.own (eList (eList (eVal (Value.int .i64) (fun _ => rfl)) 3) 53) F181 l178 [.slice a179 l178.length c180], Res.own (eList (eTimpl_Pair) 60) F185 l182 [.slice a183 l182.length c184]]) (fun (i176 : Int) (i177 : Int) (l178 : List (List Int)) (a179 : Option Addr) (c180 : Nat) (F181 : List Nat) (l182 : List Timpl_Pair) (a183 : Option Addr) (c184 : Nat) (F185 : List Nat) (i186 : Int) => [(0, .pointer (some ⟨b_0, 0, none⟩)), (1, .int .i64 p1), (4, .pointer (some ⟨b1, 0, none⟩)), (5, .pointer (some ⟨b15, 0, none⟩)), (7, .int .i64 y83.1), (8, .int .i64 i186)]) (fun kk => fun (i176 : Int) (i177 : Int) (l178 : List (List Int)) (a179 : Option Addr) (c180 : Nat) (F181 : List Nat) (l182 : List Timpl_Pair) (a183 : Option Addr) (c184 : Nat) (F185 : List Nat) (i186 : Int) => spec_l25Right_L2 y83 p0b p1 kk i176 i177 l178 l182 i186 = some r) (fun _ _ _ _ _ _ _ _ _ _ _ H => ?_) (fun k2 ihk2 i176 i177 l178 a179 c180 F181 l182 a183 c184 F185 i186 H => ?_) Fuel (y83.2.i_) (y83.2.h_) (y2.Table_) (a7) (c9) (F10) (y2.Last_) (a11) (c13) (F14) (0) (H)) (fun _ h => St.sel [5, 0, 3, 1, 2] rfl rfl h) ⟨rfl, rfl, rfl, rfl, rfl, rfl,  trivial⟩
    · unfold spec_l25Right_L2 at H
      exact absurd H (by simp)
    · unfold spec_l25Right_L2 at H
      refine c_seq ?_
      refine c_seq ?_
      refine c_reg ?_
      refine ow_batch [.p, .p, .p] rfl ?_
      refine ow_nil ?_
      refine x_qs ?_
      refine c_if rfl (fun hb => ?_) (fun hb => ?_)
      · have H := of_if_t hb H
        refine c_skip ?_
        refine x_qs ?_
        refine c_seq ?_
        refine c_block ?_
        obtain ⟨y298, h299, H⟩ := of_bind H
        obtain ⟨y303, h304, H⟩ := of_bind H
        obtain ⟨y308, h309, H⟩ := of_bind H
        refine c_regB0 [(0, true), (2, true), (3, true), (5, true), (6, true)] (Br.alt 1 (Br.pre [(4, false), (7, false), (8, false), (9, true), (10, true), (11, true), (12, false)] Br.done) (Br.pre [(4, false)] (Br.alt 1 (Br.pre [(7, false), (8, false), (9, true), (10, true), (11, true), (12, false)] Br.done) (Br.pre [(7, false), (1, false), (8, false), (9, true), (10, true), (11, true), (12, false)] Br.done)))) (St w M0 [Res.nil, Res.box b1 30 [.slice none 0 0, .slice none 0 0], Res.nil, Res.own (eList (eList (eVal (Value.int .i64) (fun _ => rfl)) 3) 53) F181 l178 [.slice a179 l178.length c180], Res.own (eList (eTimpl_Pair) 60) F185 l182 [.slice a183 l182.length c184]]) mixed (by kernel_rfl) (panicOk_qb (panicOk_qs (panicOk_ql (panicOk_qb (panicOk_qs panicOk_body))))) (fun _ h => St.mask [false, true, false, true, true] rfl h) ?_
        refine ow_batch [.p, .p, .p, .p, .p] rfl ?_
        refine ow_nilH ?_
        refine x_alt (fun _ h => St.mask [false, true, false, true, true] rfl h) rfl ?_ ?_
        · refine ow_rL rfl rfl (dstOk_lt rfl) (ry_box (off := 0) (ds := [.slice a179 l178.length c180, .slice a183 l182.length c184]) rfl rfl ty30 (boxIn (i := 2) rfl) rfl rfl) ?_
          refine ow_callS rfl fn72 rfl rfl rfl rfl (fun w1 hw1 => spec_l1Below_ok w1  h299 (hw1.carve [0] rfl rfl) (rdB [0] rfl rfl hw1 g_p0b)) (fun v300 w1 w2 hw1 hR302 => ?_)
          obtain ⟨rfl, hS301⟩ := hR302
          refine ⟨St w M0 [_, _, _, _, _, _], hw1.comp [0] rfl rfl hS301, (fun _ h => St.mask [false, true, false, true, true] rfl h), ?_⟩
          refine ow_callS rfl fn72 rfl rfl rfl rfl (fun w1 hw1 => spec_l1Below_ok w1  h304 (hw1.carve [5] rfl rfl) (rdB [5] rfl rfl hw1 g_p0b)) (fun v305 w1 w2 hw1 hR307 => ?_)
          obtain ⟨rfl, hS306⟩ := hR307
          refine ⟨St w M0 [_, _, _, _, _, _, _], hw1.comp [5] rfl rfl hS306, (fun _ h => St.mask [false, true, false, true, true] rfl h), ?_⟩
          refine ow_callS rfl fn27 rfl rfl rfl rfl (fun w1 hw1 => spec_ScoreAdd_ok w1 (cs1 := [.slice a179 l178.length c180, .slice a183 l182.length c184]) h309 (hw1.carve [] rfl rfl) (rdm_Timpl_Score (x := (Timpl_Score.mk l178 l182)) (c0 := [.slice a179 l178.length c180]) (c1 := [.slice a183 l182.length c184]) (rds_own (r := 3) rfl w1 hw1) (rds_own (r := 4) rfl w1 hw1))) (fun v310 w1 w2 hw1 hR312 => ?_)
          obtain ⟨a313, n314, c315, F316, a317, n318, c319, F320, rfl, hS311⟩ := hR312
          obtain rfl := own_nS (i := 0) hS311 rfl
          obtain rfl := own_nS (i := 1) hS311 rfl
          refine ⟨St w M0 [_, _, _, _, _, _, _, _, _], hw1.comp [] rfl rfl hS311, (fun _ h => St.mask [false, true, false, true, true] rfl h), ?_⟩
          refine ow_batch [.p, .p, .p] rfl ?_
          refine ow_storeC (off := 0) [.slice a313 y308.1.Table_.length c315, .slice a317 y308.1.Last_.length c319] [_, _] (i := 2) rfl rfl rfl rfl rfl rfl ty30 rfl rfl (by intro u hu; simp only [List.mem_cons, List.not_mem_nil, or_false] at hu; rcases hu with rfl | rfl <;> rfl) rfl rfl rfl (fun _ h => St.mask [false, true, false, true, true] rfl h) ?_
          refine ow_nilH ?_
          refine x_done0 ?_
          refine x_qb ?_
          refine x_qs ?_
          refine CW.weak (C' := St w M0 [_, _, _, _, _, _, _]) ?_ (fun _ h => St.sel [1, 2, 3, 4, 6, 7, 8] rfl rfl h)
          refine c_reg ?_
          refine ow_batch [.p, .p, .p] rfl ?_
          refine ow_nil ?_
          exact x_ql (RW.at (ihk2 (y303.2.i_) (y303.2.h_) (y308.1.Table_) (a313) (c315) (F316) (y308.1.Last_) (a317) (c319) (F320) (IntKind.i64.wrap (i186 + 1)) (H)) (fun _ h => St.sel [4, 0, 1, 5, 6] rfl rfl h) ⟨rfl, rfl, rfl, rfl, rfl, rfl, trivial⟩)
        refine x_last (fun _ h => St.mask [false, true, false, true, true] rfl h) rfl ?_
        refine ow_callS rfl fn72 rfl rfl rfl rfl (fun w1 hw1 => spec_l1Below_ok w1  h299 (hw1.carve [0] rfl rfl) (rdB [0] rfl rfl hw1 g_p0b)) (fun v321 w1 w2 hw1 hR323 => ?_)
        obtain ⟨rfl, hS322⟩ := hR323
        refine ⟨St w M0 [_, _, _, _, _, _], hw1.comp [0] rfl rfl hS322, (fun _ h => St.mask [false, true, false, true, true] rfl h), ?_⟩
        refine ow_nilH ?_
        refine x_alt (fun _ h => St.mask [false, true, false, true, true] rfl h) rfl ?_ ?_
        · refine ow_rL rfl rfl (dstOk_lt rfl) (ry_box (off := 0) (ds := [.slice a179 l178.length c180, .slice a183 l182.length c184]) rfl rfl ty30 (boxIn (i := 2) rfl) rfl rfl) ?_
          refine ow_callS rfl fn72 rfl rfl rfl rfl (fun w1 hw1 => spec_l1Below_ok w1  h304 (hw1.carve [5] rfl rfl) (rdB [5] rfl rfl hw1 g_p0b)) (fun v324 w1 w2 hw1 hR326 => ?_)
          obtain ⟨rfl, hS325⟩ := hR326
          refine ⟨St w M0 [_, _, _, _, _, _, _], hw1.comp [5] rfl rfl hS325, (fun _ h => St.mask [false, true, false, true, true] rfl h), ?_⟩
          refine ow_callS rfl fn27 rfl rfl rfl rfl (fun w1 hw1 => spec_ScoreAdd_ok w1 (cs1 := [.slice a179 l178.length c180, .slice a183 l182.length c184]) h309 (hw1.carve [] rfl rfl) (rdm_Timpl_Score (x := (Timpl_Score.mk l178 l182)) (c0 := [.slice a179 l178.length c180]) (c1 := [.slice a183 l182.length c184]) (rds_own (r := 3) rfl w1 hw1) (rds_own (r := 4) rfl w1 hw1))) (fun v327 w1 w2 hw1 hR329 => ?_)
          obtain ⟨a330, n331, c332, F333, a334, n335, c336, F337, rfl, hS328⟩ := hR329
          obtain rfl := own_nS (i := 0) hS328 rfl
          obtain rfl := own_nS (i := 1) hS328 rfl
          refine ⟨St w M0 [_, _, _, _, _, _, _, _, _], hw1.comp [] rfl rfl hS328, (fun _ h => St.mask [false, true, false, true, true] rfl h), ?_⟩
          refine ow_batch [.p, .p, .p] rfl ?_
          refine ow_storeC (off := 0) [.slice a330 y308.1.Table_.length c332, .slice a334 y308.1.Last_.length c336] [_, _] (i := 2) rfl rfl rfl rfl rfl rfl ty30 rfl rfl (by intro u hu; simp only [List.mem_cons, List.not_mem_nil, or_false] at hu; rcases hu with rfl | rfl <;> rfl) rfl rfl rfl (fun _ h => St.mask [false, true, false, true, true] rfl h) ?_
          refine ow_nilH ?_
          refine x_done0 ?_
          refine x_qb ?_
          refine x_qs ?_
          refine CW.weak (C' := St w M0 [_, _, _, _, _, _, _]) ?_ (fun _ h => St.sel [1, 2, 3, 4, 6, 7, 8] rfl rfl h)
          refine c_reg ?_
          refine ow_batch [.p, .p, .p] rfl ?_
          refine ow_nil ?_
          exact x_ql (RW.at (ihk2 (y303.2.i_) (y303.2.h_) (y308.1.Table_) (a330) (c332) (F333) (y308.1.Last_) (a334) (c336) (F337) (IntKind.i64.wrap (i186 + 1)) (H)) (fun _ h => St.sel [4, 0, 1, 5, 6] rfl rfl h) ⟨rfl, rfl, rfl, rfl, rfl, rfl, trivial⟩)
        refine x_last (fun _ h => St.mask [false, true, false, true, true] rfl h) rfl ?_
        refine ow_callS rfl fn72 rfl rfl rfl rfl (fun w1 hw1 => spec_l1Below_ok w1  h304 (hw1.carve [5] rfl rfl) (rdB [5] rfl rfl hw1 g_p0b)) (fun v338 w1 w2 hw1 hR340 => ?_)
        obtain ⟨rfl, hS339⟩ := hR340
        refine ⟨St w M0 [_, _, _, _, _, _, _], hw1.comp [5] rfl rfl hS339, (fun _ h => St.mask [false, true, false, true, true] rfl h), ?_⟩
        refine ow_rL rfl rfl (dstOk_lt rfl) (ry_box (off := 0) (ds := [.slice a179 l178.length c180, .slice a183 l182.length c184]) rfl rfl ty30 (boxIn (i := 2) rfl) rfl rfl) ?_
        refine ow_callS rfl fn27 rfl rfl rfl rfl (fun w1 hw1 => spec_ScoreAdd_ok w1 (cs1 := [.slice a179 l178.length c180, .slice a183 l182.length c184]) h309 (hw1.carve [] rfl rfl) (rdm_Timpl_Score (x := (Timpl_Score.mk l178 l182)) (c0 := [.slice a179 l178.length c180]) (c1 := [.slice a183 l182.length c184]) (rds_own (r := 3) rfl w1 hw1) (rds_own (r := 4) rfl w1 hw1))) (fun v341 w1 w2 hw1 hR343 => ?_)
        obtain ⟨a344, n345, c346, F347, a348, n349, c350, F351, rfl, hS342⟩ := hR343
        obtain rfl := own_nS (i := 0) hS342 rfl
        obtain rfl := own_nS (i := 1) hS342 rfl
        refine ⟨St w M0 [_, _, _, _, _, _, _, _, _], hw1.comp [] rfl rfl hS342, (fun _ h => St.mask [false, true, false, true, true] rfl h), ?_⟩
        refine ow_batch [.p, .p, .p] rfl ?_
        refine ow_storeC (off := 0) [.slice a344 y308.1.Table_.length c346, .slice a348 y308.1.Last_.length c350] [_, _] (i := 2) rfl rfl rfl rfl rfl rfl ty30 rfl rfl (by intro u hu; simp only [List.mem_cons, List.not_mem_nil, or_false] at hu; rcases hu with rfl | rfl <;> rfl) rfl rfl rfl (fun _ h => St.mask [false, true, false, true, true] rfl h) ?_
        refine ow_nilH ?_
        refine x_done0 ?_
        refine x_qb ?_
        refine x_qs ?_
        refine CW.weak (C' := St w M0 [_, _, _, _, _, _, _]) ?_ (fun _ h => St.sel [1, 2, 3, 4, 6, 7, 8] rfl rfl h)
        refine c_reg ?_
        refine ow_batch [.p, .p, .p] rfl ?_
        refine ow_nil ?_
        exact x_ql (RW.at (ihk2 (y303.2.i_) (y303.2.h_) (y308.1.Table_) (a344) (c346) (F347) (y308.1.Last_) (a348) (c350) (F351) (IntKind.i64.wrap (i186 + 1)) (H)) (fun _ h => St.sel [4, 0, 1, 5, 6] rfl rfl h) ⟨rfl, rfl, rfl, rfl, rfl, rfl, trivial⟩)
      · have H := of_if_f hb H
        refine c_exit ?_
        refine x_qs_exit ?_
        refine x_ql_exit ?_
        refine x_qb_here ?_
        refine x_qs ?_
        refine c_seq ?_
        refine c_reg ?_
        refine ow_r rfl (dstOk_lt rfl) (ry_box (off := 0) (ds := [.slice a179 l178.length c180, .slice a183 l182.length c184]) rfl rfl ty30 (boxIn (i := 2) rfl) rfl rfl) ?_
        refine ow_storeC (off := 0) [.slice a179 l178.length c180, .slice a183 l182.length c184] [_, _] (i := 1) rfl rfl rfl rfl rfl rfl ty30 rfl rfl (by intro u hu; simp only [List.mem_cons, List.not_mem_nil, or_false] at hu; rcases hu with rfl | rfl <;> rfl) rfl rfl rfl kp ?_
        refine ow_nil ?_
        refine x_qs ?_
        refine c_ret ?_
        exact x_retR (rs := [.cell 4 30]) (vs := [.agg #[.slice a179 l178.length c180, .slice a183 l182.length c184]]) rfl ⟨⟨_, [.slice a179 l178.length c180, .slice a183 l182.length c184], _, _, _, rfl, ty30, (at_box (T := 30) 0 (boxIn (i := 1) rfl) rfl), rfl, rfl⟩, trivial⟩ (fun w' hw' => by
            obtain rfl := of_some H
            exact ⟨_, rfl, a179, l178.length, c180, F181, a183, l182.length, c184, F185, rfl, hw'.sel [3, 4, 0] rfl rfl⟩)

set_option maxHeartbeats 4000000 in
set_option maxRecDepth 100000 in
theorem spec_l25Draw_ok (w : World) {M0 : List Nat} {p0b : List Int} {p0 : Tspec_l1Cur} {p1 : Int} {b_0 : Nat} {a_p0b : Option Addr} {n_p0b c_p0b : Nat} {r : Timpl_Score × Tspec_l1Cur} (H : spec_l25Draw p0b p0 p1 = some r) (HS : St w M0 [Res.box b_0 89 [.slice a_p0b p0b.length c_p0b, .int .i64 p0.i_, .int .i64 p0.h_]] w) (g_p0b : (eList (eVal (Value.int .u8) (fun _ => rfl)) 5).rd w M0 p0b [.slice a_p0b n_p0b c_p0b]) :
    Calls Try.prog 73 #[.pointer (some ⟨b_0, 0, none⟩), .int .i64 p1] w (fun en w' => ∃ v, en = .returned v ∧ ∃ (a0 : Option Addr), ∃ (n0 : Nat), ∃ (c0 : Nat), ∃ (F0 : List Nat), ∃ (a1 : Option Addr), ∃ (n1 : Nat), ∃ (c1 : Nat), ∃ (F1 : List Nat), v = .agg #[.slice a0 n0 c0, .slice a1 n1 c1] ∧ St w M0 [Res.own (eList (eList (eVal (Value.int .i64) (fun _ => rfl)) 3) 53) F0 r.1.Table_ [.slice a0 n0 c0], Res.own (eList (eTimpl_Pair) 60) F1 r.1.Last_ [.slice a1 n1 c1], Res.box b_0 89 [.slice a_p0b n_p0b c_p0b, .int .i64 r.2.i_, .int .i64 r.2.h_]] w') := by
  obtain rfl := rd_n g_p0b
  unfold spec_l25Draw at H
  refine f_enter (vs := [.pointer (some ⟨b_0, 0, none⟩), .int .i64 p1]) Try.func73 rfl Try.ntmps73 rfl (HS) ?_
  refine c_seq ?_
  refine c_reg ?_
  refine ow_alloc rfl rfl rfl rfl ty30 (fun _ => kp) (fun b1 => ?_)
  refine ow_nil ?_
  refine x_qs ?_
  refine c_seq ?_
  refine c_reg ?_
  refine ow_batch [.p, .p] rfl ?_
  obtain ⟨y2, h3, H⟩ := of_bind H
  refine ow_callS rfl fn83 rfl rfl rfl rfl (fun w1 hw1 => spec_l25Right_ok w1  h3 (hw1.carve [0] rfl rfl) (rdB [0] rfl rfl hw1 g_p0b)) (fun v4 w1 w2 hw1 hR6 => ?_)
  obtain ⟨a7, n8, c9, F10, a11, n12, c13, F14, rfl, hS5⟩ := hR6
  obtain rfl := own_nS (i := 0) hS5 rfl
  obtain rfl := own_nS (i := 1) hS5 rfl
  refine ⟨St w M0 [_, _, _, _, _], hw1.comp [0] rfl rfl hS5, fun _ _ => trivial, ?_⟩
  refine ow_alloc rfl rfl rfl rfl ty30 (fun _ => kp) (fun b15 => ?_)
  refine ow_storeC (off := 0) [.slice a7 y2.1.Table_.length c9, .slice a11 y2.1.Last_.length c13] [_, _] (i := 5) rfl rfl rfl rfl rfl rfl ty30 rfl rfl (by intro u hu; simp only [List.mem_cons, List.not_mem_nil, or_false] at hu; rcases hu with rfl | rfl <;> rfl) rfl rfl rfl kp ?_
  refine ow_nil ?_
  refine x_qs ?_
  refine c_seq ?_
  refine c_seq ?_
  refine c_reg ?_
  refine ow_batch [.p] rfl ?_
  obtain ⟨y16, h17, H⟩ := of_bind H
  refine ow_callS rfl fn72 rfl rfl rfl rfl (fun w1 hw1 => spec_l1Below_ok w1  h17 (hw1.carve [4] rfl rfl) (rdB [4] rfl rfl hw1 g_p0b)) (fun v18 w1 w2 hw1 hR20 => ?_)
  obtain ⟨rfl, hS19⟩ := hR20
  refine ⟨St w M0 [_, _, _, _, _, _, _], hw1.comp [4] rfl rfl hS19, fun _ _ => trivial, ?_⟩
  refine ow_nil ?_
  refine x_qs ?_
  refine c_block ?_
  refine c_seq ?_
  refine CW.weak (C' := St w M0 [_, _, _, _, _]) ?_ (fun _ h => St.sel [1, 2, 3, 5, 6] rfl rfl h)
  refine c_reg ?_
  refine ow_batch [.p, .p] rfl ?_
  refine ow_nil ?_
  refine x_qs ?_
  refine c_if rfl (fun hb => ?_) (fun hb => ?_)
  · have H := of_if_t hb H
    obtain ⟨e21, h22, H⟩ := of_bind H
    refine cw_ex4 (fun w1 hw1 => foc (r := 1) hw1 rfl h22) (fun b24 G25 F26 c27 => ?_)
    refine cw_fact (fun w1 hw1 => hw1.1) (fun q23 => ?_)
    obtain ⟨ha28, hn29⟩ := q23
    refine CW.weak (C' := St w M0 [_, _, _, _, _, _, _]) ?_ (fun w1 hw1 => hw1.2)
    refine cw_ex2 (fun w1 hw1 => opn_sl (i := 6) hw1 rfl) (fun a30 c31 => ?_)
    refine cw_fact (fun w1 hw1 => hw1.1) (fun q32 => ?_)
    subst q32
    refine CW.weak (C' := St w M0 [_, _, _, _, _, _, _]) ?_ (fun w1 hw1 => hw1.2)
    refine c_regT 12 mixed (by kernel_rfl) ?_
    refine ow_batch [.fa 30 0 0 fa30_0] rfl ?_
    refine ow_r rfl (dstOk_lt rfl) (ry_box1 (off := 0) rfl rfl ty22 (boxIn (i := 3) rfl) rfl) ?_
    refine ow_ixH rfl rfl rfl rfl rfl sl22 ty53 rfl (holeIn (p := 5) rfl) hn29 ha28 (idx_some h22).1 ?_
    refine ow_r rfl (dstOk_lt rfl) (ry_hole1 5 0 rfl rfl rfl ty53 (by first | rfl | simp only [add_lit, add_add, add_zero]) rfl) ?_
    refine ow_batch [.fa 30 0 0 fa30_0] rfl ?_
    refine ow_r rfl (dstOk_lt rfl) (ry_box1 (off := 0) rfl rfl ty22 (boxIn (i := 3) rfl) rfl) ?_
    refine ow_ixH rfl rfl rfl rfl rfl sl22 ty53 rfl (holeIn (p := 5) rfl) hn29 ha28 (idx_some h22).1 ?_
    refine ow_r rfl (dstOk_lt rfl) (ry_hole1 5 0 rfl rfl rfl ty53 (by first | rfl | simp only [add_lit, add_add, add_zero]) rfl) ?_
    obtain ⟨e33, h34, H⟩ := of_bind H
    refine ow_ixE (e := eVal (Value.int .i64) (fun _ => rfl)) (xs := e21) (j := 0) rfl rfl rfl rfl rfl sl53 ty3 rfl (fun w1 hw1 => rds_own (r := 6) rfl w1 hw1) h34 (by rw [Nat.mul_one]) ?_
    refine ow_r rfl (dstOk_lt rfl) (ry_load1 rfl rfl ty3 (at_elV (fun w1 hw1 => rds_own (r := 6) rfl w1 hw1) h34)) ?_
    refine ow_batch [.p] rfl ?_
    obtain ⟨e35, h36, H⟩ := of_bind H
    refine ow_ixE (e := eVal (Value.int .i64) (fun _ => rfl)) (xs := e21) (j := 0) rfl rfl rfl rfl rfl sl53 ty3 rfl (fun w1 hw1 => rds_own (r := 6) rfl w1 hw1) h36 (by rw [Nat.mul_one]) ?_
    refine ow_nilQ ?_
    refine ow_storeV (i := 6) (j := 0) rfl rfl rfl rfl rfl rfl ty3 rfl h36 (fun _ => rfl) kp ?_
    refine ow_nil ?_
    refine x_qb ?_
    refine x_qs ?_
    refine c_seq ?_
    refine c_reg ?_
    refine ow_r rfl (dstOk_lt rfl) (ry_box (off := 0) (ds := [.slice a7 y2.1.Table_.length c9, .slice a11 y2.1.Last_.length c13]) rfl rfl ty30 (boxIn (i := 3) rfl) rfl rfl) ?_
    refine ow_storeC (off := 0) [.slice a7 y2.1.Table_.length c9, .slice a11 y2.1.Last_.length c13] [_, _] (i := 0) rfl rfl rfl rfl rfl rfl ty30 rfl rfl (by intro u hu; simp only [List.mem_cons, List.not_mem_nil, or_false] at hu; rcases hu with rfl | rfl <;> rfl) rfl rfl rfl kp ?_
    refine ow_nil ?_
    refine x_qs ?_
    refine c_ret ?_
    refine xw_ex (fun w1 hw1 => unf (p := 5) (q := 6) hw1 rfl rfl rfl hn29 ha28) (fun F37 => ?_)
    refine xw_st (C' := St w M0 [_, _, _, _, _, _, _, _]) (fun _ h => h) ?_
    exact x_retR (rs := [.cell 4 30]) (vs := [.agg #[.slice a7 y2.1.Table_.length c9, .slice a11 y2.1.Last_.length c13]]) rfl ⟨⟨_, [.slice a7 y2.1.Table_.length c9, .slice a11 y2.1.Last_.length c13], _, _, _, rfl, ty30, (at_box (T := 30) 0 (boxIn (i := 0) rfl) rfl), rfl, rfl⟩, trivial⟩ (fun w' hw' => by
        obtain rfl := of_some H
        exact ⟨_, rfl, a7, y2.1.Table_.length, c9, F37, a11, y2.1.Last_.length, c13, F14, rfl, hw'.sel [7, 2, 4] rfl rfl⟩)
  · have H := of_if_f hb H
    refine c_seq ?_
    refine c_reg ?_
    refine ow_batch [.p, .p] rfl ?_
    refine ow_nil ?_
    refine x_qs ?_
    refine c_if rfl (fun hb => ?_) (fun hb => ?_)
    · have H := of_if_t hb H
      obtain ⟨e38, h39, H⟩ := of_bind H
      refine cw_ex4 (fun w1 hw1 => foc (r := 1) hw1 rfl h39) (fun b41 G42 F43 c44 => ?_)
      refine cw_fact (fun w1 hw1 => hw1.1) (fun q40 => ?_)
      obtain ⟨ha45, hn46⟩ := q40
      refine CW.weak (C' := St w M0 [_, _, _, _, _, _, _]) ?_ (fun w1 hw1 => hw1.2)
      refine cw_ex2 (fun w1 hw1 => opn_sl (i := 6) hw1 rfl) (fun a47 c48 => ?_)
      refine cw_fact (fun w1 hw1 => hw1.1) (fun q49 => ?_)
      subst q49
      refine CW.weak (C' := St w M0 [_, _, _, _, _, _, _]) ?_ (fun w1 hw1 => hw1.2)
      refine c_regHT 7 [(0, true), (1, true), (2, true), (3, true), (4, true), (5, false), (6, false)] (St w M0 [Res.box b1 30 [.slice none 0 0, .slice none 0 0], Res.nil, Res.own (eList (eTimpl_Pair) 60) F14 y2.1.Last_ [.slice a11 y2.1.Last_.length c13], Res.box b15 30 [.slice a7 y2.1.Table_.length c9, .slice a11 y2.1.Last_.length c13], Res.nil, Res.hole (eList (eVal (Value.int .i64) (fun _ => rfl)) 3) 53 b41 c9 y2.1.Table_ ((1 : Int).toNat) G42 [.slice a47 e38.length c48], Res.own (eList (eVal (Value.int .i64) (fun _ => rfl)) 3) F43 e38 [.slice a47 e38.length c48]]) mixed (by kernel_rfl) (panicOk_qb (panicOk_qs panicOk_body)) (fun _ h => St.mask [true, true, true, true, false, true, true] rfl h) ?_
      refine ow_batch [.fa 30 0 0 fa30_0] rfl ?_
      refine ow_rH rfl (dstOk_lt rfl) (ry_box1 (off := 0) rfl rfl ty22 (boxIn (i := 3) rfl) rfl) ?_
      refine ow_ixH rfl rfl rfl rfl rfl sl22 ty53 rfl (holeIn (p := 5) rfl) hn46 ha45 (idx_some h39).1 ?_
      refine ow_rH rfl (dstOk_lt rfl) (ry_hole1 5 0 rfl rfl rfl ty53 (by first | rfl | simp only [add_lit, add_add, add_zero]) rfl) ?_
      refine ow_batch [.p] rfl ?_
      refine ow_blit (val := Value.int .i64) (h1 := fun _ => rfl) [(-1), 10000, 9223372036854775807] [(0, [.int .i64 (-1)]), (1, [.int .i64 10000]), (2, [.int .i64 9223372036854775807])] rfl rfl rfl rfl rfl sl53 ty3 rfl rfl rfl ⟨rfl, rfl, Nat.le_of_ble_eq_true rfl, rfl, rfl, Nat.le_of_ble_eq_true rfl, rfl, rfl, Nat.le_of_ble_eq_true rfl,  trivial⟩ rfl rfl (fun _ => (fun _ h => St.mask [true, true, true, true, false, true, true] rfl h)) (fun b56 => ?_)
      obtain ⟨y57, h58, H⟩ := of_bind H
      refine ow_callS rfl fn75 rfl rfl rfl rfl (fun w1 hw1 => spec_l1PickInt_ok w1  h58 (hw1.carve [4] rfl rfl) (rdB [4] rfl rfl hw1 g_p0b) (rdO 7 [4] rfl hw1 rfl rfl)) (fun v59 w1 w2 hw1 hR61 => ?_)
      obtain ⟨rfl, hS60⟩ := hR61
      refine ⟨St w M0 [_, _, _, _, _, _, _, _, _], hw1.comp [4] rfl rfl hS60, (fun _ h => St.mask [true, true, true, true, false, true, true] rfl h), ?_⟩
      refine ow_nilH ?_
      refine x_qt ?_
      obtain ⟨e62, h63, H⟩ := of_bind H
      refine ow_ixE (e := eVal (Value.int .i64) (fun _ => rfl)) (xs := e38) (j := 0) rfl rfl rfl rfl rfl sl53 ty3 rfl (fun w1 hw1 => rds_own (r := 6) rfl w1 hw1) h63 (by rw [Nat.mul_one]) ?_
      refine ow_storeV (i := 6) (j := 0) rfl rfl rfl rfl rfl rfl ty3 rfl h63 (fun _ => rfl) kp ?_
      refine ow_nil ?_
      refine x_qb ?_
      refine x_qs ?_
      refine c_seq ?_
      refine CW.weak (C' := St w M0 [_, _, _, _, _, _, _]) ?_ (fun _ h => St.sel [0, 2, 3, 5, 6, 7, 8] rfl rfl h)
      refine c_reg ?_
      refine ow_r rfl (dstOk_lt rfl) (ry_box (off := 0) (ds := [.slice a7 y2.1.Table_.length c9, .slice a11 y2.1.Last_.length c13]) rfl rfl ty30 (boxIn (i := 2) rfl) rfl rfl) ?_
      refine ow_storeC (off := 0) [.slice a7 y2.1.Table_.length c9, .slice a11 y2.1.Last_.length c13] [_, _] (i := 0) rfl rfl rfl rfl rfl rfl ty30 rfl rfl (by intro u hu; simp only [List.mem_cons, List.not_mem_nil, or_false] at hu; rcases hu with rfl | rfl <;> rfl) rfl rfl rfl kp ?_
      refine ow_nil ?_
      refine x_qs ?_
      refine c_ret ?_
      refine xw_ex (fun w1 hw1 => unf (p := 3) (q := 4) hw1 rfl rfl rfl hn46 ha45) (fun F64 => ?_)
      refine xw_st (C' := St w M0 [_, _, _, _, _, _, _, _]) (fun _ h => h) ?_
      exact x_retR (rs := [.cell 4 30]) (vs := [.agg #[.slice a7 y2.1.Table_.length c9, .slice a11 y2.1.Last_.length c13]]) rfl ⟨⟨_, [.slice a7 y2.1.Table_.length c9, .slice a11 y2.1.Last_.length c13], _, _, _, rfl, ty30, (at_box (T := 30) 0 (boxIn (i := 0) rfl) rfl), rfl, rfl⟩, trivial⟩ (fun w' hw' => by
          obtain rfl := of_some H
          exact ⟨_, rfl, a7, y2.1.Table_.length, c9, F64, a11, y2.1.Last_.length, c13, F14, rfl, hw'.sel [7, 1, 6] rfl rfl⟩)
    · have H := of_if_f hb H
      refine c_seq ?_
      refine c_reg ?_
      refine ow_batch [.p, .p] rfl ?_
      refine ow_nil ?_
      refine x_qs ?_
      refine c_if rfl (fun hb => ?_) (fun hb => ?_)
      · have H := of_if_t hb H
        refine c_regHT 7 [(0, true), (1, true), (2, true), (3, false), (4, true), (5, true), (6, false)] (St w M0 [Res.box b1 30 [.slice none 0 0, .slice none 0 0], Res.own (eList (eList (eVal (Value.int .i64) (fun _ => rfl)) 3) 53) F10 y2.1.Table_ [.slice a7 y2.1.Table_.length c9], Res.own (eList (eTimpl_Pair) 60) F14 y2.1.Last_ [.slice a11 y2.1.Last_.length c13], Res.box b15 30 [.slice a7 y2.1.Table_.length c9, .slice a11 y2.1.Last_.length c13], Res.nil]) mixed (by kernel_rfl) (panicOk_qb (panicOk_qs panicOk_body)) (fun _ h => St.mask [true, true, true, true, false] rfl h) ?_
        refine ow_batch [.fa 30 1 1 fa30_1] rfl ?_
        refine ow_rH rfl (dstOk_lt rfl) (ry_box1 (off := 1) rfl rfl ty28 (boxIn (i := 3) rfl) rfl) ?_
        refine ow_batch [.p] rfl ?_
        obtain ⟨y71, h72, H⟩ := of_bind H
        refine ow_callS rfl fn72 rfl rfl rfl rfl (fun w1 hw1 => spec_l1Below_ok w1  h72 (hw1.carve [4] rfl rfl) (rdB [4] rfl rfl hw1 g_p0b)) (fun v73 w1 w2 hw1 hR75 => ?_)
        obtain ⟨rfl, hS74⟩ := hR75
        refine ⟨St w M0 [_, _, _, _, _, _], hw1.comp [4] rfl rfl hS74, (fun _ h => St.mask [true, true, true, true, false] rfl h), ?_⟩
        refine ow_batch [.p] rfl ?_
        refine ow_rH rfl (dstOk_lt rfl) (ry_build2 [(0, [.int .i64 (IntKind.i64.wrap (y71.1 - 1))])] [.int .i64 (IntKind.i64.wrap (y71.1 - 1)), .int .i64 0] rfl rfl ty60 fs60 rfl ⟨rfl, rfl, Nat.le_of_ble_eq_true rfl,  trivial⟩ rfl) ?_
        refine ow_blitF ([(Timpl_Pair.mk (IntKind.i64.wrap (y71.1 - 1)) 0)] : List Timpl_Pair) [(0, [.int .i64 (IntKind.i64.wrap (y71.1 - 1)), .int .i64 0])] rfl rfl rfl rfl rfl sl28 ty60 rfl rfl rfl rfl ⟨rfl, rfl, Nat.le_of_ble_eq_true rfl,  trivial⟩ rfl (fun _ => (fun _ h => St.mask [true, true, true, true, false] rfl h)) (fun b76 => (?_ : OW _ _ _ (St w M0 [Res.box b1 30 [.slice none 0 0, .slice none 0 0], Res.own (eList (eList (eVal (Value.int .i64) (fun _ => rfl)) 3) 53) F10 y2.1.Table_ [.slice a7 y2.1.Table_.length c9], Res.own (eList (eTimpl_Pair) 60) F14 y2.1.Last_ [.slice a11 y2.1.Last_.length c13], Res.box b15 30 [.slice a7 y2.1.Table_.length c9, .slice a11 y2.1.Last_.length c13], Res.nil, Res.box b_0 89 [.slice a_p0b p0b.length c_p0b, .int .i64 y71.2.i_, .int .i64 y71.2.h_], Res.own (eList (eTimpl_Pair) 60) [b76] [(Timpl_Pair.mk (IntKind.i64.wrap (y71.1 - 1)) 0)] [.slice (some ⟨b76, 0, none⟩) ([(Timpl_Pair.mk (IntKind.i64.wrap (y71.1 - 1)) 0)] : List Timpl_Pair).length 1]]) _ _ _))
        refine ow_nilH ?_
        refine x_qt ?_
        obtain ⟨l77, h78, H⟩ := of_bind H
        refine ow_appF (r := 2) (ys := ([(Timpl_Pair.mk (IntKind.i64.wrap (y71.1 - 1)) 0)] : List Timpl_Pair)) rfl rfl rfl rfl rfl rfl sl28 ty60 rfl rfl rfl rfl rfl (fun w1 hw1 => rds_own (r := 6) rfl w1 hw1) h78 (fun _ _ _ => kp) (fun a79 c80 F81 => ?_)
        refine ow_fact rfl (fun w1 hw1 => own_nn (i := 2) hw1 rfl (app_ne h78)) (fun hz82 => ?_)
        refine ow_batch [.fa 30 1 1 fa30_1] rfl ?_
        refine ow_storeC (off := 1) [.slice a79 l77.length c80] [_, _] (i := 3) rfl rfl rfl rfl rfl rfl ty28 rfl rfl (by intro u hu; simp only [List.mem_cons, List.not_mem_nil, or_false] at hu; rcases hu with rfl <;> rfl) rfl rfl rfl kp ?_
        refine ow_nil ?_
        refine x_qb ?_
        refine x_qs ?_
        refine c_seq ?_
        refine c_reg ?_
        refine ow_r rfl (dstOk_lt rfl) (ry_box (off := 0) (ds := [.slice a7 y2.1.Table_.length c9, .slice a79 l77.length c80]) rfl rfl ty30 (boxIn (i := 3) rfl) rfl rfl) ?_
        refine ow_storeC (off := 0) [.slice a7 y2.1.Table_.length c9, .slice a79 l77.length c80] [_, _] (i := 0) rfl rfl rfl rfl rfl rfl ty30 rfl rfl (by intro u hu; simp only [List.mem_cons, List.not_mem_nil, or_false] at hu; rcases hu with rfl | rfl <;> rfl) rfl rfl rfl kp ?_
        refine ow_nil ?_
        refine x_qs ?_
        refine c_ret ?_
        exact x_retR (rs := [.cell 4 30]) (vs := [.agg #[.slice a7 y2.1.Table_.length c9, .slice a79 l77.length c80]]) rfl ⟨⟨_, [.slice a7 y2.1.Table_.length c9, .slice a79 l77.length c80], _, _, _, rfl, ty30, (at_box (T := 30) 0 (boxIn (i := 0) rfl) rfl), rfl, rfl⟩, trivial⟩ (fun w' hw' => by
            obtain rfl := of_some H
            exact ⟨_, rfl, a7, y2.1.Table_.length, c9, F10, a79, l77.length, c80, F81, rfl, hw'.sel [1, 2, 5] rfl rfl⟩)
      · have H := of_if_f hb H
        refine c_seq ?_
        refine c_reg ?_
        refine ow_batch [.p, .p] rfl ?_
        refine ow_nil ?_
        refine x_qs ?_
        refine c_if rfl (fun hb => ?_) (fun hb => ?_)
        · have H := of_if_t hb H
          refine c_reg ?_
          refine ow_batch [.fa 30 0 0 fa30_0] rfl ?_
          refine ow_r rfl (dstOk_lt rfl) (ry_box1 (off := 0) rfl rfl ty22 (boxIn (i := 3) rfl) rfl) ?_
          refine ow_blit (val := Value.int .i64) (h1 := fun _ => rfl) [0] [(0, [.int .i64 0])] rfl rfl rfl rfl rfl sl53 ty3 rfl rfl rfl ⟨rfl, rfl, Nat.le_of_ble_eq_true rfl,  trivial⟩ rfl rfl (fun _ => kp) (fun b83 => ?_)
          refine ow_bslice [(0, [.slice (some ⟨b83, 0, none⟩) (([0] : List Int).length) 1])] rfl rfl rfl rfl rfl sl22 ty53 rfl rfl ⟨rfl, rfl, Nat.le_of_ble_eq_true rfl,  trivial⟩ [.slice (some ⟨b83, 0, none⟩) (([0] : List Int).length) 1] rfl (fun _ => kp) (fun b84 => ?_)
          refine ow_st rfl (fun _ h => lit1 (p := 6) (q := 5) h rfl rfl rfl) ?_
          obtain ⟨l85, h86, H⟩ := of_bind H
          refine ow_appM (r := 1) (j := 7) rfl rfl rfl rfl rfl rfl sl22 ty53 rfl rfl rfl rfl rfl rfl rfl h86 (fun _ _ _ => kp) (fun a87 c88 F89 => ?_)
          refine ow_batch [.fa 30 0 0 fa30_0] rfl ?_
          refine ow_storeC (off := 0) [.slice a87 l85.length c88] [_, _] (i := 3) rfl rfl rfl rfl rfl rfl ty22 rfl rfl (by intro u hu; simp only [List.mem_cons, List.not_mem_nil, or_false] at hu; rcases hu with rfl <;> rfl) rfl rfl rfl kp ?_
          refine ow_nil ?_
          refine x_qb ?_
          refine x_qs ?_
          refine c_seq ?_
          refine CW.weak (C' := St w M0 [_, _, _, _, _]) ?_ (fun _ h => St.sel [0, 2, 3, 4, 8] rfl rfl h)
          refine c_reg ?_
          refine ow_r rfl (dstOk_lt rfl) (ry_box (off := 0) (ds := [.slice a87 l85.length c88, .slice a11 y2.1.Last_.length c13]) rfl rfl ty30 (boxIn (i := 2) rfl) rfl rfl) ?_
          refine ow_storeC (off := 0) [.slice a87 l85.length c88, .slice a11 y2.1.Last_.length c13] [_, _] (i := 0) rfl rfl rfl rfl rfl rfl ty30 rfl rfl (by intro u hu; simp only [List.mem_cons, List.not_mem_nil, or_false] at hu; rcases hu with rfl | rfl <;> rfl) rfl rfl rfl kp ?_
          refine ow_nil ?_
          refine x_qs ?_
          refine c_ret ?_
          exact x_retR (rs := [.cell 4 30]) (vs := [.agg #[.slice a87 l85.length c88, .slice a11 y2.1.Last_.length c13]]) rfl ⟨⟨_, [.slice a87 l85.length c88, .slice a11 y2.1.Last_.length c13], _, _, _, rfl, ty30, (at_box (T := 30) 0 (boxIn (i := 0) rfl) rfl), rfl, rfl⟩, trivial⟩ (fun w' hw' => by
              obtain rfl := of_some H
              exact ⟨_, rfl, a87, l85.length, c88, F89, a11, y2.1.Last_.length, c13, F14, rfl, hw'.sel [4, 1, 3] rfl rfl⟩)
        · have H := of_if_f hb H
          refine c_seq ?_
          refine c_reg ?_
          refine ow_batch [.p, .p] rfl ?_
          refine ow_nil ?_
          refine x_qs ?_
          refine c_if rfl (fun hb => ?_) (fun hb => ?_)
          · have H := of_if_t hb H
            refine c_seq ?_
            refine c_reg ?_
            refine ow_batch [.fa 30 1 1 fa30_1] rfl ?_
            refine ow_r rfl (dstOk_lt rfl) (ry_box1 (off := 1) rfl rfl ty28 (boxIn (i := 3) rfl) rfl) ?_
            refine ow_batch [.lenS 28 60 sl28, .p] rfl ?_
            refine ow_nil ?_
            refine x_qs ?_
            refine c_if rfl (fun hb => ?_) (fun hb => ?_)
            · have H := of_if_t hb H
              refine c_regHT 5 [(0, true), (1, true), (2, true), (3, false), (4, true)] (St w M0 [Res.box b1 30 [.slice none 0 0, .slice none 0 0], Res.own (eList (eList (eVal (Value.int .i64) (fun _ => rfl)) 3) 53) F10 y2.1.Table_ [.slice a7 y2.1.Table_.length c9], Res.own (eList (eTimpl_Pair) 60) F14 y2.1.Last_ [.slice a11 y2.1.Last_.length c13], Res.box b15 30 [.slice a7 y2.1.Table_.length c9, .slice a11 y2.1.Last_.length c13], Res.nil]) mixed (by kernel_rfl) (panicOk_qb (panicOk_qs panicOk_body)) (fun _ h => St.mask [true, true, true, true, false] rfl h) ?_
              refine ow_batch [.fa 30 1 1 fa30_1] rfl ?_
              refine ow_rH rfl (dstOk_lt rfl) (ry_box1 (off := 1) rfl rfl ty28 (boxIn (i := 3) rfl) rfl) ?_
              refine ow_batch [.p] rfl ?_
              obtain ⟨y95, h96, H⟩ := of_bind H
              refine ow_callS rfl fn72 rfl rfl rfl rfl (fun w1 hw1 => spec_l1Below_ok w1  h96 (hw1.carve [4] rfl rfl) (rdB [4] rfl rfl hw1 g_p0b)) (fun v97 w1 w2 hw1 hR99 => ?_)
              obtain ⟨rfl, hS98⟩ := hR99
              refine ⟨St w M0 [_, _, _, _, _, _], hw1.comp [4] rfl rfl hS98, (fun _ h => St.mask [true, true, true, true, false] rfl h), ?_⟩
              refine ow_batch [.p] rfl ?_
              refine ow_nilH ?_
              refine x_qt ?_
              obtain ⟨e100, h101, H⟩ := of_bind H
              refine ow_ex4 rfl (fun w1 hw1 => foc (r := 2) hw1 rfl h101) (fun b103 G104 F105 c106 => ?_)
              refine ow_fact rfl (fun w1 hw1 => hw1.1) (fun q102 => ?_)
              obtain ⟨ha107, hn108⟩ := q102
              refine ow_st (C' := St w M0 [_, _, _, _, _, _, _, _]) rfl (fun w1 hw1 => hw1.2) ?_
              refine ow_fact rfl (fun w1 hw1 => opn_flat (i := 7) hw1 rfl) (fun q102 => ?_)
              obtain ⟨rfl, rfl⟩ := q102
              refine ow_st (C' := St w M0 [_, _, _, _, _, _, _]) rfl (fun w1 hw1 => St.mask [true, true, true, true, true, true, true] rfl hw1) ?_
              refine ow_ixH rfl rfl rfl rfl rfl sl28 ty60 rfl (holeIn (p := 6) rfl) hn108 ha107 (idx_some h101).1 ?_
              refine ow_batch [.fa 60 1 1 fa60_1] rfl ?_
              refine ow_storeH (off := 1) [.int .i64 (IntKind.i64.wrap (y95.1 - 1))] (p := 6) (c' := [_, _]) rfl rfl rfl rfl rfl (by first | rfl | simp only [add_lit, add_add, add_zero]) rfl ty3 rfl rfl (by intro u hu; simp only [List.mem_cons, List.not_mem_nil, or_false] at hu; rcases hu with rfl <;> rfl) rfl rfl rfl kp ?_
              refine ow_nil ?_
              refine x_qb ?_
              refine x_qs ?_
              refine c_seq ?_
              refine CW.weak (C' := St w M0 [_, _, _, _, _]) ?_ (fun _ h => St.sel [0, 1, 3, 5, 6] rfl rfl h)
              refine c_reg ?_
              refine ow_r rfl (dstOk_lt rfl) (ry_box (off := 0) (ds := [.slice a7 y2.1.Table_.length c9, .slice a11 y2.1.Last_.length c13]) rfl rfl ty30 (boxIn (i := 2) rfl) rfl rfl) ?_
              refine ow_storeC (off := 0) [.slice a7 y2.1.Table_.length c9, .slice a11 y2.1.Last_.length c13] [_, _] (i := 0) rfl rfl rfl rfl rfl rfl ty30 rfl rfl (by intro u hu; simp only [List.mem_cons, List.not_mem_nil, or_false] at hu; rcases hu with rfl | rfl <;> rfl) rfl rfl rfl kp ?_
              refine ow_nil ?_
              refine x_qs ?_
              refine c_ret ?_
              refine xw_st (fun _ h => St.push0 h (Res.own (eTimpl_Pair) [] (Timpl_Pair.mk e100.Truth_ (IntKind.i64.wrap (y95.1 - 1))) [.int .i64 e100.Truth_, .int .i64 (IntKind.i64.wrap (y95.1 - 1))]) rfl ⟨rfl, rfl⟩) ?_
              refine xw_ex (fun w1 hw1 => unf (p := 4) (q := 5) hw1 rfl rfl rfl hn108 ha107) (fun F109 => ?_)
              refine xw_st (C' := St w M0 [_, _, _, _, _, _, _]) (fun _ h => h) ?_
              exact x_retR (rs := [.cell 4 30]) (vs := [.agg #[.slice a7 y2.1.Table_.length c9, .slice a11 y2.1.Last_.length c13]]) rfl ⟨⟨_, [.slice a7 y2.1.Table_.length c9, .slice a11 y2.1.Last_.length c13], _, _, _, rfl, ty30, (at_box (T := 30) 0 (boxIn (i := 0) rfl) rfl), rfl, rfl⟩, trivial⟩ (fun w' hw' => by
                  obtain rfl := of_some H
                  exact ⟨_, rfl, a7, y2.1.Table_.length, c9, F10, a11, y2.1.Last_.length, c13, F109, rfl, hw'.sel [1, 6, 3] rfl rfl⟩)
            · have H := of_if_f hb H
              refine c_skip ?_
              refine x_qb ?_
              refine x_qs ?_
              refine c_seq ?_
              refine c_reg ?_
              refine ow_r rfl (dstOk_lt rfl) (ry_box (off := 0) (ds := [.slice a7 y2.1.Table_.length c9, .slice a11 y2.1.Last_.length c13]) rfl rfl ty30 (boxIn (i := 3) rfl) rfl rfl) ?_
              refine ow_storeC (off := 0) [.slice a7 y2.1.Table_.length c9, .slice a11 y2.1.Last_.length c13] [_, _] (i := 0) rfl rfl rfl rfl rfl rfl ty30 rfl rfl (by intro u hu; simp only [List.mem_cons, List.not_mem_nil, or_false] at hu; rcases hu with rfl | rfl <;> rfl) rfl rfl rfl kp ?_
              refine ow_nil ?_
              refine x_qs ?_
              refine c_ret ?_
              exact x_retR (rs := [.cell 4 30]) (vs := [.agg #[.slice a7 y2.1.Table_.length c9, .slice a11 y2.1.Last_.length c13]]) rfl ⟨⟨_, [.slice a7 y2.1.Table_.length c9, .slice a11 y2.1.Last_.length c13], _, _, _, rfl, ty30, (at_box (T := 30) 0 (boxIn (i := 0) rfl) rfl), rfl, rfl⟩, trivial⟩ (fun w' hw' => by
                  obtain rfl := of_some H
                  exact ⟨_, rfl, a7, y2.1.Table_.length, c9, F10, a11, y2.1.Last_.length, c13, F14, rfl, hw'.sel [1, 2, 4] rfl rfl⟩)
          · have H := of_if_f hb H
            refine c_skip ?_
            refine x_qb ?_
            refine x_qs ?_
            refine c_seq ?_
            refine c_reg ?_
            refine ow_r rfl (dstOk_lt rfl) (ry_box (off := 0) (ds := [.slice a7 y2.1.Table_.length c9, .slice a11 y2.1.Last_.length c13]) rfl rfl ty30 (boxIn (i := 3) rfl) rfl rfl) ?_
            refine ow_storeC (off := 0) [.slice a7 y2.1.Table_.length c9, .slice a11 y2.1.Last_.length c13] [_, _] (i := 0) rfl rfl rfl rfl rfl rfl ty30 rfl rfl (by intro u hu; simp only [List.mem_cons, List.not_mem_nil, or_false] at hu; rcases hu with rfl | rfl <;> rfl) rfl rfl rfl kp ?_
            refine ow_nil ?_
            refine x_qs ?_
            refine c_ret ?_
            exact x_retR (rs := [.cell 4 30]) (vs := [.agg #[.slice a7 y2.1.Table_.length c9, .slice a11 y2.1.Last_.length c13]]) rfl ⟨⟨_, [.slice a7 y2.1.Table_.length c9, .slice a11 y2.1.Last_.length c13], _, _, _, rfl, ty30, (at_box (T := 30) 0 (boxIn (i := 0) rfl) rfl), rfl, rfl⟩, trivial⟩ (fun w' hw' => by
                obtain rfl := of_some H
                exact ⟨_, rfl, a7, y2.1.Table_.length, c9, F10, a11, y2.1.Last_.length, c13, F14, rfl, hw'.sel [1, 2, 4] rfl rfl⟩)

set_option maxHeartbeats 4000000 in
set_option maxRecDepth 100000 in
theorem spec_l25Two_ok (w : World) {M0 : List Nat} {p0 : List Int} {a_0 : Option Addr} {n_0 c_0 : Nat} {r : Int × Timpl_Score} (H : spec_l25Two p0 = some r) (HS : St w M0 [] w) (g0 : (eList (eVal (Value.int .u8) (fun _ => rfl)) 5).rd w M0 p0 [.slice a_0 n_0 c_0]) :
    Calls Try.prog 56 #[.slice a_0 n_0 c_0] w (fun en w' => ∃ v, en = .returned v ∧ ∃ (a0 : Option Addr), ∃ (n0 : Nat), ∃ (c0 : Nat), ∃ (F0 : List Nat), ∃ (a1 : Option Addr), ∃ (n1 : Nat), ∃ (c1 : Nat), ∃ (F1 : List Nat), v = .tuple #[.int .i64 r.1, .agg #[.slice a0 n0 c0, .slice a1 n1 c1]] ∧ St w M0 [Res.own (eList (eList (eVal (Value.int .i64) (fun _ => rfl)) 3) 53) F0 r.2.Table_ [.slice a0 n0 c0], Res.own (eList (eTimpl_Pair) 60) F1 r.2.Last_ [.slice a1 n1 c1]] w') := by
  obtain rfl := rd_n g0
  unfold spec_l25Two at H
  refine f_enter (vs := [.slice a_0 p0.length c_0]) Try.func56 rfl Try.ntmps56 rfl (HS) ?_
  refine c_seq ?_
  refine c_reg ?_
  refine ow_batch [.p] rfl ?_
  refine ow_alloc rfl rfl rfl rfl ty30 (fun _ => kp) (fun b1 => ?_)
  refine ow_nil ?_
  refine x_qs ?_
  refine c_seq ?_
  refine c_reg ?_
  refine ow_batch [.p] rfl ?_
  obtain ⟨y2, h3, H⟩ := of_bind H
  refine ow_callS rfl fn71 rfl rfl rfl rfl (fun w1 hw1 => spec_l1New_ok w1  h3 (hw1.carve [] rfl rfl) (rds_bor g0 w1 hw1)) (fun v4 w1 w2 hw1 hR6 => ?_)
  obtain ⟨b7, rfl, hS5⟩ := hR6
  refine ⟨St w M0 [_, _], hw1.comp [] rfl rfl hS5, fun _ _ => trivial, ?_⟩
  refine ow_batch [.p] rfl ?_
  refine ow_nil ?_
  refine x_qs ?_
  refine c_seq ?_
  refine c_reg ?_
  refine ow_batch [.p] rfl ?_
  obtain ⟨y8, h9, H⟩ := of_bind H
  refine ow_callS rfl fn72 rfl rfl rfl rfl (fun w1 hw1 => spec_l1Below_ok w1  h9 (hw1.carve [1] rfl rfl) (rdB [1] rfl rfl hw1 g0)) (fun v10 w1 w2 hw1 hR12 => ?_)
  obtain ⟨rfl, hS11⟩ := hR12
  refine ⟨St w M0 [_, _, _], hw1.comp [1] rfl rfl hS11, fun _ _ => trivial, ?_⟩
  refine ow_batch [.p, .p] rfl ?_
  refine ow_nil ?_
  refine x_qs ?_
  refine c_seq ?_
  refine c_reg ?_
  refine ow_batch [.p, .p] rfl ?_
  obtain ⟨y13, h14, H⟩ := of_bind H
  refine ow_callS rfl fn73 rfl rfl rfl rfl (fun w1 hw1 => spec_l25Draw_ok w1  h14 (hw1.carve [2] rfl rfl) (rdB [2] rfl rfl hw1 g0)) (fun v15 w1 w2 hw1 hR17 => ?_)
  obtain ⟨a18, n19, c20, F21, a22, n23, c24, F25, rfl, hS16⟩ := hR17
  obtain rfl := own_nS (i := 0) hS16 rfl
  obtain rfl := own_nS (i := 1) hS16 rfl
  refine ⟨St w M0 [_, _, _, _, _, _], hw1.comp [2] rfl rfl hS16, fun _ _ => trivial, ?_⟩
  refine ow_alloc rfl rfl rfl rfl ty30 (fun _ => kp) (fun b26 => ?_)
  refine ow_storeC (off := 0) [.slice a18 y13.1.Table_.length c20, .slice a22 y13.1.Last_.length c24] [_, _] (i := 6) rfl rfl rfl rfl rfl rfl ty30 rfl rfl (by intro u hu; simp only [List.mem_cons, List.not_mem_nil, or_false] at hu; rcases hu with rfl | rfl <;> rfl) rfl rfl rfl kp ?_
  refine ow_nil ?_
  refine x_qs ?_
  refine c_seq ?_
  refine c_seq ?_
  refine CW.weak (C' := St w M0 [_, _, _, _, _]) ?_ (fun _ h => St.sel [0, 3, 4, 5, 6] rfl rfl h)
  refine c_reg ?_
  refine ow_batch [.p] rfl ?_
  obtain ⟨y27, h28, H⟩ := of_bind H
  refine ow_callS rfl fn74 rfl rfl rfl rfl (fun w1 hw1 => spec_l1Once_ok w1  h28 (hw1.carve [3] rfl rfl) (rdB [3] rfl rfl hw1 g0)) (fun v29 w1 w2 hw1 hR31 => ?_)
  obtain ⟨rfl, hS30⟩ := hR31
  refine ⟨St w M0 [_, _, _, _, _, _], hw1.comp [3] rfl rfl hS30, fun _ _ => trivial, ?_⟩
  refine ow_nil ?_
  refine x_qs ?_
  refine c_if rfl (fun hb => ?_) (fun hb => ?_)
  · have H := of_if_t hb H
    refine c_reg ?_
    refine ow_batch [.p] rfl ?_
    refine ow_blit (val := Value.int .i64) (h1 := fun _ => rfl) [1, 4, 2, 3, (-1)] [(0, [.int .i64 1]), (1, [.int .i64 4]), (2, [.int .i64 2]), (3, [.int .i64 3]), (4, [.int .i64 (-1)])] rfl rfl rfl rfl rfl sl53 ty3 rfl rfl rfl ⟨rfl, rfl, Nat.le_of_ble_eq_true rfl, rfl, rfl, Nat.le_of_ble_eq_true rfl, rfl, rfl, Nat.le_of_ble_eq_true rfl, rfl, rfl, Nat.le_of_ble_eq_true rfl, rfl, rfl, Nat.le_of_ble_eq_true rfl,  trivial⟩ rfl rfl (fun _ => kp) (fun b32 => ?_)
    obtain ⟨y33, h34, H⟩ := of_bind H
    refine ow_callS rfl fn75 rfl rfl rfl rfl (fun w1 hw1 => spec_l1PickInt_ok w1  h34 (hw1.carve [5] rfl rfl) (rdB [5] rfl rfl hw1 g0) (rdO 6 [5] rfl hw1 rfl rfl)) (fun v35 w1 w2 hw1 hR37 => ?_)
    obtain ⟨rfl, hS36⟩ := hR37
    refine ⟨St w M0 [_, _, _, _, _, _, _, _], hw1.comp [5] rfl rfl hS36, fun _ _ => trivial, ?_⟩
    refine ow_batch [.p] rfl ?_
    refine ow_nil ?_
    refine x_qs ?_
    refine c_seq ?_
    refine CW.weak (C' := St w M0 [_, _, _, _, _, _]) ?_ (fun _ h => St.sel [0, 1, 2, 4, 6, 7] rfl rfl h)
    refine c_regT 3 mixed (by kernel_rfl) ?_
    refine ow_batch [.p] rfl ?_
    refine ow_r rfl (dstOk_lt rfl) (ry_box (off := 0) (ds := [.slice a18 y13.1.Table_.length c20, .slice a22 y13.1.Last_.length c24]) rfl rfl ty30 (boxIn (i := 3) rfl) rfl rfl) ?_
    refine ow_batch [.p] rfl ?_
    refine ow_nilQ ?_
    refine ow_storeC (off := 0) [.slice a18 y13.1.Table_.length c20, .slice a22 y13.1.Last_.length c24] [_, _] (i := 0) rfl rfl rfl rfl rfl rfl ty30 rfl rfl (by intro u hu; simp only [List.mem_cons, List.not_mem_nil, or_false] at hu; rcases hu with rfl | rfl <;> rfl) rfl rfl rfl kp ?_
    refine ow_nil ?_
    refine x_qs ?_
    refine c_ret ?_
    exact x_retR (rs := [.tmp 2, .cell 3 30]) (vs := [.int .i64 y33.1, .agg #[.slice a18 y13.1.Table_.length c20, .slice a22 y13.1.Last_.length c24]]) rfl ⟨rfl, ⟨_, [.slice a18 y13.1.Table_.length c20, .slice a22 y13.1.Last_.length c24], _, _, _, rfl, ty30, (at_box (T := 30) 0 (boxIn (i := 0) rfl) rfl), rfl, rfl⟩, trivial⟩ (fun w' hw' => by
        obtain rfl := of_some H
        exact ⟨_, rfl, a18, y13.1.Table_.length, c20, F21, a22, y13.1.Last_.length, c24, F25, rfl, hw'.sel [1, 2] rfl rfl⟩)
  · have H := of_if_f hb H
    refine c_skip ?_
    refine x_qs ?_
    refine c_seq ?_
    refine c_regT 3 mixed (by kernel_rfl) ?_
    refine ow_batch [.p] rfl ?_
    refine ow_r rfl (dstOk_lt rfl) (ry_box (off := 0) (ds := [.slice a18 y13.1.Table_.length c20, .slice a22 y13.1.Last_.length c24]) rfl rfl ty30 (boxIn (i := 4) rfl) rfl rfl) ?_
    refine ow_batch [.p] rfl ?_
    refine ow_nilQ ?_
    refine ow_storeC (off := 0) [.slice a18 y13.1.Table_.length c20, .slice a22 y13.1.Last_.length c24] [_, _] (i := 0) rfl rfl rfl rfl rfl rfl ty30 rfl rfl (by intro u hu; simp only [List.mem_cons, List.not_mem_nil, or_false] at hu; rcases hu with rfl | rfl <;> rfl) rfl rfl rfl kp ?_
    refine ow_nil ?_
    refine x_qs ?_
    refine c_ret ?_
    exact x_retR (rs := [.tmp 2, .cell 3 30]) (vs := [.int .i64 (IntKind.i64.wrap (2 + y8.1)), .agg #[.slice a18 y13.1.Table_.length c20, .slice a22 y13.1.Last_.length c24]]) rfl ⟨rfl, ⟨_, [.slice a18 y13.1.Table_.length c20, .slice a22 y13.1.Last_.length c24], _, _, _, rfl, ty30, (at_box (T := 30) 0 (boxIn (i := 0) rfl) rfl), rfl, rfl⟩, trivial⟩ (fun w' hw' => by
        obtain rfl := of_some H
        exact ⟨_, rfl, a18, y13.1.Table_.length, c20, F21, a22, y13.1.Last_.length, c24, F25, rfl, hw'.sel [1, 2] rfl rfl⟩)

set_option maxHeartbeats 4000000 in
set_option maxRecDepth 100000 in
theorem spec_DrawKappa_ok (w : World) {M0 : List Nat} {p0 : List Int} {a_0 : Option Addr} {n_0 c_0 : Nat} {r : Int × Timpl_Score} (H : spec_DrawKappa p0 = some r) (HS : St w M0 [] w) (g0 : (eList (eVal (Value.int .u8) (fun _ => rfl)) 5).rd w M0 p0 [.slice a_0 n_0 c_0]) :
    Calls Try.prog 32 #[.slice a_0 n_0 c_0] w (fun en w' => ∃ v, en = .returned v ∧ ∃ (a0 : Option Addr), ∃ (n0 : Nat), ∃ (c0 : Nat), ∃ (F0 : List Nat), ∃ (a1 : Option Addr), ∃ (n1 : Nat), ∃ (c1 : Nat), ∃ (F1 : List Nat), v = .tuple #[.int .i64 r.1, .agg #[.slice a0 n0 c0, .slice a1 n1 c1]] ∧ St w M0 [Res.own (eList (eList (eVal (Value.int .i64) (fun _ => rfl)) 3) 53) F0 r.2.Table_ [.slice a0 n0 c0], Res.own (eList (eTimpl_Pair) 60) F1 r.2.Last_ [.slice a1 n1 c1]] w') := by
  obtain rfl := rd_n g0
  unfold spec_DrawKappa at H
  refine f_enter (vs := [.slice a_0 p0.length c_0]) Try.func32 rfl Try.ntmps32 rfl (HS) ?_
  refine c_seq ?_
  refine c_reg ?_
  refine ow_batch [.p] rfl ?_
  refine ow_alloc rfl rfl rfl rfl ty30 (fun _ => kp) (fun b1 => ?_)
  refine ow_nil ?_
  refine x_qs ?_
  refine c_seq ?_
  refine c_reg ?_
  refine ow_batch [.p] rfl ?_
  obtain ⟨y2, h3, H⟩ := of_bind H
  refine ow_callS rfl fn56 rfl rfl rfl rfl (fun w1 hw1 => spec_l25Two_ok w1  h3 (hw1.carve [] rfl rfl) (rds_bor g0 w1 hw1)) (fun v4 w1 w2 hw1 hR6 => ?_)
  obtain ⟨a7, n8, c9, F10, a11, n12, c13, F14, rfl, hS5⟩ := hR6
  obtain rfl := own_nS (i := 0) hS5 rfl
  obtain rfl := own_nS (i := 1) hS5 rfl
  refine ⟨St w M0 [_, _, _], hw1.comp [] rfl rfl hS5, fun _ _ => trivial, ?_⟩
  refine ow_batch [.p, .p, .p] rfl ?_
  refine ow_storeC (off := 0) [.slice a7 y2.2.Table_.length c9, .slice a11 y2.2.Last_.length c13] [_, _] (i := 0) rfl rfl rfl rfl rfl rfl ty30 rfl rfl (by intro u hu; simp only [List.mem_cons, List.not_mem_nil, or_false] at hu; rcases hu with rfl | rfl <;> rfl) rfl rfl rfl kp ?_
  refine ow_nil ?_
  refine x_qs ?_
  refine c_ret ?_
  exact x_retR (rs := [.tmp 2, .cell 3 30]) (vs := [.int .i64 y2.1, .agg #[.slice a7 y2.2.Table_.length c9, .slice a11 y2.2.Last_.length c13]]) rfl ⟨rfl, ⟨_, [.slice a7 y2.2.Table_.length c9, .slice a11 y2.2.Last_.length c13], _, _, _, rfl, ty30, (at_box (T := 30) 0 (boxIn (i := 0) rfl) rfl), rfl, rfl⟩, trivial⟩ (fun w' hw' => by
      obtain rfl := of_some H
      exact ⟨_, rfl, a7, y2.2.Table_.length, c9, F10, a11, y2.2.Last_.length, c13, F14, rfl, hw'.sel [1, 2] rfl rfl⟩)

set_option maxHeartbeats 4000000 in
set_option maxRecDepth 100000 in
theorem impl_Right_ok (w : World) {p0 : Int} {p1 : Timpl_Score} {cs1 : List Value} {r : Int} (H : impl_Right p0 p1 = some r)  (g1 : (eTimpl_Score).rd w [] p1 cs1) :
    Calls Try.prog 14 #[.int .i64 p0, .agg cs1.toArray] w (fun en w' => en = .returned (.int .i64 r) ∧ Ext [] w w') := by
  obtain ⟨c1, c2, rfl, g3, g4⟩ := rdo_Timpl_Score g1
  obtain ⟨a5, c6, rfl⟩ := rd_sl1 g3
  obtain ⟨a7, c8, rfl⟩ := rd_sl1 g4
  unfold impl_Right at H
  refine f_enter (vs := [.int .i64 p0, .agg #[.slice a5 p1.Table_.length c6, .slice a7 p1.Last_.length c8]]) Try.func14 rfl Try.ntmps14 rfl (St.init w []) ?_
  refine c_seq ?_
  refine c_reg ?_
  refine ow_box (cs := [.slice a5 p1.Table_.length c6, .slice a7 p1.Last_.length c8]) rfl rfl rfl rfl rfl rfl (fun _ => kp) (fun b9 => ?_)
  refine ow_batch [.p] rfl ?_
  refine ow_nil ?_
  refine x_qs ?_
  refine c_seq ?_
  refine c_seq ?_
  refine c_reg ?_
  refine ow_batch [.p] rfl ?_
  refine ow_r rfl (dstOk_lt rfl) (ry_box (off := 0) (ds := [.slice a5 p1.Table_.length c6, .slice a7 p1.Last_.length c8]) rfl rfl ty30 (boxIn (i := 0) rfl) rfl rfl) ?_
  obtain ⟨y10, h11, H⟩ := of_bind H
  refine ow_q rfl rfl (dstOk_lt rfl) (qy_call rfl fn34 rfl (fun w1 hw1 => impl_ScoreOk_ok w1 (cs1 := [.slice a5 p1.Table_.length c6, .slice a7 p1.Last_.length c8]) h11 (rdm_Timpl_Score (x := p1) (c0 := [.slice a5 p1.Table_.length c6]) (c1 := [.slice a7 p1.Last_.length c8]) (rds_bor g3 w1 hw1) (rds_bor g4 w1 hw1)))) (fun _ _ => trivial) ?_
  refine ow_batch [.p] rfl ?_
  refine ow_nil ?_
  refine x_qs ?_
  refine c_if rfl (fun hb => ?_) (fun hb => ?_)
  · have H := of_if_t hb H
    refine c_seq ?_
    refine c_reg ?_
    refine ow_batch [.p] rfl ?_
    refine ow_nil ?_
    refine x_qs ?_
    refine c_ret ?_
    refine x_qs_ret ?_
    exact x_retR (rs := [.tmp 4]) (vs := [.int .i64 0]) rfl ⟨rfl, trivial⟩ (fun w' hw' => by
        obtain rfl := of_some H
        exact ⟨rfl, hw'.ext⟩)
  · have H := of_if_f hb H
    refine c_skip ?_
    refine x_qs ?_
    refine c_seq ?_
    refine c_reg ?_
    refine ow_batch [.p] rfl ?_
    refine ow_nil ?_
    refine x_qs ?_
    refine c_seq ?_
    refine c_seq ?_
    refine c_reg ?_
    refine ow_batch [.p, .p] rfl ?_
    refine ow_nil ?_
    refine x_qs ?_
    refine c_block ?_
    refine CW.at (loopI2 (fun (i24 : Int) (i25 : Int) => St w [] [Res.box b9 30 [.slice a5 p1.Table_.length c6, .slice a7 p1.Last_.length c8]]) (fun (i24 : Int) (i25 : Int) => [(3, .pointer (some ⟨b9, 0, none⟩)), (5, .int .i64 i25), (11, .int .i64 p0), (12, .int .i64 i24)]) (fun kk => fun (i24 : Int) (i25 : Int) => impl_Right_L1 p0 p1 kk i24 i25 = some r) (fun _ _ H => ?_) (fun k1 ihk1 i24 i25 H => ?_) Fuel (0) (0) (H)) (fun _ h => St.sel [0] rfl rfl h) ⟨rfl, rfl, rfl, rfl,  trivial⟩
    · unfold impl_Right_L1 at H
      exact absurd H (by simp)
    · unfold impl_Right_L1 at H
      refine c_seq ?_
      refine c_reg ?_
      refine ow_batch [.p] rfl ?_
      refine ow_nil ?_
      refine x_qs ?_
      refine c_seq ?_
      refine c_if rfl (fun hb => ?_) (fun hb => ?_)
      · have H := of_if_t hb H
        refine c_skip ?_
        refine x_qs ?_
        refine c_seq ?_
        refine c_block ?_
        refine c_seq ?_
        refine c_reg ?_
        refine ow_batch [.p, .p] rfl ?_
        refine ow_nil ?_
        refine x_qs ?_
        refine c_reg ?_
        refine ow_batch [.p, .fa 30 0 0 fa30_0] rfl ?_
        refine ow_r rfl (dstOk_lt rfl) (ry_box1 (off := 0) rfl rfl ty22 (boxIn (i := 0) rfl) rfl) ?_
        refine ow_batch [.p] rfl ?_
        obtain ⟨e38, h39, H⟩ := of_bind H
        refine ow_ixB rfl rfl rfl rfl rfl sl22 ty53 rfl g3 h39 (fun q42 c43 hd40 hA41 => ?_)
        obtain ⟨a44, c45, rfl⟩ := rd_sl1 hd40
        refine ow_r rfl (dstOk_lt rfl) (ry_load1 rfl rfl ty53 (at_bor bor hA41)) ?_
        refine ow_batch [.p] rfl ?_
        obtain ⟨e46, h47, H⟩ := of_bind H
        refine ow_ixE (e := eVal (Value.int .i64) (fun _ => rfl)) (xs := e38) (j := i24) rfl rfl rfl rfl rfl sl53 ty3 rfl (fun w1 hw1 => rds_bor hd40 w1 hw1) h47 (by rw [Nat.mul_one]) ?_
        refine ow_r rfl (dstOk_lt rfl) (ry_load1 rfl rfl ty3 (at_elV (fun w1 hw1 => rds_bor hd40 w1 hw1) h47)) ?_
        refine ow_batch [.p, .p] rfl ?_
        refine ow_nil ?_
        refine x_qb ?_
        refine x_qs ?_
        refine c_reg ?_
        refine ow_batch [.p, .p] rfl ?_
        refine ow_nil ?_
        exact x_ql (RW.at (ihk1 (IntKind.i64.wrap (i24 + 1)) (IntKind.i64.wrap (i25 + e46)) (H)) (fun _ h => St.sel [0] rfl rfl h) ⟨rfl, rfl, rfl, rfl, trivial⟩)
      · have H := of_if_f hb H
        refine c_exit ?_
        refine x_qs_exit ?_
        refine x_ql_exit ?_
        refine x_qb_here ?_
        refine x_qs ?_
        refine c_seq ?_
        refine c_reg ?_
        refine ow_batch [.p, .p] rfl ?_
        refine ow_nil ?_
        refine x_qs ?_
        refine c_ret ?_
        exact x_retR (rs := [.tmp 4]) (vs := [.int .i64 i25]) rfl ⟨rfl, trivial⟩ (fun w' hw' => by
            obtain rfl := of_some H
            exact ⟨rfl, hw'.ext⟩)

set_option maxHeartbeats 4000000 in
set_option maxRecDepth 100000 in
theorem impl_Kappa_ok (w : World) {p0 : Int} {p1 : Timpl_Score} {cs1 : List Value} {r : Int × Int} (H : impl_Kappa p0 p1 = some r)  (g1 : (eTimpl_Score).rd w [] p1 cs1) :
    Calls Try.prog 21 #[.int .i64 p0, .agg cs1.toArray] w (fun en w' => en = .returned (.tuple #[.int .i64 r.1, .int .i64 r.2]) ∧ Ext [] w w') := by
  obtain ⟨c1, c2, rfl, g3, g4⟩ := rdo_Timpl_Score g1
  obtain ⟨a5, c6, rfl⟩ := rd_sl1 g3
  obtain ⟨a7, c8, rfl⟩ := rd_sl1 g4
  unfold impl_Kappa at H
  refine f_enter (vs := [.int .i64 p0, .agg #[.slice a5 p1.Table_.length c6, .slice a7 p1.Last_.length c8]]) Try.func21 rfl Try.ntmps21 rfl (St.init w []) ?_
  refine c_seq ?_
  refine c_reg ?_
  refine ow_box (cs := [.slice a5 p1.Table_.length c6, .slice a7 p1.Last_.length c8]) rfl rfl rfl rfl rfl rfl (fun _ => kp) (fun b9 => ?_)
  refine ow_batch [.p, .p] rfl ?_
  refine ow_nil ?_
  refine x_qs ?_
  refine c_seq ?_
  refine c_seq ?_
  refine c_reg ?_
  refine ow_batch [.p] rfl ?_
  refine ow_r rfl (dstOk_lt rfl) (ry_box (off := 0) (ds := [.slice a5 p1.Table_.length c6, .slice a7 p1.Last_.length c8]) rfl rfl ty30 (boxIn (i := 0) rfl) rfl rfl) ?_
  obtain ⟨y10, h11, H⟩ := of_bind H
  refine ow_q rfl rfl (dstOk_lt rfl) (qy_call rfl fn34 rfl (fun w1 hw1 => impl_ScoreOk_ok w1 (cs1 := [.slice a5 p1.Table_.length c6, .slice a7 p1.Last_.length c8]) h11 (rdm_Timpl_Score (x := p1) (c0 := [.slice a5 p1.Table_.length c6]) (c1 := [.slice a7 p1.Last_.length c8]) (rds_bor g3 w1 hw1) (rds_bor g4 w1 hw1)))) (fun _ _ => trivial) ?_
  refine ow_batch [.p] rfl ?_
  refine ow_nil ?_
  refine x_qs ?_
  refine c_if rfl (fun hb => ?_) (fun hb => ?_)
  · have H := of_if_t hb H
    refine c_seq ?_
    refine c_reg ?_
    refine ow_batch [.p, .p] rfl ?_
    refine ow_nil ?_
    refine x_qs ?_
    refine c_ret ?_
    refine x_qs_ret ?_
    exact x_retR (rs := [.tmp 4, .tmp 5]) (vs := [.int .i64 0, .int .i64 0]) rfl ⟨rfl, rfl, trivial⟩ (fun w' hw' => by
        obtain rfl := of_some H
        exact ⟨rfl, hw'.ext⟩)
  · have H := of_if_f hb H
    refine c_skip ?_
    refine x_qs ?_
    refine c_seq ?_
    refine c_reg ?_
    refine ow_batch [.p] rfl ?_
    refine ow_nil ?_
    refine x_qs ?_
    refine c_seq ?_
    refine c_seq ?_
    refine c_reg ?_
    refine ow_batch [.p, .p] rfl ?_
    refine ow_nil ?_
    refine x_qs ?_
    refine c_block ?_
    refine CW.at (loopI2 (fun (i60 : Int) (i61 : Int) => St w [] [Res.box b9 30 [.slice a5 p1.Table_.length c6, .slice a7 p1.Last_.length c8]]) (fun (i60 : Int) (i61 : Int) => [(0, .int .i64 p0), (3, .pointer (some ⟨b9, 0, none⟩)), (6, .int .i64 i61), (16, .int .i64 p0), (17, .int .i64 i60)]) (fun kk => fun (i60 : Int) (i61 : Int) => impl_Kappa_L1 p0 p1 kk i60 i61 = some r) (fun _ _ H => ?_) (fun k1 ihk1 i60 i61 H => ?_) Fuel (0) (0) (H)) (fun _ h => St.sel [0] rfl rfl h) ⟨rfl, rfl, rfl, rfl, rfl,  trivial⟩
    · unfold impl_Kappa_L1 at H
      exact absurd H (by simp)
    · unfold impl_Kappa_L1 at H
      refine c_seq ?_
      refine c_reg ?_
      refine ow_batch [.p] rfl ?_
      refine ow_nil ?_
      refine x_qs ?_
      refine c_seq ?_
      refine c_if rfl (fun hb => ?_) (fun hb => ?_)
      · have H := of_if_t hb H
        refine c_skip ?_
        refine x_qs ?_
        refine c_seq ?_
        refine c_block ?_
        refine c_seq ?_
        refine c_reg ?_
        refine ow_batch [.p, .p] rfl ?_
        refine ow_nil ?_
        refine x_qs ?_
        refine c_seq ?_
        refine c_reg ?_
        refine ow_batch [.p] rfl ?_
        refine ow_nil ?_
        refine x_qs ?_
        refine c_seq ?_
        refine c_seq ?_
        refine c_reg ?_
        refine ow_batch [.fa 30 0 0 fa30_0] rfl ?_
        refine ow_r rfl (dstOk_lt rfl) (ry_box1 (off := 0) rfl rfl ty22 (boxIn (i := 0) rfl) rfl) ?_
        refine ow_batch [.lenS 22 53 sl22, .p] rfl ?_
        refine ow_nil ?_
        refine x_qs ?_
        refine c_block ?_
        refine CW.at (loopI2 (fun (i122 : Int) (i123 : Int) => St w [] [Res.box b9 30 [.slice a5 p1.Table_.length c6, .slice a7 p1.Last_.length c8]]) (fun (i122 : Int) (i123 : Int) => [(0, .int .i64 p0), (3, .pointer (some ⟨b9, 0, none⟩)), (6, .int .i64 i61), (7, .int .i64 i60), (8, .int .i64 i123), (16, .int .i64 p0), (17, .int .i64 i60), (21, .slice a5 p1.Table_.length c6), (22, .int .i64 (p1.Table_.length : Int)), (23, .int .i64 i122)]) (fun kk => fun (i122 : Int) (i123 : Int) => impl_Kappa_L2 p1 i60 (impl_Kappa_L1 p0 p1 k1) i61 kk i122 i123 = some r) (fun _ _ H => ?_) (fun k2 ihk2 i122 i123 H => ?_) Fuel (0) (0) (H)) (fun _ h => St.sel [0] rfl rfl h) ⟨rfl, rfl, rfl, rfl, rfl, rfl, rfl, rfl, rfl, rfl,  trivial⟩
        · unfold impl_Kappa_L2 at H
          exact absurd H (by simp)
        · unfold impl_Kappa_L2 at H
          refine c_seq ?_
          refine c_reg ?_
          refine ow_batch [.p] rfl ?_
          refine ow_nil ?_
          refine x_qs ?_
          refine c_seq ?_
          refine c_if rfl (fun hb => ?_) (fun hb => ?_)
          · have H := of_if_t hb H
            refine c_skip ?_
            refine x_qs ?_
            refine c_seq ?_
            refine c_block ?_
            refine c_seq ?_
            refine c_reg ?_
            obtain ⟨e136, h137, H⟩ := of_bind H
            refine ow_ixB rfl rfl rfl rfl rfl sl22 ty53 rfl g3 h137 (fun q140 c141 hd138 hA139 => ?_)
            obtain ⟨a142, c143, rfl⟩ := rd_sl1 hd138
            refine ow_r rfl (dstOk_lt rfl) (ry_load1 rfl rfl ty53 (at_bor bor hA139)) ?_
            refine ow_batch [.p] rfl ?_
            refine ow_nil ?_
            refine x_qs ?_
            refine c_reg ?_
            refine ow_batch [.p, .p, .p] rfl ?_
            obtain ⟨e144, h145, H⟩ := of_bind H
            refine ow_ixE (e := eVal (Value.int .i64) (fun _ => rfl)) (xs := e136) (j := i60) rfl rfl rfl rfl rfl sl53 ty3 rfl (fun w1 hw1 => rds_bor hd138 w1 hw1) h145 (by rw [Nat.mul_one]) ?_
            refine ow_r rfl (dstOk_lt rfl) (ry_load1 rfl rfl ty3 (at_elV (fun w1 hw1 => rds_bor hd138 w1 hw1) h145)) ?_
            refine ow_batch [.p, .p] rfl ?_
            refine ow_nil ?_
            refine x_qb ?_
            refine x_qs ?_
            refine c_reg ?_
            refine ow_batch [.p, .p] rfl ?_
            refine ow_nil ?_
            exact x_ql (RW.at (ihk2 (IntKind.i64.wrap (i122 + 1)) (IntKind.i64.wrap (i123 + e144)) (H)) (fun _ h => St.sel [0] rfl rfl h) ⟨rfl, rfl, rfl, rfl, rfl, rfl, rfl, rfl, rfl, rfl, trivial⟩)
          · have H := of_if_f hb H
            refine c_exit ?_
            refine x_qs_exit ?_
            refine x_ql_exit ?_
            refine x_qb_here ?_
            refine x_qs ?_
            refine c_reg ?_
            refine ow_batch [.p, .fa 30 0 0 fa30_0] rfl ?_
            refine ow_r rfl (dstOk_lt rfl) (ry_box1 (off := 0) rfl rfl ty22 (boxIn (i := 0) rfl) rfl) ?_
            refine ow_batch [.p] rfl ?_
            obtain ⟨e146, h147, H⟩ := of_bind H
            refine ow_ixB rfl rfl rfl rfl rfl sl22 ty53 rfl g3 h147 (fun q150 c151 hd148 hA149 => ?_)
            obtain ⟨a152, c153, rfl⟩ := rd_sl1 hd148
            refine ow_r rfl (dstOk_lt rfl) (ry_load1 rfl rfl ty53 (at_bor bor hA149)) ?_
            obtain ⟨y154, h155, H⟩ := of_bind H
            refine ow_q rfl rfl (dstOk_lt rfl) (qy_call rfl fn44 rfl (fun w1 hw1 => impl_total_ok w1  h155 (rds_bor hd148 w1 hw1))) (fun _ _ => trivial) ?_
            refine ow_batch [.p, .p, .p, .p] rfl ?_
            refine ow_nil ?_
            refine x_qb ?_
            refine x_qs ?_
            refine c_reg ?_
            refine ow_batch [.p, .p] rfl ?_
            refine ow_nil ?_
            exact x_ql (RW.at (ihk1 (IntKind.i64.wrap (i60 + 1)) (IntKind.i64.wrap (i61 + (IntKind.i64.wrap (y154 * i123)))) (H)) (fun _ h => St.sel [0] rfl rfl h) ⟨rfl, rfl, rfl, rfl, rfl, trivial⟩)
      · have H := of_if_f hb H
        refine c_exit ?_
        refine x_qs_exit ?_
        refine x_ql_exit ?_
        refine x_qb_here ?_
        refine x_qs ?_
        refine c_seq ?_
        refine c_reg ?_
        refine ow_batch [.p] rfl ?_
        refine ow_r rfl (dstOk_lt rfl) (ry_box (off := 0) (ds := [.slice a5 p1.Table_.length c6, .slice a7 p1.Last_.length c8]) rfl rfl ty30 (boxIn (i := 0) rfl) rfl rfl) ?_
        obtain ⟨y156, h157, H⟩ := of_bind H
        refine ow_q rfl rfl (dstOk_lt rfl) (qy_call rfl fn19 rfl (fun w1 hw1 => impl_Count_ok w1 (cs1 := [.slice a5 p1.Table_.length c6, .slice a7 p1.Last_.length c8]) h157 (rdm_Timpl_Score (x := p1) (c0 := [.slice a5 p1.Table_.length c6]) (c1 := [.slice a7 p1.Last_.length c8]) (rds_bor g3 w1 hw1) (rds_bor g4 w1 hw1)))) (fun _ _ => trivial) ?_
        refine ow_batch [.p] rfl ?_
        refine ow_nil ?_
        refine x_qs ?_
        refine c_seq ?_
        refine c_reg ?_
        refine ow_batch [.p, .p] rfl ?_
        refine ow_r rfl (dstOk_lt rfl) (ry_box (off := 0) (ds := [.slice a5 p1.Table_.length c6, .slice a7 p1.Last_.length c8]) rfl rfl ty30 (boxIn (i := 0) rfl) rfl rfl) ?_
        obtain ⟨y158, h159, H⟩ := of_bind H
        refine ow_q rfl rfl (dstOk_lt rfl) (qy_call rfl fn14 rfl (fun w1 hw1 => impl_Right_ok w1 (cs1 := [.slice a5 p1.Table_.length c6, .slice a7 p1.Last_.length c8]) h159 (rdm_Timpl_Score (x := p1) (c0 := [.slice a5 p1.Table_.length c6]) (c1 := [.slice a7 p1.Last_.length c8]) (rds_bor g3 w1 hw1) (rds_bor g4 w1 hw1)))) (fun _ _ => trivial) ?_
        refine ow_batch [.p, .p, .p, .p, .p, .p, .p, .p, .p, .p] rfl ?_
        refine ow_nil ?_
        refine x_qs ?_
        refine c_ret ?_
        exact x_retR (rs := [.tmp 4, .tmp 5]) (vs := [.int .i64 (IntKind.i64.wrap ((IntKind.i64.wrap (y156 * y158)) - i61)), .int .i64 (IntKind.i64.wrap ((IntKind.i64.wrap (y156 * y156)) - i61))]) rfl ⟨rfl, rfl, trivial⟩ (fun w' hw' => by
            obtain rfl := of_some H
            exact ⟨rfl, hw'.ext⟩)

set_option maxHeartbeats 4000000 in
set_option maxRecDepth 100000 in
theorem impl_FracOk_ok (w : World) {p0 : Timpl_Frac}  {r : Bool} (H : impl_FracOk p0 = some r)   :
    Calls Try.prog 79 #[.agg #[.int .i64 p0.Num_, .int .i64 p0.Den_]] w (fun en w' => en = .returned (.bool r) ∧ Ext [] w w') := by
  unfold impl_FracOk at H
  refine f_enter (vs := [.agg #[.int .i64 p0.Num_, .int .i64 p0.Den_]]) Try.func79 rfl Try.ntmps79 rfl (St.init w []) ?_
  refine c_seq ?_
  refine c_reg ?_
  refine ow_box (cs := [.int .i64 p0.Num_, .int .i64 p0.Den_]) rfl rfl rfl rfl rfl rfl (fun _ => kp) (fun b1 => ?_)
  refine ow_batch [.p] rfl ?_
  refine ow_nil ?_
  refine x_qs ?_
  refine c_seq ?_
  refine c_reg ?_
  refine ow_batch [.fa 37 0 0 fa37_0] rfl ?_
  refine ow_r rfl (dstOk_lt rfl) (ry_box1 (off := 0) rfl rfl ty3 (boxIn (i := 0) rfl) rfl) ?_
  obtain ⟨y2, h3, H⟩ := of_bind H
  refine ow_q rfl rfl (dstOk_lt rfl) (qy_call rfl fn47 rfl (fun w1 hw1 => impl_within_ok w1  h3)) (fun _ _ => trivial) ?_
  refine ow_batch [.p] rfl ?_
  obtain ⟨u4, hu8, H⟩ := of_bind H
  refine ow_cut [(10, .bool u4), (2, .bool false)] 4 ?_ (fun key => OW.sub (R := [(1, .pointer (some ⟨b1, 0, none⟩)), (2, .bool false), (6, .bool y2)]) ?_ ⟨rfl, rfl, rfl, trivial⟩)
  · refine ow_batch [.p] rfl ?_
    refine ow_nil ?_
    refine x_qs ?_
    refine c_ret ?_
    exact x_retR (rs := [.tmp 2]) (vs := [.bool u4]) rfl ⟨rfl, trivial⟩ (fun w' hw' => by
        obtain rfl := of_some H
        exact ⟨rfl, hw'.ext⟩)
  · clear H
    have H := hu8
    clear hu8
    generalize y2 = t7 at H ⊢
    cases t7
    · have H := of_if_f rfl H
      refine ow_batch [.p, .p, .p, .p] rfl ?_
      obtain rfl := of_some H
      exact OW.sub key ⟨rfl, rfl, trivial⟩
    · have H := of_if_t rfl H
      refine ow_batch [.fa 37 1 1 fa37_1] rfl ?_
      refine ow_r rfl (dstOk_lt rfl) (ry_box1 (off := 1) rfl rfl ty3 (boxIn (i := 0) rfl) rfl) ?_
      obtain ⟨y5, h6, H⟩ := of_bind H
      refine ow_q rfl rfl (dstOk_lt rfl) (qy_call rfl fn47 rfl (fun w1 hw1 => impl_within_ok w1  h6)) (fun _ _ => trivial) ?_
      refine ow_batch [.p] rfl ?_
      obtain rfl := of_some H
      exact OW.sub key ⟨rfl, rfl, trivial⟩

set_option maxHeartbeats 4000000 in
set_option maxRecDepth 100000 in
theorem impl_Gcd_ok (w : World) {p0 : Int} {p1 : Int}  {r : Int} (H : impl_Gcd p0 p1 = some r)   :
    Calls Try.prog 80 #[.int .i64 p0, .int .i64 p1] w (fun en w' => en = .returned (.int .i64 r) ∧ Ext [] w w') := by
  unfold impl_Gcd at H
  refine f_enter (vs := [.int .i64 p0, .int .i64 p1]) Try.func80 rfl Try.ntmps80 rfl (St.init w []) ?_
  refine c_seq ?_
  refine c_reg ?_
  refine ow_batch [.p] rfl ?_
  refine ow_nil ?_
  refine x_qs ?_
  refine c_seq ?_
  refine c_seq ?_
  refine c_reg ?_
  refine ow_batch [.p, .p, .p] rfl ?_
  refine ow_cut [(10, .bool ((decide (p0 < 0)) || (decide (p1 < 0)))), (0, .int .i64 p0), (1, .int .i64 p1)] 3 ?_ (fun key => OW.sub (R := [(0, .int .i64 p0), (1, .int .i64 p1), (7, .bool (decide (p0 < 0)))]) ?_ ⟨rfl, rfl, rfl, trivial⟩)
  · refine ow_nil ?_
    refine x_qs ?_
    refine c_if rfl (fun hb => ?_) (fun hb => ?_)
    · have H := of_if_t hb H
      refine c_seq ?_
      refine c_reg ?_
      refine ow_batch [.p] rfl ?_
      refine ow_nil ?_
      refine x_qs ?_
      refine c_ret ?_
      refine x_qs_ret ?_
      exact x_retR (rs := [.tmp 4]) (vs := [.int .i64 (-1)]) rfl ⟨rfl, trivial⟩ (fun w' hw' => by
          obtain rfl := of_some H
          exact ⟨rfl, hw'.ext⟩)
    · have H := of_if_f hb H
      refine c_skip ?_
      refine x_qs ?_
      refine c_seq ?_
      refine c_block ?_
      refine CW.at (loopI2 (fun (i7 : Int) (i9 : Int) => St w [] []) (fun (i7 : Int) (i9 : Int) => [(0, .int .i64 i7), (1, .int .i64 i9)]) (fun kk => fun (i7 : Int) (i9 : Int) => impl_Gcd_L1 kk i7 i9 = some r) (fun _ _ H => ?_) (fun k1 ihk1 i7 i9 H => ?_) Fuel (p0) (p1) (H)) (fun _ h => St.sel [] rfl rfl h) ⟨rfl, rfl,  trivial⟩
      · unfold impl_Gcd_L1 at H
        exact absurd H (by simp)
      · unfold impl_Gcd_L1 at H
        refine c_seq ?_
        refine c_seq ?_
        refine c_reg ?_
        refine ow_batch [.p, .p] rfl ?_
        refine ow_nil ?_
        refine x_qs ?_
        refine c_if rfl (fun hb => ?_) (fun hb => ?_)
        · have H := of_if_t hb H
          refine c_skip ?_
          refine x_qs ?_
          refine c_block ?_
          refine c_regQ mixed (by kernel_rfl) ?_
          refine ow_batch [.p, .p, .p] rfl ?_
          obtain ⟨x14, h15, H⟩ := of_bind H
          refine ow_r rfl (dstOk_lt rfl) (ry_rem rfl rfl rfl h15) ?_
          refine ow_batch [.p, .p] rfl ?_
          refine ow_nilQ ?_
          refine x_qb ?_
          exact x_ql (RW.at (ihk1 (i9) (x14) (H)) (fun _ h => St.sel [] rfl rfl h) ⟨rfl, rfl, trivial⟩)
        · have H := of_if_f hb H
          refine c_exit ?_
          refine x_qs_exit ?_
          refine x_ql_exit ?_
          refine x_qb_here ?_
          refine x_qs ?_
          refine c_seq ?_
          refine c_reg ?_
          refine ow_batch [.p, .p] rfl ?_
          refine ow_nil ?_
          refine x_qs ?_
          refine c_ret ?_
          exact x_retR (rs := [.tmp 4]) (vs := [.int .i64 i7]) rfl ⟨rfl, trivial⟩ (fun w' hw' => by
              obtain rfl := of_some H
              exact ⟨rfl, hw'.ext⟩)
  · generalize (decide (p0 < 0)) = t2 at key ⊢
    cases t2
    · refine ow_batch [.p, .p] rfl ?_
      refine ow_batch [.p] rfl ?_
      exact OW.sub key ⟨rfl, rfl, rfl, trivial⟩
    · refine ow_batch [.p, .p, .p] rfl ?_
      exact OW.sub key ⟨rfl, rfl, rfl, trivial⟩

set_option maxHeartbeats 4000000 in
set_option maxRecDepth 100000 in
theorem impl_FracLow_ok (w : World) {p0 : Timpl_Frac}  {r : Timpl_Frac} (H : impl_FracLow p0 = some r)   :
    Calls Try.prog 66 #[.agg #[.int .i64 p0.Num_, .int .i64 p0.Den_]] w (fun en w' => en = .returned (.agg #[.int .i64 r.Num_, .int .i64 r.Den_]) ∧ Ext [] w w') := by
  unfold impl_FracLow at H
  refine f_enter (vs := [.agg #[.int .i64 p0.Num_, .int .i64 p0.Den_]]) Try.func66 rfl Try.ntmps66 rfl (St.init w []) ?_
  refine c_seq ?_
  refine c_reg ?_
  refine ow_box (cs := [.int .i64 p0.Num_, .int .i64 p0.Den_]) rfl rfl rfl rfl rfl rfl (fun _ => kp) (fun b1 => ?_)
  refine ow_alloc rfl rfl rfl rfl ty37 (fun _ => kp) (fun b2 => ?_)
  refine ow_nil ?_
  refine x_qs ?_
  refine c_seq ?_
  refine c_seq ?_
  refine c_reg ?_
  refine ow_r rfl (dstOk_lt rfl) (ry_box (off := 0) (ds := [.int .i64 p0.Num_, .int .i64 p0.Den_]) rfl rfl ty37 (boxIn (i := 0) rfl) rfl rfl) ?_
  obtain ⟨y3, h4, H⟩ := of_bind H
  refine ow_q rfl rfl (dstOk_lt rfl) (qy_call rfl fn79 rfl (fun w1 hw1 => impl_FracOk_ok w1 (p0 := p0) h4)) (fun _ _ => trivial) ?_
  refine ow_batch [.p] rfl ?_
  refine ow_nil ?_
  refine x_qs ?_
  refine c_if rfl (fun hb => ?_) (fun hb => ?_)
  · have H := of_if_t hb H
    refine c_seq ?_
    refine c_reg ?_
    refine ow_r rfl (dstOk_lt rfl) (ry_build2 [] [.int .i64 0, .int .i64 0] rfl rfl ty37 fs37 rfl trivial rfl) ?_
    refine ow_storeC (off := 0) [.int .i64 0, .int .i64 0] [_, _] (i := 1) rfl rfl rfl rfl rfl rfl ty37 rfl rfl (by intro u hu; simp only [List.mem_cons, List.not_mem_nil, or_false] at hu; rcases hu with rfl | rfl <;> rfl) rfl rfl rfl kp ?_
    refine ow_nil ?_
    refine x_qs ?_
    refine c_ret ?_
    refine x_qs_ret ?_
    exact x_retR (rs := [.cell 2 37]) (vs := [.agg #[.int .i64 0, .int .i64 0]]) rfl ⟨⟨_, [.int .i64 0, .int .i64 0], _, _, _, rfl, ty37, (at_box (T := 37) 0 (boxIn (i := 1) rfl) rfl), rfl, rfl⟩, trivial⟩ (fun w' hw' => by
        obtain rfl := of_some H
        exact ⟨rfl, hw'.ext⟩)
  · have H := of_if_f hb H
    refine c_skip ?_
    refine x_qs ?_
    refine c_seq ?_
    refine c_reg ?_
    refine ow_batch [.fa 37 0 0 fa37_0] rfl ?_
    refine ow_r rfl (dstOk_lt rfl) (ry_box1 (off := 0) rfl rfl ty3 (boxIn (i := 0) rfl) rfl) ?_
    refine ow_batch [.fa 37 1 1 fa37_1] rfl ?_
    refine ow_r rfl (dstOk_lt rfl) (ry_box1 (off := 1) rfl rfl ty3 (boxIn (i := 0) rfl) rfl) ?_
    obtain ⟨y5, h6, H⟩ := of_bind H
    refine ow_q rfl rfl (dstOk_lt rfl) (qy_call rfl fn80 rfl (fun w1 hw1 => impl_Gcd_ok w1  h6)) (fun _ _ => trivial) ?_
    refine ow_batch [.p] rfl ?_
    refine ow_nil ?_
    refine x_qs ?_
    refine c_seq ?_
    refine c_regT 9 mixed (by kernel_rfl) ?_
    refine ow_batch [.fa 37 0 0 fa37_0] rfl ?_
    refine ow_r rfl (dstOk_lt rfl) (ry_box1 (off := 0) rfl rfl ty3 (boxIn (i := 0) rfl) rfl) ?_
    refine ow_batch [.p] rfl ?_
    obtain ⟨x7, h8, H⟩ := of_bind H
    refine ow_r rfl (dstOk_lt rfl) (ry_quo rfl rfl rfl h8) ?_
    refine ow_batch [.fa 37 1 1 fa37_1] rfl ?_
    refine ow_r rfl (dstOk_lt rfl) (ry_box1 (off := 1) rfl rfl ty3 (boxIn (i := 0) rfl) rfl) ?_
    refine ow_batch [.p] rfl ?_
    obtain ⟨x9, h10, H⟩ := of_bind H
    refine ow_r rfl (dstOk_lt rfl) (ry_quo rfl rfl rfl h10) ?_
    refine ow_r rfl (dstOk_lt rfl) (ry_build2 [(0, [.int .i64 x7]), (1, [.int .i64 x9])] [.int .i64 x7, .int .i64 x9] rfl rfl ty37 fs37 rfl ⟨rfl, rfl, Nat.le_of_ble_eq_true rfl, rfl, rfl, Nat.le_of_ble_eq_true rfl,  trivial⟩ rfl) ?_
    refine ow_nilQ ?_
    refine ow_storeC (off := 0) [.int .i64 x7, .int .i64 x9] [_, _] (i := 1) rfl rfl rfl rfl rfl rfl ty37 rfl rfl (by intro u hu; simp only [List.mem_cons, List.not_mem_nil, or_false] at hu; rcases hu with rfl | rfl <;> rfl) rfl rfl rfl kp ?_
    refine ow_nil ?_
    refine x_qs ?_
    refine c_ret ?_
    exact x_retR (rs := [.cell 2 37]) (vs := [.agg #[.int .i64 x7, .int .i64 x9]]) rfl ⟨⟨_, [.int .i64 x7, .int .i64 x9], _, _, _, rfl, ty37, (at_box (T := 37) 0 (boxIn (i := 1) rfl) rfl), rfl, rfl⟩, trivial⟩ (fun w' hw' => by
        obtain rfl := of_some H
        exact ⟨rfl, hw'.ext⟩)

set_option maxHeartbeats 4000000 in
set_option maxRecDepth 100000 in
theorem impl_share_ok (w : World) {p0 : Int} {p1 : Int}  {r : Timpl_Frac} (H : impl_share p0 p1 = some r)   :
    Calls Try.prog 48 #[.int .i64 p0, .int .i64 p1] w (fun en w' => en = .returned (.agg #[.int .i64 r.Num_, .int .i64 r.Den_]) ∧ Ext [] w w') := by
  unfold impl_share at H
  refine f_enter (vs := [.int .i64 p0, .int .i64 p1]) Try.func48 rfl Try.ntmps48 rfl (St.init w []) ?_
  refine c_seq ?_
  refine c_reg ?_
  refine ow_alloc rfl rfl rfl rfl ty37 (fun _ => kp) (fun b1 => ?_)
  refine ow_nil ?_
  refine x_qs ?_
  refine c_seq ?_
  refine c_seq ?_
  refine c_reg ?_
  refine ow_batch [.p, .p] rfl ?_
  refine ow_nil ?_
  refine x_qs ?_
  refine c_if rfl (fun hb => ?_) (fun hb => ?_)
  · have H := of_if_t hb H
    refine c_seq ?_
    refine c_reg ?_
    refine ow_r rfl (dstOk_lt rfl) (ry_build2 [(0, [.int .i64 0]), (1, [.int .i64 1])] [.int .i64 0, .int .i64 1] rfl rfl ty37 fs37 rfl ⟨rfl, rfl, Nat.le_of_ble_eq_true rfl, rfl, rfl, Nat.le_of_ble_eq_true rfl,  trivial⟩ rfl) ?_
    refine ow_storeC (off := 0) [.int .i64 0, .int .i64 1] [_, _] (i := 0) rfl rfl rfl rfl rfl rfl ty37 rfl rfl (by intro u hu; simp only [List.mem_cons, List.not_mem_nil, or_false] at hu; rcases hu with rfl | rfl <;> rfl) rfl rfl rfl kp ?_
    refine ow_nil ?_
    refine x_qs ?_
    refine c_ret ?_
    refine x_qs_ret ?_
    exact x_retR (rs := [.cell 4 37]) (vs := [.agg #[.int .i64 0, .int .i64 1]]) rfl ⟨⟨_, [.int .i64 0, .int .i64 1], _, _, _, rfl, ty37, (at_box (T := 37) 0 (boxIn (i := 0) rfl) rfl), rfl, rfl⟩, trivial⟩ (fun w' hw' => by
        obtain rfl := of_some H
        exact ⟨rfl, hw'.ext⟩)
  · have H := of_if_f hb H
    refine c_skip ?_
    refine x_qs ?_
    refine c_seq ?_
    refine c_reg ?_
    refine ow_batch [.p, .p] rfl ?_
    refine ow_r rfl (dstOk_lt rfl) (ry_build2 [(0, [.int .i64 p0]), (1, [.int .i64 p1])] [.int .i64 p0, .int .i64 p1] rfl rfl ty37 fs37 rfl ⟨rfl, rfl, Nat.le_of_ble_eq_true rfl, rfl, rfl, Nat.le_of_ble_eq_true rfl,  trivial⟩ rfl) ?_
    obtain ⟨y2, h3, H⟩ := of_bind H
    refine ow_q rfl rfl (dstOk_lt rfl) (qy_call rfl fn66 rfl (fun w1 hw1 => impl_FracLow_ok w1 (p0 := (Timpl_Frac.mk p0 p1)) h3)) (fun _ _ => trivial) ?_
    refine ow_storeC (off := 0) [.int .i64 y2.Num_, .int .i64 y2.Den_] [_, _] (i := 0) rfl rfl rfl rfl rfl rfl ty37 rfl rfl (by intro u hu; simp only [List.mem_cons, List.not_mem_nil, or_false] at hu; rcases hu with rfl | rfl <;> rfl) rfl rfl rfl kp ?_
    refine ow_nil ?_
    refine x_qs ?_
    refine c_ret ?_
    exact x_retR (rs := [.cell 4 37]) (vs := [.agg #[.int .i64 y2.Num_, .int .i64 y2.Den_]]) rfl ⟨⟨_, [.int .i64 y2.Num_, .int .i64 y2.Den_], _, _, _, rfl, ty37, (at_box (T := 37) 0 (boxIn (i := 0) rfl) rfl), rfl, rfl⟩, trivial⟩ (fun w' hw' => by
        obtain rfl := of_some H
        exact ⟨rfl, hw'.ext⟩)

set_option maxHeartbeats 4000000 in
set_option maxRecDepth 100000 in
theorem impl_Recall_ok (w : World) {p0 : Int} {p1 : Timpl_Score} {p2 : Int} {cs1 : List Value} {r : Timpl_Frac} (H : impl_Recall p0 p1 p2 = some r)  (g1 : (eTimpl_Score).rd w [] p1 cs1) :
    Calls Try.prog 23 #[.int .i64 p0, .agg cs1.toArray, .int .i64 p2] w (fun en w' => en = .returned (.agg #[.int .i64 r.Num_, .int .i64 r.Den_]) ∧ Ext [] w w') := by
  obtain ⟨c1, c2, rfl, g3, g4⟩ := rdo_Timpl_Score g1
  obtain ⟨a5, c6, rfl⟩ := rd_sl1 g3
  obtain ⟨a7, c8, rfl⟩ := rd_sl1 g4
  unfold impl_Recall at H
  refine f_enter (vs := [.int .i64 p0, .agg #[.slice a5 p1.Table_.length c6, .slice a7 p1.Last_.length c8], .int .i64 p2]) Try.func23 rfl Try.ntmps23 rfl (St.init w []) ?_
  refine c_seq ?_
  refine c_reg ?_
  refine ow_box (cs := [.slice a5 p1.Table_.length c6, .slice a7 p1.Last_.length c8]) rfl rfl rfl rfl rfl rfl (fun _ => kp) (fun b9 => ?_)
  refine ow_alloc rfl rfl rfl rfl ty37 (fun _ => kp) (fun b10 => ?_)
  refine ow_nil ?_
  refine x_qs ?_
  refine c_seq ?_
  refine c_seq ?_
  refine c_reg ?_
  refine ow_batch [.p] rfl ?_
  refine ow_r rfl (dstOk_lt rfl) (ry_box (off := 0) (ds := [.slice a5 p1.Table_.length c6, .slice a7 p1.Last_.length c8]) rfl rfl ty30 (boxIn (i := 0) rfl) rfl rfl) ?_
  obtain ⟨y11, h12, H⟩ := of_bind H
  refine ow_q rfl rfl (dstOk_lt rfl) (qy_call rfl fn34 rfl (fun w1 hw1 => impl_ScoreOk_ok w1 (cs1 := [.slice a5 p1.Table_.length c6, .slice a7 p1.Last_.length c8]) h12 (rdm_Timpl_Score (x := p1) (c0 := [.slice a5 p1.Table_.length c6]) (c1 := [.slice a7 p1.Last_.length c8]) (rds_bor g3 w1 hw1) (rds_bor g4 w1 hw1)))) (fun _ _ => trivial) ?_
  refine ow_batch [.p, .p] rfl ?_
  obtain ⟨u13, hu17, H⟩ := of_bind H
  refine ow_cut [(17, .bool u13), (2, .int .i64 p2), (4, .pointer (some ⟨b9, 0, none⟩)), (6, .pointer (some ⟨b10, 0, none⟩))] 6 ?_ (fun key => OW.sub (R := [(0, .int .i64 p0), (2, .int .i64 p2), (4, .pointer (some ⟨b9, 0, none⟩)), (6, .pointer (some ⟨b10, 0, none⟩)), (11, .bool (!y11))]) ?_ ⟨rfl, rfl, rfl, rfl, rfl, trivial⟩)
  · refine ow_nil ?_
    refine x_qs ?_
    refine c_if rfl (fun hb => ?_) (fun hb => ?_)
    · have H := of_if_t hb H
      refine c_seq ?_
      refine c_reg ?_
      refine ow_r rfl (dstOk_lt rfl) (ry_build2 [] [.int .i64 0, .int .i64 0] rfl rfl ty37 fs37 rfl trivial rfl) ?_
      refine ow_storeC (off := 0) [.int .i64 0, .int .i64 0] [_, _] (i := 1) rfl rfl rfl rfl rfl rfl ty37 rfl rfl (by intro u hu; simp only [List.mem_cons, List.not_mem_nil, or_false] at hu; rcases hu with rfl | rfl <;> rfl) rfl rfl rfl kp ?_
      refine ow_nil ?_
      refine x_qs ?_
      refine c_ret ?_
      refine x_qs_ret ?_
      exact x_retR (rs := [.cell 6 37]) (vs := [.agg #[.int .i64 0, .int .i64 0]]) rfl ⟨⟨_, [.int .i64 0, .int .i64 0], _, _, _, rfl, ty37, (at_box (T := 37) 0 (boxIn (i := 1) rfl) rfl), rfl, rfl⟩, trivial⟩ (fun w' hw' => by
          obtain rfl := of_some H
          exact ⟨rfl, hw'.ext⟩)
    · have H := of_if_f hb H
      refine c_skip ?_
      refine x_qs ?_
      refine c_seq ?_
      refine c_regT 15 mixed (by kernel_rfl) ?_
      refine ow_batch [.fa 30 0 0 fa30_0] rfl ?_
      refine ow_r rfl (dstOk_lt rfl) (ry_box1 (off := 0) rfl rfl ty22 (boxIn (i := 0) rfl) rfl) ?_
      refine ow_batch [.p] rfl ?_
      obtain ⟨e18, h19, H⟩ := of_bind H
      refine ow_ixB rfl rfl rfl rfl rfl sl22 ty53 rfl g3 h19 (fun q22 c23 hd20 hA21 => ?_)
      obtain ⟨a24, c25, rfl⟩ := rd_sl1 hd20
      refine ow_r rfl (dstOk_lt rfl) (ry_load1 rfl rfl ty53 (at_bor bor hA21)) ?_
      refine ow_batch [.p] rfl ?_
      obtain ⟨e26, h27, H⟩ := of_bind H
      refine ow_ixE (e := eVal (Value.int .i64) (fun _ => rfl)) (xs := e18) (j := p2) rfl rfl rfl rfl rfl sl53 ty3 rfl (fun w1 hw1 => rds_bor hd20 w1 hw1) h27 (by rw [Nat.mul_one]) ?_
      refine ow_r rfl (dstOk_lt rfl) (ry_load1 rfl rfl ty3 (at_elV (fun w1 hw1 => rds_bor hd20 w1 hw1) h27)) ?_
      refine ow_batch [.fa 30 0 0 fa30_0] rfl ?_
      refine ow_r rfl (dstOk_lt rfl) (ry_box1 (off := 0) rfl rfl ty22 (boxIn (i := 0) rfl) rfl) ?_
      refine ow_batch [.p] rfl ?_
      obtain ⟨e28, h29, H⟩ := of_bind H
      refine ow_ixB rfl rfl rfl rfl rfl sl22 ty53 rfl g3 h29 (fun q32 c33 hd30 hA31 => ?_)
      obtain ⟨a34, c35, rfl⟩ := rd_sl1 hd30
      refine ow_r rfl (dstOk_lt rfl) (ry_load1 rfl rfl ty53 (at_bor bor hA31)) ?_
      obtain ⟨y36, h37, H⟩ := of_bind H
      refine ow_q rfl rfl (dstOk_lt rfl) (qy_call rfl fn44 rfl (fun w1 hw1 => impl_total_ok w1  h37 (rds_bor hd30 w1 hw1))) (fun _ _ => trivial) ?_
      obtain ⟨y38, h39, H⟩ := of_bind H
      refine ow_q rfl rfl (dstOk_lt rfl) (qy_call rfl fn48 rfl (fun w1 hw1 => impl_share_ok w1  h39)) (fun _ _ => trivial) ?_
      refine ow_nilQ ?_
      refine ow_storeC (off := 0) [.int .i64 y38.Num_, .int .i64 y38.Den_] [_, _] (i := 1) rfl rfl rfl rfl rfl rfl ty37 rfl rfl (by intro u hu; simp only [List.mem_cons, List.not_mem_nil, or_false] at hu; rcases hu with rfl | rfl <;> rfl) rfl rfl rfl kp ?_
      refine ow_nil ?_
      refine x_qs ?_
      refine c_ret ?_
      exact x_retR (rs := [.cell 6 37]) (vs := [.agg #[.int .i64 y38.Num_, .int .i64 y38.Den_]]) rfl ⟨⟨_, [.int .i64 y38.Num_, .int .i64 y38.Den_], _, _, _, rfl, ty37, (at_box (T := 37) 0 (boxIn (i := 1) rfl) rfl), rfl, rfl⟩, trivial⟩ (fun w' hw' => by
          obtain rfl := of_some H
          exact ⟨rfl, hw'.ext⟩)
  · clear H
    have H := hu17
    clear hu17
    generalize (!y11) = t16 at H ⊢
    cases t16
    · have H := of_if_f rfl H
      refine ow_batch [.p, .p, .p] rfl ?_
      obtain ⟨y14, h15, H⟩ := of_bind H
      refine ow_q rfl rfl (dstOk_lt rfl) (qy_call rfl fn47 rfl (fun w1 hw1 => impl_within_ok w1  h15)) (fun _ _ => trivial) ?_
      refine ow_batch [.p] rfl ?_
      refine ow_batch [.p] rfl ?_
      obtain rfl := of_some H
      exact OW.sub key ⟨rfl, rfl, rfl, rfl, trivial⟩
    · have H := of_if_t rfl H
      refine ow_batch [.p, .p, .p, .p, .p, .p] rfl ?_
      obtain rfl := of_some H
      exact OW.sub key ⟨rfl, rfl, rfl, rfl, trivial⟩

set_option maxHeartbeats 4000000 in
set_option maxRecDepth 100000 in
theorem impl_LastRight_ok (w : World) {p0 : Int} {p1 : Timpl_Score} {cs1 : List Value} {r : Int} (H : impl_LastRight p0 p1 = some r)  (g1 : (eTimpl_Score).rd w [] p1 cs1) :
    Calls Try.prog 17 #[.int .i64 p0, .agg cs1.toArray] w (fun en w' => en = .returned (.int .i64 r) ∧ Ext [] w w') := by
  obtain ⟨c1, c2, rfl, g3, g4⟩ := rdo_Timpl_Score g1
  obtain ⟨a5, c6, rfl⟩ := rd_sl1 g3
  obtain ⟨a7, c8, rfl⟩ := rd_sl1 g4
  unfold impl_LastRight at H
  refine f_enter (vs := [.int .i64 p0, .agg #[.slice a5 p1.Table_.length c6, .slice a7 p1.Last_.length c8]]) Try.func17 rfl Try.ntmps17 rfl (St.init w []) ?_
  refine c_seq ?_
  refine c_reg ?_
  refine ow_box (cs := [.slice a5 p1.Table_.length c6, .slice a7 p1.Last_.length c8]) rfl rfl rfl rfl rfl rfl (fun _ => kp) (fun b9 => ?_)
  refine ow_batch [.p] rfl ?_
  refine ow_nil ?_
  refine x_qs ?_
  refine c_seq ?_
  refine c_seq ?_
  refine c_reg ?_
  refine ow_batch [.p] rfl ?_
  refine ow_r rfl (dstOk_lt rfl) (ry_box (off := 0) (ds := [.slice a5 p1.Table_.length c6, .slice a7 p1.Last_.length c8]) rfl rfl ty30 (boxIn (i := 0) rfl) rfl rfl) ?_
  obtain ⟨y10, h11, H⟩ := of_bind H
  refine ow_q rfl rfl (dstOk_lt rfl) (qy_call rfl fn34 rfl (fun w1 hw1 => impl_ScoreOk_ok w1 (cs1 := [.slice a5 p1.Table_.length c6, .slice a7 p1.Last_.length c8]) h11 (rdm_Timpl_Score (x := p1) (c0 := [.slice a5 p1.Table_.length c6]) (c1 := [.slice a7 p1.Last_.length c8]) (rds_bor g3 w1 hw1) (rds_bor g4 w1 hw1)))) (fun _ _ => trivial) ?_
  refine ow_batch [.p] rfl ?_
  refine ow_nil ?_
  refine x_qs ?_
  refine c_if rfl (fun hb => ?_) (fun hb => ?_)
  · have H := of_if_t hb H
    refine c_seq ?_
    refine c_reg ?_
    refine ow_batch [.p] rfl ?_
    refine ow_nil ?_
    refine x_qs ?_
    refine c_ret ?_
    refine x_qs_ret ?_
    exact x_retR (rs := [.tmp 4]) (vs := [.int .i64 0]) rfl ⟨rfl, trivial⟩ (fun w' hw' => by
        obtain rfl := of_some H
        exact ⟨rfl, hw'.ext⟩)
  · have H := of_if_f hb H
    refine c_skip ?_
    refine x_qs ?_
    refine c_seq ?_
    refine c_reg ?_
    refine ow_batch [.p] rfl ?_
    refine ow_nil ?_
    refine x_qs ?_
    refine c_seq ?_
    refine c_seq ?_
    refine c_reg ?_
    refine ow_batch [.fa 30 1 1 fa30_1] rfl ?_
    refine ow_r rfl (dstOk_lt rfl) (ry_box1 (off := 1) rfl rfl ty28 (boxIn (i := 0) rfl) rfl) ?_
    refine ow_batch [.lenS 28 60 sl28, .p] rfl ?_
    refine ow_nil ?_
    refine x_qs ?_
    refine c_block ?_
    refine CW.at (loopI2 (fun (i18 : Int) (i19 : Int) => St w [] []) (fun (i18 : Int) (i19 : Int) => [(5, .int .i64 i19), (13, .slice a7 p1.Last_.length c8), (14, .int .i64 (p1.Last_.length : Int)), (15, .int .i64 i18)]) (fun kk => fun (i18 : Int) (i19 : Int) => impl_LastRight_L1 p1 kk i18 i19 = some r) (fun _ _ H => ?_) (fun k1 ihk1 i18 i19 H => ?_) Fuel (0) (0) (H)) (fun _ h => St.sel [] rfl rfl h) ⟨rfl, rfl, rfl, rfl,  trivial⟩
    · unfold impl_LastRight_L1 at H
      exact absurd H (by simp)
    · unfold impl_LastRight_L1 at H
      refine c_seq ?_
      refine c_reg ?_
      refine ow_batch [.p] rfl ?_
      refine ow_nil ?_
      refine x_qs ?_
      refine c_seq ?_
      refine c_if rfl (fun hb => ?_) (fun hb => ?_)
      · have H := of_if_t hb H
        refine c_skip ?_
        refine x_qs ?_
        refine c_seq ?_
        refine c_block ?_
        refine c_seq ?_
        refine c_reg ?_
        obtain ⟨e25, h26, H⟩ := of_bind H
        refine ow_ixE (e := eTimpl_Pair) (xs := p1.Last_) (j := i18) rfl rfl rfl rfl rfl sl28 ty60 rfl (fun w1 hw1 => rds_bor g4 w1 hw1) h26 rfl ?_
        refine ow_r rfl (dstOk_lt rfl) (ry_load (cs := [.int .i64 e25.Truth_, .int .i64 e25.Said_]) rfl rfl ty60 (at_castA (at_eltE (fun w1 hw1 => rds_bor g4 w1 hw1) h26 (fun _ _ h => h)) rfl) rfl) ?_
        refine ow_alloc rfl rfl rfl rfl ty60 (fun _ => kp) (fun b27 => ?_)
        refine ow_storeC (off := 0) [.int .i64 e25.Truth_, .int .i64 e25.Said_] [_, _] (i := 0) rfl rfl rfl rfl rfl rfl ty60 rfl rfl (by intro u hu; simp only [List.mem_cons, List.not_mem_nil, or_false] at hu; rcases hu with rfl | rfl <;> rfl) rfl rfl rfl kp ?_
        refine ow_nil ?_
        refine x_qs ?_
        refine c_seq ?_
        refine c_reg ?_
        refine ow_batch [.fa 60 0 0 fa60_0] rfl ?_
        refine ow_r rfl (dstOk_lt rfl) (ry_box1 (off := 0) rfl rfl ty3 (boxIn (i := 0) rfl) rfl) ?_
        refine ow_batch [.fa 60 1 1 fa60_1] rfl ?_
        refine ow_r rfl (dstOk_lt rfl) (ry_box1 (off := 1) rfl rfl ty3 (boxIn (i := 0) rfl) rfl) ?_
        refine ow_batch [.p] rfl ?_
        refine ow_nil ?_
        refine x_qs ?_
        refine c_if rfl (fun hb => ?_) (fun hb => ?_)
        · have H := of_if_t hb H
          refine c_reg ?_
          refine ow_batch [.p, .p, .p] rfl ?_
          refine ow_nil ?_
          refine x_qb ?_
          refine x_qs ?_
          refine c_reg ?_
          refine ow_batch [.p, .p] rfl ?_
          refine ow_nil ?_
          exact x_ql (RW.at (ihk1 (IntKind.i64.wrap (i18 + 1)) (IntKind.i64.wrap (i19 + 1)) (H)) (fun _ h => St.sel [] rfl rfl h) ⟨rfl, rfl, rfl, rfl, trivial⟩)
        · have H := of_if_f hb H
          refine c_skip ?_
          refine x_qb ?_
          refine x_qs ?_
          refine c_reg ?_
          refine ow_batch [.p, .p] rfl ?_
          refine ow_nil ?_
          exact x_ql (RW.at (ihk1 (IntKind.i64.wrap (i18 + 1)) (i19) (H)) (fun _ h => St.sel [] rfl rfl h) ⟨rfl, rfl, rfl, rfl, trivial⟩)
      · have H := of_if_f hb H
        refine c_exit ?_
        refine x_qs_exit ?_
        refine x_ql_exit ?_
        refine x_qb_here ?_
        refine x_qs ?_
        refine c_seq ?_
        refine c_reg ?_
        refine ow_batch [.p, .p] rfl ?_
        refine ow_nil ?_
        refine x_qs ?_
        refine c_ret ?_
        exact x_retR (rs := [.tmp 4]) (vs := [.int .i64 i19]) rfl ⟨rfl, trivial⟩ (fun w' hw' => by
            obtain rfl := of_some H
            exact ⟨rfl, hw'.ext⟩)

end Go.Vk
