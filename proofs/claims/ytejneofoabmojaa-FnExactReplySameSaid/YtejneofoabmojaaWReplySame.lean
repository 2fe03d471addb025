/- The code does what the functions of data say. Printed by program. -/

import Derived.Test.YtejneofoabmojaaRF

import Derived.Test.YtejneofoabmojaaChecked

namespace Go.Vk

open Go.Proofs Go.RowKit



def eTlaws_Step : Enc Tlaws_Step := eFlat (fun x => [.int .i64 x.Said_, .int .i64 x.Bit_, .int .i64 x.Weight_, .int .i64 x.Grow_, .int .i64 x.Young_, .int .i64 x.Det_, .bool x.Began_, .bool x.Swapped_]) 8 (fun _ => rfl) (by intro x u hu; simp only [List.mem_cons, List.not_mem_nil, or_false] at hu; rcases hu with rfl | rfl | rfl | rfl | rfl | rfl | rfl | rfl <;> rfl)

def eTimpl_Step : Enc Timpl_Step := eFlat (fun x => [.int .i64 x.Said_, .int .i64 x.Bit_, .int .i64 x.Weight_, .int .i64 x.Grow_, .int .i64 x.Young_, .int .i64 x.Det_, .bool x.Began_, .bool x.Swapped_]) 8 (fun _ => rfl) (by intro x u hu; simp only [List.mem_cons, List.not_mem_nil, or_false] at hu; rcases hu with rfl | rfl | rfl | rfl | rfl | rfl | rfl | rfl <;> rfl)

def eTlaws_Reply : Enc Tlaws_Reply := eIso (ePair (eVal (Value.int .i64) (fun _ => rfl)) (ePair (eVal (Value.int .i64) (fun _ => rfl)) (ePair (eVal (Value.int .i64) (fun _ => rfl)) (ePair (eList (eVal (Value.int .i64) (fun _ => rfl)) 3) (ePair (eList (eVal (Value.int .u8) (fun _ => rfl)) 5) (eList (eTlaws_Step) 128)))))) (fun x => (x.Code_, x.At_, x.Says_, x.Votes_, x.Bytes_, x.Steps_))

theorem rdm_Tlaws_Reply {w : World} {X : List Nat} {x : Tlaws_Reply} {c0 c1 c2 c3 c4 c5 : List Value} (h0 : (eVal (Value.int .i64) (fun _ => rfl)).rd w X x.Code_ c0) (h1 : (eVal (Value.int .i64) (fun _ => rfl)).rd w X x.At_ c1) (h2 : (eVal (Value.int .i64) (fun _ => rfl)).rd w X x.Says_ c2) (h3 : (eList (eVal (Value.int .i64) (fun _ => rfl)) 3).rd w X x.Votes_ c3) (h4 : (eList (eVal (Value.int .u8) (fun _ => rfl)) 5).rd w X x.Bytes_ c4) (h5 : (eList (eTlaws_Step) 128).rd w X x.Steps_ c5) : (eTlaws_Reply).rd w X x (c0 ++ (c1 ++ (c2 ++ (c3 ++ (c4 ++ c5))))) := by
  show (ePair (eVal (Value.int .i64) (fun _ => rfl)) (ePair (eVal (Value.int .i64) (fun _ => rfl)) (ePair (eVal (Value.int .i64) (fun _ => rfl)) (ePair (eList (eVal (Value.int .i64) (fun _ => rfl)) 3) (ePair (eList (eVal (Value.int .u8) (fun _ => rfl)) 5) (eList (eTlaws_Step) 128)))))).rd w X (x.Code_, x.At_, x.Says_, x.Votes_, x.Bytes_, x.Steps_) _
  exact (ePair_rd h0 (ePair_rd h1 (ePair_rd h2 (ePair_rd h3 (ePair_rd h4 h5)))))

theorem rdo_Tlaws_Reply {w : World} {X : List Nat} {x : Tlaws_Reply} {cs : List Value} (h : (eTlaws_Reply).rd w X x cs) : ∃ c0 c1 c2 c3 c4 c5, cs = (c0 ++ (c1 ++ (c2 ++ (c3 ++ (c4 ++ c5))))) ∧ (eVal (Value.int .i64) (fun _ => rfl)).rd w X x.Code_ c0 ∧ (eVal (Value.int .i64) (fun _ => rfl)).rd w X x.At_ c1 ∧ (eVal (Value.int .i64) (fun _ => rfl)).rd w X x.Says_ c2 ∧ (eList (eVal (Value.int .i64) (fun _ => rfl)) 3).rd w X x.Votes_ c3 ∧ (eList (eVal (Value.int .u8) (fun _ => rfl)) 5).rd w X x.Bytes_ c4 ∧ (eList (eTlaws_Step) 128).rd w X x.Steps_ c5 := by
  have h : (ePair (eVal (Value.int .i64) (fun _ => rfl)) (ePair (eVal (Value.int .i64) (fun _ => rfl)) (ePair (eVal (Value.int .i64) (fun _ => rfl)) (ePair (eList (eVal (Value.int .i64) (fun _ => rfl)) 3) (ePair (eList (eVal (Value.int .u8) (fun _ => rfl)) 5) (eList (eTlaws_Step) 128)))))).rd w X (x.Code_, x.At_, x.Says_, x.Votes_, x.Bytes_, x.Steps_) cs := h
  obtain ⟨c0, d0, rfl, h0, r0⟩ := h
  obtain ⟨c1, d1, rfl, h1, r1⟩ := r0
  obtain ⟨c2, d2, rfl, h2, r2⟩ := r1
  obtain ⟨c3, d3, rfl, h3, r3⟩ := r2
  obtain ⟨c4, c5, rfl, h4, h5⟩ := r3
  exact ⟨c0, c1, c2, c3, c4, c5, rfl, h0, h1, h2, h3, h4, h5⟩

def eTimpl_Reply : Enc Timpl_Reply := eIso (ePair (eVal (Value.int .i64) (fun _ => rfl)) (ePair (eVal (Value.int .i64) (fun _ => rfl)) (ePair (eVal (Value.int .i64) (fun _ => rfl)) (ePair (eList (eVal (Value.int .i64) (fun _ => rfl)) 3) (ePair (eList (eVal (Value.int .u8) (fun _ => rfl)) 5) (eList (eTimpl_Step) 123)))))) (fun x => (x.Code_, x.At_, x.Says_, x.Votes_, x.Bytes_, x.Steps_))

theorem rdm_Timpl_Reply {w : World} {X : List Nat} {x : Timpl_Reply} {c0 c1 c2 c3 c4 c5 : List Value} (h0 : (eVal (Value.int .i64) (fun _ => rfl)).rd w X x.Code_ c0) (h1 : (eVal (Value.int .i64) (fun _ => rfl)).rd w X x.At_ c1) (h2 : (eVal (Value.int .i64) (fun _ => rfl)).rd w X x.Says_ c2) (h3 : (eList (eVal (Value.int .i64) (fun _ => rfl)) 3).rd w X x.Votes_ c3) (h4 : (eList (eVal (Value.int .u8) (fun _ => rfl)) 5).rd w X x.Bytes_ c4) (h5 : (eList (eTimpl_Step) 123).rd w X x.Steps_ c5) : (eTimpl_Reply).rd w X x (c0 ++ (c1 ++ (c2 ++ (c3 ++ (c4 ++ c5))))) := by
  show (ePair (eVal (Value.int .i64) (fun _ => rfl)) (ePair (eVal (Value.int .i64) (fun _ => rfl)) (ePair (eVal (Value.int .i64) (fun _ => rfl)) (ePair (eList (eVal (Value.int .i64) (fun _ => rfl)) 3) (ePair (eList (eVal (Value.int .u8) (fun _ => rfl)) 5) (eList (eTimpl_Step) 123)))))).rd w X (x.Code_, x.At_, x.Says_, x.Votes_, x.Bytes_, x.Steps_) _
  exact (ePair_rd h0 (ePair_rd h1 (ePair_rd h2 (ePair_rd h3 (ePair_rd h4 h5)))))

theorem rdo_Timpl_Reply {w : World} {X : List Nat} {x : Timpl_Reply} {cs : List Value} (h : (eTimpl_Reply).rd w X x cs) : ∃ c0 c1 c2 c3 c4 c5, cs = (c0 ++ (c1 ++ (c2 ++ (c3 ++ (c4 ++ c5))))) ∧ (eVal (Value.int .i64) (fun _ => rfl)).rd w X x.Code_ c0 ∧ (eVal (Value.int .i64) (fun _ => rfl)).rd w X x.At_ c1 ∧ (eVal (Value.int .i64) (fun _ => rfl)).rd w X x.Says_ c2 ∧ (eList (eVal (Value.int .i64) (fun _ => rfl)) 3).rd w X x.Votes_ c3 ∧ (eList (eVal (Value.int .u8) (fun _ => rfl)) 5).rd w X x.Bytes_ c4 ∧ (eList (eTimpl_Step) 123).rd w X x.Steps_ c5 := by
  have h : (ePair (eVal (Value.int .i64) (fun _ => rfl)) (ePair (eVal (Value.int .i64) (fun _ => rfl)) (ePair (eVal (Value.int .i64) (fun _ => rfl)) (ePair (eList (eVal (Value.int .i64) (fun _ => rfl)) 3) (ePair (eList (eVal (Value.int .u8) (fun _ => rfl)) 5) (eList (eTimpl_Step) 123)))))).rd w X (x.Code_, x.At_, x.Says_, x.Votes_, x.Bytes_, x.Steps_) cs := h
  obtain ⟨c0, d0, rfl, h0, r0⟩ := h
  obtain ⟨c1, d1, rfl, h1, r1⟩ := r0
  obtain ⟨c2, d2, rfl, h2, r2⟩ := r1
  obtain ⟨c3, d3, rfl, h3, r3⟩ := r2
  obtain ⟨c4, c5, rfl, h4, h5⟩ := r3
  exact ⟨c0, c1, c2, c3, c4, c5, rfl, h0, h1, h2, h3, h4, h5⟩

theorem sl22 : isSl Try.prog 22 3 := isSl_of (by kernel_rfl)

theorem st9 : isStr Try.prog 9 := isStr_of (by kernel_rfl)

theorem ty22 : isTy Try.prog 22 false 1 24 [.slice none 0 0] := isTy_of (by kernel_rfl)

theorem fn55 : isFn Try.prog 55 := ⟨Try.f55, Try.func55, rfl, by decide⟩

theorem ty3 : isTy Try.prog 3 false 1 8 [.int .i64 0] := isTy_of (by kernel_rfl)

theorem fn60 : isFn Try.prog 60 := ⟨Try.f60, Try.func60, rfl, by decide⟩

theorem mixed : Try.prog.follows .mixedOrders = true := by kernel_rfl

theorem fn64 : isFn Try.prog 64 := ⟨Try.f64, Try.func64, rfl, by decide⟩

theorem bl4 : isBl Try.prog 4 := isBl_of (by kernel_rfl)

theorem sl68 : isSl Try.prog 68 128 := isSl_of (by kernel_rfl)

theorem ty123 : isTy Try.prog 123 true 8 56 [.int .i64 0, .int .i64 0, .int .i64 0, .int .i64 0, .int .i64 0, .int .i64 0, .bool false, .bool false] := isTy_of (by kernel_rfl)

theorem fa128_0 : isFa Try.prog 128 0 0 := isFa_of (by kernel_rfl)

theorem fa123_0 : isFa Try.prog 123 0 0 := isFa_of (by kernel_rfl)

theorem fa128_1 : isFa Try.prog 128 1 1 := isFa_of (by kernel_rfl)

theorem fa123_1 : isFa Try.prog 123 1 1 := isFa_of (by kernel_rfl)

theorem fa128_2 : isFa Try.prog 128 2 2 := isFa_of (by kernel_rfl)

theorem fa123_2 : isFa Try.prog 123 2 2 := isFa_of (by kernel_rfl)

theorem fa128_3 : isFa Try.prog 128 3 3 := isFa_of (by kernel_rfl)

theorem fa123_3 : isFa Try.prog 123 3 3 := isFa_of (by kernel_rfl)

theorem fa128_4 : isFa Try.prog 128 4 4 := isFa_of (by kernel_rfl)

theorem fa123_4 : isFa Try.prog 123 4 4 := isFa_of (by kernel_rfl)

theorem fa128_5 : isFa Try.prog 128 5 5 := isFa_of (by kernel_rfl)

theorem fa123_5 : isFa Try.prog 123 5 5 := isFa_of (by kernel_rfl)

theorem fa128_6 : isFa Try.prog 128 6 6 := isFa_of (by kernel_rfl)

theorem ty4 : isTy Try.prog 4 false 1 1 [.bool false] := isTy_of (by kernel_rfl)

theorem fa123_6 : isFa Try.prog 123 6 6 := isFa_of (by kernel_rfl)

theorem fa128_7 : isFa Try.prog 128 7 7 := isFa_of (by kernel_rfl)

theorem fa123_7 : isFa Try.prog 123 7 7 := isFa_of (by kernel_rfl)

theorem sl74 : isSl Try.prog 74 123 := isSl_of (by kernel_rfl)

theorem ty128 : isTy Try.prog 128 true 8 56 [.int .i64 0, .int .i64 0, .int .i64 0, .int .i64 0, .int .i64 0, .int .i64 0, .bool false, .bool false] := isTy_of (by kernel_rfl)

theorem fn86 : isFn Try.prog 86 := ⟨Try.f86, Try.func86, rfl, by decide⟩

theorem fn92 : isFn Try.prog 92 := ⟨Try.f92, Try.func92, rfl, by decide⟩

theorem fn39 : isFn Try.prog 39 := ⟨Try.f39, Try.func39, rfl, by decide⟩

theorem sl82 : isSl Try.prog 82 5 := isSl_of (by kernel_rfl)

theorem fa84_3 : isFa Try.prog 84 3 3 := isFa_of (by kernel_rfl)

theorem fa84_4 : isFa Try.prog 84 4 4 := isFa_of (by kernel_rfl)

theorem ty82 : isTy Try.prog 82 false 1 24 [.slice none 0 0] := isTy_of (by kernel_rfl)

theorem fn97 : isFn Try.prog 97 := ⟨Try.f97, Try.func97, rfl, by decide⟩

theorem fa84_5 : isFa Try.prog 84 5 5 := isFa_of (by kernel_rfl)

theorem ty68 : isTy Try.prog 68 false 1 24 [.slice none 0 0] := isTy_of (by kernel_rfl)

theorem ty5 : isTy Try.prog 5 false 1 1 [.int .u8 0] := isTy_of (by kernel_rfl)

theorem ty88 : isTy Try.prog 88 true 6 96 [.int .i64 0, .int .i64 0, .int .i64 0, .slice none 0 0, .slice none 0 0, .slice none 0 0] := isTy_of (by kernel_rfl)

theorem fa84_0 : isFa Try.prog 84 0 0 := isFa_of (by kernel_rfl)

theorem fa88_0 : isFa Try.prog 88 0 0 := isFa_of (by kernel_rfl)

theorem fa84_1 : isFa Try.prog 84 1 1 := isFa_of (by kernel_rfl)

theorem fa88_1 : isFa Try.prog 88 1 1 := isFa_of (by kernel_rfl)

theorem fa84_2 : isFa Try.prog 84 2 2 := isFa_of (by kernel_rfl)

theorem fa88_2 : isFa Try.prog 88 2 2 := isFa_of (by kernel_rfl)

theorem fa88_3 : isFa Try.prog 88 3 3 := isFa_of (by kernel_rfl)

theorem fn99 : isFn Try.prog 99 := ⟨Try.f99, Try.func99, rfl, by decide⟩

theorem fa88_4 : isFa Try.prog 88 4 4 := isFa_of (by kernel_rfl)

theorem fn42 : isFn Try.prog 42 := ⟨Try.f42, Try.func42, rfl, by decide⟩

theorem fa88_5 : isFa Try.prog 88 5 5 := isFa_of (by kernel_rfl)

theorem ty74 : isTy Try.prog 74 false 1 24 [.slice none 0 0] := isTy_of (by kernel_rfl)

theorem fn98 : isFn Try.prog 98 := ⟨Try.f98, Try.func98, rfl, by decide⟩

theorem in5 : isInt Try.prog 5 .u8 := isInt_of (by kernel_rfl)

theorem se123 (a0 b0 : Int) (a1 b1 : Int) (a2 b2 : Int) (a3 b3 : Int) (a4 b4 : Int) (a5 b5 : Int) (a6 b6 : Bool) (a7 b7 : Bool) : eqSB Try.prog 123 [.int .i64 a0, .int .i64 a1, .int .i64 a2, .int .i64 a3, .int .i64 a4, .int .i64 a5, .bool a6, .bool a7] [.int .i64 b0, .int .i64 b1, .int .i64 b2, .int .i64 b3, .int .i64 b4, .int .i64 b5, .bool b6, .bool b7] = some (a0 == b0 && (a1 == b1 && (a2 == b2 && (a3 == b3 && (a4 == b4 && (a5 == b5 && (a6 == b6 && (a7 == b7 && true)))))))) := by kernel_rfl

theorem fn100 : isFn Try.prog 100 := ⟨Try.f100, Try.func100, rfl, by decide⟩

theorem fn101 : isFn Try.prog 101 := ⟨Try.f101, Try.func101, rfl, by decide⟩

theorem fn102 : isFn Try.prog 102 := ⟨Try.f102, Try.func102, rfl, by decide⟩

theorem fn103 : isFn Try.prog 103 := ⟨Try.f103, Try.func103, rfl, by decide⟩

theorem fn45 : isFn Try.prog 45 := ⟨Try.f45, Try.func45, rfl, by decide⟩

theorem ty84 : isTy Try.prog 84 true 6 96 [.int .i64 0, .int .i64 0, .int .i64 0, .slice none 0 0, .slice none 0 0, .slice none 0 0] := isTy_of (by kernel_rfl)

theorem fn50 : isFn Try.prog 50 := ⟨Try.f50, Try.func50, rfl, by decide⟩

theorem fn52 : isFn Try.prog 52 := ⟨Try.f52, Try.func52, rfl, by decide⟩

theorem fn51 : isFn Try.prog 51 := ⟨Try.f51, Try.func51, rfl, by decide⟩

theorem fn53 : isFn Try.prog 53 := ⟨Try.f53, Try.func53, rfl, by decide⟩

theorem fn54 : isFn Try.prog 54 := ⟨Try.f54, Try.func54, rfl, by decide⟩

set_option maxHeartbeats 4000000 in
set_option maxRecDepth 100000 in
theorem laws_szIntS_ok (w : World) {p0 : List Int} {p1 : Int} {a_0 : Option Addr} {n_0 c_0 : Nat} {r : Int} (H : laws_szIntS p0 p1 = some r)  (g0 : (eList (eVal (Value.int .i64) (fun _ => rfl)) 3).rd w [] p0 [.slice a_0 n_0 c_0]) :
    Calls Try.prog 55 #[.slice a_0 n_0 c_0, .int .i64 p1] w (fun en w' => en = .returned (.int .i64 r) ∧ Ext [] w w') := by
  obtain rfl := rd_n g0
  unfold laws_szIntS at H
  refine f_enter (vs := [.slice a_0 p0.length c_0, .int .i64 p1]) Try.func55 rfl Try.ntmps55 rfl (St.init w []) ?_
  refine c_seq ?_
  refine c_reg ?_
  refine ow_batch [.p] rfl ?_
  refine ow_nil ?_
  refine x_qs ?_
  refine c_seq ?_
  refine c_reg ?_
  refine ow_batch [.p, .p, .lenS 22 3 sl22, .p, .p] rfl ?_
  refine ow_nil ?_
  refine x_qs ?_
  refine c_seq ?_
  refine c_seq ?_
  refine c_reg ?_
  refine ow_batch [.p, .p] rfl ?_
  refine ow_nil ?_
  refine x_qs ?_
  refine c_if rfl (fun hb => ?_) (fun hb => ?_)
  · have H := of_if_t hb H
    refine c_seq ?_
    refine c_reg ?_
    refine ow_batch [.p] rfl ?_
    refine ow_nil ?_
    refine x_qs ?_
    refine c_ret ?_
    refine x_qs_ret ?_
    exact x_retR (rs := [.tmp 4]) (vs := [.int .i64 (-1)]) rfl ⟨rfl, trivial⟩ (fun w' hw' => by
        obtain rfl := of_some H
        exact ⟨rfl, hw'.ext⟩)
  · have H := of_if_f hb H
    refine c_skip ?_
    refine x_qs ?_
    refine c_seq ?_
    refine c_reg ?_
    refine ow_batch [.p, .p] rfl ?_
    refine ow_nil ?_
    refine x_qs ?_
    refine c_ret ?_
    exact x_retR (rs := [.tmp 4]) (vs := [.int .i64 (IntKind.i64.wrap (p1 - (p0.length : Int)))]) rfl ⟨rfl, trivial⟩ (fun w' hw' => by
        obtain rfl := of_some H
        exact ⟨rfl, hw'.ext⟩)

set_option maxHeartbeats 4000000 in
set_option maxRecDepth 100000 in
theorem laws_toIntS_ok (w : World) {M0 : List Nat} {p0 : List Int} {a_0 : Option Addr} {n_0 c_0 : Nat} {r : List Int} (H : laws_toIntS p0 = some r) (HS : St w M0 [] w) (g0 : (eList (eVal (Value.int .i64) (fun _ => rfl)) 3).rd w M0 p0 [.slice a_0 n_0 c_0]) :
    Calls Try.prog 60 #[.slice a_0 n_0 c_0] w (fun en w' => ∃ v, en = .returned v ∧ ∃ (a0 : Option Addr), ∃ (n0 : Nat), ∃ (c0 : Nat), ∃ (F0 : List Nat), v = .slice a0 n0 c0 ∧ St w M0 [Res.own (eList (eVal (Value.int .i64) (fun _ => rfl)) 3) F0 r [.slice a0 n0 c0]] w') := by
  obtain rfl := rd_n g0
  unfold laws_toIntS at H
  refine f_enter (vs := [.slice a_0 p0.length c_0]) Try.func60 rfl Try.ntmps60 rfl (HS) ?_
  refine c_seq ?_
  refine c_reg ?_
  refine ow_batch [.p] rfl ?_
  refine ow_nil ?_
  refine x_qs ?_
  refine c_seq ?_
  refine c_reg ?_
  refine ow_batch [.p, .lenS 22 3 sl22] rfl ?_
  obtain ⟨l1, h2, H⟩ := of_bind H
  refine ow_make (e := eVal (Value.int .i64) (fun _ => rfl)) (zero := (0 : Int)) rfl rfl rfl rfl rfl rfl sl22 ty3 rfl rfl rfl rfl (fun _ => ⟨rfl, rfl⟩) h2 (fun _ => kp) (fun b3 => ?_)
  refine ow_batch [.p] rfl ?_
  refine ow_nil ?_
  refine x_qs ?_
  refine c_seq ?_
  refine c_seq ?_
  refine c_reg ?_
  refine ow_batch [.p] rfl ?_
  refine ow_nil ?_
  refine x_qs ?_
  refine c_block ?_
  refine CW.at (loopI2 (fun (l10 : List Int) (i11 : Int) => St w M0 [Res.own (eList (eVal (Value.int .i64) (fun _ => rfl)) 3) [b3] l10 [.slice (some ⟨b3, 0, none⟩) l1.length l1.length]]) (fun (l10 : List Int) (i11 : Int) => [(0, .slice a_0 p0.length c_0), (3, .slice (some ⟨b3, 0, none⟩) l1.length l1.length), (4, .int .i64 i11)]) (fun kk => fun (l10 : List Int) (i11 : Int) => laws_toIntS_L1 p0 kk l10 i11 = some r) (fun _ _ H => ?_) (fun k1 ihk1 l10 i11 H => ?_) Fuel (l1) (0) (H)) (fun _ h => St.sel [0] rfl rfl h) ⟨rfl, rfl, rfl,  trivial⟩
  · unfold laws_toIntS_L1 at H
    exact absurd H (by simp)
  · unfold laws_toIntS_L1 at H
    refine c_seq ?_
    refine c_seq ?_
    refine c_reg ?_
    refine ow_batch [.p, .p, .lenS 22 3 sl22, .p] rfl ?_
    refine ow_nil ?_
    refine x_qs ?_
    refine c_if rfl (fun hb => ?_) (fun hb => ?_)
    · have H := of_if_t hb H
      refine c_skip ?_
      refine x_qs ?_
      refine c_seq ?_
      refine c_block ?_
      refine c_reg ?_
      refine ow_batch [.p, .p, .p, .p] rfl ?_
      obtain ⟨e18, h19, H⟩ := of_bind H
      refine ow_ixE (e := eVal (Value.int .i64) (fun _ => rfl)) (xs := p0) (j := i11) rfl rfl rfl rfl rfl sl22 ty3 rfl (fun w1 hw1 => rds_bor g0 w1 hw1) h19 (by rw [Nat.mul_one]) ?_
      refine ow_r rfl (dstOk_lt rfl) (ry_load1 rfl rfl ty3 (at_elV (fun w1 hw1 => rds_bor g0 w1 hw1) h19)) ?_
      obtain ⟨e20, h21, H⟩ := of_bind H
      refine ow_ixE (e := eVal (Value.int .i64) (fun _ => rfl)) (xs := l10) (j := i11) rfl rfl rfl rfl rfl sl22 ty3 rfl (fun w1 hw1 => rds_own (r := 0) rfl w1 hw1) h21 (by rw [Nat.mul_one]) ?_
      refine ow_storeV (i := 0) (j := i11) rfl rfl rfl rfl rfl rfl ty3 rfl h21 (fun _ => rfl) kp ?_
      refine ow_nil ?_
      refine x_qb ?_
      refine x_qs ?_
      refine c_reg ?_
      refine ow_batch [.p, .p, .p] rfl ?_
      refine ow_nil ?_
      exact x_ql (RW.at (ihk1 ((l10.set i11.toNat e18)) (IntKind.i64.wrap (i11 + 1)) (H)) (fun _ h => St.sel [0] rfl rfl h) ⟨rfl, rfl, rfl, trivial⟩)
    · have H := of_if_f hb H
      refine c_exit ?_
      refine x_qs_exit ?_
      refine x_ql_exit ?_
      refine x_qb_here ?_
      refine x_qs ?_
      refine c_seq ?_
      refine c_reg ?_
      refine ow_batch [.p, .p] rfl ?_
      refine ow_nil ?_
      refine x_qs ?_
      refine c_ret ?_
      exact x_retR (rs := [.tmp 2]) (vs := [.slice (some ⟨b3, 0, none⟩) l1.length l1.length]) rfl ⟨rfl, trivial⟩ (fun w' hw' => by
          obtain rfl := of_some H
          exact ⟨_, rfl, (some ⟨b3, 0, none⟩), l1.length, l1.length, [b3], rfl, hw'.sel [0] rfl rfl⟩)

set_option maxHeartbeats 4000000 in
set_option maxRecDepth 100000 in
theorem laws_eqIntS_ok (w : World) {p0 : List Int} {p1 : List Int} {a_0 : Option Addr} {n_0 c_0 : Nat} {a_1 : Option Addr} {n_1 c_1 : Nat} {r : Bool} (H : laws_eqIntS p0 p1 = some r)  (g0 : (eList (eVal (Value.int .i64) (fun _ => rfl)) 3).rd w [] p0 [.slice a_0 n_0 c_0]) (g1 : (eList (eVal (Value.int .i64) (fun _ => rfl)) 3).rd w [] p1 [.slice a_1 n_1 c_1]) :
    Calls Try.prog 64 #[.slice a_0 n_0 c_0, .slice a_1 n_1 c_1] w (fun en w' => en = .returned (.bool r) ∧ Ext [] w w') := by
  obtain rfl := rd_n g0
  obtain rfl := rd_n g1
  unfold laws_eqIntS at H
  refine f_enter (vs := [.slice a_0 p0.length c_0, .slice a_1 p1.length c_1]) Try.func64 rfl Try.ntmps64 rfl (St.init w []) ?_
  refine c_seq ?_
  refine c_reg ?_
  refine ow_batch [.p] rfl ?_
  refine ow_nil ?_
  refine x_qs ?_
  refine c_seq ?_
  refine c_seq ?_
  refine c_reg ?_
  refine ow_batch [.p, .lenS 22 3 sl22, .p, .lenS 22 3 sl22, .p] rfl ?_
  refine ow_nil ?_
  refine x_qs ?_
  refine c_if rfl (fun hb => ?_) (fun hb => ?_)
  · have H := of_if_t hb H
    refine c_seq ?_
    refine c_reg ?_
    refine ow_batch [.p] rfl ?_
    refine ow_nil ?_
    refine x_qs ?_
    refine c_ret ?_
    refine x_qs_ret ?_
    exact x_retR (rs := [.tmp 4]) (vs := [.bool false]) rfl ⟨rfl, trivial⟩ (fun w' hw' => by
        obtain rfl := of_some H
        exact ⟨rfl, hw'.ext⟩)
  · have H := of_if_f hb H
    refine c_skip ?_
    refine x_qs ?_
    refine c_seq ?_
    refine c_seq ?_
    refine c_reg ?_
    refine ow_batch [.p] rfl ?_
    refine ow_nil ?_
    refine x_qs ?_
    refine c_block ?_
    refine CW.at (loopI1 (fun (i6 : Int) => St w [] []) (fun (i6 : Int) => [(0, .slice a_0 p0.length c_0), (1, .slice a_1 p1.length c_1), (5, .int .i64 i6)]) (fun kk => fun (i6 : Int) => laws_eqIntS_L1 p0 p1 kk i6 = some r) (fun _ H => ?_) (fun k1 ihk1 i6 H => ?_) Fuel (0) (H)) (fun _ h => St.sel [] rfl rfl h) ⟨rfl, rfl, rfl,  trivial⟩
    · unfold laws_eqIntS_L1 at H
      exact absurd H (by simp)
    · unfold laws_eqIntS_L1 at H
      refine c_seq ?_
      refine c_seq ?_
      refine c_reg ?_
      refine ow_batch [.p, .p, .lenS 22 3 sl22, .p] rfl ?_
      refine ow_nil ?_
      refine x_qs ?_
      refine c_if rfl (fun hb => ?_) (fun hb => ?_)
      · have H := of_if_t hb H
        refine c_skip ?_
        refine x_qs ?_
        refine c_seq ?_
        refine c_block ?_
        refine c_seq ?_
        refine c_regQ mixed (by kernel_rfl) ?_
        refine ow_batch [.p, .p] rfl ?_
        obtain ⟨e12, h13, H⟩ := of_bind H
        refine ow_ixE (e := eVal (Value.int .i64) (fun _ => rfl)) (xs := p0) (j := i6) rfl rfl rfl rfl rfl sl22 ty3 rfl (fun w1 hw1 => rds_bor g0 w1 hw1) h13 (by rw [Nat.mul_one]) ?_
        refine ow_r rfl (dstOk_lt rfl) (ry_load1 rfl rfl ty3 (at_elV (fun w1 hw1 => rds_bor g0 w1 hw1) h13)) ?_
        refine ow_batch [.p, .p] rfl ?_
        obtain ⟨e14, h15, H⟩ := of_bind H
        refine ow_ixE (e := eVal (Value.int .i64) (fun _ => rfl)) (xs := p1) (j := i6) rfl rfl rfl rfl rfl sl22 ty3 rfl (fun w1 hw1 => rds_bor g1 w1 hw1) h15 (by rw [Nat.mul_one]) ?_
        refine ow_r rfl (dstOk_lt rfl) (ry_load1 rfl rfl ty3 (at_elV (fun w1 hw1 => rds_bor g1 w1 hw1) h15)) ?_
        refine ow_batch [.p] rfl ?_
        refine ow_nilQ ?_
        refine x_qs ?_
        refine c_if rfl (fun hb => ?_) (fun hb => ?_)
        · have H := of_if_t hb H
          refine c_seq ?_
          refine c_reg ?_
          refine ow_batch [.p] rfl ?_
          refine ow_nil ?_
          refine x_qs ?_
          refine c_ret ?_
          refine x_qb_ret ?_
          refine x_qs_ret ?_
          refine x_ql_ret ?_
          refine x_qb_ret ?_
          refine x_qs_ret ?_
          exact x_retR (rs := [.tmp 4]) (vs := [.bool false]) rfl ⟨rfl, trivial⟩ (fun w' hw' => by
              obtain rfl := of_some H
              exact ⟨rfl, hw'.ext⟩)
        · have H := of_if_f hb H
          refine c_skip ?_
          refine x_qb ?_
          refine x_qs ?_
          refine c_reg ?_
          refine ow_batch [.p, .p, .p] rfl ?_
          refine ow_nil ?_
          exact x_ql (RW.at (ihk1 (IntKind.i64.wrap (i6 + 1)) (H)) (fun _ h => St.sel [] rfl rfl h) ⟨rfl, rfl, rfl, trivial⟩)
      · have H := of_if_f hb H
        refine c_exit ?_
        refine x_qs_exit ?_
        refine x_ql_exit ?_
        refine x_qb_here ?_
        refine x_qs ?_
        refine c_seq ?_
        refine c_reg ?_
        refine ow_batch [.p] rfl ?_
        refine ow_nil ?_
        refine x_qs ?_
        refine c_ret ?_
        exact x_retR (rs := [.tmp 4]) (vs := [.bool true]) rfl ⟨rfl, trivial⟩ (fun w' hw' => by
            obtain rfl := of_some H
            exact ⟨rfl, hw'.ext⟩)

set_option maxHeartbeats 4000000 in
set_option maxRecDepth 100000 in
theorem laws_szStepS_ok (w : World) {p0 : List Tlaws_Step} {p1 : Int} {a_0 : Option Addr} {n_0 c_0 : Nat} {r : Int} (H : laws_szStepS p0 p1 = some r)  (g0 : (eList (eTlaws_Step) 128).rd w [] p0 [.slice a_0 n_0 c_0]) :
    Calls Try.prog 39 #[.slice a_0 n_0 c_0, .int .i64 p1] w (fun en w' => en = .returned (.int .i64 r) ∧ Ext [] w w') := by
  obtain rfl := rd_n g0
  unfold laws_szStepS at H
  refine f_enter (vs := [.slice a_0 p0.length c_0, .int .i64 p1]) Try.func39 rfl Try.ntmps39 rfl (St.init w []) ?_
  refine c_seq ?_
  refine c_reg ?_
  refine ow_batch [.p] rfl ?_
  refine ow_nil ?_
  refine x_qs ?_
  refine c_seq ?_
  refine c_reg ?_
  refine ow_batch [.p, .p, .lenS 68 128 sl68, .p, .p] rfl ?_
  refine ow_nil ?_
  refine x_qs ?_
  refine c_seq ?_
  refine c_seq ?_
  refine c_reg ?_
  refine ow_batch [.p, .p] rfl ?_
  refine ow_nil ?_
  refine x_qs ?_
  refine c_if rfl (fun hb => ?_) (fun hb => ?_)
  · have H := of_if_t hb H
    refine c_seq ?_
    refine c_reg ?_
    refine ow_batch [.p] rfl ?_
    refine ow_nil ?_
    refine x_qs ?_
    refine c_ret ?_
    refine x_qs_ret ?_
    exact x_retR (rs := [.tmp 4]) (vs := [.int .i64 (-1)]) rfl ⟨rfl, trivial⟩ (fun w' hw' => by
        obtain rfl := of_some H
        exact ⟨rfl, hw'.ext⟩)
  · have H := of_if_f hb H
    refine c_skip ?_
    refine x_qs ?_
    refine c_seq ?_
    refine c_reg ?_
    refine ow_batch [.p, .p] rfl ?_
    refine ow_nil ?_
    refine x_qs ?_
    refine c_ret ?_
    exact x_retR (rs := [.tmp 4]) (vs := [.int .i64 (IntKind.i64.wrap (p1 - (p0.length : Int)))]) rfl ⟨rfl, trivial⟩ (fun w' hw' => by
        obtain rfl := of_some H
        exact ⟨rfl, hw'.ext⟩)

set_option maxHeartbeats 4000000 in
set_option maxRecDepth 100000 in
theorem laws_toStep_ok (w : World) {p0 : Tlaws_Step}  {r : Timpl_Step} (H : laws_toStep p0 = some r)   :
    Calls Try.prog 86 #[.agg #[.int .i64 p0.Said_, .int .i64 p0.Bit_, .int .i64 p0.Weight_, .int .i64 p0.Grow_, .int .i64 p0.Young_, .int .i64 p0.Det_, .bool p0.Began_, .bool p0.Swapped_]] w (fun en w' => en = .returned (.agg #[.int .i64 r.Said_, .int .i64 r.Bit_, .int .i64 r.Weight_, .int .i64 r.Grow_, .int .i64 r.Young_, .int .i64 r.Det_, .bool r.Began_, .bool r.Swapped_]) ∧ Ext [] w w') := by
  unfold laws_toStep at H
  refine f_enter (vs := [.agg #[.int .i64 p0.Said_, .int .i64 p0.Bit_, .int .i64 p0.Weight_, .int .i64 p0.Grow_, .int .i64 p0.Young_, .int .i64 p0.Det_, .bool p0.Began_, .bool p0.Swapped_]]) Try.func86 rfl Try.ntmps86 rfl (St.init w []) ?_
  refine c_seq ?_
  refine c_reg ?_
  refine ow_box (cs := [.int .i64 p0.Said_, .int .i64 p0.Bit_, .int .i64 p0.Weight_, .int .i64 p0.Grow_, .int .i64 p0.Young_, .int .i64 p0.Det_, .bool p0.Began_, .bool p0.Swapped_]) rfl rfl rfl rfl rfl rfl (fun _ => kp) (fun b1 => ?_)
  refine ow_alloc rfl rfl rfl rfl ty123 (fun _ => kp) (fun b2 => ?_)
  refine ow_nil ?_
  refine x_qs ?_
  refine c_seq ?_
  refine c_reg ?_
  refine ow_alloc rfl rfl rfl rfl ty123 (fun _ => kp) (fun b3 => ?_)
  refine ow_nil ?_
  refine x_qs ?_
  refine c_seq ?_
  refine c_reg ?_
  refine ow_batch [.fa 128 0 0 fa128_0] rfl ?_
  refine ow_r rfl (dstOk_lt rfl) (ry_box1 (off := 0) rfl rfl ty3 (boxIn (i := 0) rfl) rfl) ?_
  refine ow_batch [.fa 123 0 0 fa123_0] rfl ?_
  refine ow_storeC (off := 0) [.int .i64 p0.Said_] [_, _, _, _, _, _, _, _] (i := 2) rfl rfl rfl rfl rfl rfl ty3 rfl rfl (by intro u hu; simp only [List.mem_cons, List.not_mem_nil, or_false] at hu; rcases hu with rfl <;> rfl) rfl rfl rfl kp ?_
  refine ow_nil ?_
  refine x_qs ?_
  refine c_seq ?_
  refine c_reg ?_
  refine ow_batch [.fa 128 1 1 fa128_1] rfl ?_
  refine ow_r rfl (dstOk_lt rfl) (ry_box1 (off := 1) rfl rfl ty3 (boxIn (i := 0) rfl) rfl) ?_
  refine ow_batch [.fa 123 1 1 fa123_1] rfl ?_
  refine ow_storeC (off := 1) [.int .i64 p0.Bit_] [_, _, _, _, _, _, _, _] (i := 2) rfl rfl rfl rfl rfl rfl ty3 rfl rfl (by intro u hu; simp only [List.mem_cons, List.not_mem_nil, or_false] at hu; rcases hu with rfl <;> rfl) rfl rfl rfl kp ?_
  refine ow_nil ?_
  refine x_qs ?_
  refine c_seq ?_
  refine c_reg ?_
  refine ow_batch [.fa 128 2 2 fa128_2] rfl ?_
  refine ow_r rfl (dstOk_lt rfl) (ry_box1 (off := 2) rfl rfl ty3 (boxIn (i := 0) rfl) rfl) ?_
  refine ow_batch [.fa 123 2 2 fa123_2] rfl ?_
  refine ow_storeC (off := 2) [.int .i64 p0.Weight_] [_, _, _, _, _, _, _, _] (i := 2) rfl rfl rfl rfl rfl rfl ty3 rfl rfl (by intro u hu; simp only [List.mem_cons, List.not_mem_nil, or_false] at hu; rcases hu with rfl <;> rfl) rfl rfl rfl kp ?_
  refine ow_nil ?_
  refine x_qs ?_
  refine c_seq ?_
  refine c_reg ?_
  refine ow_batch [.fa 128 3 3 fa128_3] rfl ?_
  refine ow_r rfl (dstOk_lt rfl) (ry_box1 (off := 3) rfl rfl ty3 (boxIn (i := 0) rfl) rfl) ?_
  refine ow_batch [.fa 123 3 3 fa123_3] rfl ?_
  refine ow_storeC (off := 3) [.int .i64 p0.Grow_] [_, _, _, _, _, _, _, _] (i := 2) rfl rfl rfl rfl rfl rfl ty3 rfl rfl (by intro u hu; simp only [List.mem_cons, List.not_mem_nil, or_false] at hu; rcases hu with rfl <;> rfl) rfl rfl rfl kp ?_
  refine ow_nil ?_
  refine x_qs ?_
  refine c_seq ?_
  refine c_reg ?_
  refine ow_batch [.fa 128 4 4 fa128_4] rfl ?_
  refine ow_r rfl (dstOk_lt rfl) (ry_box1 (off := 4) rfl rfl ty3 (boxIn (i := 0) rfl) rfl) ?_
  refine ow_batch [.fa 123 4 4 fa123_4] rfl ?_
  refine ow_storeC (off := 4) [.int .i64 p0.Young_] [_, _, _, _, _, _, _, _] (i := 2) rfl rfl rfl rfl rfl rfl ty3 rfl rfl (by intro u hu; simp only [List.mem_cons, List.not_mem_nil, or_false] at hu; rcases hu with rfl <;> rfl) rfl rfl rfl kp ?_
  refine ow_nil ?_
  refine x_qs ?_
  refine c_seq ?_
  refine c_reg ?_
  refine ow_batch [.fa 128 5 5 fa128_5] rfl ?_
  refine ow_r rfl (dstOk_lt rfl) (ry_box1 (off := 5) rfl rfl ty3 (boxIn (i := 0) rfl) rfl) ?_
  refine ow_batch [.fa 123 5 5 fa123_5] rfl ?_
  refine ow_storeC (off := 5) [.int .i64 p0.Det_] [_, _, _, _, _, _, _, _] (i := 2) rfl rfl rfl rfl rfl rfl ty3 rfl rfl (by intro u hu; simp only [List.mem_cons, List.not_mem_nil, or_false] at hu; rcases hu with rfl <;> rfl) rfl rfl rfl kp ?_
  refine ow_nil ?_
  refine x_qs ?_
  refine c_seq ?_
  refine CW.weak (C' := St w [] [_, _, _]) ?_ (fun _ h => St.sel [0, 1, 2] rfl rfl h)
  refine c_reg ?_
  refine ow_batch [.fa 128 6 6 fa128_6] rfl ?_
  refine ow_r rfl (dstOk_lt rfl) (ry_box1 (off := 6) rfl rfl ty4 (boxIn (i := 0) rfl) rfl) ?_
  refine ow_batch [.fa 123 6 6 fa123_6] rfl ?_
  refine ow_storeC (off := 6) [.bool p0.Began_] [_, _, _, _, _, _, _, _] (i := 2) rfl rfl rfl rfl rfl rfl ty4 rfl rfl (by intro u hu; simp only [List.mem_cons, List.not_mem_nil, or_false] at hu; rcases hu with rfl <;> rfl) rfl rfl rfl kp ?_
  refine ow_nil ?_
  refine x_qs ?_
  refine c_seq ?_
  refine c_reg ?_
  refine ow_batch [.fa 128 7 7 fa128_7] rfl ?_
  refine ow_r rfl (dstOk_lt rfl) (ry_box1 (off := 7) rfl rfl ty4 (boxIn (i := 0) rfl) rfl) ?_
  refine ow_batch [.fa 123 7 7 fa123_7] rfl ?_
  refine ow_storeC (off := 7) [.bool p0.Swapped_] [_, _, _, _, _, _, _, _] (i := 2) rfl rfl rfl rfl rfl rfl ty4 rfl rfl (by intro u hu; simp only [List.mem_cons, List.not_mem_nil, or_false] at hu; rcases hu with rfl <;> rfl) rfl rfl rfl kp ?_
  refine ow_nil ?_
  refine x_qs ?_
  refine c_seq ?_
  refine c_reg ?_
  refine ow_r rfl (dstOk_lt rfl) (ry_box (off := 0) (ds := [.int .i64 p0.Said_, .int .i64 p0.Bit_, .int .i64 p0.Weight_, .int .i64 p0.Grow_, .int .i64 p0.Young_, .int .i64 p0.Det_, .bool p0.Began_, .bool p0.Swapped_]) rfl rfl ty123 (boxIn (i := 2) rfl) rfl rfl) ?_
  refine ow_storeC (off := 0) [.int .i64 p0.Said_, .int .i64 p0.Bit_, .int .i64 p0.Weight_, .int .i64 p0.Grow_, .int .i64 p0.Young_, .int .i64 p0.Det_, .bool p0.Began_, .bool p0.Swapped_] [_, _, _, _, _, _, _, _] (i := 1) rfl rfl rfl rfl rfl rfl ty123 rfl rfl (by intro u hu; simp only [List.mem_cons, List.not_mem_nil, or_false] at hu; rcases hu with rfl | rfl | rfl | rfl | rfl | rfl | rfl | rfl <;> rfl) rfl rfl rfl kp ?_
  refine ow_nil ?_
  refine x_qs ?_
  refine c_ret ?_
  exact x_retR (rs := [.cell 2 123]) (vs := [.agg #[.int .i64 p0.Said_, .int .i64 p0.Bit_, .int .i64 p0.Weight_, .int .i64 p0.Grow_, .int .i64 p0.Young_, .int .i64 p0.Det_, .bool p0.Began_, .bool p0.Swapped_]]) rfl ⟨⟨_, [.int .i64 p0.Said_, .int .i64 p0.Bit_, .int .i64 p0.Weight_, .int .i64 p0.Grow_, .int .i64 p0.Young_, .int .i64 p0.Det_, .bool p0.Began_, .bool p0.Swapped_], _, _, _, rfl, ty123, (at_box (T := 123) 0 (boxIn (i := 1) rfl) rfl), rfl, rfl⟩, trivial⟩ (fun w' hw' => by
      obtain rfl := of_some H
      exact ⟨rfl, hw'.ext⟩)

set_option maxHeartbeats 4000000 in
set_option maxRecDepth 100000 in
theorem laws_toStepS_ok (w : World) {M0 : List Nat} {p0 : List Tlaws_Step} {a_0 : Option Addr} {n_0 c_0 : Nat} {r : List Timpl_Step} (H : laws_toStepS p0 = some r) (HS : St w M0 [] w) (g0 : (eList (eTlaws_Step) 128).rd w M0 p0 [.slice a_0 n_0 c_0]) :
    Calls Try.prog 42 #[.slice a_0 n_0 c_0] w (fun en w' => ∃ v, en = .returned v ∧ ∃ (a0 : Option Addr), ∃ (n0 : Nat), ∃ (c0 : Nat), ∃ (F0 : List Nat), v = .slice a0 n0 c0 ∧ St w M0 [Res.own (eList (eTimpl_Step) 123) F0 r [.slice a0 n0 c0]] w') := by
  obtain rfl := rd_n g0
  unfold laws_toStepS at H
  refine f_enter (vs := [.slice a_0 p0.length c_0]) Try.func42 rfl Try.ntmps42 rfl (HS) ?_
  refine c_seq ?_
  refine c_reg ?_
  refine ow_batch [.p] rfl ?_
  refine ow_nil ?_
  refine x_qs ?_
  refine c_seq ?_
  refine c_reg ?_
  refine ow_batch [.p, .lenS 68 128 sl68] rfl ?_
  obtain ⟨l1, h2, H⟩ := of_bind H
  refine ow_make (e := eTimpl_Step) (zero := ((Timpl_Step.mk 0 0 0 0 0 0 false false) : Timpl_Step)) rfl rfl rfl rfl rfl rfl sl74 ty123 rfl rfl rfl rfl (fun _ => ⟨rfl, rfl⟩) h2 (fun _ => kp) (fun b3 => ?_)
  refine ow_batch [.p] rfl ?_
  refine ow_nil ?_
  refine x_qs ?_
  refine c_seq ?_
  refine c_seq ?_
  refine c_reg ?_
  refine ow_batch [.p] rfl ?_
  refine ow_nil ?_
  refine x_qs ?_
  refine c_block ?_
  refine CW.at (loopI3 (fun (l21 : List Timpl_Step) (F22 : List Nat) (i23 : Int) => St w M0 [Res.own (eList (eTimpl_Step) 123) F22 l21 [.slice (some ⟨b3, 0, none⟩) l1.length l1.length]]) (fun (l21 : List Timpl_Step) (F22 : List Nat) (i23 : Int) => [(0, .slice a_0 p0.length c_0), (3, .slice (some ⟨b3, 0, none⟩) l1.length l1.length), (4, .int .i64 i23)]) (fun kk => fun (l21 : List Timpl_Step) (F22 : List Nat) (i23 : Int) => laws_toStepS_L1 p0 kk l21 i23 = some r) (fun _ _ _ H => ?_) (fun k1 ihk1 l21 F22 i23 H => ?_) Fuel (l1) ([b3]) (0) (H)) (fun _ h => St.sel [0] rfl rfl h) ⟨rfl, rfl, rfl,  trivial⟩
  · unfold laws_toStepS_L1 at H
    exact absurd H (by simp)
  · unfold laws_toStepS_L1 at H
    refine c_seq ?_
    refine c_seq ?_
    refine c_reg ?_
    refine ow_batch [.p, .p, .lenS 68 128 sl68, .p] rfl ?_
    refine ow_nil ?_
    refine x_qs ?_
    refine c_if rfl (fun hb => ?_) (fun hb => ?_)
    · have H := of_if_t hb H
      refine c_skip ?_
      refine x_qs ?_
      refine c_seq ?_
      refine c_block ?_
      refine c_reg ?_
      refine ow_batch [.p, .p, .p, .p] rfl ?_
      obtain ⟨e41, h42, H⟩ := of_bind H
      refine ow_ixE (e := eTlaws_Step) (xs := p0) (j := i23) rfl rfl rfl rfl rfl sl68 ty128 rfl (fun w1 hw1 => rds_bor g0 w1 hw1) h42 rfl ?_
      refine ow_r rfl (dstOk_lt rfl) (ry_load (cs := [.int .i64 e41.Said_, .int .i64 e41.Bit_, .int .i64 e41.Weight_, .int .i64 e41.Grow_, .int .i64 e41.Young_, .int .i64 e41.Det_, .bool e41.Began_, .bool e41.Swapped_]) rfl rfl ty128 (at_castA (at_eltE (fun w1 hw1 => rds_bor g0 w1 hw1) h42 (fun _ _ h => h)) rfl) rfl) ?_
      obtain ⟨y43, h44, H⟩ := of_bind H
      refine ow_q rfl rfl (dstOk_lt rfl) (qy_call rfl fn86 rfl (fun w1 hw1 => laws_toStep_ok w1 (p0 := e41) h44)) (fun _ _ => trivial) ?_
      obtain ⟨e45, h46, H⟩ := of_bind H
      refine ow_ex4 rfl (fun w1 hw1 => foc (r := 0) hw1 rfl h46) (fun b48 G49 F50 c51 => ?_)
      refine ow_fact rfl (fun w1 hw1 => hw1.1) (fun q47 => ?_)
      obtain ⟨ha52, hn53⟩ := q47
      refine ow_st (C' := St w M0 [_, _, _]) rfl (fun w1 hw1 => hw1.2) ?_
      refine ow_fact rfl (fun w1 hw1 => opn_flat (i := 2) hw1 rfl) (fun q47 => ?_)
      obtain ⟨rfl, rfl⟩ := q47
      refine ow_st (C' := St w M0 [_, _]) rfl (fun w1 hw1 => St.mask [true, true] rfl hw1) ?_
      refine ow_ixH rfl rfl rfl rfl rfl sl74 ty123 rfl (holeIn (p := 1) rfl) hn53 ha52 (idx_some h46).1 ?_
      refine ow_storeH (off := 0) [.int .i64 y43.Said_, .int .i64 y43.Bit_, .int .i64 y43.Weight_, .int .i64 y43.Grow_, .int .i64 y43.Young_, .int .i64 y43.Det_, .bool y43.Began_, .bool y43.Swapped_] (p := 1) (c' := [_, _, _, _, _, _, _, _]) rfl rfl rfl rfl rfl (by first | rfl | simp only [add_lit, add_add, add_zero]) rfl ty123 rfl rfl (by intro u hu; simp only [List.mem_cons, List.not_mem_nil, or_false] at hu; rcases hu with rfl | rfl | rfl | rfl | rfl | rfl | rfl | rfl <;> rfl) rfl rfl rfl kp ?_
      refine ow_nil ?_
      refine x_qb ?_
      refine x_qs ?_
      refine c_reg ?_
      refine ow_batch [.p, .p, .p] rfl ?_
      refine ow_nil ?_
      refine xw_st (fun _ h => St.push0 h (Res.own (eTimpl_Step) [] y43 [.int .i64 y43.Said_, .int .i64 y43.Bit_, .int .i64 y43.Weight_, .int .i64 y43.Grow_, .int .i64 y43.Young_, .int .i64 y43.Det_, .bool y43.Began_, .bool y43.Swapped_]) rfl ⟨rfl, rfl⟩) ?_
      refine xw_ex (fun w1 hw1 => unf (p := 1) (q := 2) hw1 rfl rfl rfl hn53 ha52) (fun F54 => ?_)
      refine xw_st (C' := St w M0 [_, _, _, _]) (fun _ h => h) ?_
      exact x_ql (RW.at (ihk1 ((l21.set i23.toNat y43)) (F54) (IntKind.i64.wrap (i23 + 1)) (H)) (fun _ h => St.sel [3] rfl rfl h) ⟨rfl, rfl, rfl, trivial⟩)
    · have H := of_if_f hb H
      refine c_exit ?_
      refine x_qs_exit ?_
      refine x_ql_exit ?_
      refine x_qb_here ?_
      refine x_qs ?_
      refine c_seq ?_
      refine c_reg ?_
      refine ow_batch [.p, .p] rfl ?_
      refine ow_nil ?_
      refine x_qs ?_
      refine c_ret ?_
      exact x_retR (rs := [.tmp 2]) (vs := [.slice (some ⟨b3, 0, none⟩) l1.length l1.length]) rfl ⟨rfl, trivial⟩ (fun w' hw' => by
          obtain rfl := of_some H
          exact ⟨_, rfl, (some ⟨b3, 0, none⟩), l1.length, l1.length, F22, rfl, hw'.sel [0] rfl rfl⟩)

set_option maxHeartbeats 4000000 in
set_option maxRecDepth 100000 in
theorem laws_eqStep_ok (w : World) {p0 : Timpl_Step} {p1 : Timpl_Step}  {r : Bool} (H : laws_eqStep p0 p1 = some r)   :
    Calls Try.prog 92 #[.agg #[.int .i64 p0.Said_, .int .i64 p0.Bit_, .int .i64 p0.Weight_, .int .i64 p0.Grow_, .int .i64 p0.Young_, .int .i64 p0.Det_, .bool p0.Began_, .bool p0.Swapped_], .agg #[.int .i64 p1.Said_, .int .i64 p1.Bit_, .int .i64 p1.Weight_, .int .i64 p1.Grow_, .int .i64 p1.Young_, .int .i64 p1.Det_, .bool p1.Began_, .bool p1.Swapped_]] w (fun en w' => en = .returned (.bool r) ∧ Ext [] w w') := by
  unfold laws_eqStep at H
  refine f_enter (vs := [.agg #[.int .i64 p0.Said_, .int .i64 p0.Bit_, .int .i64 p0.Weight_, .int .i64 p0.Grow_, .int .i64 p0.Young_, .int .i64 p0.Det_, .bool p0.Began_, .bool p0.Swapped_], .agg #[.int .i64 p1.Said_, .int .i64 p1.Bit_, .int .i64 p1.Weight_, .int .i64 p1.Grow_, .int .i64 p1.Young_, .int .i64 p1.Det_, .bool p1.Began_, .bool p1.Swapped_]]) Try.func92 rfl Try.ntmps92 rfl (St.init w []) ?_
  refine c_seq ?_
  refine c_reg ?_
  refine ow_box (cs := [.int .i64 p0.Said_, .int .i64 p0.Bit_, .int .i64 p0.Weight_, .int .i64 p0.Grow_, .int .i64 p0.Young_, .int .i64 p0.Det_, .bool p0.Began_, .bool p0.Swapped_]) rfl rfl rfl rfl rfl rfl (fun _ => kp) (fun b1 => ?_)
  refine ow_box (cs := [.int .i64 p1.Said_, .int .i64 p1.Bit_, .int .i64 p1.Weight_, .int .i64 p1.Grow_, .int .i64 p1.Young_, .int .i64 p1.Det_, .bool p1.Began_, .bool p1.Swapped_]) rfl rfl rfl rfl rfl rfl (fun _ => kp) (fun b2 => ?_)
  refine ow_batch [.p] rfl ?_
  refine ow_nil ?_
  refine x_qs ?_
  refine c_seq ?_
  refine c_seq ?_
  refine c_reg ?_
  refine ow_batch [.fa 123 0 0 fa123_0] rfl ?_
  refine ow_r rfl (dstOk_lt rfl) (ry_box1 (off := 0) rfl rfl ty3 (boxIn (i := 0) rfl) rfl) ?_
  refine ow_batch [.fa 123 0 0 fa123_0] rfl ?_
  refine ow_r rfl (dstOk_lt rfl) (ry_box1 (off := 0) rfl rfl ty3 (boxIn (i := 1) rfl) rfl) ?_
  refine ow_batch [.p] rfl ?_
  refine ow_nil ?_
  refine x_qs ?_
  refine c_if rfl (fun hb => ?_) (fun hb => ?_)
  · have H := of_if_t hb H
    refine c_seq ?_
    refine c_reg ?_
    refine ow_batch [.p] rfl ?_
    refine ow_nil ?_
    refine x_qs ?_
    refine c_ret ?_
    refine x_qs_ret ?_
    exact x_retR (rs := [.tmp 4]) (vs := [.bool false]) rfl ⟨rfl, trivial⟩ (fun w' hw' => by
        obtain rfl := of_some H
        exact ⟨rfl, hw'.ext⟩)
  · have H := of_if_f hb H
    refine c_skip ?_
    refine x_qs ?_
    refine c_seq ?_
    refine c_seq ?_
    refine c_reg ?_
    refine ow_batch [.fa 123 1 1 fa123_1] rfl ?_
    refine ow_r rfl (dstOk_lt rfl) (ry_box1 (off := 1) rfl rfl ty3 (boxIn (i := 0) rfl) rfl) ?_
    refine ow_batch [.fa 123 1 1 fa123_1] rfl ?_
    refine ow_r rfl (dstOk_lt rfl) (ry_box1 (off := 1) rfl rfl ty3 (boxIn (i := 1) rfl) rfl) ?_
    refine ow_batch [.p] rfl ?_
    refine ow_nil ?_
    refine x_qs ?_
    refine c_if rfl (fun hb => ?_) (fun hb => ?_)
    · have H := of_if_t hb H
      refine c_seq ?_
      refine c_reg ?_
      refine ow_batch [.p] rfl ?_
      refine ow_nil ?_
      refine x_qs ?_
      refine c_ret ?_
      refine x_qs_ret ?_
      exact x_retR (rs := [.tmp 4]) (vs := [.bool false]) rfl ⟨rfl, trivial⟩ (fun w' hw' => by
          obtain rfl := of_some H
          exact ⟨rfl, hw'.ext⟩)
    · have H := of_if_f hb H
      refine c_skip ?_
      refine x_qs ?_
      refine c_seq ?_
      refine c_seq ?_
      refine c_reg ?_
      refine ow_batch [.fa 123 2 2 fa123_2] rfl ?_
      refine ow_r rfl (dstOk_lt rfl) (ry_box1 (off := 2) rfl rfl ty3 (boxIn (i := 0) rfl) rfl) ?_
      refine ow_batch [.fa 123 2 2 fa123_2] rfl ?_
      refine ow_r rfl (dstOk_lt rfl) (ry_box1 (off := 2) rfl rfl ty3 (boxIn (i := 1) rfl) rfl) ?_
      refine ow_batch [.p] rfl ?_
      refine ow_nil ?_
      refine x_qs ?_
      refine c_if rfl (fun hb => ?_) (fun hb => ?_)
      · have H := of_if_t hb H
        refine c_seq ?_
        refine c_reg ?_
        refine ow_batch [.p] rfl ?_
        refine ow_nil ?_
        refine x_qs ?_
        refine c_ret ?_
        refine x_qs_ret ?_
        exact x_retR (rs := [.tmp 4]) (vs := [.bool false]) rfl ⟨rfl, trivial⟩ (fun w' hw' => by
            obtain rfl := of_some H
            exact ⟨rfl, hw'.ext⟩)
      · have H := of_if_f hb H
        refine c_skip ?_
        refine x_qs ?_
        refine c_seq ?_
        refine c_seq ?_
        refine c_reg ?_
        refine ow_batch [.fa 123 3 3 fa123_3] rfl ?_
        refine ow_r rfl (dstOk_lt rfl) (ry_box1 (off := 3) rfl rfl ty3 (boxIn (i := 0) rfl) rfl) ?_
        refine ow_batch [.fa 123 3 3 fa123_3] rfl ?_
        refine ow_r rfl (dstOk_lt rfl) (ry_box1 (off := 3) rfl rfl ty3 (boxIn (i := 1) rfl) rfl) ?_
        refine ow_batch [.p] rfl ?_
        refine ow_nil ?_
        refine x_qs ?_
        refine c_if rfl (fun hb => ?_) (fun hb => ?_)
        · have H := of_if_t hb H
          refine c_seq ?_
          refine c_reg ?_
          refine ow_batch [.p] rfl ?_
          refine ow_nil ?_
          refine x_qs ?_
          refine c_ret ?_
          refine x_qs_ret ?_
          exact x_retR (rs := [.tmp 4]) (vs := [.bool false]) rfl ⟨rfl, trivial⟩ (fun w' hw' => by
              obtain rfl := of_some H
              exact ⟨rfl, hw'.ext⟩)
        · have H := of_if_f hb H
          refine c_skip ?_
          refine x_qs ?_
          refine c_seq ?_
          refine c_seq ?_
          refine c_reg ?_
          refine ow_batch [.fa 123 4 4 fa123_4] rfl ?_
          refine ow_r rfl (dstOk_lt rfl) (ry_box1 (off := 4) rfl rfl ty3 (boxIn (i := 0) rfl) rfl) ?_
          refine ow_batch [.fa 123 4 4 fa123_4] rfl ?_
          refine ow_r rfl (dstOk_lt rfl) (ry_box1 (off := 4) rfl rfl ty3 (boxIn (i := 1) rfl) rfl) ?_
          refine ow_batch [.p] rfl ?_
          refine ow_nil ?_
          refine x_qs ?_
          refine c_if rfl (fun hb => ?_) (fun hb => ?_)
          · have H := of_if_t hb H
            refine c_seq ?_
            refine c_reg ?_
            refine ow_batch [.p] rfl ?_
            refine ow_nil ?_
            refine x_qs ?_
            refine c_ret ?_
            refine x_qs_ret ?_
            exact x_retR (rs := [.tmp 4]) (vs := [.bool false]) rfl ⟨rfl, trivial⟩ (fun w' hw' => by
                obtain rfl := of_some H
                exact ⟨rfl, hw'.ext⟩)
          · have H := of_if_f hb H
            refine c_skip ?_
            refine x_qs ?_
            refine c_seq ?_
            refine c_seq ?_
            refine c_reg ?_
            refine ow_batch [.fa 123 5 5 fa123_5] rfl ?_
            refine ow_r rfl (dstOk_lt rfl) (ry_box1 (off := 5) rfl rfl ty3 (boxIn (i := 0) rfl) rfl) ?_
            refine ow_batch [.fa 123 5 5 fa123_5] rfl ?_
            refine ow_r rfl (dstOk_lt rfl) (ry_box1 (off := 5) rfl rfl ty3 (boxIn (i := 1) rfl) rfl) ?_
            refine ow_batch [.p] rfl ?_
            refine ow_nil ?_
            refine x_qs ?_
            refine c_if rfl (fun hb => ?_) (fun hb => ?_)
            · have H := of_if_t hb H
              refine c_seq ?_
              refine c_reg ?_
              refine ow_batch [.p] rfl ?_
              refine ow_nil ?_
              refine x_qs ?_
              refine c_ret ?_
              refine x_qs_ret ?_
              exact x_retR (rs := [.tmp 4]) (vs := [.bool false]) rfl ⟨rfl, trivial⟩ (fun w' hw' => by
                  obtain rfl := of_some H
                  exact ⟨rfl, hw'.ext⟩)
            · have H := of_if_f hb H
              refine c_skip ?_
              refine x_qs ?_
              refine c_seq ?_
              refine c_seq ?_
              refine c_reg ?_
              refine ow_batch [.fa 123 6 6 fa123_6] rfl ?_
              refine ow_r rfl (dstOk_lt rfl) (ry_box1 (off := 6) rfl rfl ty4 (boxIn (i := 0) rfl) rfl) ?_
              refine ow_batch [.fa 123 6 6 fa123_6] rfl ?_
              refine ow_r rfl (dstOk_lt rfl) (ry_box1 (off := 6) rfl rfl ty4 (boxIn (i := 1) rfl) rfl) ?_
              refine ow_r rfl (dstOk_lt rfl) (ry_bneq rfl rfl rfl bl4) ?_
              refine ow_nil ?_
              refine x_qs ?_
              refine c_if rfl (fun hb => ?_) (fun hb => ?_)
              · have H := of_if_t hb H
                refine c_seq ?_
                refine c_reg ?_
                refine ow_batch [.p] rfl ?_
                refine ow_nil ?_
                refine x_qs ?_
                refine c_ret ?_
                refine x_qs_ret ?_
                exact x_retR (rs := [.tmp 4]) (vs := [.bool false]) rfl ⟨rfl, trivial⟩ (fun w' hw' => by
                    obtain rfl := of_some H
                    exact ⟨rfl, hw'.ext⟩)
              · have H := of_if_f hb H
                refine c_skip ?_
                refine x_qs ?_
                refine c_seq ?_
                refine c_seq ?_
                refine c_reg ?_
                refine ow_batch [.fa 123 7 7 fa123_7] rfl ?_
                refine ow_r rfl (dstOk_lt rfl) (ry_box1 (off := 7) rfl rfl ty4 (boxIn (i := 0) rfl) rfl) ?_
                refine ow_batch [.fa 123 7 7 fa123_7] rfl ?_
                refine ow_r rfl (dstOk_lt rfl) (ry_box1 (off := 7) rfl rfl ty4 (boxIn (i := 1) rfl) rfl) ?_
                refine ow_r rfl (dstOk_lt rfl) (ry_bneq rfl rfl rfl bl4) ?_
                refine ow_nil ?_
                refine x_qs ?_
                refine c_if rfl (fun hb => ?_) (fun hb => ?_)
                · have H := of_if_t hb H
                  refine c_seq ?_
                  refine c_reg ?_
                  refine ow_batch [.p] rfl ?_
                  refine ow_nil ?_
                  refine x_qs ?_
                  refine c_ret ?_
                  refine x_qs_ret ?_
                  exact x_retR (rs := [.tmp 4]) (vs := [.bool false]) rfl ⟨rfl, trivial⟩ (fun w' hw' => by
                      obtain rfl := of_some H
                      exact ⟨rfl, hw'.ext⟩)
                · have H := of_if_f hb H
                  refine c_skip ?_
                  refine x_qs ?_
                  refine c_seq ?_
                  refine c_reg ?_
                  refine ow_batch [.p] rfl ?_
                  refine ow_nil ?_
                  refine x_qs ?_
                  refine c_ret ?_
                  exact x_retR (rs := [.tmp 4]) (vs := [.bool true]) rfl ⟨rfl, trivial⟩ (fun w' hw' => by
                      obtain rfl := of_some H
                      exact ⟨rfl, hw'.ext⟩)

set_option maxHeartbeats 4000000 in
set_option maxRecDepth 100000 in
theorem laws_eqStepS_ok (w : World) {p0 : List Timpl_Step} {p1 : List Timpl_Step} {a_0 : Option Addr} {n_0 c_0 : Nat} {a_1 : Option Addr} {n_1 c_1 : Nat} {r : Bool} (H : laws_eqStepS p0 p1 = some r)  (g0 : (eList (eTimpl_Step) 123).rd w [] p0 [.slice a_0 n_0 c_0]) (g1 : (eList (eTimpl_Step) 123).rd w [] p1 [.slice a_1 n_1 c_1]) :
    Calls Try.prog 45 #[.slice a_0 n_0 c_0, .slice a_1 n_1 c_1] w (fun en w' => en = .returned (.bool r) ∧ Ext [] w w') := by
  obtain rfl := rd_n g0
  obtain rfl := rd_n g1
  unfold laws_eqStepS at H
  refine f_enter (vs := [.slice a_0 p0.length c_0, .slice a_1 p1.length c_1]) Try.func45 rfl Try.ntmps45 rfl (St.init w []) ?_
  refine c_seq ?_
  refine c_reg ?_
  refine ow_batch [.p] rfl ?_
  refine ow_nil ?_
  refine x_qs ?_
  refine c_seq ?_
  refine c_seq ?_
  refine c_reg ?_
  refine ow_batch [.p, .lenS 74 123 sl74, .p, .lenS 74 123 sl74, .p] rfl ?_
  refine ow_nil ?_
  refine x_qs ?_
  refine c_if rfl (fun hb => ?_) (fun hb => ?_)
  · have H := of_if_t hb H
    refine c_seq ?_
    refine c_reg ?_
    refine ow_batch [.p] rfl ?_
    refine ow_nil ?_
    refine x_qs ?_
    refine c_ret ?_
    refine x_qs_ret ?_
    exact x_retR (rs := [.tmp 4]) (vs := [.bool false]) rfl ⟨rfl, trivial⟩ (fun w' hw' => by
        obtain rfl := of_some H
        exact ⟨rfl, hw'.ext⟩)
  · have H := of_if_f hb H
    refine c_skip ?_
    refine x_qs ?_
    refine c_seq ?_
    refine c_seq ?_
    refine c_reg ?_
    refine ow_batch [.p] rfl ?_
    refine ow_nil ?_
    refine x_qs ?_
    refine c_block ?_
    refine CW.at (loopI1 (fun (i9 : Int) => St w [] []) (fun (i9 : Int) => [(0, .slice a_0 p0.length c_0), (1, .slice a_1 p1.length c_1), (5, .int .i64 i9)]) (fun kk => fun (i9 : Int) => laws_eqStepS_L1 p0 p1 kk i9 = some r) (fun _ H => ?_) (fun k1 ihk1 i9 H => ?_) Fuel (0) (H)) (fun _ h => St.sel [] rfl rfl h) ⟨rfl, rfl, rfl,  trivial⟩
    · unfold laws_eqStepS_L1 at H
      exact absurd H (by simp)
    · unfold laws_eqStepS_L1 at H
      refine c_seq ?_
      refine c_seq ?_
      refine c_reg ?_
      refine ow_batch [.p, .p, .lenS 74 123 sl74, .p] rfl ?_
      refine ow_nil ?_
      refine x_qs ?_
      refine c_if rfl (fun hb => ?_) (fun hb => ?_)
      · have H := of_if_t hb H
        refine c_skip ?_
        refine x_qs ?_
        refine c_seq ?_
        refine c_block ?_
        refine c_seq ?_
        refine c_regQ mixed (by kernel_rfl) ?_
        refine ow_batch [.p, .p] rfl ?_
        obtain ⟨e18, h19, H⟩ := of_bind H
        refine ow_ixE (e := eTimpl_Step) (xs := p0) (j := i9) rfl rfl rfl rfl rfl sl74 ty123 rfl (fun w1 hw1 => rds_bor g0 w1 hw1) h19 rfl ?_
        refine ow_r rfl (dstOk_lt rfl) (ry_load (cs := [.int .i64 e18.Said_, .int .i64 e18.Bit_, .int .i64 e18.Weight_, .int .i64 e18.Grow_, .int .i64 e18.Young_, .int .i64 e18.Det_, .bool e18.Began_, .bool e18.Swapped_]) rfl rfl ty123 (at_castA (at_eltE (fun w1 hw1 => rds_bor g0 w1 hw1) h19 (fun _ _ h => h)) rfl) rfl) ?_
        refine ow_batch [.p, .p] rfl ?_
        obtain ⟨e20, h21, H⟩ := of_bind H
        refine ow_ixE (e := eTimpl_Step) (xs := p1) (j := i9) rfl rfl rfl rfl rfl sl74 ty123 rfl (fun w1 hw1 => rds_bor g1 w1 hw1) h21 rfl ?_
        refine ow_r rfl (dstOk_lt rfl) (ry_load (cs := [.int .i64 e20.Said_, .int .i64 e20.Bit_, .int .i64 e20.Weight_, .int .i64 e20.Grow_, .int .i64 e20.Young_, .int .i64 e20.Det_, .bool e20.Began_, .bool e20.Swapped_]) rfl rfl ty123 (at_castA (at_eltE (fun w1 hw1 => rds_bor g1 w1 hw1) h21 (fun _ _ h => h)) rfl) rfl) ?_
        obtain ⟨y22, h23, H⟩ := of_bind H
        refine ow_q rfl rfl (dstOk_lt rfl) (qy_call rfl fn92 rfl (fun w1 hw1 => laws_eqStep_ok w1 (p0 := e18) (p1 := e20) h23)) (fun _ _ => trivial) ?_
        refine ow_batch [.p] rfl ?_
        refine ow_nilQ ?_
        refine x_qs ?_
        refine c_if rfl (fun hb => ?_) (fun hb => ?_)
        · have H := of_if_t hb H
          refine c_seq ?_
          refine c_reg ?_
          refine ow_batch [.p] rfl ?_
          refine ow_nil ?_
          refine x_qs ?_
          refine c_ret ?_
          refine x_qb_ret ?_
          refine x_qs_ret ?_
          refine x_ql_ret ?_
          refine x_qb_ret ?_
          refine x_qs_ret ?_
          exact x_retR (rs := [.tmp 4]) (vs := [.bool false]) rfl ⟨rfl, trivial⟩ (fun w' hw' => by
              obtain rfl := of_some H
              exact ⟨rfl, hw'.ext⟩)
        · have H := of_if_f hb H
          refine c_skip ?_
          refine x_qb ?_
          refine x_qs ?_
          refine c_reg ?_
          refine ow_batch [.p, .p, .p] rfl ?_
          refine ow_nil ?_
          exact x_ql (RW.at (ihk1 (IntKind.i64.wrap (i9 + 1)) (H)) (fun _ h => St.sel [] rfl rfl h) ⟨rfl, rfl, rfl, trivial⟩)
      · have H := of_if_f hb H
        refine c_exit ?_
        refine x_qs_exit ?_
        refine x_ql_exit ?_
        refine x_qb_here ?_
        refine x_qs ?_
        refine c_seq ?_
        refine c_reg ?_
        refine ow_batch [.p] rfl ?_
        refine ow_nil ?_
        refine x_qs ?_
        refine c_ret ?_
        exact x_retR (rs := [.tmp 4]) (vs := [.bool true]) rfl ⟨rfl, trivial⟩ (fun w' hw' => by
            obtain rfl := of_some H
            exact ⟨rfl, hw'.ext⟩)

set_option maxHeartbeats 4000000 in
set_option maxRecDepth 100000 in
theorem laws_szByteS_ok (w : World) {p0 : List Int} {p1 : Int} {a_0 : Option Addr} {n_0 c_0 : Nat} {r : Int} (H : laws_szByteS p0 p1 = some r)  (g0 : (eList (eVal (Value.int .u8) (fun _ => rfl)) 5).rd w [] p0 [.slice a_0 n_0 c_0]) :
    Calls Try.prog 97 #[.slice a_0 n_0 c_0, .int .i64 p1] w (fun en w' => en = .returned (.int .i64 r) ∧ Ext [] w w') := by
  obtain rfl := rd_n g0
  unfold laws_szByteS at H
  refine f_enter (vs := [.slice a_0 p0.length c_0, .int .i64 p1]) Try.func97 rfl Try.ntmps97 rfl (St.init w []) ?_
  refine c_seq ?_
  refine c_reg ?_
  refine ow_batch [.p] rfl ?_
  refine ow_nil ?_
  refine x_qs ?_
  refine c_seq ?_
  refine c_reg ?_
  refine ow_batch [.p, .p, .lenS 82 5 sl82, .p, .p] rfl ?_
  refine ow_nil ?_
  refine x_qs ?_
  refine c_seq ?_
  refine c_seq ?_
  refine c_reg ?_
  refine ow_batch [.p, .p] rfl ?_
  refine ow_nil ?_
  refine x_qs ?_
  refine c_if rfl (fun hb => ?_) (fun hb => ?_)
  · have H := of_if_t hb H
    refine c_seq ?_
    refine c_reg ?_
    refine ow_batch [.p] rfl ?_
    refine ow_nil ?_
    refine x_qs ?_
    refine c_ret ?_
    refine x_qs_ret ?_
    exact x_retR (rs := [.tmp 4]) (vs := [.int .i64 (-1)]) rfl ⟨rfl, trivial⟩ (fun w' hw' => by
        obtain rfl := of_some H
        exact ⟨rfl, hw'.ext⟩)
  · have H := of_if_f hb H
    refine c_skip ?_
    refine x_qs ?_
    refine c_seq ?_
    refine c_reg ?_
    refine ow_batch [.p, .p] rfl ?_
    refine ow_nil ?_
    refine x_qs ?_
    refine c_ret ?_
    exact x_retR (rs := [.tmp 4]) (vs := [.int .i64 (IntKind.i64.wrap (p1 - (p0.length : Int)))]) rfl ⟨rfl, trivial⟩ (fun w' hw' => by
        obtain rfl := of_some H
        exact ⟨rfl, hw'.ext⟩)

set_option maxHeartbeats 4000000 in
set_option maxRecDepth 100000 in
theorem laws_szReply_ok (w : World) {p0 : Tlaws_Reply} {p1 : Int} {cs0 : List Value} {r : Int} (H : laws_szReply p0 p1 = some r)  (g0 : (eTlaws_Reply).rd w [] p0 cs0) :
    Calls Try.prog 50 #[.agg cs0.toArray, .int .i64 p1] w (fun en w' => en = .returned (.int .i64 r) ∧ Ext [] w w') := by
  obtain ⟨c1, c2, c3, c4, c5, c6, rfl, g7, g8, g9, g10, g11, g12⟩ := rdo_Tlaws_Reply g0
  obtain rfl : c1 = [.int .i64 p0.Code_] := g7
  obtain rfl : c2 = [.int .i64 p0.At_] := g8
  obtain rfl : c3 = [.int .i64 p0.Says_] := g9
  obtain ⟨a13, c14, rfl⟩ := rd_sl1 g10
  obtain ⟨a15, c16, rfl⟩ := rd_sl1 g11
  obtain ⟨a17, c18, rfl⟩ := rd_sl1 g12
  unfold laws_szReply at H
  refine f_enter (vs := [.agg #[.int .i64 p0.Code_, .int .i64 p0.At_, .int .i64 p0.Says_, .slice a13 p0.Votes_.length c14, .slice a15 p0.Bytes_.length c16, .slice a17 p0.Steps_.length c18], .int .i64 p1]) Try.func50 rfl Try.ntmps50 rfl (St.init w []) ?_
  refine c_seq ?_
  refine c_reg ?_
  refine ow_box (cs := [.int .i64 p0.Code_, .int .i64 p0.At_, .int .i64 p0.Says_, .slice a13 p0.Votes_.length c14, .slice a15 p0.Bytes_.length c16, .slice a17 p0.Steps_.length c18]) rfl rfl rfl rfl rfl rfl (fun _ => kp) (fun b19 => ?_)
  refine ow_batch [.p] rfl ?_
  refine ow_nil ?_
  refine x_qs ?_
  refine c_seq ?_
  refine c_reg ?_
  refine ow_batch [.fa 84 3 3 fa84_3] rfl ?_
  refine ow_r rfl (dstOk_lt rfl) (ry_box1 (off := 3) rfl rfl ty22 (boxIn (i := 0) rfl) rfl) ?_
  refine ow_batch [.p] rfl ?_
  obtain ⟨y20, h21, H⟩ := of_bind H
  refine ow_q rfl rfl (dstOk_lt rfl) (qy_call rfl fn55 rfl (fun w1 hw1 => laws_szIntS_ok w1  h21 (rds_bor g10 w1 hw1))) (fun _ _ => trivial) ?_
  refine ow_batch [.p] rfl ?_
  refine ow_nil ?_
  refine x_qs ?_
  refine c_seq ?_
  refine c_seq ?_
  refine c_reg ?_
  refine ow_batch [.p, .p] rfl ?_
  refine ow_nil ?_
  refine x_qs ?_
  refine c_if rfl (fun hb => ?_) (fun hb => ?_)
  · have H := of_if_t hb H
    refine c_seq ?_
    refine c_reg ?_
    refine ow_batch [.p] rfl ?_
    refine ow_nil ?_
    refine x_qs ?_
    refine c_ret ?_
    refine x_qs_ret ?_
    exact x_retR (rs := [.tmp 4]) (vs := [.int .i64 (-1)]) rfl ⟨rfl, trivial⟩ (fun w' hw' => by
        obtain rfl := of_some H
        exact ⟨rfl, hw'.ext⟩)
  · have H := of_if_f hb H
    refine c_skip ?_
    refine x_qs ?_
    refine c_seq ?_
    refine c_reg ?_
    refine ow_batch [.fa 84 4 4 fa84_4] rfl ?_
    refine ow_r rfl (dstOk_lt rfl) (ry_box1 (off := 4) rfl rfl ty82 (boxIn (i := 0) rfl) rfl) ?_
    refine ow_batch [.p] rfl ?_
    obtain ⟨y22, h23, H⟩ := of_bind H
    refine ow_q rfl rfl (dstOk_lt rfl) (qy_call rfl fn97 rfl (fun w1 hw1 => laws_szByteS_ok w1  h23 (rds_bor g11 w1 hw1))) (fun _ _ => trivial) ?_
    refine ow_batch [.p] rfl ?_
    refine ow_nil ?_
    refine x_qs ?_
    refine c_seq ?_
    refine c_seq ?_
    refine c_reg ?_
    refine ow_batch [.p, .p] rfl ?_
    refine ow_nil ?_
    refine x_qs ?_
    refine c_if rfl (fun hb => ?_) (fun hb => ?_)
    · have H := of_if_t hb H
      refine c_seq ?_
      refine c_reg ?_
      refine ow_batch [.p] rfl ?_
      refine ow_nil ?_
      refine x_qs ?_
      refine c_ret ?_
      refine x_qs_ret ?_
      exact x_retR (rs := [.tmp 4]) (vs := [.int .i64 (-1)]) rfl ⟨rfl, trivial⟩ (fun w' hw' => by
          obtain rfl := of_some H
          exact ⟨rfl, hw'.ext⟩)
    · have H := of_if_f hb H
      refine c_skip ?_
      refine x_qs ?_
      refine c_seq ?_
      refine c_reg ?_
      refine ow_batch [.fa 84 5 5 fa84_5] rfl ?_
      refine ow_r rfl (dstOk_lt rfl) (ry_box1 (off := 5) rfl rfl ty68 (boxIn (i := 0) rfl) rfl) ?_
      refine ow_batch [.p] rfl ?_
      obtain ⟨y24, h25, H⟩ := of_bind H
      refine ow_q rfl rfl (dstOk_lt rfl) (qy_call rfl fn39 rfl (fun w1 hw1 => laws_szStepS_ok w1  h25 (rds_bor g12 w1 hw1))) (fun _ _ => trivial) ?_
      refine ow_batch [.p] rfl ?_
      refine ow_nil ?_
      refine x_qs ?_
      refine c_seq ?_
      refine c_seq ?_
      refine c_reg ?_
      refine ow_batch [.p, .p] rfl ?_
      refine ow_nil ?_
      refine x_qs ?_
      refine c_if rfl (fun hb => ?_) (fun hb => ?_)
      · have H := of_if_t hb H
        refine c_seq ?_
        refine c_reg ?_
        refine ow_batch [.p] rfl ?_
        refine ow_nil ?_
        refine x_qs ?_
        refine c_ret ?_
        refine x_qs_ret ?_
        exact x_retR (rs := [.tmp 4]) (vs := [.int .i64 (-1)]) rfl ⟨rfl, trivial⟩ (fun w' hw' => by
            obtain rfl := of_some H
            exact ⟨rfl, hw'.ext⟩)
      · have H := of_if_f hb H
        refine c_skip ?_
        refine x_qs ?_
        refine c_seq ?_
        refine c_reg ?_
        refine ow_batch [.p, .p] rfl ?_
        refine ow_nil ?_
        refine x_qs ?_
        refine c_ret ?_
        exact x_retR (rs := [.tmp 4]) (vs := [.int .i64 y24]) rfl ⟨rfl, trivial⟩ (fun w' hw' => by
            obtain rfl := of_some H
            exact ⟨rfl, hw'.ext⟩)

set_option maxHeartbeats 4000000 in
set_option maxRecDepth 100000 in
theorem laws_toByteS_ok (w : World) {M0 : List Nat} {p0 : List Int} {a_0 : Option Addr} {n_0 c_0 : Nat} {r : List Int} (H : laws_toByteS p0 = some r) (HS : St w M0 [] w) (g0 : (eList (eVal (Value.int .u8) (fun _ => rfl)) 5).rd w M0 p0 [.slice a_0 n_0 c_0]) :
    Calls Try.prog 99 #[.slice a_0 n_0 c_0] w (fun en w' => ∃ v, en = .returned v ∧ ∃ (a0 : Option Addr), ∃ (n0 : Nat), ∃ (c0 : Nat), ∃ (F0 : List Nat), v = .slice a0 n0 c0 ∧ St w M0 [Res.own (eList (eVal (Value.int .u8) (fun _ => rfl)) 5) F0 r [.slice a0 n0 c0]] w') := by
  obtain rfl := rd_n g0
  unfold laws_toByteS at H
  refine f_enter (vs := [.slice a_0 p0.length c_0]) Try.func99 rfl Try.ntmps99 rfl (HS) ?_
  refine c_seq ?_
  refine c_reg ?_
  refine ow_batch [.p] rfl ?_
  refine ow_nil ?_
  refine x_qs ?_
  refine c_seq ?_
  refine c_reg ?_
  refine ow_batch [.p, .lenS 82 5 sl82] rfl ?_
  obtain ⟨l1, h2, H⟩ := of_bind H
  refine ow_make (e := eVal (Value.int .u8) (fun _ => rfl)) (zero := (0 : Int)) rfl rfl rfl rfl rfl rfl sl82 ty5 rfl rfl rfl rfl (fun _ => ⟨rfl, rfl⟩) h2 (fun _ => kp) (fun b3 => ?_)
  refine ow_batch [.p] rfl ?_
  refine ow_nil ?_
  refine x_qs ?_
  refine c_seq ?_
  refine c_seq ?_
  refine c_reg ?_
  refine ow_batch [.p] rfl ?_
  refine ow_nil ?_
  refine x_qs ?_
  refine c_block ?_
  refine CW.at (loopI2 (fun (l10 : List Int) (i11 : Int) => St w M0 [Res.own (eList (eVal (Value.int .u8) (fun _ => rfl)) 5) [b3] l10 [.slice (some ⟨b3, 0, none⟩) l1.length l1.length]]) (fun (l10 : List Int) (i11 : Int) => [(0, .slice a_0 p0.length c_0), (3, .slice (some ⟨b3, 0, none⟩) l1.length l1.length), (4, .int .i64 i11)]) (fun kk => fun (l10 : List Int) (i11 : Int) => laws_toByteS_L1 p0 kk l10 i11 = some r) (fun _ _ H => ?_) (fun k1 ihk1 l10 i11 H => ?_) Fuel (l1) (0) (H)) (fun _ h => St.sel [0] rfl rfl h) ⟨rfl, rfl, rfl,  trivial⟩
  · unfold laws_toByteS_L1 at H
    exact absurd H (by simp)
  · unfold laws_toByteS_L1 at H
    refine c_seq ?_
    refine c_seq ?_
    refine c_reg ?_
    refine ow_batch [.p, .p, .lenS 82 5 sl82, .p] rfl ?_
    refine ow_nil ?_
    refine x_qs ?_
    refine c_if rfl (fun hb => ?_) (fun hb => ?_)
    · have H := of_if_t hb H
      refine c_skip ?_
      refine x_qs ?_
      refine c_seq ?_
      refine c_block ?_
      refine c_reg ?_
      refine ow_batch [.p, .p, .p, .p] rfl ?_
      obtain ⟨e18, h19, H⟩ := of_bind H
      refine ow_ixE (e := eVal (Value.int .u8) (fun _ => rfl)) (xs := p0) (j := i11) rfl rfl rfl rfl rfl sl82 ty5 rfl (fun w1 hw1 => rds_bor g0 w1 hw1) h19 (by rw [Nat.mul_one]) ?_
      refine ow_r rfl (dstOk_lt rfl) (ry_load1 rfl rfl ty5 (at_elV (fun w1 hw1 => rds_bor g0 w1 hw1) h19)) ?_
      obtain ⟨e20, h21, H⟩ := of_bind H
      refine ow_ixE (e := eVal (Value.int .u8) (fun _ => rfl)) (xs := l10) (j := i11) rfl rfl rfl rfl rfl sl82 ty5 rfl (fun w1 hw1 => rds_own (r := 0) rfl w1 hw1) h21 (by rw [Nat.mul_one]) ?_
      refine ow_storeV (i := 0) (j := i11) rfl rfl rfl rfl rfl rfl ty5 rfl h21 (fun _ => rfl) kp ?_
      refine ow_nil ?_
      refine x_qb ?_
      refine x_qs ?_
      refine c_reg ?_
      refine ow_batch [.p, .p, .p] rfl ?_
      refine ow_nil ?_
      exact x_ql (RW.at (ihk1 ((l10.set i11.toNat e18)) (IntKind.i64.wrap (i11 + 1)) (H)) (fun _ h => St.sel [0] rfl rfl h) ⟨rfl, rfl, rfl, trivial⟩)
    · have H := of_if_f hb H
      refine c_exit ?_
      refine x_qs_exit ?_
      refine x_ql_exit ?_
      refine x_qb_here ?_
      refine x_qs ?_
      refine c_seq ?_
      refine c_reg ?_
      refine ow_batch [.p, .p] rfl ?_
      refine ow_nil ?_
      refine x_qs ?_
      refine c_ret ?_
      exact x_retR (rs := [.tmp 2]) (vs := [.slice (some ⟨b3, 0, none⟩) l1.length l1.length]) rfl ⟨rfl, trivial⟩ (fun w' hw' => by
          obtain rfl := of_some H
          exact ⟨_, rfl, (some ⟨b3, 0, none⟩), l1.length, l1.length, [b3], rfl, hw'.sel [0] rfl rfl⟩)

set_option maxHeartbeats 4000000 in
set_option maxRecDepth 100000 in
theorem laws_toReply_ok (w : World) {M0 : List Nat} {p0 : Tlaws_Reply} {cs0 : List Value} {r : Timpl_Reply} (H : laws_toReply p0 = some r) (HS : St w M0 [] w) (g0 : (eTlaws_Reply).rd w M0 p0 cs0) :
    Calls Try.prog 52 #[.agg cs0.toArray] w (fun en w' => ∃ v, en = .returned v ∧ ∃ (a0 : Option Addr), ∃ (n0 : Nat), ∃ (c0 : Nat), ∃ (F0 : List Nat), ∃ (a1 : Option Addr), ∃ (n1 : Nat), ∃ (c1 : Nat), ∃ (F1 : List Nat), ∃ (a2 : Option Addr), ∃ (n2 : Nat), ∃ (c2 : Nat), ∃ (F2 : List Nat), v = .agg #[.int .i64 r.Code_, .int .i64 r.At_, .int .i64 r.Says_, .slice a0 n0 c0, .slice a1 n1 c1, .slice a2 n2 c2] ∧ St w M0 [Res.own (eList (eVal (Value.int .i64) (fun _ => rfl)) 3) F0 r.Votes_ [.slice a0 n0 c0], Res.own (eList (eVal (Value.int .u8) (fun _ => rfl)) 5) F1 r.Bytes_ [.slice a1 n1 c1], Res.own (eList (eTimpl_Step) 123) F2 r.Steps_ [.slice a2 n2 c2]] w') := by
  obtain ⟨c1, c2, c3, c4, c5, c6, rfl, g7, g8, g9, g10, g11, g12⟩ := rdo_Tlaws_Reply g0
  obtain rfl : c1 = [.int .i64 p0.Code_] := g7
  obtain rfl : c2 = [.int .i64 p0.At_] := g8
  obtain rfl : c3 = [.int .i64 p0.Says_] := g9
  obtain ⟨a13, c14, rfl⟩ := rd_sl1 g10
  obtain ⟨a15, c16, rfl⟩ := rd_sl1 g11
  obtain ⟨a17, c18, rfl⟩ := rd_sl1 g12
  unfold laws_toReply at H
  refine f_enter (vs := [.agg #[.int .i64 p0.Code_, .int .i64 p0.At_, .int .i64 p0.Says_, .slice a13 p0.Votes_.length c14, .slice a15 p0.Bytes_.length c16, .slice a17 p0.Steps_.length c18]]) Try.func52 rfl Try.ntmps52 rfl (HS) ?_
  refine c_seq ?_
  refine c_reg ?_
  refine ow_box (cs := [.int .i64 p0.Code_, .int .i64 p0.At_, .int .i64 p0.Says_, .slice a13 p0.Votes_.length c14, .slice a15 p0.Bytes_.length c16, .slice a17 p0.Steps_.length c18]) rfl rfl rfl rfl rfl rfl (fun _ => kp) (fun b19 => ?_)
  refine ow_alloc rfl rfl rfl rfl ty88 (fun _ => kp) (fun b20 => ?_)
  refine ow_nil ?_
  refine x_qs ?_
  refine c_seq ?_
  refine c_reg ?_
  refine ow_alloc rfl rfl rfl rfl ty88 (fun _ => kp) (fun b21 => ?_)
  refine ow_nil ?_
  refine x_qs ?_
  refine c_seq ?_
  refine c_reg ?_
  refine ow_batch [.fa 84 0 0 fa84_0] rfl ?_
  refine ow_r rfl (dstOk_lt rfl) (ry_box1 (off := 0) rfl rfl ty3 (boxIn (i := 0) rfl) rfl) ?_
  refine ow_batch [.fa 88 0 0 fa88_0] rfl ?_
  refine ow_storeC (off := 0) [.int .i64 p0.Code_] [_, _, _, _, _, _] (i := 2) rfl rfl rfl rfl rfl rfl ty3 rfl rfl (by intro u hu; simp only [List.mem_cons, List.not_mem_nil, or_false] at hu; rcases hu with rfl <;> rfl) rfl rfl rfl kp ?_
  refine ow_nil ?_
  refine x_qs ?_
  refine c_seq ?_
  refine c_reg ?_
  refine ow_batch [.fa 84 1 1 fa84_1] rfl ?_
  refine ow_r rfl (dstOk_lt rfl) (ry_box1 (off := 1) rfl rfl ty3 (boxIn (i := 0) rfl) rfl) ?_
  refine ow_batch [.fa 88 1 1 fa88_1] rfl ?_
  refine ow_storeC (off := 1) [.int .i64 p0.At_] [_, _, _, _, _, _] (i := 2) rfl rfl rfl rfl rfl rfl ty3 rfl rfl (by intro u hu; simp only [List.mem_cons, List.not_mem_nil, or_false] at hu; rcases hu with rfl <;> rfl) rfl rfl rfl kp ?_
  refine ow_nil ?_
  refine x_qs ?_
  refine c_seq ?_
  refine c_reg ?_
  refine ow_batch [.fa 84 2 2 fa84_2] rfl ?_
  refine ow_r rfl (dstOk_lt rfl) (ry_box1 (off := 2) rfl rfl ty3 (boxIn (i := 0) rfl) rfl) ?_
  refine ow_batch [.fa 88 2 2 fa88_2] rfl ?_
  refine ow_storeC (off := 2) [.int .i64 p0.Says_] [_, _, _, _, _, _] (i := 2) rfl rfl rfl rfl rfl rfl ty3 rfl rfl (by intro u hu; simp only [List.mem_cons, List.not_mem_nil, or_false] at hu; rcases hu with rfl <;> rfl) rfl rfl rfl kp ?_
  refine ow_nil ?_
  refine x_qs ?_
  refine c_seq ?_
  refine c_reg ?_
  refine ow_batch [.fa 84 3 3 fa84_3] rfl ?_
  refine ow_r rfl (dstOk_lt rfl) (ry_box1 (off := 3) rfl rfl ty22 (boxIn (i := 0) rfl) rfl) ?_
  obtain ⟨y22, h23, H⟩ := of_bind H
  refine ow_callS rfl fn60 rfl rfl rfl rfl (fun w1 hw1 => laws_toIntS_ok w1  h23 (hw1.carve [] rfl rfl) (rds_bor g10 w1 hw1)) (fun v24 w1 w2 hw1 hR26 => ?_)
  obtain ⟨a27, n28, c29, F30, rfl, hS25⟩ := hR26
  obtain rfl := own_nS (i := 0) hS25 rfl
  refine ⟨St w M0 [_, _, _, _], hw1.comp [] rfl rfl hS25, fun _ _ => trivial, ?_⟩
  refine ow_batch [.fa 88 3 3 fa88_3] rfl ?_
  refine ow_storeC (off := 3) [.slice a27 y22.length c29] [_, _, _, _, _, _] (i := 2) rfl rfl rfl rfl rfl rfl ty22 rfl rfl (by intro u hu; simp only [List.mem_cons, List.not_mem_nil, or_false] at hu; rcases hu with rfl <;> rfl) rfl rfl rfl kp ?_
  refine ow_nil ?_
  refine x_qs ?_
  refine c_seq ?_
  refine c_reg ?_
  refine ow_batch [.fa 84 4 4 fa84_4] rfl ?_
  refine ow_r rfl (dstOk_lt rfl) (ry_box1 (off := 4) rfl rfl ty82 (boxIn (i := 0) rfl) rfl) ?_
  obtain ⟨y31, h32, H⟩ := of_bind H
  refine ow_callS rfl fn99 rfl rfl rfl rfl (fun w1 hw1 => laws_toByteS_ok w1  h32 (hw1.carve [] rfl rfl) (rds_bor g11 w1 hw1)) (fun v33 w1 w2 hw1 hR35 => ?_)
  obtain ⟨a36, n37, c38, F39, rfl, hS34⟩ := hR35
  obtain rfl := own_nS (i := 0) hS34 rfl
  refine ⟨St w M0 [_, _, _, _, _], hw1.comp [] rfl rfl hS34, fun _ _ => trivial, ?_⟩
  refine ow_batch [.fa 88 4 4 fa88_4] rfl ?_
  refine ow_storeC (off := 4) [.slice a36 y31.length c38] [_, _, _, _, _, _] (i := 2) rfl rfl rfl rfl rfl rfl ty82 rfl rfl (by intro u hu; simp only [List.mem_cons, List.not_mem_nil, or_false] at hu; rcases hu with rfl <;> rfl) rfl rfl rfl kp ?_
  refine ow_nil ?_
  refine x_qs ?_
  refine c_seq ?_
  refine c_reg ?_
  refine ow_batch [.fa 84 5 5 fa84_5] rfl ?_
  refine ow_r rfl (dstOk_lt rfl) (ry_box1 (off := 5) rfl rfl ty68 (boxIn (i := 0) rfl) rfl) ?_
  obtain ⟨y40, h41, H⟩ := of_bind H
  refine ow_callS rfl fn42 rfl rfl rfl rfl (fun w1 hw1 => laws_toStepS_ok w1  h41 (hw1.carve [] rfl rfl) (rds_bor g12 w1 hw1)) (fun v42 w1 w2 hw1 hR44 => ?_)
  obtain ⟨a45, n46, c47, F48, rfl, hS43⟩ := hR44
  obtain rfl := own_nS (i := 0) hS43 rfl
  refine ⟨St w M0 [_, _, _, _, _, _], hw1.comp [] rfl rfl hS43, fun _ _ => trivial, ?_⟩
  refine ow_batch [.fa 88 5 5 fa88_5] rfl ?_
  refine ow_storeC (off := 5) [.slice a45 y40.length c47] [_, _, _, _, _, _] (i := 2) rfl rfl rfl rfl rfl rfl ty74 rfl rfl (by intro u hu; simp only [List.mem_cons, List.not_mem_nil, or_false] at hu; rcases hu with rfl <;> rfl) rfl rfl rfl kp ?_
  refine ow_nil ?_
  refine x_qs ?_
  refine c_seq ?_
  refine CW.weak (C' := St w M0 [_, _, _, _, _, _]) ?_ (fun _ h => St.sel [0, 1, 2, 3, 4, 5] rfl rfl h)
  refine c_reg ?_
  refine ow_r rfl (dstOk_lt rfl) (ry_box (off := 0) (ds := [.int .i64 p0.Code_, .int .i64 p0.At_, .int .i64 p0.Says_, .slice a27 y22.length c29, .slice a36 y31.length c38, .slice a45 y40.length c47]) rfl rfl ty88 (boxIn (i := 2) rfl) rfl rfl) ?_
  refine ow_storeC (off := 0) [.int .i64 p0.Code_, .int .i64 p0.At_, .int .i64 p0.Says_, .slice a27 y22.length c29, .slice a36 y31.length c38, .slice a45 y40.length c47] [_, _, _, _, _, _] (i := 1) rfl rfl rfl rfl rfl rfl ty88 rfl rfl (by intro u hu; simp only [List.mem_cons, List.not_mem_nil, or_false] at hu; rcases hu with rfl | rfl | rfl | rfl | rfl | rfl <;> rfl) rfl rfl rfl kp ?_
  refine ow_nil ?_
  refine x_qs ?_
  refine c_ret ?_
  exact x_retR (rs := [.cell 2 88]) (vs := [.agg #[.int .i64 p0.Code_, .int .i64 p0.At_, .int .i64 p0.Says_, .slice a27 y22.length c29, .slice a36 y31.length c38, .slice a45 y40.length c47]]) rfl ⟨⟨_, [.int .i64 p0.Code_, .int .i64 p0.At_, .int .i64 p0.Says_, .slice a27 y22.length c29, .slice a36 y31.length c38, .slice a45 y40.length c47], _, _, _, rfl, ty88, (at_box (T := 88) 0 (boxIn (i := 1) rfl) rfl), rfl, rfl⟩, trivial⟩ (fun w' hw' => by
      obtain rfl := of_some H
      exact ⟨_, rfl, a27, y22.length, c29, F30, a36, y31.length, c38, F39, a45, y40.length, c47, F48, rfl, hw'.sel [3, 4, 5] rfl rfl⟩)

set_option maxHeartbeats 4000000 in
set_option maxRecDepth 100000 in
theorem spec_l5SameInts_ok (w : World) {p0 : List Int} {p1 : List Int} {a_0 : Option Addr} {n_0 c_0 : Nat} {a_1 : Option Addr} {n_1 c_1 : Nat} {r : Bool} (H : spec_l5SameInts p0 p1 = some r)  (g0 : (eList (eVal (Value.int .i64) (fun _ => rfl)) 3).rd w [] p0 [.slice a_0 n_0 c_0]) (g1 : (eList (eVal (Value.int .i64) (fun _ => rfl)) 3).rd w [] p1 [.slice a_1 n_1 c_1]) :
    Calls Try.prog 98 #[.slice a_0 n_0 c_0, .slice a_1 n_1 c_1] w (fun en w' => en = .returned (.bool r) ∧ Ext [] w w') := by
  obtain rfl := rd_n g0
  obtain rfl := rd_n g1
  unfold spec_l5SameInts at H
  refine f_enter (vs := [.slice a_0 p0.length c_0, .slice a_1 p1.length c_1]) Try.func98 rfl Try.ntmps98 rfl (St.init w []) ?_
  refine c_seq ?_
  refine c_reg ?_
  refine ow_batch [.p] rfl ?_
  refine ow_nil ?_
  refine x_qs ?_
  refine c_seq ?_
  refine c_seq ?_
  refine c_reg ?_
  refine ow_batch [.p, .lenS 22 3 sl22, .p, .lenS 22 3 sl22, .p] rfl ?_
  refine ow_nil ?_
  refine x_qs ?_
  refine c_if rfl (fun hb => ?_) (fun hb => ?_)
  · have H := of_if_t hb H
    refine c_seq ?_
    refine c_reg ?_
    refine ow_batch [.p] rfl ?_
    refine ow_nil ?_
    refine x_qs ?_
    refine c_ret ?_
    refine x_qs_ret ?_
    exact x_retR (rs := [.tmp 4]) (vs := [.bool false]) rfl ⟨rfl, trivial⟩ (fun w' hw' => by
        obtain rfl := of_some H
        exact ⟨rfl, hw'.ext⟩)
  · have H := of_if_f hb H
    refine c_skip ?_
    refine x_qs ?_
    refine c_seq ?_
    refine c_seq ?_
    refine c_reg ?_
    refine ow_batch [.p] rfl ?_
    refine ow_nil ?_
    refine x_qs ?_
    refine c_block ?_
    refine CW.at (loopI1 (fun (i6 : Int) => St w [] []) (fun (i6 : Int) => [(0, .slice a_0 p0.length c_0), (1, .slice a_1 p1.length c_1), (5, .int .i64 i6)]) (fun kk => fun (i6 : Int) => spec_l5SameInts_L1 p0 p1 kk i6 = some r) (fun _ H => ?_) (fun k1 ihk1 i6 H => ?_) Fuel (0) (H)) (fun _ h => St.sel [] rfl rfl h) ⟨rfl, rfl, rfl,  trivial⟩
    · unfold spec_l5SameInts_L1 at H
      exact absurd H (by simp)
    · unfold spec_l5SameInts_L1 at H
      refine c_seq ?_
      refine c_seq ?_
      refine c_reg ?_
      refine ow_batch [.p, .p, .lenS 22 3 sl22, .p] rfl ?_
      refine ow_nil ?_
      refine x_qs ?_
      refine c_if rfl (fun hb => ?_) (fun hb => ?_)
      · have H := of_if_t hb H
        refine c_skip ?_
        refine x_qs ?_
        refine c_seq ?_
        refine c_block ?_
        refine c_seq ?_
        refine c_regQ mixed (by kernel_rfl) ?_
        refine ow_batch [.p, .p] rfl ?_
        obtain ⟨e12, h13, H⟩ := of_bind H
        refine ow_ixE (e := eVal (Value.int .i64) (fun _ => rfl)) (xs := p0) (j := i6) rfl rfl rfl rfl rfl sl22 ty3 rfl (fun w1 hw1 => rds_bor g0 w1 hw1) h13 (by rw [Nat.mul_one]) ?_
        refine ow_r rfl (dstOk_lt rfl) (ry_load1 rfl rfl ty3 (at_elV (fun w1 hw1 => rds_bor g0 w1 hw1) h13)) ?_
        refine ow_batch [.p, .p] rfl ?_
        obtain ⟨e14, h15, H⟩ := of_bind H
        refine ow_ixE (e := eVal (Value.int .i64) (fun _ => rfl)) (xs := p1) (j := i6) rfl rfl rfl rfl rfl sl22 ty3 rfl (fun w1 hw1 => rds_bor g1 w1 hw1) h15 (by rw [Nat.mul_one]) ?_
        refine ow_r rfl (dstOk_lt rfl) (ry_load1 rfl rfl ty3 (at_elV (fun w1 hw1 => rds_bor g1 w1 hw1) h15)) ?_
        refine ow_batch [.p] rfl ?_
        refine ow_nilQ ?_
        refine x_qs ?_
        refine c_if rfl (fun hb => ?_) (fun hb => ?_)
        · have H := of_if_t hb H
          refine c_seq ?_
          refine c_reg ?_
          refine ow_batch [.p] rfl ?_
          refine ow_nil ?_
          refine x_qs ?_
          refine c_ret ?_
          refine x_qb_ret ?_
          refine x_qs_ret ?_
          refine x_ql_ret ?_
          refine x_qb_ret ?_
          refine x_qs_ret ?_
          exact x_retR (rs := [.tmp 4]) (vs := [.bool false]) rfl ⟨rfl, trivial⟩ (fun w' hw' => by
              obtain rfl := of_some H
              exact ⟨rfl, hw'.ext⟩)
        · have H := of_if_f hb H
          refine c_skip ?_
          refine x_qb ?_
          refine x_qs ?_
          refine c_reg ?_
          refine ow_batch [.p, .p, .p] rfl ?_
          refine ow_nil ?_
          exact x_ql (RW.at (ihk1 (IntKind.i64.wrap (i6 + 1)) (H)) (fun _ h => St.sel [] rfl rfl h) ⟨rfl, rfl, rfl, trivial⟩)
      · have H := of_if_f hb H
        refine c_exit ?_
        refine x_qs_exit ?_
        refine x_ql_exit ?_
        refine x_qb_here ?_
        refine x_qs ?_
        refine c_seq ?_
        refine c_reg ?_
        refine ow_batch [.p] rfl ?_
        refine ow_nil ?_
        refine x_qs ?_
        refine c_ret ?_
        exact x_retR (rs := [.tmp 4]) (vs := [.bool true]) rfl ⟨rfl, trivial⟩ (fun w' hw' => by
            obtain rfl := of_some H
            exact ⟨rfl, hw'.ext⟩)

set_option maxHeartbeats 4000000 in
set_option maxRecDepth 100000 in
theorem spec_ReplySame_ok (w : World) {p0 : Timpl_Reply} {p1 : Timpl_Reply} {cs0 : List Value} {cs1 : List Value} {r : Bool} (H : spec_ReplySame p0 p1 = some r)  (g0 : (eTimpl_Reply).rd w [] p0 cs0) (g1 : (eTimpl_Reply).rd w [] p1 cs1) :
    Calls Try.prog 51 #[.agg cs0.toArray, .agg cs1.toArray] w (fun en w' => en = .returned (.bool r) ∧ Ext [] w w') := by
  obtain ⟨c1, c2, c3, c4, c5, c6, rfl, g7, g8, g9, g10, g11, g12⟩ := rdo_Timpl_Reply g0
  obtain rfl : c1 = [.int .i64 p0.Code_] := g7
  obtain rfl : c2 = [.int .i64 p0.At_] := g8
  obtain rfl : c3 = [.int .i64 p0.Says_] := g9
  obtain ⟨a13, c14, rfl⟩ := rd_sl1 g10
  obtain ⟨a15, c16, rfl⟩ := rd_sl1 g11
  obtain ⟨a17, c18, rfl⟩ := rd_sl1 g12
  obtain ⟨c19, c20, c21, c22, c23, c24, rfl, g25, g26, g27, g28, g29, g30⟩ := rdo_Timpl_Reply g1
  obtain rfl : c19 = [.int .i64 p1.Code_] := g25
  obtain rfl : c20 = [.int .i64 p1.At_] := g26
  obtain rfl : c21 = [.int .i64 p1.Says_] := g27
  obtain ⟨a31, c32, rfl⟩ := rd_sl1 g28
  obtain ⟨a33, c34, rfl⟩ := rd_sl1 g29
  obtain ⟨a35, c36, rfl⟩ := rd_sl1 g30
  unfold spec_ReplySame at H
  refine f_enter (vs := [.agg #[.int .i64 p0.Code_, .int .i64 p0.At_, .int .i64 p0.Says_, .slice a13 p0.Votes_.length c14, .slice a15 p0.Bytes_.length c16, .slice a17 p0.Steps_.length c18], .agg #[.int .i64 p1.Code_, .int .i64 p1.At_, .int .i64 p1.Says_, .slice a31 p1.Votes_.length c32, .slice a33 p1.Bytes_.length c34, .slice a35 p1.Steps_.length c36]]) Try.func51 rfl Try.ntmps51 rfl (St.init w []) ?_
  refine c_seq ?_
  refine c_reg ?_
  refine ow_box (cs := [.int .i64 p0.Code_, .int .i64 p0.At_, .int .i64 p0.Says_, .slice a13 p0.Votes_.length c14, .slice a15 p0.Bytes_.length c16, .slice a17 p0.Steps_.length c18]) rfl rfl rfl rfl rfl rfl (fun _ => kp) (fun b37 => ?_)
  refine ow_box (cs := [.int .i64 p1.Code_, .int .i64 p1.At_, .int .i64 p1.Says_, .slice a31 p1.Votes_.length c32, .slice a33 p1.Bytes_.length c34, .slice a35 p1.Steps_.length c36]) rfl rfl rfl rfl rfl rfl (fun _ => kp) (fun b38 => ?_)
  refine ow_batch [.p] rfl ?_
  refine ow_nil ?_
  refine x_qs ?_
  refine c_seq ?_
  refine c_seq ?_
  refine c_reg ?_
  refine ow_batch [.fa 88 0 0 fa88_0] rfl ?_
  refine ow_r rfl (dstOk_lt rfl) (ry_box1 (off := 0) rfl rfl ty3 (boxIn (i := 0) rfl) rfl) ?_
  refine ow_batch [.fa 88 0 0 fa88_0] rfl ?_
  refine ow_r rfl (dstOk_lt rfl) (ry_box1 (off := 0) rfl rfl ty3 (boxIn (i := 1) rfl) rfl) ?_
  refine ow_batch [.p, .p] rfl ?_
  refine ow_cut [(17, .bool ((p0.Code_ != p1.Code_) || (p0.At_ != p1.At_))), (2, .pointer (some ⟨b37, 0, none⟩)), (3, .pointer (some ⟨b38, 0, none⟩))] 6 ?_ (fun key => OW.sub (R := [(2, .pointer (some ⟨b37, 0, none⟩)), (3, .pointer (some ⟨b38, 0, none⟩)), (11, .bool (p0.Code_ != p1.Code_))]) ?_ ⟨rfl, rfl, rfl, trivial⟩)
  · refine ow_batch [.p] rfl ?_
    refine ow_cut [(24, .bool (((p0.Code_ != p1.Code_) || (p0.At_ != p1.At_)) || (p0.Says_ != p1.Says_))), (2, .pointer (some ⟨b37, 0, none⟩)), (3, .pointer (some ⟨b38, 0, none⟩))] 6 ?_ (fun key => OW.sub (R := [(2, .pointer (some ⟨b37, 0, none⟩)), (3, .pointer (some ⟨b38, 0, none⟩)), (18, .bool ((p0.Code_ != p1.Code_) || (p0.At_ != p1.At_)))]) ?_ ⟨rfl, rfl, rfl, trivial⟩)
    · refine ow_batch [.p] rfl ?_
      obtain ⟨u43, hu47, H⟩ := of_bind H
      refine ow_cut [(32, .bool u43), (2, .pointer (some ⟨b37, 0, none⟩)), (3, .pointer (some ⟨b38, 0, none⟩))] 7 ?_ (fun key => OW.sub (R := [(2, .pointer (some ⟨b37, 0, none⟩)), (3, .pointer (some ⟨b38, 0, none⟩)), (25, .bool (((p0.Code_ != p1.Code_) || (p0.At_ != p1.At_)) || (p0.Says_ != p1.Says_)))]) ?_ ⟨rfl, rfl, rfl, trivial⟩)
      · refine ow_batch [.p] rfl ?_
        refine ow_cut [(41, .bool (u43 || (!((bytesOf p0.Bytes_) == (bytesOf p1.Bytes_))))), (2, .pointer (some ⟨b37, 0, none⟩)), (3, .pointer (some ⟨b38, 0, none⟩))] 8 ?_ (fun key => OW.sub (R := [(2, .pointer (some ⟨b37, 0, none⟩)), (3, .pointer (some ⟨b38, 0, none⟩)), (33, .bool u43)]) ?_ ⟨rfl, rfl, rfl, trivial⟩)
        · refine ow_batch [.p] rfl ?_
          refine ow_cut [(50, .bool ((u43 || (!((bytesOf p0.Bytes_) == (bytesOf p1.Bytes_)))) || ((p0.Steps_.length : Int) != (p1.Steps_.length : Int)))), (2, .pointer (some ⟨b37, 0, none⟩)), (3, .pointer (some ⟨b38, 0, none⟩))] 8 ?_ (fun key => OW.sub (R := [(2, .pointer (some ⟨b37, 0, none⟩)), (3, .pointer (some ⟨b38, 0, none⟩)), (42, .bool (u43 || (!((bytesOf p0.Bytes_) == (bytesOf p1.Bytes_)))))]) ?_ ⟨rfl, rfl, rfl, trivial⟩)
          · refine ow_nil ?_
            refine x_qs ?_
            refine c_if rfl (fun hb => ?_) (fun hb => ?_)
            · have H := of_if_t hb H
              refine c_seq ?_
              refine c_reg ?_
              refine ow_batch [.p] rfl ?_
              refine ow_nil ?_
              refine x_qs ?_
              refine c_ret ?_
              refine x_qs_ret ?_
              exact x_retR (rs := [.tmp 4]) (vs := [.bool false]) rfl ⟨rfl, trivial⟩ (fun w' hw' => by
                  obtain rfl := of_some H
                  exact ⟨rfl, hw'.ext⟩)
            · have H := of_if_f hb H
              refine c_skip ?_
              refine x_qs ?_
              refine c_seq ?_
              refine c_seq ?_
              refine c_reg ?_
              refine ow_batch [.p] rfl ?_
              refine ow_nil ?_
              refine x_qs ?_
              refine c_block ?_
              refine CW.at (loopI1 (fun (i57 : Int) => St w [] [Res.box b37 88 [.int .i64 p0.Code_, .int .i64 p0.At_, .int .i64 p0.Says_, .slice a13 p0.Votes_.length c14, .slice a15 p0.Bytes_.length c16, .slice a17 p0.Steps_.length c18], Res.box b38 88 [.int .i64 p1.Code_, .int .i64 p1.At_, .int .i64 p1.Says_, .slice a31 p1.Votes_.length c32, .slice a33 p1.Bytes_.length c34, .slice a35 p1.Steps_.length c36]]) (fun (i57 : Int) => [(2, .pointer (some ⟨b37, 0, none⟩)), (3, .pointer (some ⟨b38, 0, none⟩)), (5, .int .i64 i57)]) (fun kk => fun (i57 : Int) => spec_ReplySame_L1 p0 p1 kk i57 = some r) (fun _ H => ?_) (fun k1 ihk1 i57 H => ?_) Fuel (0) (H)) (fun _ h => St.sel [0, 1] rfl rfl h) ⟨rfl, rfl, rfl,  trivial⟩
              · unfold spec_ReplySame_L1 at H
                exact absurd H (by simp)
              · unfold spec_ReplySame_L1 at H
                refine c_seq ?_
                refine c_seq ?_
                refine c_reg ?_
                refine ow_batch [.p, .fa 88 5 5 fa88_5] rfl ?_
                refine ow_r rfl (dstOk_lt rfl) (ry_box1 (off := 5) rfl rfl ty74 (boxIn (i := 0) rfl) rfl) ?_
                refine ow_batch [.lenS 74 123 sl74, .p] rfl ?_
                refine ow_nil ?_
                refine x_qs ?_
                refine c_if rfl (fun hb => ?_) (fun hb => ?_)
                · have H := of_if_t hb H
                  refine c_skip ?_
                  refine x_qs ?_
                  refine c_seq ?_
                  refine c_block ?_
                  refine c_seq ?_
                  refine c_regQ mixed (by kernel_rfl) ?_
                  refine ow_batch [.fa 88 5 5 fa88_5] rfl ?_
                  refine ow_r rfl (dstOk_lt rfl) (ry_box1 (off := 5) rfl rfl ty74 (boxIn (i := 0) rfl) rfl) ?_
                  refine ow_batch [.p] rfl ?_
                  obtain ⟨e63, h64, H⟩ := of_bind H
                  refine ow_ixE (e := eTimpl_Step) (xs := p0.Steps_) (j := i57) rfl rfl rfl rfl rfl sl74 ty123 rfl (fun w1 hw1 => rds_bor g12 w1 hw1) h64 rfl ?_
                  refine ow_r rfl (dstOk_lt rfl) (ry_load (cs := [.int .i64 e63.Said_, .int .i64 e63.Bit_, .int .i64 e63.Weight_, .int .i64 e63.Grow_, .int .i64 e63.Young_, .int .i64 e63.Det_, .bool e63.Began_, .bool e63.Swapped_]) rfl rfl ty123 (at_castA (at_eltE (fun w1 hw1 => rds_bor g12 w1 hw1) h64 (fun _ _ h => h)) rfl) rfl) ?_
                  refine ow_batch [.fa 88 5 5 fa88_5] rfl ?_
                  refine ow_r rfl (dstOk_lt rfl) (ry_box1 (off := 5) rfl rfl ty74 (boxIn (i := 1) rfl) rfl) ?_
                  refine ow_batch [.p] rfl ?_
                  obtain ⟨e65, h66, H⟩ := of_bind H
                  refine ow_ixE (e := eTimpl_Step) (xs := p1.Steps_) (j := i57) rfl rfl rfl rfl rfl sl74 ty123 rfl (fun w1 hw1 => rds_bor g30 w1 hw1) h66 rfl ?_
                  refine ow_r rfl (dstOk_lt rfl) (ry_load (cs := [.int .i64 e65.Said_, .int .i64 e65.Bit_, .int .i64 e65.Weight_, .int .i64 e65.Grow_, .int .i64 e65.Young_, .int .i64 e65.Det_, .bool e65.Began_, .bool e65.Swapped_]) rfl rfl ty123 (at_castA (at_eltE (fun w1 hw1 => rds_bor g30 w1 hw1) h66 (fun _ _ h => h)) rfl) rfl) ?_
                  refine ow_r rfl (dstOk_lt rfl) (ry_sneq (xs := [.int .i64 e63.Said_, .int .i64 e63.Bit_, .int .i64 e63.Weight_, .int .i64 e63.Grow_, .int .i64 e63.Young_, .int .i64 e63.Det_, .bool e63.Began_, .bool e63.Swapped_]) (ys := [.int .i64 e65.Said_, .int .i64 e65.Bit_, .int .i64 e65.Weight_, .int .i64 e65.Grow_, .int .i64 e65.Young_, .int .i64 e65.Det_, .bool e65.Began_, .bool e65.Swapped_]) rfl rfl rfl (se123 e63.Said_ e65.Said_ e63.Bit_ e65.Bit_ e63.Weight_ e65.Weight_ e63.Grow_ e65.Grow_ e63.Young_ e65.Young_ e63.Det_ e65.Det_ e63.Began_ e65.Began_ e63.Swapped_ e65.Swapped_)) ?_
                  refine ow_nilQ ?_
                  refine x_qs ?_
                  refine c_if rfl (fun hb => ?_) (fun hb => ?_)
                  · have H := of_if_t hb H
                    refine c_seq ?_
                    refine c_reg ?_
                    refine ow_batch [.p] rfl ?_
                    refine ow_nil ?_
                    refine x_qs ?_
                    refine c_ret ?_
                    refine x_qb_ret ?_
                    refine x_qs_ret ?_
                    refine x_ql_ret ?_
                    refine x_qb_ret ?_
                    refine x_qs_ret ?_
                    exact x_retR (rs := [.tmp 4]) (vs := [.bool false]) rfl ⟨rfl, trivial⟩ (fun w' hw' => by
                        obtain rfl := of_some H
                        exact ⟨rfl, hw'.ext⟩)
                  · have H := of_if_f hb H
                    refine c_skip ?_
                    refine x_qb ?_
                    refine x_qs ?_
                    refine c_reg ?_
                    refine ow_batch [.p, .p, .p] rfl ?_
                    refine ow_nil ?_
                    exact x_ql (RW.at (ihk1 (IntKind.i64.wrap (i57 + 1)) (H)) (fun _ h => St.sel [0, 1] rfl rfl h) ⟨rfl, rfl, rfl, trivial⟩)
                · have H := of_if_f hb H
                  refine c_exit ?_
                  refine x_qs_exit ?_
                  refine x_ql_exit ?_
                  refine x_qb_here ?_
                  refine x_qs ?_
                  refine c_seq ?_
                  refine c_reg ?_
                  refine ow_batch [.p] rfl ?_
                  refine ow_nil ?_
                  refine x_qs ?_
                  refine c_ret ?_
                  exact x_retR (rs := [.tmp 4]) (vs := [.bool true]) rfl ⟨rfl, trivial⟩ (fun w' hw' => by
                      obtain rfl := of_some H
                      exact ⟨rfl, hw'.ext⟩)
          · generalize (u43 || (!((bytesOf p0.Bytes_) == (bytesOf p1.Bytes_)))) = t51 at key ⊢
            cases t51
            · refine ow_batch [.fa 88 5 5 fa88_5] rfl ?_
              refine ow_r rfl (dstOk_lt rfl) (ry_box1 (off := 5) rfl rfl ty74 (boxIn (i := 0) rfl) rfl) ?_
              refine ow_batch [.lenS 74 123 sl74, .fa 88 5 5 fa88_5] rfl ?_
              refine ow_r rfl (dstOk_lt rfl) (ry_box1 (off := 5) rfl rfl ty74 (boxIn (i := 1) rfl) rfl) ?_
              refine ow_batch [.lenS 74 123 sl74, .p] rfl ?_
              refine ow_batch [.p] rfl ?_
              exact OW.sub key ⟨rfl, rfl, rfl, trivial⟩
            · refine ow_batch [.p, .p, .p, .p, .p, .p, .p, .p] rfl ?_
              exact OW.sub key ⟨rfl, rfl, rfl, trivial⟩
        · generalize u43 = t49 at key ⊢
          cases t49
          · refine ow_batch [.fa 88 4 4 fa88_4] rfl ?_
            refine ow_r rfl (dstOk_lt rfl) (ry_box1 (off := 4) rfl rfl ty82 (boxIn (i := 0) rfl) rfl) ?_
            refine ow_r rfl (dstOk_lt rfl) (ry_bts (xs := p0.Bytes_) rfl rfl sl82 in5 st9 (fun w1 hw1 => rds_bor g11 w1 hw1)) ?_
            refine ow_batch [.fa 88 4 4 fa88_4] rfl ?_
            refine ow_r rfl (dstOk_lt rfl) (ry_box1 (off := 4) rfl rfl ty82 (boxIn (i := 1) rfl) rfl) ?_
            refine ow_r rfl (dstOk_lt rfl) (ry_bts (xs := p1.Bytes_) rfl rfl sl82 in5 st9 (fun w1 hw1 => rds_bor g29 w1 hw1)) ?_
            refine ow_batch [.p] rfl ?_
            refine ow_batch [.p] rfl ?_
            exact OW.sub key ⟨rfl, rfl, rfl, trivial⟩
          · refine ow_batch [.p, .p, .p, .p, .p, .p, .p, .p] rfl ?_
            exact OW.sub key ⟨rfl, rfl, rfl, trivial⟩
      · clear H
        have H := hu47
        clear hu47
        generalize (((p0.Code_ != p1.Code_) || (p0.At_ != p1.At_)) || (p0.Says_ != p1.Says_)) = t46 at H ⊢
        cases t46
        · have H := of_if_f rfl H
          refine ow_batch [.fa 88 3 3 fa88_3] rfl ?_
          refine ow_r rfl (dstOk_lt rfl) (ry_box1 (off := 3) rfl rfl ty22 (boxIn (i := 0) rfl) rfl) ?_
          refine ow_batch [.fa 88 3 3 fa88_3] rfl ?_
          refine ow_r rfl (dstOk_lt rfl) (ry_box1 (off := 3) rfl rfl ty22 (boxIn (i := 1) rfl) rfl) ?_
          obtain ⟨y44, h45, H⟩ := of_bind H
          refine ow_q rfl rfl (dstOk_lt rfl) (qy_call rfl fn98 rfl (fun w1 hw1 => spec_l5SameInts_ok w1  h45 (rds_bor g10 w1 hw1) (rds_bor g28 w1 hw1))) (fun _ _ => trivial) ?_
          refine ow_batch [.p] rfl ?_
          refine ow_batch [.p] rfl ?_
          obtain rfl := of_some H
          exact OW.sub key ⟨rfl, rfl, rfl, trivial⟩
        · have H := of_if_t rfl H
          refine ow_batch [.p, .p, .p, .p, .p, .p, .p] rfl ?_
          obtain rfl := of_some H
          exact OW.sub key ⟨rfl, rfl, rfl, trivial⟩
    · generalize ((p0.Code_ != p1.Code_) || (p0.At_ != p1.At_)) = t42 at key ⊢
      cases t42
      · refine ow_batch [.fa 88 2 2 fa88_2] rfl ?_
        refine ow_r rfl (dstOk_lt rfl) (ry_box1 (off := 2) rfl rfl ty3 (boxIn (i := 0) rfl) rfl) ?_
        refine ow_batch [.fa 88 2 2 fa88_2] rfl ?_
        refine ow_r rfl (dstOk_lt rfl) (ry_box1 (off := 2) rfl rfl ty3 (boxIn (i := 1) rfl) rfl) ?_
        refine ow_batch [.p] rfl ?_
        refine ow_batch [.p] rfl ?_
        exact OW.sub key ⟨rfl, rfl, rfl, trivial⟩
      · refine ow_batch [.p, .p, .p, .p, .p, .p] rfl ?_
        exact OW.sub key ⟨rfl, rfl, rfl, trivial⟩
  · generalize (p0.Code_ != p1.Code_) = t40 at key ⊢
    cases t40
    · refine ow_batch [.fa 88 1 1 fa88_1] rfl ?_
      refine ow_r rfl (dstOk_lt rfl) (ry_box1 (off := 1) rfl rfl ty3 (boxIn (i := 0) rfl) rfl) ?_
      refine ow_batch [.fa 88 1 1 fa88_1] rfl ?_
      refine ow_r rfl (dstOk_lt rfl) (ry_box1 (off := 1) rfl rfl ty3 (boxIn (i := 1) rfl) rfl) ?_
      refine ow_batch [.p] rfl ?_
      refine ow_batch [.p] rfl ?_
      exact OW.sub key ⟨rfl, rfl, rfl, trivial⟩
    · refine ow_batch [.p, .p, .p, .p, .p, .p] rfl ?_
      exact OW.sub key ⟨rfl, rfl, rfl, trivial⟩

set_option maxHeartbeats 4000000 in
set_option maxRecDepth 100000 in
theorem lib_slices_Equal___int_int__ok (w : World) {p0 : List Int} {p1 : List Int} {a_0 : Option Addr} {n_0 c_0 : Nat} {a_1 : Option Addr} {n_1 c_1 : Nat} {r : Bool} (H : lib_slices_Equal___int_int_ p0 p1 = some r)  (g0 : (eList (eVal (Value.int .i64) (fun _ => rfl)) 3).rd w [] p0 [.slice a_0 n_0 c_0]) (g1 : (eList (eVal (Value.int .i64) (fun _ => rfl)) 3).rd w [] p1 [.slice a_1 n_1 c_1]) :
    Calls Try.prog 100 #[.slice a_0 n_0 c_0, .slice a_1 n_1 c_1] w (fun en w' => en = .returned (.bool r) ∧ Ext [] w w') := by
  obtain rfl := rd_n g0
  obtain rfl := rd_n g1
  unfold lib_slices_Equal___int_int_ at H
  refine f_enter (vs := [.slice a_0 p0.length c_0, .slice a_1 p1.length c_1]) Try.func100 rfl Try.ntmps100 rfl (St.init w []) ?_
  refine c_seq ?_
  refine c_reg ?_
  refine ow_batch [.p] rfl ?_
  refine ow_nil ?_
  refine x_qs ?_
  refine c_seq ?_
  refine c_seq ?_
  refine c_reg ?_
  refine ow_batch [.p, .lenS 22 3 sl22, .p, .lenS 22 3 sl22, .p] rfl ?_
  refine ow_nil ?_
  refine x_qs ?_
  refine c_if rfl (fun hb => ?_) (fun hb => ?_)
  · have H := of_if_t hb H
    refine c_seq ?_
    refine c_reg ?_
    refine ow_batch [.p] rfl ?_
    refine ow_nil ?_
    refine x_qs ?_
    refine c_ret ?_
    refine x_qs_ret ?_
    exact x_retR (rs := [.tmp 4]) (vs := [.bool false]) rfl ⟨rfl, trivial⟩ (fun w' hw' => by
        obtain rfl := of_some H
        exact ⟨rfl, hw'.ext⟩)
  · have H := of_if_f hb H
    refine c_skip ?_
    refine x_qs ?_
    refine c_seq ?_
    refine c_seq ?_
    refine c_reg ?_
    refine ow_batch [.p, .lenS 22 3 sl22, .p] rfl ?_
    refine ow_nil ?_
    refine x_qs ?_
    refine c_block ?_
    refine CW.at (loopI1 (fun (i6 : Int) => St w [] []) (fun (i6 : Int) => [(0, .slice a_0 p0.length c_0), (1, .slice a_1 p1.length c_1), (12, .int .i64 (p0.length : Int)), (13, .int .i64 i6)]) (fun kk => fun (i6 : Int) => lib_slices_Equal___int_int__L1 p0 p1 kk i6 = some r) (fun _ H => ?_) (fun k1 ihk1 i6 H => ?_) Fuel (0) (H)) (fun _ h => St.sel [] rfl rfl h) ⟨rfl, rfl, rfl, rfl,  trivial⟩
    · unfold lib_slices_Equal___int_int__L1 at H
      exact absurd H (by simp)
    · unfold lib_slices_Equal___int_int__L1 at H
      refine c_seq ?_
      refine c_reg ?_
      refine ow_batch [.p] rfl ?_
      refine ow_nil ?_
      refine x_qs ?_
      refine c_seq ?_
      refine c_if rfl (fun hb => ?_) (fun hb => ?_)
      · have H := of_if_t hb H
        refine c_skip ?_
        refine x_qs ?_
        refine c_seq ?_
        refine c_block ?_
        refine c_seq ?_
        refine c_reg ?_
        refine ow_batch [.p, .p] rfl ?_
        refine ow_nil ?_
        refine x_qs ?_
        refine c_seq ?_
        refine c_regQ mixed (by kernel_rfl) ?_
        refine ow_batch [.p, .p] rfl ?_
        obtain ⟨e12, h13, H⟩ := of_bind H
        refine ow_ixE (e := eVal (Value.int .i64) (fun _ => rfl)) (xs := p0) (j := i6) rfl rfl rfl rfl rfl sl22 ty3 rfl (fun w1 hw1 => rds_bor g0 w1 hw1) h13 (by rw [Nat.mul_one]) ?_
        refine ow_r rfl (dstOk_lt rfl) (ry_load1 rfl rfl ty3 (at_elV (fun w1 hw1 => rds_bor g0 w1 hw1) h13)) ?_
        refine ow_batch [.p, .p] rfl ?_
        obtain ⟨e14, h15, H⟩ := of_bind H
        refine ow_ixE (e := eVal (Value.int .i64) (fun _ => rfl)) (xs := p1) (j := i6) rfl rfl rfl rfl rfl sl22 ty3 rfl (fun w1 hw1 => rds_bor g1 w1 hw1) h15 (by rw [Nat.mul_one]) ?_
        refine ow_r rfl (dstOk_lt rfl) (ry_load1 rfl rfl ty3 (at_elV (fun w1 hw1 => rds_bor g1 w1 hw1) h15)) ?_
        refine ow_batch [.p] rfl ?_
        refine ow_nilQ ?_
        refine x_qs ?_
        refine c_if rfl (fun hb => ?_) (fun hb => ?_)
        · have H := of_if_t hb H
          refine c_seq ?_
          refine c_reg ?_
          refine ow_batch [.p] rfl ?_
          refine ow_nil ?_
          refine x_qs ?_
          refine c_ret ?_
          refine x_qb_ret ?_
          refine x_qs_ret ?_
          refine x_ql_ret ?_
          refine x_qb_ret ?_
          refine x_qs_ret ?_
          exact x_retR (rs := [.tmp 4]) (vs := [.bool false]) rfl ⟨rfl, trivial⟩ (fun w' hw' => by
              obtain rfl := of_some H
              exact ⟨rfl, hw'.ext⟩)
        · have H := of_if_f hb H
          refine c_skip ?_
          refine x_qb ?_
          refine x_qs ?_
          refine c_reg ?_
          refine ow_batch [.p, .p] rfl ?_
          refine ow_nil ?_
          exact x_ql (RW.at (ihk1 (IntKind.i64.wrap (i6 + 1)) (H)) (fun _ h => St.sel [] rfl rfl h) ⟨rfl, rfl, rfl, rfl, trivial⟩)
      · have H := of_if_f hb H
        refine c_exit ?_
        refine x_qs_exit ?_
        refine x_ql_exit ?_
        refine x_qb_here ?_
        refine x_qs ?_
        refine c_seq ?_
        refine c_reg ?_
        refine ow_batch [.p] rfl ?_
        refine ow_nil ?_
        refine x_qs ?_
        refine c_ret ?_
        exact x_retR (rs := [.tmp 4]) (vs := [.bool true]) rfl ⟨rfl, trivial⟩ (fun w' hw' => by
            obtain rfl := of_some H
            exact ⟨rfl, hw'.ext⟩)

set_option maxHeartbeats 4000000 in
set_option maxRecDepth 100000 in
theorem lib_bytes_Equal_ok (w : World) {p0 : List Int} {p1 : List Int} {a_0 : Option Addr} {n_0 c_0 : Nat} {a_1 : Option Addr} {n_1 c_1 : Nat} {r : Bool} (H : lib_bytes_Equal p0 p1 = some r)  (g0 : (eList (eVal (Value.int .u8) (fun _ => rfl)) 5).rd w [] p0 [.slice a_0 n_0 c_0]) (g1 : (eList (eVal (Value.int .u8) (fun _ => rfl)) 5).rd w [] p1 [.slice a_1 n_1 c_1]) :
    Calls Try.prog 101 #[.slice a_0 n_0 c_0, .slice a_1 n_1 c_1] w (fun en w' => en = .returned (.bool r) ∧ Ext [] w w') := by
  obtain rfl := rd_n g0
  obtain rfl := rd_n g1
  unfold lib_bytes_Equal at H
  refine f_enter (vs := [.slice a_0 p0.length c_0, .slice a_1 p1.length c_1]) Try.func101 rfl Try.ntmps101 rfl (St.init w []) ?_
  refine c_seq ?_
  refine c_reg ?_
  refine ow_batch [.p] rfl ?_
  refine ow_nil ?_
  refine x_qs ?_
  refine c_seq ?_
  refine c_reg ?_
  refine ow_batch [.p] rfl ?_
  refine ow_r rfl (dstOk_lt rfl) (ry_bts (xs := p0) rfl rfl sl82 in5 st9 (fun w1 hw1 => rds_bor g0 w1 hw1)) ?_
  refine ow_batch [.p] rfl ?_
  refine ow_r rfl (dstOk_lt rfl) (ry_bts (xs := p1) rfl rfl sl82 in5 st9 (fun w1 hw1 => rds_bor g1 w1 hw1)) ?_
  refine ow_batch [.p, .p] rfl ?_
  refine ow_nil ?_
  refine x_qs ?_
  refine c_ret ?_
  exact x_retR (rs := [.tmp 4]) (vs := [.bool ((bytesOf p0) == (bytesOf p1))]) rfl ⟨rfl, trivial⟩ (fun w' hw' => by
      obtain rfl := of_some H
      exact ⟨rfl, hw'.ext⟩)

set_option maxHeartbeats 4000000 in
set_option maxRecDepth 100000 in
theorem lib_slices_Equal___impl_Step_impl_Step__ok (w : World) {p0 : List Timpl_Step} {p1 : List Timpl_Step} {a_0 : Option Addr} {n_0 c_0 : Nat} {a_1 : Option Addr} {n_1 c_1 : Nat} {r : Bool} (H : lib_slices_Equal___impl_Step_impl_Step_ p0 p1 = some r)  (g0 : (eList (eTimpl_Step) 123).rd w [] p0 [.slice a_0 n_0 c_0]) (g1 : (eList (eTimpl_Step) 123).rd w [] p1 [.slice a_1 n_1 c_1]) :
    Calls Try.prog 102 #[.slice a_0 n_0 c_0, .slice a_1 n_1 c_1] w (fun en w' => en = .returned (.bool r) ∧ Ext [] w w') := by
  obtain rfl := rd_n g0
  obtain rfl := rd_n g1
  unfold lib_slices_Equal___impl_Step_impl_Step_ at H
  refine f_enter (vs := [.slice a_0 p0.length c_0, .slice a_1 p1.length c_1]) Try.func102 rfl Try.ntmps102 rfl (St.init w []) ?_
  refine c_seq ?_
  refine c_reg ?_
  refine ow_batch [.p] rfl ?_
  refine ow_nil ?_
  refine x_qs ?_
  refine c_seq ?_
  refine c_seq ?_
  refine c_reg ?_
  refine ow_batch [.p, .lenS 74 123 sl74, .p, .lenS 74 123 sl74, .p] rfl ?_
  refine ow_nil ?_
  refine x_qs ?_
  refine c_if rfl (fun hb => ?_) (fun hb => ?_)
  · have H := of_if_t hb H
    refine c_seq ?_
    refine c_reg ?_
    refine ow_batch [.p] rfl ?_
    refine ow_nil ?_
    refine x_qs ?_
    refine c_ret ?_
    refine x_qs_ret ?_
    exact x_retR (rs := [.tmp 4]) (vs := [.bool false]) rfl ⟨rfl, trivial⟩ (fun w' hw' => by
        obtain rfl := of_some H
        exact ⟨rfl, hw'.ext⟩)
  · have H := of_if_f hb H
    refine c_skip ?_
    refine x_qs ?_
    refine c_seq ?_
    refine c_seq ?_
    refine c_reg ?_
    refine ow_batch [.p, .lenS 74 123 sl74, .p] rfl ?_
    refine ow_nil ?_
    refine x_qs ?_
    refine c_block ?_
    refine CW.at (loopI1 (fun (i6 : Int) => St w [] []) (fun (i6 : Int) => [(0, .slice a_0 p0.length c_0), (1, .slice a_1 p1.length c_1), (12, .int .i64 (p0.length : Int)), (13, .int .i64 i6)]) (fun kk => fun (i6 : Int) => lib_slices_Equal___impl_Step_impl_Step__L1 p0 p1 kk i6 = some r) (fun _ H => ?_) (fun k1 ihk1 i6 H => ?_) Fuel (0) (H)) (fun _ h => St.sel [] rfl rfl h) ⟨rfl, rfl, rfl, rfl,  trivial⟩
    · unfold lib_slices_Equal___impl_Step_impl_Step__L1 at H
      exact absurd H (by simp)
    · unfold lib_slices_Equal___impl_Step_impl_Step__L1 at H
      refine c_seq ?_
      refine c_reg ?_
      refine ow_batch [.p] rfl ?_
      refine ow_nil ?_
      refine x_qs ?_
      refine c_seq ?_
      refine c_if rfl (fun hb => ?_) (fun hb => ?_)
      · have H := of_if_t hb H
        refine c_skip ?_
        refine x_qs ?_
        refine c_seq ?_
        refine c_block ?_
        refine c_seq ?_
        refine c_reg ?_
        refine ow_batch [.p, .p] rfl ?_
        refine ow_nil ?_
        refine x_qs ?_
        refine c_seq ?_
        refine c_regQ mixed (by kernel_rfl) ?_
        refine ow_batch [.p, .p] rfl ?_
        obtain ⟨e12, h13, H⟩ := of_bind H
        refine ow_ixE (e := eTimpl_Step) (xs := p0) (j := i6) rfl rfl rfl rfl rfl sl74 ty123 rfl (fun w1 hw1 => rds_bor g0 w1 hw1) h13 rfl ?_
        refine ow_r rfl (dstOk_lt rfl) (ry_load (cs := [.int .i64 e12.Said_, .int .i64 e12.Bit_, .int .i64 e12.Weight_, .int .i64 e12.Grow_, .int .i64 e12.Young_, .int .i64 e12.Det_, .bool e12.Began_, .bool e12.Swapped_]) rfl rfl ty123 (at_castA (at_eltE (fun w1 hw1 => rds_bor g0 w1 hw1) h13 (fun _ _ h => h)) rfl) rfl) ?_
        refine ow_batch [.p, .p] rfl ?_
        obtain ⟨e14, h15, H⟩ := of_bind H
        refine ow_ixE (e := eTimpl_Step) (xs := p1) (j := i6) rfl rfl rfl rfl rfl sl74 ty123 rfl (fun w1 hw1 => rds_bor g1 w1 hw1) h15 rfl ?_
        refine ow_r rfl (dstOk_lt rfl) (ry_load (cs := [.int .i64 e14.Said_, .int .i64 e14.Bit_, .int .i64 e14.Weight_, .int .i64 e14.Grow_, .int .i64 e14.Young_, .int .i64 e14.Det_, .bool e14.Began_, .bool e14.Swapped_]) rfl rfl ty123 (at_castA (at_eltE (fun w1 hw1 => rds_bor g1 w1 hw1) h15 (fun _ _ h => h)) rfl) rfl) ?_
        refine ow_r rfl (dstOk_lt rfl) (ry_sneq (xs := [.int .i64 e12.Said_, .int .i64 e12.Bit_, .int .i64 e12.Weight_, .int .i64 e12.Grow_, .int .i64 e12.Young_, .int .i64 e12.Det_, .bool e12.Began_, .bool e12.Swapped_]) (ys := [.int .i64 e14.Said_, .int .i64 e14.Bit_, .int .i64 e14.Weight_, .int .i64 e14.Grow_, .int .i64 e14.Young_, .int .i64 e14.Det_, .bool e14.Began_, .bool e14.Swapped_]) rfl rfl rfl (se123 e12.Said_ e14.Said_ e12.Bit_ e14.Bit_ e12.Weight_ e14.Weight_ e12.Grow_ e14.Grow_ e12.Young_ e14.Young_ e12.Det_ e14.Det_ e12.Began_ e14.Began_ e12.Swapped_ e14.Swapped_)) ?_
        refine ow_nilQ ?_
        refine x_qs ?_
        refine c_if rfl (fun hb => ?_) (fun hb => ?_)
        · have H := of_if_t hb H
          refine c_seq ?_
          refine c_reg ?_
          refine ow_batch [.p] rfl ?_
          refine ow_nil ?_
          refine x_qs ?_
          refine c_ret ?_
          refine x_qb_ret ?_
          refine x_qs_ret ?_
          refine x_ql_ret ?_
          refine x_qb_ret ?_
          refine x_qs_ret ?_
          exact x_retR (rs := [.tmp 4]) (vs := [.bool false]) rfl ⟨rfl, trivial⟩ (fun w' hw' => by
              obtain rfl := of_some H
              exact ⟨rfl, hw'.ext⟩)
        · have H := of_if_f hb H
          refine c_skip ?_
          refine x_qb ?_
          refine x_qs ?_
          refine c_reg ?_
          refine ow_batch [.p, .p] rfl ?_
          refine ow_nil ?_
          exact x_ql (RW.at (ihk1 (IntKind.i64.wrap (i6 + 1)) (H)) (fun _ h => St.sel [] rfl rfl h) ⟨rfl, rfl, rfl, rfl, trivial⟩)
      · have H := of_if_f hb H
        refine c_exit ?_
        refine x_qs_exit ?_
        refine x_ql_exit ?_
        refine x_qb_here ?_
        refine x_qs ?_
        refine c_seq ?_
        refine c_reg ?_
        refine ow_batch [.p] rfl ?_
        refine ow_nil ?_
        refine x_qs ?_
        refine c_ret ?_
        exact x_retR (rs := [.tmp 4]) (vs := [.bool true]) rfl ⟨rfl, trivial⟩ (fun w' hw' => by
            obtain rfl := of_some H
            exact ⟨rfl, hw'.ext⟩)

set_option maxHeartbeats 4000000 in
set_option maxRecDepth 100000 in
theorem impl_ReplySame_ok (w : World) {p0 : Timpl_Reply} {p1 : Timpl_Reply} {cs0 : List Value} {cs1 : List Value} {r : Bool} (H : impl_ReplySame p0 p1 = some r)  (g0 : (eTimpl_Reply).rd w [] p0 cs0) (g1 : (eTimpl_Reply).rd w [] p1 cs1) :
    Calls Try.prog 53 #[.agg cs0.toArray, .agg cs1.toArray] w (fun en w' => en = .returned (.bool r) ∧ Ext [] w w') := by
  obtain ⟨c1, c2, c3, c4, c5, c6, rfl, g7, g8, g9, g10, g11, g12⟩ := rdo_Timpl_Reply g0
  obtain rfl : c1 = [.int .i64 p0.Code_] := g7
  obtain rfl : c2 = [.int .i64 p0.At_] := g8
  obtain rfl : c3 = [.int .i64 p0.Says_] := g9
  obtain ⟨a13, c14, rfl⟩ := rd_sl1 g10
  obtain ⟨a15, c16, rfl⟩ := rd_sl1 g11
  obtain ⟨a17, c18, rfl⟩ := rd_sl1 g12
  obtain ⟨c19, c20, c21, c22, c23, c24, rfl, g25, g26, g27, g28, g29, g30⟩ := rdo_Timpl_Reply g1
  obtain rfl : c19 = [.int .i64 p1.Code_] := g25
  obtain rfl : c20 = [.int .i64 p1.At_] := g26
  obtain rfl : c21 = [.int .i64 p1.Says_] := g27
  obtain ⟨a31, c32, rfl⟩ := rd_sl1 g28
  obtain ⟨a33, c34, rfl⟩ := rd_sl1 g29
  obtain ⟨a35, c36, rfl⟩ := rd_sl1 g30
  unfold impl_ReplySame at H
  refine f_enter (vs := [.agg #[.int .i64 p0.Code_, .int .i64 p0.At_, .int .i64 p0.Says_, .slice a13 p0.Votes_.length c14, .slice a15 p0.Bytes_.length c16, .slice a17 p0.Steps_.length c18], .agg #[.int .i64 p1.Code_, .int .i64 p1.At_, .int .i64 p1.Says_, .slice a31 p1.Votes_.length c32, .slice a33 p1.Bytes_.length c34, .slice a35 p1.Steps_.length c36]]) Try.func53 rfl Try.ntmps53 rfl (St.init w []) ?_
  refine c_seq ?_
  refine c_reg ?_
  refine ow_box (cs := [.int .i64 p0.Code_, .int .i64 p0.At_, .int .i64 p0.Says_, .slice a13 p0.Votes_.length c14, .slice a15 p0.Bytes_.length c16, .slice a17 p0.Steps_.length c18]) rfl rfl rfl rfl rfl rfl (fun _ => kp) (fun b37 => ?_)
  refine ow_box (cs := [.int .i64 p1.Code_, .int .i64 p1.At_, .int .i64 p1.Says_, .slice a31 p1.Votes_.length c32, .slice a33 p1.Bytes_.length c34, .slice a35 p1.Steps_.length c36]) rfl rfl rfl rfl rfl rfl (fun _ => kp) (fun b38 => ?_)
  refine ow_batch [.p] rfl ?_
  refine ow_nil ?_
  refine x_qs ?_
  refine c_seq ?_
  refine c_reg ?_
  refine ow_batch [.fa 88 0 0 fa88_0] rfl ?_
  refine ow_r rfl (dstOk_lt rfl) (ry_box1 (off := 0) rfl rfl ty3 (boxIn (i := 0) rfl) rfl) ?_
  refine ow_batch [.fa 88 0 0 fa88_0] rfl ?_
  refine ow_r rfl (dstOk_lt rfl) (ry_box1 (off := 0) rfl rfl ty3 (boxIn (i := 1) rfl) rfl) ?_
  refine ow_batch [.p, .p] rfl ?_
  refine ow_cut [(16, .bool ((p0.Code_ == p1.Code_) && (p0.At_ == p1.At_))), (2, .pointer (some ⟨b37, 0, none⟩)), (3, .pointer (some ⟨b38, 0, none⟩)), (4, .bool false)] 6 ?_ (fun key => OW.sub (R := [(2, .pointer (some ⟨b37, 0, none⟩)), (3, .pointer (some ⟨b38, 0, none⟩)), (4, .bool false), (10, .bool (p0.Code_ == p1.Code_))]) ?_ ⟨rfl, rfl, rfl, rfl, trivial⟩)
  · refine ow_batch [.p] rfl ?_
    refine ow_cut [(23, .bool (((p0.Code_ == p1.Code_) && (p0.At_ == p1.At_)) && (p0.Says_ == p1.Says_))), (2, .pointer (some ⟨b37, 0, none⟩)), (3, .pointer (some ⟨b38, 0, none⟩)), (4, .bool false)] 6 ?_ (fun key => OW.sub (R := [(2, .pointer (some ⟨b37, 0, none⟩)), (3, .pointer (some ⟨b38, 0, none⟩)), (4, .bool false), (17, .bool ((p0.Code_ == p1.Code_) && (p0.At_ == p1.At_)))]) ?_ ⟨rfl, rfl, rfl, rfl, trivial⟩)
    · refine ow_batch [.p] rfl ?_
      obtain ⟨u43, hu47, H⟩ := of_bind H
      refine ow_cut [(30, .bool u43), (2, .pointer (some ⟨b37, 0, none⟩)), (3, .pointer (some ⟨b38, 0, none⟩)), (4, .bool false)] 6 ?_ (fun key => OW.sub (R := [(2, .pointer (some ⟨b37, 0, none⟩)), (3, .pointer (some ⟨b38, 0, none⟩)), (4, .bool false), (24, .bool (((p0.Code_ == p1.Code_) && (p0.At_ == p1.At_)) && (p0.Says_ == p1.Says_)))]) ?_ ⟨rfl, rfl, rfl, rfl, trivial⟩)
      · refine ow_batch [.p] rfl ?_
        obtain ⟨u48, hu52, H⟩ := of_bind H
        refine ow_cut [(37, .bool u48), (2, .pointer (some ⟨b37, 0, none⟩)), (3, .pointer (some ⟨b38, 0, none⟩)), (4, .bool false)] 6 ?_ (fun key => OW.sub (R := [(2, .pointer (some ⟨b37, 0, none⟩)), (3, .pointer (some ⟨b38, 0, none⟩)), (4, .bool false), (31, .bool u43)]) ?_ ⟨rfl, rfl, rfl, rfl, trivial⟩)
        · refine ow_batch [.p] rfl ?_
          obtain ⟨u53, hu57, H⟩ := of_bind H
          refine ow_cut [(44, .bool u53), (4, .bool false)] 6 ?_ (fun key => OW.sub (R := [(2, .pointer (some ⟨b37, 0, none⟩)), (3, .pointer (some ⟨b38, 0, none⟩)), (4, .bool false), (38, .bool u48)]) ?_ ⟨rfl, rfl, rfl, rfl, trivial⟩)
          · refine ow_batch [.p] rfl ?_
            refine ow_nil ?_
            refine x_qs ?_
            refine c_ret ?_
            exact x_retR (rs := [.tmp 4]) (vs := [.bool u53]) rfl ⟨rfl, trivial⟩ (fun w' hw' => by
                obtain rfl := of_some H
                exact ⟨rfl, hw'.ext⟩)
          · clear H
            have H := hu57
            clear hu57
            generalize u48 = t56 at H ⊢
            cases t56
            · have H := of_if_f rfl H
              refine ow_batch [.p, .p, .p, .p, .p, .p] rfl ?_
              obtain rfl := of_some H
              exact OW.sub key ⟨rfl, rfl, trivial⟩
            · have H := of_if_t rfl H
              refine ow_batch [.fa 88 5 5 fa88_5] rfl ?_
              refine ow_r rfl (dstOk_lt rfl) (ry_box1 (off := 5) rfl rfl ty74 (boxIn (i := 0) rfl) rfl) ?_
              refine ow_batch [.fa 88 5 5 fa88_5] rfl ?_
              refine ow_r rfl (dstOk_lt rfl) (ry_box1 (off := 5) rfl rfl ty74 (boxIn (i := 1) rfl) rfl) ?_
              obtain ⟨y54, h55, H⟩ := of_bind H
              refine ow_q rfl rfl (dstOk_lt rfl) (qy_call rfl fn102 rfl (fun w1 hw1 => lib_slices_Equal___impl_Step_impl_Step__ok w1  h55 (rds_bor g12 w1 hw1) (rds_bor g30 w1 hw1))) (fun _ _ => trivial) ?_
              refine ow_batch [.p] rfl ?_
              obtain rfl := of_some H
              exact OW.sub key ⟨rfl, rfl, trivial⟩
        · clear H
          have H := hu52
          clear hu52
          generalize u43 = t51 at H ⊢
          cases t51
          · have H := of_if_f rfl H
            refine ow_batch [.p, .p, .p, .p, .p, .p] rfl ?_
            obtain rfl := of_some H
            exact OW.sub key ⟨rfl, rfl, rfl, rfl, trivial⟩
          · have H := of_if_t rfl H
            refine ow_batch [.fa 88 4 4 fa88_4] rfl ?_
            refine ow_r rfl (dstOk_lt rfl) (ry_box1 (off := 4) rfl rfl ty82 (boxIn (i := 0) rfl) rfl) ?_
            refine ow_batch [.fa 88 4 4 fa88_4] rfl ?_
            refine ow_r rfl (dstOk_lt rfl) (ry_box1 (off := 4) rfl rfl ty82 (boxIn (i := 1) rfl) rfl) ?_
            obtain ⟨y49, h50, H⟩ := of_bind H
            refine ow_q rfl rfl (dstOk_lt rfl) (qy_call rfl fn101 rfl (fun w1 hw1 => lib_bytes_Equal_ok w1  h50 (rds_bor g11 w1 hw1) (rds_bor g29 w1 hw1))) (fun _ _ => trivial) ?_
            refine ow_batch [.p] rfl ?_
            obtain rfl := of_some H
            exact OW.sub key ⟨rfl, rfl, rfl, rfl, trivial⟩
      · clear H
        have H := hu47
        clear hu47
        generalize (((p0.Code_ == p1.Code_) && (p0.At_ == p1.At_)) && (p0.Says_ == p1.Says_)) = t46 at H ⊢
        cases t46
        · have H := of_if_f rfl H
          refine ow_batch [.p, .p, .p, .p, .p, .p] rfl ?_
          obtain rfl := of_some H
          exact OW.sub key ⟨rfl, rfl, rfl, rfl, trivial⟩
        · have H := of_if_t rfl H
          refine ow_batch [.fa 88 3 3 fa88_3] rfl ?_
          refine ow_r rfl (dstOk_lt rfl) (ry_box1 (off := 3) rfl rfl ty22 (boxIn (i := 0) rfl) rfl) ?_
          refine ow_batch [.fa 88 3 3 fa88_3] rfl ?_
          refine ow_r rfl (dstOk_lt rfl) (ry_box1 (off := 3) rfl rfl ty22 (boxIn (i := 1) rfl) rfl) ?_
          obtain ⟨y44, h45, H⟩ := of_bind H
          refine ow_q rfl rfl (dstOk_lt rfl) (qy_call rfl fn100 rfl (fun w1 hw1 => lib_slices_Equal___int_int__ok w1  h45 (rds_bor g10 w1 hw1) (rds_bor g28 w1 hw1))) (fun _ _ => trivial) ?_
          refine ow_batch [.p] rfl ?_
          obtain rfl := of_some H
          exact OW.sub key ⟨rfl, rfl, rfl, rfl, trivial⟩
    · generalize ((p0.Code_ == p1.Code_) && (p0.At_ == p1.At_)) = t42 at key ⊢
      cases t42
      · refine ow_batch [.p, .p, .p, .p, .p, .p] rfl ?_
        exact OW.sub key ⟨rfl, rfl, rfl, rfl, trivial⟩
      · refine ow_batch [.fa 88 2 2 fa88_2] rfl ?_
        refine ow_r rfl (dstOk_lt rfl) (ry_box1 (off := 2) rfl rfl ty3 (boxIn (i := 0) rfl) rfl) ?_
        refine ow_batch [.fa 88 2 2 fa88_2] rfl ?_
        refine ow_r rfl (dstOk_lt rfl) (ry_box1 (off := 2) rfl rfl ty3 (boxIn (i := 1) rfl) rfl) ?_
        refine ow_batch [.p] rfl ?_
        refine ow_batch [.p] rfl ?_
        exact OW.sub key ⟨rfl, rfl, rfl, rfl, trivial⟩
  · generalize (p0.Code_ == p1.Code_) = t40 at key ⊢
    cases t40
    · refine ow_batch [.p, .p, .p, .p, .p, .p] rfl ?_
      exact OW.sub key ⟨rfl, rfl, rfl, rfl, trivial⟩
    · refine ow_batch [.fa 88 1 1 fa88_1] rfl ?_
      refine ow_r rfl (dstOk_lt rfl) (ry_box1 (off := 1) rfl rfl ty3 (boxIn (i := 0) rfl) rfl) ?_
      refine ow_batch [.fa 88 1 1 fa88_1] rfl ?_
      refine ow_r rfl (dstOk_lt rfl) (ry_box1 (off := 1) rfl rfl ty3 (boxIn (i := 1) rfl) rfl) ?_
      refine ow_batch [.p] rfl ?_
      refine ow_batch [.p] rfl ?_
      exact OW.sub key ⟨rfl, rfl, rfl, rfl, trivial⟩

set_option maxHeartbeats 4000000 in
set_option maxRecDepth 100000 in
theorem laws_eqByteS_ok (w : World) {p0 : List Int} {p1 : List Int} {a_0 : Option Addr} {n_0 c_0 : Nat} {a_1 : Option Addr} {n_1 c_1 : Nat} {r : Bool} (H : laws_eqByteS p0 p1 = some r)  (g0 : (eList (eVal (Value.int .u8) (fun _ => rfl)) 5).rd w [] p0 [.slice a_0 n_0 c_0]) (g1 : (eList (eVal (Value.int .u8) (fun _ => rfl)) 5).rd w [] p1 [.slice a_1 n_1 c_1]) :
    Calls Try.prog 103 #[.slice a_0 n_0 c_0, .slice a_1 n_1 c_1] w (fun en w' => en = .returned (.bool r) ∧ Ext [] w w') := by
  obtain rfl := rd_n g0
  obtain rfl := rd_n g1
  unfold laws_eqByteS at H
  refine f_enter (vs := [.slice a_0 p0.length c_0, .slice a_1 p1.length c_1]) Try.func103 rfl Try.ntmps103 rfl (St.init w []) ?_
  refine c_seq ?_
  refine c_reg ?_
  refine ow_batch [.p] rfl ?_
  refine ow_nil ?_
  refine x_qs ?_
  refine c_seq ?_
  refine c_seq ?_
  refine c_reg ?_
  refine ow_batch [.p, .lenS 82 5 sl82, .p, .lenS 82 5 sl82, .p] rfl ?_
  refine ow_nil ?_
  refine x_qs ?_
  refine c_if rfl (fun hb => ?_) (fun hb => ?_)
  · have H := of_if_t hb H
    refine c_seq ?_
    refine c_reg ?_
    refine ow_batch [.p] rfl ?_
    refine ow_nil ?_
    refine x_qs ?_
    refine c_ret ?_
    refine x_qs_ret ?_
    exact x_retR (rs := [.tmp 4]) (vs := [.bool false]) rfl ⟨rfl, trivial⟩ (fun w' hw' => by
        obtain rfl := of_some H
        exact ⟨rfl, hw'.ext⟩)
  · have H := of_if_f hb H
    refine c_skip ?_
    refine x_qs ?_
    refine c_seq ?_
    refine c_seq ?_
    refine c_reg ?_
    refine ow_batch [.p] rfl ?_
    refine ow_nil ?_
    refine x_qs ?_
    refine c_block ?_
    refine CW.at (loopI1 (fun (i6 : Int) => St w [] []) (fun (i6 : Int) => [(0, .slice a_0 p0.length c_0), (1, .slice a_1 p1.length c_1), (5, .int .i64 i6)]) (fun kk => fun (i6 : Int) => laws_eqByteS_L1 p0 p1 kk i6 = some r) (fun _ H => ?_) (fun k1 ihk1 i6 H => ?_) Fuel (0) (H)) (fun _ h => St.sel [] rfl rfl h) ⟨rfl, rfl, rfl,  trivial⟩
    · unfold laws_eqByteS_L1 at H
      exact absurd H (by simp)
    · unfold laws_eqByteS_L1 at H
      refine c_seq ?_
      refine c_seq ?_
      refine c_reg ?_
      refine ow_batch [.p, .p, .lenS 82 5 sl82, .p] rfl ?_
      refine ow_nil ?_
      refine x_qs ?_
      refine c_if rfl (fun hb => ?_) (fun hb => ?_)
      · have H := of_if_t hb H
        refine c_skip ?_
        refine x_qs ?_
        refine c_seq ?_
        refine c_block ?_
        refine c_seq ?_
        refine c_regQ mixed (by kernel_rfl) ?_
        refine ow_batch [.p, .p] rfl ?_
        obtain ⟨e12, h13, H⟩ := of_bind H
        refine ow_ixE (e := eVal (Value.int .u8) (fun _ => rfl)) (xs := p0) (j := i6) rfl rfl rfl rfl rfl sl82 ty5 rfl (fun w1 hw1 => rds_bor g0 w1 hw1) h13 (by rw [Nat.mul_one]) ?_
        refine ow_r rfl (dstOk_lt rfl) (ry_load1 rfl rfl ty5 (at_elV (fun w1 hw1 => rds_bor g0 w1 hw1) h13)) ?_
        refine ow_batch [.p, .p] rfl ?_
        obtain ⟨e14, h15, H⟩ := of_bind H
        refine ow_ixE (e := eVal (Value.int .u8) (fun _ => rfl)) (xs := p1) (j := i6) rfl rfl rfl rfl rfl sl82 ty5 rfl (fun w1 hw1 => rds_bor g1 w1 hw1) h15 (by rw [Nat.mul_one]) ?_
        refine ow_r rfl (dstOk_lt rfl) (ry_load1 rfl rfl ty5 (at_elV (fun w1 hw1 => rds_bor g1 w1 hw1) h15)) ?_
        refine ow_batch [.p] rfl ?_
        refine ow_nilQ ?_
        refine x_qs ?_
        refine c_if rfl (fun hb => ?_) (fun hb => ?_)
        · have H := of_if_t hb H
          refine c_seq ?_
          refine c_reg ?_
          refine ow_batch [.p] rfl ?_
          refine ow_nil ?_
          refine x_qs ?_
          refine c_ret ?_
          refine x_qb_ret ?_
          refine x_qs_ret ?_
          refine x_ql_ret ?_
          refine x_qb_ret ?_
          refine x_qs_ret ?_
          exact x_retR (rs := [.tmp 4]) (vs := [.bool false]) rfl ⟨rfl, trivial⟩ (fun w' hw' => by
              obtain rfl := of_some H
              exact ⟨rfl, hw'.ext⟩)
        · have H := of_if_f hb H
          refine c_skip ?_
          refine x_qb ?_
          refine x_qs ?_
          refine c_reg ?_
          refine ow_batch [.p, .p, .p] rfl ?_
          refine ow_nil ?_
          exact x_ql (RW.at (ihk1 (IntKind.i64.wrap (i6 + 1)) (H)) (fun _ h => St.sel [] rfl rfl h) ⟨rfl, rfl, rfl, trivial⟩)
      · have H := of_if_f hb H
        refine c_exit ?_
        refine x_qs_exit ?_
        refine x_ql_exit ?_
        refine x_qb_here ?_
        refine x_qs ?_
        refine c_seq ?_
        refine c_reg ?_
        refine ow_batch [.p] rfl ?_
        refine ow_nil ?_
        refine x_qs ?_
        refine c_ret ?_
        exact x_retR (rs := [.tmp 4]) (vs := [.bool true]) rfl ⟨rfl, trivial⟩ (fun w' hw' => by
            obtain rfl := of_some H
            exact ⟨rfl, hw'.ext⟩)

set_option maxHeartbeats 4000000 in
set_option maxRecDepth 100000 in
theorem laws_eqReply_ok (w : World) {p0 : Timpl_Reply} {p1 : Timpl_Reply} {cs0 : List Value} {cs1 : List Value} {r : Bool} (H : laws_eqReply p0 p1 = some r)  (g0 : (eTimpl_Reply).rd w [] p0 cs0) (g1 : (eTimpl_Reply).rd w [] p1 cs1) :
    Calls Try.prog 54 #[.agg cs0.toArray, .agg cs1.toArray] w (fun en w' => en = .returned (.bool r) ∧ Ext [] w w') := by
  obtain ⟨c1, c2, c3, c4, c5, c6, rfl, g7, g8, g9, g10, g11, g12⟩ := rdo_Timpl_Reply g0
  obtain rfl : c1 = [.int .i64 p0.Code_] := g7
  obtain rfl : c2 = [.int .i64 p0.At_] := g8
  obtain rfl : c3 = [.int .i64 p0.Says_] := g9
  obtain ⟨a13, c14, rfl⟩ := rd_sl1 g10
  obtain ⟨a15, c16, rfl⟩ := rd_sl1 g11
  obtain ⟨a17, c18, rfl⟩ := rd_sl1 g12
  obtain ⟨c19, c20, c21, c22, c23, c24, rfl, g25, g26, g27, g28, g29, g30⟩ := rdo_Timpl_Reply g1
  obtain rfl : c19 = [.int .i64 p1.Code_] := g25
  obtain rfl : c20 = [.int .i64 p1.At_] := g26
  obtain rfl : c21 = [.int .i64 p1.Says_] := g27
  obtain ⟨a31, c32, rfl⟩ := rd_sl1 g28
  obtain ⟨a33, c34, rfl⟩ := rd_sl1 g29
  obtain ⟨a35, c36, rfl⟩ := rd_sl1 g30
  unfold laws_eqReply at H
  refine f_enter (vs := [.agg #[.int .i64 p0.Code_, .int .i64 p0.At_, .int .i64 p0.Says_, .slice a13 p0.Votes_.length c14, .slice a15 p0.Bytes_.length c16, .slice a17 p0.Steps_.length c18], .agg #[.int .i64 p1.Code_, .int .i64 p1.At_, .int .i64 p1.Says_, .slice a31 p1.Votes_.length c32, .slice a33 p1.Bytes_.length c34, .slice a35 p1.Steps_.length c36]]) Try.func54 rfl Try.ntmps54 rfl (St.init w []) ?_
  refine c_seq ?_
  refine c_reg ?_
  refine ow_box (cs := [.int .i64 p0.Code_, .int .i64 p0.At_, .int .i64 p0.Says_, .slice a13 p0.Votes_.length c14, .slice a15 p0.Bytes_.length c16, .slice a17 p0.Steps_.length c18]) rfl rfl rfl rfl rfl rfl (fun _ => kp) (fun b37 => ?_)
  refine ow_box (cs := [.int .i64 p1.Code_, .int .i64 p1.At_, .int .i64 p1.Says_, .slice a31 p1.Votes_.length c32, .slice a33 p1.Bytes_.length c34, .slice a35 p1.Steps_.length c36]) rfl rfl rfl rfl rfl rfl (fun _ => kp) (fun b38 => ?_)
  refine ow_batch [.p] rfl ?_
  refine ow_nil ?_
  refine x_qs ?_
  refine c_seq ?_
  refine c_seq ?_
  refine c_reg ?_
  refine ow_batch [.fa 88 0 0 fa88_0] rfl ?_
  refine ow_r rfl (dstOk_lt rfl) (ry_box1 (off := 0) rfl rfl ty3 (boxIn (i := 0) rfl) rfl) ?_
  refine ow_batch [.fa 88 0 0 fa88_0] rfl ?_
  refine ow_r rfl (dstOk_lt rfl) (ry_box1 (off := 0) rfl rfl ty3 (boxIn (i := 1) rfl) rfl) ?_
  refine ow_batch [.p] rfl ?_
  refine ow_nil ?_
  refine x_qs ?_
  refine c_if rfl (fun hb => ?_) (fun hb => ?_)
  · have H := of_if_t hb H
    refine c_seq ?_
    refine c_reg ?_
    refine ow_batch [.p] rfl ?_
    refine ow_nil ?_
    refine x_qs ?_
    refine c_ret ?_
    refine x_qs_ret ?_
    exact x_retR (rs := [.tmp 4]) (vs := [.bool false]) rfl ⟨rfl, trivial⟩ (fun w' hw' => by
        obtain rfl := of_some H
        exact ⟨rfl, hw'.ext⟩)
  · have H := of_if_f hb H
    refine c_skip ?_
    refine x_qs ?_
    refine c_seq ?_
    refine c_seq ?_
    refine c_reg ?_
    refine ow_batch [.fa 88 1 1 fa88_1] rfl ?_
    refine ow_r rfl (dstOk_lt rfl) (ry_box1 (off := 1) rfl rfl ty3 (boxIn (i := 0) rfl) rfl) ?_
    refine ow_batch [.fa 88 1 1 fa88_1] rfl ?_
    refine ow_r rfl (dstOk_lt rfl) (ry_box1 (off := 1) rfl rfl ty3 (boxIn (i := 1) rfl) rfl) ?_
    refine ow_batch [.p] rfl ?_
    refine ow_nil ?_
    refine x_qs ?_
    refine c_if rfl (fun hb => ?_) (fun hb => ?_)
    · have H := of_if_t hb H
      refine c_seq ?_
      refine c_reg ?_
      refine ow_batch [.p] rfl ?_
      refine ow_nil ?_
      refine x_qs ?_
      refine c_ret ?_
      refine x_qs_ret ?_
      exact x_retR (rs := [.tmp 4]) (vs := [.bool false]) rfl ⟨rfl, trivial⟩ (fun w' hw' => by
          obtain rfl := of_some H
          exact ⟨rfl, hw'.ext⟩)
    · have H := of_if_f hb H
      refine c_skip ?_
      refine x_qs ?_
      refine c_seq ?_
      refine c_seq ?_
      refine c_reg ?_
      refine ow_batch [.fa 88 2 2 fa88_2] rfl ?_
      refine ow_r rfl (dstOk_lt rfl) (ry_box1 (off := 2) rfl rfl ty3 (boxIn (i := 0) rfl) rfl) ?_
      refine ow_batch [.fa 88 2 2 fa88_2] rfl ?_
      refine ow_r rfl (dstOk_lt rfl) (ry_box1 (off := 2) rfl rfl ty3 (boxIn (i := 1) rfl) rfl) ?_
      refine ow_batch [.p] rfl ?_
      refine ow_nil ?_
      refine x_qs ?_
      refine c_if rfl (fun hb => ?_) (fun hb => ?_)
      · have H := of_if_t hb H
        refine c_seq ?_
        refine c_reg ?_
        refine ow_batch [.p] rfl ?_
        refine ow_nil ?_
        refine x_qs ?_
        refine c_ret ?_
        refine x_qs_ret ?_
        exact x_retR (rs := [.tmp 4]) (vs := [.bool false]) rfl ⟨rfl, trivial⟩ (fun w' hw' => by
            obtain rfl := of_some H
            exact ⟨rfl, hw'.ext⟩)
      · have H := of_if_f hb H
        refine c_skip ?_
        refine x_qs ?_
        refine c_seq ?_
        refine c_seq ?_
        refine c_reg ?_
        refine ow_batch [.fa 88 3 3 fa88_3] rfl ?_
        refine ow_r rfl (dstOk_lt rfl) (ry_box1 (off := 3) rfl rfl ty22 (boxIn (i := 0) rfl) rfl) ?_
        refine ow_batch [.fa 88 3 3 fa88_3] rfl ?_
        refine ow_r rfl (dstOk_lt rfl) (ry_box1 (off := 3) rfl rfl ty22 (boxIn (i := 1) rfl) rfl) ?_
        obtain ⟨y39, h40, H⟩ := of_bind H
        refine ow_q rfl rfl (dstOk_lt rfl) (qy_call rfl fn64 rfl (fun w1 hw1 => laws_eqIntS_ok w1  h40 (rds_bor g10 w1 hw1) (rds_bor g28 w1 hw1))) (fun _ _ => trivial) ?_
        refine ow_batch [.p] rfl ?_
        refine ow_nil ?_
        refine x_qs ?_
        refine c_if rfl (fun hb => ?_) (fun hb => ?_)
        · have H := of_if_t hb H
          refine c_seq ?_
          refine c_reg ?_
          refine ow_batch [.p] rfl ?_
          refine ow_nil ?_
          refine x_qs ?_
          refine c_ret ?_
          refine x_qs_ret ?_
          exact x_retR (rs := [.tmp 4]) (vs := [.bool false]) rfl ⟨rfl, trivial⟩ (fun w' hw' => by
              obtain rfl := of_some H
              exact ⟨rfl, hw'.ext⟩)
        · have H := of_if_f hb H
          refine c_skip ?_
          refine x_qs ?_
          refine c_seq ?_
          refine c_seq ?_
          refine c_reg ?_
          refine ow_batch [.fa 88 4 4 fa88_4] rfl ?_
          refine ow_r rfl (dstOk_lt rfl) (ry_box1 (off := 4) rfl rfl ty82 (boxIn (i := 0) rfl) rfl) ?_
          refine ow_batch [.fa 88 4 4 fa88_4] rfl ?_
          refine ow_r rfl (dstOk_lt rfl) (ry_box1 (off := 4) rfl rfl ty82 (boxIn (i := 1) rfl) rfl) ?_
          obtain ⟨y41, h42, H⟩ := of_bind H
          refine ow_q rfl rfl (dstOk_lt rfl) (qy_call rfl fn103 rfl (fun w1 hw1 => laws_eqByteS_ok w1  h42 (rds_bor g11 w1 hw1) (rds_bor g29 w1 hw1))) (fun _ _ => trivial) ?_
          refine ow_batch [.p] rfl ?_
          refine ow_nil ?_
          refine x_qs ?_
          refine c_if rfl (fun hb => ?_) (fun hb => ?_)
          · have H := of_if_t hb H
            refine c_seq ?_
            refine c_reg ?_
            refine ow_batch [.p] rfl ?_
            refine ow_nil ?_
            refine x_qs ?_
            refine c_ret ?_
            refine x_qs_ret ?_
            exact x_retR (rs := [.tmp 4]) (vs := [.bool false]) rfl ⟨rfl, trivial⟩ (fun w' hw' => by
                obtain rfl := of_some H
                exact ⟨rfl, hw'.ext⟩)
          · have H := of_if_f hb H
            refine c_skip ?_
            refine x_qs ?_
            refine c_seq ?_
            refine c_seq ?_
            refine c_reg ?_
            refine ow_batch [.fa 88 5 5 fa88_5] rfl ?_
            refine ow_r rfl (dstOk_lt rfl) (ry_box1 (off := 5) rfl rfl ty74 (boxIn (i := 0) rfl) rfl) ?_
            refine ow_batch [.fa 88 5 5 fa88_5] rfl ?_
            refine ow_r rfl (dstOk_lt rfl) (ry_box1 (off := 5) rfl rfl ty74 (boxIn (i := 1) rfl) rfl) ?_
            obtain ⟨y43, h44, H⟩ := of_bind H
            refine ow_q rfl rfl (dstOk_lt rfl) (qy_call rfl fn45 rfl (fun w1 hw1 => laws_eqStepS_ok w1  h44 (rds_bor g12 w1 hw1) (rds_bor g30 w1 hw1))) (fun _ _ => trivial) ?_
            refine ow_batch [.p] rfl ?_
            refine ow_nil ?_
            refine x_qs ?_
            refine c_if rfl (fun hb => ?_) (fun hb => ?_)
            · have H := of_if_t hb H
              refine c_seq ?_
              refine c_reg ?_
              refine ow_batch [.p] rfl ?_
              refine ow_nil ?_
              refine x_qs ?_
              refine c_ret ?_
              refine x_qs_ret ?_
              exact x_retR (rs := [.tmp 4]) (vs := [.bool false]) rfl ⟨rfl, trivial⟩ (fun w' hw' => by
                  obtain rfl := of_some H
                  exact ⟨rfl, hw'.ext⟩)
            · have H := of_if_f hb H
              refine c_skip ?_
              refine x_qs ?_
              refine c_seq ?_
              refine c_reg ?_
              refine ow_batch [.p] rfl ?_
              refine ow_nil ?_
              refine x_qs ?_
              refine c_ret ?_
              exact x_retR (rs := [.tmp 4]) (vs := [.bool true]) rfl ⟨rfl, trivial⟩ (fun w' hw' => by
                  obtain rfl := of_some H
                  exact ⟨rfl, hw'.ext⟩)

set_option maxHeartbeats 4000000 in
set_option maxRecDepth 100000 in
theorem laws_FnExactReplySame_ok (w : World) {p0 : Tlaws_Reply} {p1 : Tlaws_Reply} {cs0 : List Value} {cs1 : List Value} {r : Bool} (H : laws_FnExactReplySame p0 p1 = some r)  (g0 : (eTlaws_Reply).rd w [] p0 cs0) (g1 : (eTlaws_Reply).rd w [] p1 cs1) :
    Calls Try.prog 10 #[.agg cs0.toArray, .agg cs1.toArray] w (fun en w' => en = .returned (.bool r) ∧ Ext [] w w') := by
  obtain ⟨c1, c2, c3, c4, c5, c6, rfl, g7, g8, g9, g10, g11, g12⟩ := rdo_Tlaws_Reply g0
  obtain rfl : c1 = [.int .i64 p0.Code_] := g7
  obtain rfl : c2 = [.int .i64 p0.At_] := g8
  obtain rfl : c3 = [.int .i64 p0.Says_] := g9
  obtain ⟨a13, c14, rfl⟩ := rd_sl1 g10
  obtain ⟨a15, c16, rfl⟩ := rd_sl1 g11
  obtain ⟨a17, c18, rfl⟩ := rd_sl1 g12
  obtain ⟨c19, c20, c21, c22, c23, c24, rfl, g25, g26, g27, g28, g29, g30⟩ := rdo_Tlaws_Reply g1
  obtain rfl : c19 = [.int .i64 p1.Code_] := g25
  obtain rfl : c20 = [.int .i64 p1.At_] := g26
  obtain rfl : c21 = [.int .i64 p1.Says_] := g27
  obtain ⟨a31, c32, rfl⟩ := rd_sl1 g28
  obtain ⟨a33, c34, rfl⟩ := rd_sl1 g29
  obtain ⟨a35, c36, rfl⟩ := rd_sl1 g30
  unfold laws_FnExactReplySame at H
  refine f_enter (vs := [.agg #[.int .i64 p0.Code_, .int .i64 p0.At_, .int .i64 p0.Says_, .slice a13 p0.Votes_.length c14, .slice a15 p0.Bytes_.length c16, .slice a17 p0.Steps_.length c18], .agg #[.int .i64 p1.Code_, .int .i64 p1.At_, .int .i64 p1.Says_, .slice a31 p1.Votes_.length c32, .slice a33 p1.Bytes_.length c34, .slice a35 p1.Steps_.length c36]]) Try.func10 rfl Try.ntmps10 rfl (St.init w []) ?_
  refine c_seq ?_
  refine c_reg ?_
  refine ow_box (cs := [.int .i64 p0.Code_, .int .i64 p0.At_, .int .i64 p0.Says_, .slice a13 p0.Votes_.length c14, .slice a15 p0.Bytes_.length c16, .slice a17 p0.Steps_.length c18]) rfl rfl rfl rfl rfl rfl (fun _ => kp) (fun b37 => ?_)
  refine ow_box (cs := [.int .i64 p1.Code_, .int .i64 p1.At_, .int .i64 p1.Says_, .slice a31 p1.Votes_.length c32, .slice a33 p1.Bytes_.length c34, .slice a35 p1.Steps_.length c36]) rfl rfl rfl rfl rfl rfl (fun _ => kp) (fun b38 => ?_)
  refine ow_batch [.p] rfl ?_
  refine ow_nil ?_
  refine x_qs ?_
  refine c_seq ?_
  refine c_reg ?_
  refine ow_batch [.p] rfl ?_
  refine ow_nil ?_
  refine x_qs ?_
  refine c_seq ?_
  refine c_reg ?_
  refine ow_r rfl (dstOk_lt rfl) (ry_box (off := 0) (ds := [.int .i64 p0.Code_, .int .i64 p0.At_, .int .i64 p0.Says_, .slice a13 p0.Votes_.length c14, .slice a15 p0.Bytes_.length c16, .slice a17 p0.Steps_.length c18]) rfl rfl ty84 (boxIn (i := 0) rfl) rfl rfl) ?_
  refine ow_batch [.p] rfl ?_
  obtain ⟨y39, h40, H⟩ := of_bind H
  refine ow_q rfl rfl (dstOk_lt rfl) (qy_call rfl fn50 rfl (fun w1 hw1 => laws_szReply_ok w1 (cs0 := [.int .i64 p0.Code_, .int .i64 p0.At_, .int .i64 p0.Says_, .slice a13 p0.Votes_.length c14, .slice a15 p0.Bytes_.length c16, .slice a17 p0.Steps_.length c18]) h40 (rdm_Tlaws_Reply (x := p0) (c0 := [.int .i64 p0.Code_]) (c1 := [.int .i64 p0.At_]) (c2 := [.int .i64 p0.Says_]) (c3 := [.slice a13 p0.Votes_.length c14]) (c4 := [.slice a15 p0.Bytes_.length c16]) (c5 := [.slice a17 p0.Steps_.length c18]) rfl rfl rfl (rds_bor g10 w1 hw1) (rds_bor g11 w1 hw1) (rds_bor g12 w1 hw1)))) (fun _ _ => trivial) ?_
  refine ow_batch [.p] rfl ?_
  refine ow_nil ?_
  refine x_qs ?_
  refine c_seq ?_
  refine c_seq ?_
  refine c_reg ?_
  refine ow_batch [.p, .p] rfl ?_
  refine ow_nil ?_
  refine x_qs ?_
  refine c_if rfl (fun hb => ?_) (fun hb => ?_)
  · have H := of_if_t hb H
    refine c_seq ?_
    refine c_reg ?_
    refine ow_batch [.p] rfl ?_
    refine ow_nil ?_
    refine x_qs ?_
    refine c_ret ?_
    refine x_qs_ret ?_
    exact x_retR (rs := [.tmp 4]) (vs := [.bool true]) rfl ⟨rfl, trivial⟩ (fun w' hw' => by
        obtain rfl := of_some H
        exact ⟨rfl, hw'.ext⟩)
  · have H := of_if_f hb H
    refine c_skip ?_
    refine x_qs ?_
    refine c_seq ?_
    refine c_reg ?_
    refine ow_r rfl (dstOk_lt rfl) (ry_box (off := 0) (ds := [.int .i64 p1.Code_, .int .i64 p1.At_, .int .i64 p1.Says_, .slice a31 p1.Votes_.length c32, .slice a33 p1.Bytes_.length c34, .slice a35 p1.Steps_.length c36]) rfl rfl ty84 (boxIn (i := 1) rfl) rfl rfl) ?_
    refine ow_batch [.p] rfl ?_
    obtain ⟨y41, h42, H⟩ := of_bind H
    refine ow_q rfl rfl (dstOk_lt rfl) (qy_call rfl fn50 rfl (fun w1 hw1 => laws_szReply_ok w1 (cs0 := [.int .i64 p1.Code_, .int .i64 p1.At_, .int .i64 p1.Says_, .slice a31 p1.Votes_.length c32, .slice a33 p1.Bytes_.length c34, .slice a35 p1.Steps_.length c36]) h42 (rdm_Tlaws_Reply (x := p1) (c0 := [.int .i64 p1.Code_]) (c1 := [.int .i64 p1.At_]) (c2 := [.int .i64 p1.Says_]) (c3 := [.slice a31 p1.Votes_.length c32]) (c4 := [.slice a33 p1.Bytes_.length c34]) (c5 := [.slice a35 p1.Steps_.length c36]) rfl rfl rfl (rds_bor g28 w1 hw1) (rds_bor g29 w1 hw1) (rds_bor g30 w1 hw1)))) (fun _ _ => trivial) ?_
    refine ow_batch [.p] rfl ?_
    refine ow_nil ?_
    refine x_qs ?_
    refine c_seq ?_
    refine c_seq ?_
    refine c_reg ?_
    refine ow_batch [.p, .p] rfl ?_
    refine ow_nil ?_
    refine x_qs ?_
    refine c_if rfl (fun hb => ?_) (fun hb => ?_)
    · have H := of_if_t hb H
      refine c_seq ?_
      refine c_reg ?_
      refine ow_batch [.p] rfl ?_
      refine ow_nil ?_
      refine x_qs ?_
      refine c_ret ?_
      refine x_qs_ret ?_
      exact x_retR (rs := [.tmp 4]) (vs := [.bool true]) rfl ⟨rfl, trivial⟩ (fun w' hw' => by
          obtain rfl := of_some H
          exact ⟨rfl, hw'.ext⟩)
    · have H := of_if_f hb H
      refine c_skip ?_
      refine x_qs ?_
      refine c_seq ?_
      refine c_regHT 3 [(0, true), (2, true), (1, false)] (St w [] [Res.box b37 84 [.int .i64 p0.Code_, .int .i64 p0.At_, .int .i64 p0.Says_, .slice a13 p0.Votes_.length c14, .slice a15 p0.Bytes_.length c16, .slice a17 p0.Steps_.length c18], Res.box b38 84 [.int .i64 p1.Code_, .int .i64 p1.At_, .int .i64 p1.Says_, .slice a31 p1.Votes_.length c32, .slice a33 p1.Bytes_.length c34, .slice a35 p1.Steps_.length c36]]) mixed (by kernel_rfl) (panicOk_qs panicOk_body) (fun _ h => St.mask [true, true] rfl h) ?_
      refine ow_rH rfl (dstOk_lt rfl) (ry_box (off := 0) (ds := [.int .i64 p0.Code_, .int .i64 p0.At_, .int .i64 p0.Says_, .slice a13 p0.Votes_.length c14, .slice a15 p0.Bytes_.length c16, .slice a17 p0.Steps_.length c18]) rfl rfl ty84 (boxIn (i := 0) rfl) rfl rfl) ?_
      refine ow_rH rfl (dstOk_lt rfl) (ry_box (off := 0) (ds := [.int .i64 p1.Code_, .int .i64 p1.At_, .int .i64 p1.Says_, .slice a31 p1.Votes_.length c32, .slice a33 p1.Bytes_.length c34, .slice a35 p1.Steps_.length c36]) rfl rfl ty84 (boxIn (i := 1) rfl) rfl rfl) ?_
      obtain ⟨y60, h61, H⟩ := of_bind H
      refine ow_callS rfl fn52 rfl rfl rfl rfl (fun w1 hw1 => laws_toReply_ok w1 (cs0 := [.int .i64 p0.Code_, .int .i64 p0.At_, .int .i64 p0.Says_, .slice a13 p0.Votes_.length c14, .slice a15 p0.Bytes_.length c16, .slice a17 p0.Steps_.length c18]) h61 (hw1.carve [] rfl rfl) (rdm_Tlaws_Reply (x := p0) (c0 := [.int .i64 p0.Code_]) (c1 := [.int .i64 p0.At_]) (c2 := [.int .i64 p0.Says_]) (c3 := [.slice a13 p0.Votes_.length c14]) (c4 := [.slice a15 p0.Bytes_.length c16]) (c5 := [.slice a17 p0.Steps_.length c18]) rfl rfl rfl (rds_bor g10 w1 hw1) (rds_bor g11 w1 hw1) (rds_bor g12 w1 hw1))) (fun v62 w1 w2 hw1 hR64 => ?_)
      obtain ⟨a65, n66, c67, F68, a69, n70, c71, F72, a73, n74, c75, F76, rfl, hS63⟩ := hR64
      obtain rfl := own_nS (i := 0) hS63 rfl
      obtain rfl := own_nS (i := 1) hS63 rfl
      obtain rfl := own_nS (i := 2) hS63 rfl
      refine ⟨St w [] [_, _, _, _, _], hw1.comp [] rfl rfl hS63, (fun _ h => St.mask [true, true] rfl h), ?_⟩
      refine ow_nilH ?_
      refine x_qt ?_
      obtain ⟨y77, h78, H⟩ := of_bind H
      refine ow_callS rfl fn52 rfl rfl rfl rfl (fun w1 hw1 => laws_toReply_ok w1 (cs0 := [.int .i64 p1.Code_, .int .i64 p1.At_, .int .i64 p1.Says_, .slice a31 p1.Votes_.length c32, .slice a33 p1.Bytes_.length c34, .slice a35 p1.Steps_.length c36]) h78 (hw1.carve [] rfl rfl) (rdm_Tlaws_Reply (x := p1) (c0 := [.int .i64 p1.Code_]) (c1 := [.int .i64 p1.At_]) (c2 := [.int .i64 p1.Says_]) (c3 := [.slice a31 p1.Votes_.length c32]) (c4 := [.slice a33 p1.Bytes_.length c34]) (c5 := [.slice a35 p1.Steps_.length c36]) rfl rfl rfl (rds_bor g28 w1 hw1) (rds_bor g29 w1 hw1) (rds_bor g30 w1 hw1))) (fun v79 w1 w2 hw1 hR81 => ?_)
      obtain ⟨a82, n83, c84, F85, a86, n87, c88, F89, a90, n91, c92, F93, rfl, hS80⟩ := hR81
      obtain rfl := own_nS (i := 0) hS80 rfl
      obtain rfl := own_nS (i := 1) hS80 rfl
      obtain rfl := own_nS (i := 2) hS80 rfl
      refine ⟨St w [] [_, _, _, _, _, _, _, _], hw1.comp [] rfl rfl hS80, fun _ _ => trivial, ?_⟩
      obtain ⟨y94, h95, H⟩ := of_bind H
      refine ow_q rfl rfl (dstOk_lt rfl) (qy_call rfl fn51 rfl (fun w1 hw1 => spec_ReplySame_ok w1 (cs0 := [.int .i64 y60.Code_, .int .i64 y60.At_, .int .i64 y60.Says_, .slice a65 y60.Votes_.length c67, .slice a69 y60.Bytes_.length c71, .slice a73 y60.Steps_.length c75]) (cs1 := [.int .i64 y77.Code_, .int .i64 y77.At_, .int .i64 y77.Says_, .slice a82 y77.Votes_.length c84, .slice a86 y77.Bytes_.length c88, .slice a90 y77.Steps_.length c92]) h95 (rdm_Timpl_Reply (x := y60) (c0 := [.int .i64 y60.Code_]) (c1 := [.int .i64 y60.At_]) (c2 := [.int .i64 y60.Says_]) (c3 := [.slice a65 y60.Votes_.length c67]) (c4 := [.slice a69 y60.Bytes_.length c71]) (c5 := [.slice a73 y60.Steps_.length c75]) rfl rfl rfl (rds_own (r := 2) rfl w1 hw1) (rds_own (r := 3) rfl w1 hw1) (rds_own (r := 4) rfl w1 hw1)) (rdm_Timpl_Reply (x := y77) (c0 := [.int .i64 y77.Code_]) (c1 := [.int .i64 y77.At_]) (c2 := [.int .i64 y77.Says_]) (c3 := [.slice a82 y77.Votes_.length c84]) (c4 := [.slice a86 y77.Bytes_.length c88]) (c5 := [.slice a90 y77.Steps_.length c92]) rfl rfl rfl (rds_own (r := 5) rfl w1 hw1) (rds_own (r := 6) rfl w1 hw1) (rds_own (r := 7) rfl w1 hw1)))) (fun _ _ => trivial) ?_
      refine ow_batch [.p] rfl ?_
      refine ow_nil ?_
      refine x_qs ?_
      refine c_seq ?_
      refine c_reg ?_
      refine ow_r rfl (dstOk_lt rfl) (ry_box (off := 0) (ds := [.int .i64 p0.Code_, .int .i64 p0.At_, .int .i64 p0.Says_, .slice a13 p0.Votes_.length c14, .slice a15 p0.Bytes_.length c16, .slice a17 p0.Steps_.length c18]) rfl rfl ty84 (boxIn (i := 0) rfl) rfl rfl) ?_
      obtain ⟨y96, h97, H⟩ := of_bind H
      refine ow_callS rfl fn52 rfl rfl rfl rfl (fun w1 hw1 => laws_toReply_ok w1 (cs0 := [.int .i64 p0.Code_, .int .i64 p0.At_, .int .i64 p0.Says_, .slice a13 p0.Votes_.length c14, .slice a15 p0.Bytes_.length c16, .slice a17 p0.Steps_.length c18]) h97 (hw1.carve [] rfl rfl) (rdm_Tlaws_Reply (x := p0) (c0 := [.int .i64 p0.Code_]) (c1 := [.int .i64 p0.At_]) (c2 := [.int .i64 p0.Says_]) (c3 := [.slice a13 p0.Votes_.length c14]) (c4 := [.slice a15 p0.Bytes_.length c16]) (c5 := [.slice a17 p0.Steps_.length c18]) rfl rfl rfl (rds_bor g10 w1 hw1) (rds_bor g11 w1 hw1) (rds_bor g12 w1 hw1))) (fun v98 w1 w2 hw1 hR100 => ?_)
      obtain ⟨a101, n102, c103, F104, a105, n106, c107, F108, a109, n110, c111, F112, rfl, hS99⟩ := hR100
      obtain rfl := own_nS (i := 0) hS99 rfl
      obtain rfl := own_nS (i := 1) hS99 rfl
      obtain rfl := own_nS (i := 2) hS99 rfl
      refine ⟨St w [] [_, _, _, _, _, _, _, _, _, _, _], hw1.comp [] rfl rfl hS99, fun _ _ => trivial, ?_⟩
      refine ow_alloc rfl rfl rfl rfl ty88 (fun _ => kp) (fun b113 => ?_)
      refine ow_storeC (off := 0) [.int .i64 y96.Code_, .int .i64 y96.At_, .int .i64 y96.Says_, .slice a101 y96.Votes_.length c103, .slice a105 y96.Bytes_.length c107, .slice a109 y96.Steps_.length c111] [_, _, _, _, _, _] (i := 11) rfl rfl rfl rfl rfl rfl ty88 rfl rfl (by intro u hu; simp only [List.mem_cons, List.not_mem_nil, or_false] at hu; rcases hu with rfl | rfl | rfl | rfl | rfl | rfl <;> rfl) rfl rfl rfl kp ?_
      refine ow_nil ?_
      refine x_qs ?_
      refine c_seq ?_
      refine c_reg ?_
      refine ow_r rfl (dstOk_lt rfl) (ry_box (off := 0) (ds := [.int .i64 p1.Code_, .int .i64 p1.At_, .int .i64 p1.Says_, .slice a31 p1.Votes_.length c32, .slice a33 p1.Bytes_.length c34, .slice a35 p1.Steps_.length c36]) rfl rfl ty84 (boxIn (i := 1) rfl) rfl rfl) ?_
      obtain ⟨y114, h115, H⟩ := of_bind H
      refine ow_callS rfl fn52 rfl rfl rfl rfl (fun w1 hw1 => laws_toReply_ok w1 (cs0 := [.int .i64 p1.Code_, .int .i64 p1.At_, .int .i64 p1.Says_, .slice a31 p1.Votes_.length c32, .slice a33 p1.Bytes_.length c34, .slice a35 p1.Steps_.length c36]) h115 (hw1.carve [] rfl rfl) (rdm_Tlaws_Reply (x := p1) (c0 := [.int .i64 p1.Code_]) (c1 := [.int .i64 p1.At_]) (c2 := [.int .i64 p1.Says_]) (c3 := [.slice a31 p1.Votes_.length c32]) (c4 := [.slice a33 p1.Bytes_.length c34]) (c5 := [.slice a35 p1.Steps_.length c36]) rfl rfl rfl (rds_bor g28 w1 hw1) (rds_bor g29 w1 hw1) (rds_bor g30 w1 hw1))) (fun v116 w1 w2 hw1 hR118 => ?_)
      obtain ⟨a119, n120, c121, F122, a123, n124, c125, F126, a127, n128, c129, F130, rfl, hS117⟩ := hR118
      obtain rfl := own_nS (i := 0) hS117 rfl
      obtain rfl := own_nS (i := 1) hS117 rfl
      obtain rfl := own_nS (i := 2) hS117 rfl
      refine ⟨St w [] [_, _, _, _, _, _, _, _, _, _, _, _, _, _, _], hw1.comp [] rfl rfl hS117, fun _ _ => trivial, ?_⟩
      refine ow_alloc rfl rfl rfl rfl ty88 (fun _ => kp) (fun b131 => ?_)
      refine ow_storeC (off := 0) [.int .i64 y114.Code_, .int .i64 y114.At_, .int .i64 y114.Says_, .slice a119 y114.Votes_.length c121, .slice a123 y114.Bytes_.length c125, .slice a127 y114.Steps_.length c129] [_, _, _, _, _, _] (i := 15) rfl rfl rfl rfl rfl rfl ty88 rfl rfl (by intro u hu; simp only [List.mem_cons, List.not_mem_nil, or_false] at hu; rcases hu with rfl | rfl | rfl | rfl | rfl | rfl <;> rfl) rfl rfl rfl kp ?_
      refine ow_nil ?_
      refine x_qs ?_
      refine c_seq ?_
      refine c_reg ?_
      refine ow_r rfl (dstOk_lt rfl) (ry_box (off := 0) (ds := [.int .i64 y96.Code_, .int .i64 y96.At_, .int .i64 y96.Says_, .slice a101 y96.Votes_.length c103, .slice a105 y96.Bytes_.length c107, .slice a109 y96.Steps_.length c111]) rfl rfl ty88 (boxIn (i := 11) rfl) rfl rfl) ?_
      refine ow_r rfl (dstOk_lt rfl) (ry_box (off := 0) (ds := [.int .i64 y114.Code_, .int .i64 y114.At_, .int .i64 y114.Says_, .slice a119 y114.Votes_.length c121, .slice a123 y114.Bytes_.length c125, .slice a127 y114.Steps_.length c129]) rfl rfl ty88 (boxIn (i := 15) rfl) rfl rfl) ?_
      obtain ⟨y132, h133, H⟩ := of_bind H
      refine ow_q rfl rfl (dstOk_lt rfl) (qy_call rfl fn53 rfl (fun w1 hw1 => impl_ReplySame_ok w1 (cs0 := [.int .i64 y96.Code_, .int .i64 y96.At_, .int .i64 y96.Says_, .slice a101 y96.Votes_.length c103, .slice a105 y96.Bytes_.length c107, .slice a109 y96.Steps_.length c111]) (cs1 := [.int .i64 y114.Code_, .int .i64 y114.At_, .int .i64 y114.Says_, .slice a119 y114.Votes_.length c121, .slice a123 y114.Bytes_.length c125, .slice a127 y114.Steps_.length c129]) h133 (rdm_Timpl_Reply (x := y96) (c0 := [.int .i64 y96.Code_]) (c1 := [.int .i64 y96.At_]) (c2 := [.int .i64 y96.Says_]) (c3 := [.slice a101 y96.Votes_.length c103]) (c4 := [.slice a105 y96.Bytes_.length c107]) (c5 := [.slice a109 y96.Steps_.length c111]) rfl rfl rfl (rds_own (r := 8) rfl w1 hw1) (rds_own (r := 9) rfl w1 hw1) (rds_own (r := 10) rfl w1 hw1)) (rdm_Timpl_Reply (x := y114) (c0 := [.int .i64 y114.Code_]) (c1 := [.int .i64 y114.At_]) (c2 := [.int .i64 y114.Says_]) (c3 := [.slice a119 y114.Votes_.length c121]) (c4 := [.slice a123 y114.Bytes_.length c125]) (c5 := [.slice a127 y114.Steps_.length c129]) rfl rfl rfl (rds_own (r := 12) rfl w1 hw1) (rds_own (r := 13) rfl w1 hw1) (rds_own (r := 14) rfl w1 hw1)))) (fun _ _ => trivial) ?_
      refine ow_batch [.p] rfl ?_
      refine ow_nil ?_
      refine x_qs ?_
      refine c_seq ?_
      refine c_seq ?_
      refine c_reg ?_
      refine ow_batch [.p, .p] rfl ?_
      refine ow_r rfl (dstOk_lt rfl) (ry_bneq rfl rfl rfl bl4) ?_
      refine ow_nil ?_
      refine x_qs ?_
      refine c_if rfl (fun hb => ?_) (fun hb => ?_)
      · have H := of_if_t hb H
        refine c_seq ?_
        refine c_reg ?_
        refine ow_batch [.p] rfl ?_
        refine ow_nil ?_
        refine x_qs ?_
        refine c_ret ?_
        refine x_qs_ret ?_
        exact x_retR (rs := [.tmp 4]) (vs := [.bool false]) rfl ⟨rfl, trivial⟩ (fun w' hw' => by
            obtain rfl := of_some H
            exact ⟨rfl, hw'.ext⟩)
      · have H := of_if_f hb H
        refine c_skip ?_
        refine x_qs ?_
        refine c_seq ?_
        refine c_seq ?_
        refine c_regHT 3 [(0, true), (1, true), (2, false)] (St w [] [Res.box b37 84 [.int .i64 p0.Code_, .int .i64 p0.At_, .int .i64 p0.Says_, .slice a13 p0.Votes_.length c14, .slice a15 p0.Bytes_.length c16, .slice a17 p0.Steps_.length c18], Res.box b38 84 [.int .i64 p1.Code_, .int .i64 p1.At_, .int .i64 p1.Says_, .slice a31 p1.Votes_.length c32, .slice a33 p1.Bytes_.length c34, .slice a35 p1.Steps_.length c36], Res.own (eList (eVal (Value.int .i64) (fun _ => rfl)) 3) F68 y60.Votes_ [.slice a65 y60.Votes_.length c67], Res.own (eList (eVal (Value.int .u8) (fun _ => rfl)) 5) F72 y60.Bytes_ [.slice a69 y60.Bytes_.length c71], Res.own (eList (eTimpl_Step) 123) F76 y60.Steps_ [.slice a73 y60.Steps_.length c75], Res.own (eList (eVal (Value.int .i64) (fun _ => rfl)) 3) F85 y77.Votes_ [.slice a82 y77.Votes_.length c84], Res.own (eList (eVal (Value.int .u8) (fun _ => rfl)) 5) F89 y77.Bytes_ [.slice a86 y77.Bytes_.length c88], Res.own (eList (eTimpl_Step) 123) F93 y77.Steps_ [.slice a90 y77.Steps_.length c92], Res.own (eList (eVal (Value.int .i64) (fun _ => rfl)) 3) F104 y96.Votes_ [.slice a101 y96.Votes_.length c103], Res.own (eList (eVal (Value.int .u8) (fun _ => rfl)) 5) F108 y96.Bytes_ [.slice a105 y96.Bytes_.length c107], Res.own (eList (eTimpl_Step) 123) F112 y96.Steps_ [.slice a109 y96.Steps_.length c111], Res.box b113 88 [.int .i64 y96.Code_, .int .i64 y96.At_, .int .i64 y96.Says_, .slice a101 y96.Votes_.length c103, .slice a105 y96.Bytes_.length c107, .slice a109 y96.Steps_.length c111], Res.own (eList (eVal (Value.int .i64) (fun _ => rfl)) 3) F122 y114.Votes_ [.slice a119 y114.Votes_.length c121], Res.own (eList (eVal (Value.int .u8) (fun _ => rfl)) 5) F126 y114.Bytes_ [.slice a123 y114.Bytes_.length c125], Res.own (eList (eTimpl_Step) 123) F130 y114.Steps_ [.slice a127 y114.Steps_.length c129], Res.box b131 88 [.int .i64 y114.Code_, .int .i64 y114.At_, .int .i64 y114.Says_, .slice a119 y114.Votes_.length c121, .slice a123 y114.Bytes_.length c125, .slice a127 y114.Steps_.length c129]]) mixed (by kernel_rfl) (panicOk_qs (panicOk_qs panicOk_body)) (fun _ h => St.mask [true, true, true, true, true, true, true, true, true, true, true, true, true, true, true, true] rfl h) ?_
        refine ow_rH rfl (dstOk_lt rfl) (ry_box (off := 0) (ds := [.int .i64 y96.Code_, .int .i64 y96.At_, .int .i64 y96.Says_, .slice a101 y96.Votes_.length c103, .slice a105 y96.Bytes_.length c107, .slice a109 y96.Steps_.length c111]) rfl rfl ty88 (boxIn (i := 11) rfl) rfl rfl) ?_
        refine ow_rH rfl (dstOk_lt rfl) (ry_box (off := 0) (ds := [.int .i64 p0.Code_, .int .i64 p0.At_, .int .i64 p0.Says_, .slice a13 p0.Votes_.length c14, .slice a15 p0.Bytes_.length c16, .slice a17 p0.Steps_.length c18]) rfl rfl ty84 (boxIn (i := 0) rfl) rfl rfl) ?_
        obtain ⟨y151, h152, H⟩ := of_bind H
        refine ow_callS rfl fn52 rfl rfl rfl rfl (fun w1 hw1 => laws_toReply_ok w1 (cs0 := [.int .i64 p0.Code_, .int .i64 p0.At_, .int .i64 p0.Says_, .slice a13 p0.Votes_.length c14, .slice a15 p0.Bytes_.length c16, .slice a17 p0.Steps_.length c18]) h152 (hw1.carve [] rfl rfl) (rdm_Tlaws_Reply (x := p0) (c0 := [.int .i64 p0.Code_]) (c1 := [.int .i64 p0.At_]) (c2 := [.int .i64 p0.Says_]) (c3 := [.slice a13 p0.Votes_.length c14]) (c4 := [.slice a15 p0.Bytes_.length c16]) (c5 := [.slice a17 p0.Steps_.length c18]) rfl rfl rfl (rds_bor g10 w1 hw1) (rds_bor g11 w1 hw1) (rds_bor g12 w1 hw1))) (fun v153 w1 w2 hw1 hR155 => ?_)
        obtain ⟨a156, n157, c158, F159, a160, n161, c162, F163, a164, n165, c166, F167, rfl, hS154⟩ := hR155
        obtain rfl := own_nS (i := 0) hS154 rfl
        obtain rfl := own_nS (i := 1) hS154 rfl
        obtain rfl := own_nS (i := 2) hS154 rfl
        refine ⟨St w [] [_, _, _, _, _, _, _, _, _, _, _, _, _, _, _, _, _, _, _], hw1.comp [] rfl rfl hS154, (fun _ h => St.mask [true, true, true, true, true, true, true, true, true, true, true, true, true, true, true, true] rfl h), ?_⟩
        refine ow_nilH ?_
        refine x_qt ?_
        obtain ⟨y168, h169, H⟩ := of_bind H
        refine ow_q rfl rfl (dstOk_lt rfl) (qy_call rfl fn54 rfl (fun w1 hw1 => laws_eqReply_ok w1 (cs0 := [.int .i64 y96.Code_, .int .i64 y96.At_, .int .i64 y96.Says_, .slice a101 y96.Votes_.length c103, .slice a105 y96.Bytes_.length c107, .slice a109 y96.Steps_.length c111]) (cs1 := [.int .i64 y151.Code_, .int .i64 y151.At_, .int .i64 y151.Says_, .slice a156 y151.Votes_.length c158, .slice a160 y151.Bytes_.length c162, .slice a164 y151.Steps_.length c166]) h169 (rdm_Timpl_Reply (x := y96) (c0 := [.int .i64 y96.Code_]) (c1 := [.int .i64 y96.At_]) (c2 := [.int .i64 y96.Says_]) (c3 := [.slice a101 y96.Votes_.length c103]) (c4 := [.slice a105 y96.Bytes_.length c107]) (c5 := [.slice a109 y96.Steps_.length c111]) rfl rfl rfl (rds_own (r := 8) rfl w1 hw1) (rds_own (r := 9) rfl w1 hw1) (rds_own (r := 10) rfl w1 hw1)) (rdm_Timpl_Reply (x := y151) (c0 := [.int .i64 y151.Code_]) (c1 := [.int .i64 y151.At_]) (c2 := [.int .i64 y151.Says_]) (c3 := [.slice a156 y151.Votes_.length c158]) (c4 := [.slice a160 y151.Bytes_.length c162]) (c5 := [.slice a164 y151.Steps_.length c166]) rfl rfl rfl (rds_own (r := 16) rfl w1 hw1) (rds_own (r := 17) rfl w1 hw1) (rds_own (r := 18) rfl w1 hw1)))) (fun _ _ => trivial) ?_
        refine ow_batch [.p] rfl ?_
        refine ow_nil ?_
        refine x_qs ?_
        refine c_if rfl (fun hb => ?_) (fun hb => ?_)
        · have H := of_if_t hb H
          refine c_seq ?_
          refine c_reg ?_
          refine ow_batch [.p] rfl ?_
          refine ow_nil ?_
          refine x_qs ?_
          refine c_ret ?_
          refine x_qs_ret ?_
          exact x_retR (rs := [.tmp 4]) (vs := [.bool false]) rfl ⟨rfl, trivial⟩ (fun w' hw' => by
              obtain rfl := of_some H
              exact ⟨rfl, hw'.ext⟩)
        · have H := of_if_f hb H
          refine c_skip ?_
          refine x_qs ?_
          refine c_seq ?_
          refine c_seq ?_
          refine c_regHT 3 [(0, true), (1, true), (2, false)] (St w [] [Res.box b37 84 [.int .i64 p0.Code_, .int .i64 p0.At_, .int .i64 p0.Says_, .slice a13 p0.Votes_.length c14, .slice a15 p0.Bytes_.length c16, .slice a17 p0.Steps_.length c18], Res.box b38 84 [.int .i64 p1.Code_, .int .i64 p1.At_, .int .i64 p1.Says_, .slice a31 p1.Votes_.length c32, .slice a33 p1.Bytes_.length c34, .slice a35 p1.Steps_.length c36], Res.own (eList (eVal (Value.int .i64) (fun _ => rfl)) 3) F68 y60.Votes_ [.slice a65 y60.Votes_.length c67], Res.own (eList (eVal (Value.int .u8) (fun _ => rfl)) 5) F72 y60.Bytes_ [.slice a69 y60.Bytes_.length c71], Res.own (eList (eTimpl_Step) 123) F76 y60.Steps_ [.slice a73 y60.Steps_.length c75], Res.own (eList (eVal (Value.int .i64) (fun _ => rfl)) 3) F85 y77.Votes_ [.slice a82 y77.Votes_.length c84], Res.own (eList (eVal (Value.int .u8) (fun _ => rfl)) 5) F89 y77.Bytes_ [.slice a86 y77.Bytes_.length c88], Res.own (eList (eTimpl_Step) 123) F93 y77.Steps_ [.slice a90 y77.Steps_.length c92], Res.own (eList (eVal (Value.int .i64) (fun _ => rfl)) 3) F104 y96.Votes_ [.slice a101 y96.Votes_.length c103], Res.own (eList (eVal (Value.int .u8) (fun _ => rfl)) 5) F108 y96.Bytes_ [.slice a105 y96.Bytes_.length c107], Res.own (eList (eTimpl_Step) 123) F112 y96.Steps_ [.slice a109 y96.Steps_.length c111], Res.box b113 88 [.int .i64 y96.Code_, .int .i64 y96.At_, .int .i64 y96.Says_, .slice a101 y96.Votes_.length c103, .slice a105 y96.Bytes_.length c107, .slice a109 y96.Steps_.length c111], Res.own (eList (eVal (Value.int .i64) (fun _ => rfl)) 3) F122 y114.Votes_ [.slice a119 y114.Votes_.length c121], Res.own (eList (eVal (Value.int .u8) (fun _ => rfl)) 5) F126 y114.Bytes_ [.slice a123 y114.Bytes_.length c125], Res.own (eList (eTimpl_Step) 123) F130 y114.Steps_ [.slice a127 y114.Steps_.length c129], Res.box b131 88 [.int .i64 y114.Code_, .int .i64 y114.At_, .int .i64 y114.Says_, .slice a119 y114.Votes_.length c121, .slice a123 y114.Bytes_.length c125, .slice a127 y114.Steps_.length c129], Res.own (eList (eVal (Value.int .i64) (fun _ => rfl)) 3) F159 y151.Votes_ [.slice a156 y151.Votes_.length c158], Res.own (eList (eVal (Value.int .u8) (fun _ => rfl)) 5) F163 y151.Bytes_ [.slice a160 y151.Bytes_.length c162], Res.own (eList (eTimpl_Step) 123) F167 y151.Steps_ [.slice a164 y151.Steps_.length c166]]) mixed (by kernel_rfl) (panicOk_qs (panicOk_qs panicOk_body)) (fun _ h => St.mask [true, true, true, true, true, true, true, true, true, true, true, true, true, true, true, true, true, true, true] rfl h) ?_
          refine ow_rH rfl (dstOk_lt rfl) (ry_box (off := 0) (ds := [.int .i64 y114.Code_, .int .i64 y114.At_, .int .i64 y114.Says_, .slice a119 y114.Votes_.length c121, .slice a123 y114.Bytes_.length c125, .slice a127 y114.Steps_.length c129]) rfl rfl ty88 (boxIn (i := 15) rfl) rfl rfl) ?_
          refine ow_rH rfl (dstOk_lt rfl) (ry_box (off := 0) (ds := [.int .i64 p1.Code_, .int .i64 p1.At_, .int .i64 p1.Says_, .slice a31 p1.Votes_.length c32, .slice a33 p1.Bytes_.length c34, .slice a35 p1.Steps_.length c36]) rfl rfl ty84 (boxIn (i := 1) rfl) rfl rfl) ?_
          obtain ⟨y187, h188, H⟩ := of_bind H
          refine ow_callS rfl fn52 rfl rfl rfl rfl (fun w1 hw1 => laws_toReply_ok w1 (cs0 := [.int .i64 p1.Code_, .int .i64 p1.At_, .int .i64 p1.Says_, .slice a31 p1.Votes_.length c32, .slice a33 p1.Bytes_.length c34, .slice a35 p1.Steps_.length c36]) h188 (hw1.carve [] rfl rfl) (rdm_Tlaws_Reply (x := p1) (c0 := [.int .i64 p1.Code_]) (c1 := [.int .i64 p1.At_]) (c2 := [.int .i64 p1.Says_]) (c3 := [.slice a31 p1.Votes_.length c32]) (c4 := [.slice a33 p1.Bytes_.length c34]) (c5 := [.slice a35 p1.Steps_.length c36]) rfl rfl rfl (rds_bor g28 w1 hw1) (rds_bor g29 w1 hw1) (rds_bor g30 w1 hw1))) (fun v189 w1 w2 hw1 hR191 => ?_)
          obtain ⟨a192, n193, c194, F195, a196, n197, c198, F199, a200, n201, c202, F203, rfl, hS190⟩ := hR191
          obtain rfl := own_nS (i := 0) hS190 rfl
          obtain rfl := own_nS (i := 1) hS190 rfl
          obtain rfl := own_nS (i := 2) hS190 rfl
          refine ⟨St w [] [_, _, _, _, _, _, _, _, _, _, _, _, _, _, _, _, _, _, _, _, _, _], hw1.comp [] rfl rfl hS190, (fun _ h => St.mask [true, true, true, true, true, true, true, true, true, true, true, true, true, true, true, true, true, true, true] rfl h), ?_⟩
          refine ow_nilH ?_
          refine x_qt ?_
          obtain ⟨y204, h205, H⟩ := of_bind H
          refine ow_q rfl rfl (dstOk_lt rfl) (qy_call rfl fn54 rfl (fun w1 hw1 => laws_eqReply_ok w1 (cs0 := [.int .i64 y114.Code_, .int .i64 y114.At_, .int .i64 y114.Says_, .slice a119 y114.Votes_.length c121, .slice a123 y114.Bytes_.length c125, .slice a127 y114.Steps_.length c129]) (cs1 := [.int .i64 y187.Code_, .int .i64 y187.At_, .int .i64 y187.Says_, .slice a192 y187.Votes_.length c194, .slice a196 y187.Bytes_.length c198, .slice a200 y187.Steps_.length c202]) h205 (rdm_Timpl_Reply (x := y114) (c0 := [.int .i64 y114.Code_]) (c1 := [.int .i64 y114.At_]) (c2 := [.int .i64 y114.Says_]) (c3 := [.slice a119 y114.Votes_.length c121]) (c4 := [.slice a123 y114.Bytes_.length c125]) (c5 := [.slice a127 y114.Steps_.length c129]) rfl rfl rfl (rds_own (r := 12) rfl w1 hw1) (rds_own (r := 13) rfl w1 hw1) (rds_own (r := 14) rfl w1 hw1)) (rdm_Timpl_Reply (x := y187) (c0 := [.int .i64 y187.Code_]) (c1 := [.int .i64 y187.At_]) (c2 := [.int .i64 y187.Says_]) (c3 := [.slice a192 y187.Votes_.length c194]) (c4 := [.slice a196 y187.Bytes_.length c198]) (c5 := [.slice a200 y187.Steps_.length c202]) rfl rfl rfl (rds_own (r := 19) rfl w1 hw1) (rds_own (r := 20) rfl w1 hw1) (rds_own (r := 21) rfl w1 hw1)))) (fun _ _ => trivial) ?_
          refine ow_batch [.p] rfl ?_
          refine ow_nil ?_
          refine x_qs ?_
          refine c_if rfl (fun hb => ?_) (fun hb => ?_)
          · have H := of_if_t hb H
            refine c_seq ?_
            refine c_reg ?_
            refine ow_batch [.p] rfl ?_
            refine ow_nil ?_
            refine x_qs ?_
            refine c_ret ?_
            refine x_qs_ret ?_
            exact x_retR (rs := [.tmp 4]) (vs := [.bool false]) rfl ⟨rfl, trivial⟩ (fun w' hw' => by
                obtain rfl := of_some H
                exact ⟨rfl, hw'.ext⟩)
          · have H := of_if_f hb H
            refine c_skip ?_
            refine x_qs ?_
            refine c_seq ?_
            refine c_reg ?_
            refine ow_batch [.p] rfl ?_
            refine ow_nil ?_
            refine x_qs ?_
            refine c_ret ?_
            exact x_retR (rs := [.tmp 4]) (vs := [.bool true]) rfl ⟨rfl, trivial⟩ (fun w' hw' => by
                obtain rfl := of_some H
                exact ⟨rfl, hw'.ext⟩)

end Go.Vk
