/- The code does what the functions of data say. Printed by program. -/
import Derived.Test.YtmdkpmcoaalaoaaGreatWStateSaysC
namespace Go.Vk
open Go.Proofs Go.RowKit
set_option maxHeartbeats 4000000
set_option maxRecDepth 100000
theorem impl_WindowOk_ok (w : World) {p0 : Timpl_Window} {cs0 : List Value} {r : Bool} (H : impl_WindowOk p0 = some r)  (g0 : (eTimpl_Window).rd w [] p0 cs0) :
    Calls Tryz.prog 148 #[.agg cs0.toArray] w (fun en w' => en = .returned (.bool r) ∧ Ext [] w w') := by
 obtain ⟨c10, rfl, g11⟩ := rdo_Timpl_Window g0
 obtain ⟨a12, c13, rfl⟩ := rd_sl1 g11
 unfold impl_WindowOk at H
 refine f_enter Tryz.func148 rfl Tryz.ntmps148 rfl (St.init w []) <| sR <| ob _ rfl fun b14 => oP rfl <| nQ <| c_seq <| sR <| ow_batch [.fa 95 0 0 fa95_0] rfl <| o1 rfl (r1 0 0 rfl ty33 rfl) <| ow_batch [.lenS 33 39 sl33, .p] rfl <| nQ <| cI H rfl (fun H => ?_) (fun H => ?_)
 ·exact sR <| oP rfl <| nT <| x_qs_ret <| xr 2 rfl (by cases H; exact q1)
 ·refine c_skip <| x_qs <| c_seq <| sR <| ow_batch [.fa 95 0 0 fa95_0] rfl <| o1 rfl (r1 0 0 rfl ty33 rfl) <| ow_batch [.lenS 33 39 sl33, .p] rfl <| nQ <| c_block <| CW.at (loopI1 (fun (i33 : Int) => St w [] []) (fun i33 => [(10, .slice a12 p0.Rows_.length c13), (11, .int .i64 (p0.Rows_.length : Int)), (12, .int .i64 i33)]) (fun kk => fun i33 => impl_WindowOk_L1 p0 kk i33 = some r) (fun _ H => ?_) (fun k1 ihk1 i33 H => ?_) Fuel (0) (H)) (fun _ h => St.sel [] rfl rfl h) ⟨rfl, rfl, rfl,  trivial⟩
  ·unfold impl_WindowOk_L1 at H
   exact absurd H (by simp)
  ·unfold impl_WindowOk_L1 at H
   refine sR <| oP rfl <| nQ <| c_seq <| cI H rfl (fun H => ?_) (fun H => ?_)
   ·refine c_skip <| x_qs <| c_seq <| c_block <| sR <| oP rfl <| bE H fun e51 h52 H => ow_ixB rfl rfl rfl rfl rfl sl33 ty39 rfl g11 h52 fun q55 c56 hd53 hA54 => ?_
    obtain ⟨a57, c58, rfl⟩ := rd_sl1 hd53
    refine o1 rfl (ry_load1 rfl rfl ty39 (at_bor bor hA54)) <| ow_alloc rfl rfl rfl rfl ty3 (fun _ => kp) fun b59 => sC 0 [.int .i64 i33] [_] 0 rfl ty3 rfl <| oP rfl <| nR <| ow_batch [.p, .lenS 39 3 sl39] rfl <| bE H fun y60 h61 H => oq rfl (qc rfl fn84 (fun w1 hw1 => impl_within_ok w1  h61)) tt2 <| oPP rfl <| bE H fun u62 hu66 H => ow_cut [(25, .bool u62), (10, .slice a12 p0.Rows_.length c13), (11, .int .i64 (p0.Rows_.length : Int)), (12, .int .i64 i33)] 4 ?_ (fun key => OW.sub (R := [(3, .pointer (some ⟨b59, 0, none⟩)), (4, .slice a57 e51.length c58), (10, .slice a12 p0.Rows_.length c13), (11, .int .i64 (p0.Rows_.length : Int)), (12, .int .i64 i33), (21, .bool (!y60))]) ?_ (sb rfl))
    ·refine nQ <| cI H rfl (fun H => ?_) (fun H => ?_)
     ·exact sR <| oP rfl <| nT <| x_qb_ret <| x_qs_ret <| x_ql_ret <| x_qb_ret <| x_qs_ret <| xr 2 rfl (by cases H; exact q1)
     ·exact c_skip <| x_qb <| x_qs <| c_reg <| oPP rfl <| ow_nil <| x_ql (RW.at (ihk1 (IntKind.i64.wrap (i33 + 1)) (H)) (fun _ h => St.sel [] rfl rfl h) ⟨rfl, rfl, rfl, trivial⟩)
    ·clear H
     have H := hu66
     clear hu66
     generalize (!y60) = t65 at H key ⊢
     cases t65
     ·have H := of_if_f rfl H
      refine oP rfl <| o1 rfl (ry_makeFunc rfl rfl) <| bE H fun y63 h64 H => oq rfl (qc rfl fn167 (fun w1 hw1 => lib_slices_ContainsFunc___int_int___impl_WindowOk_1_ok w1 (cs_1_0 := [.int .i64 i33]) h64 (rds_bor hd53 w1 hw1) rfl (at_box (T := 3) 0 (boxIn (i := 0) rfl) rfl w1 hw1))) tt2 <| oP rfl <| ?_
      obtain rfl := of_some H
      exact OW.sub key (sb rfl)
     ·have H := of_if_t rfl H
      refine ow_batch [.p, .p, .p, .p] rfl ?_
      obtain rfl := of_some H
      exact OW.sub key (sb rfl)
   ·exact c_exit <| x_qs_exit <| x_ql_exit <| x_qb_here <| x_qs <| sR <| oP rfl <| nT <| xr 2 rfl (by cases H; exact q1)
theorem impl_DetOk_ok (w : World) {p0 : Timpl_Det} {cs0 : List Value} {r : Bool} (H : impl_DetOk p0 = some r)  (g0 : (eTimpl_Det).rd w [] p0 cs0) :
    Calls Tryz.prog 120 #[.agg cs0.toArray] w (fun en w' => en = .returned (.bool r) ∧ Ext [] w w') := by
 obtain ⟨c10, c11, rfl, g12, g13⟩ := rdo_Timpl_Det g0
 obtain ⟨c14, rfl, g15⟩ := rdo_Timpl_Window g12
 obtain ⟨a16, c17, rfl⟩ := rd_sl1 g15
 obtain ⟨c18, rfl, g19⟩ := rdo_Timpl_Window g13
 obtain ⟨a20, c21, rfl⟩ := rd_sl1 g19
 unfold impl_DetOk at H
 refine f_enter Tryz.func120 rfl Tryz.ntmps120 rfl (St.init w []) <| sR <| ob _ rfl fun b22 => oP rfl <| nR <| ow_batch [.fa 97 0 0 fa97_0] rfl <| o1 rfl (rx 0 0 _ rfl ty95 rfl) <| bE H fun y23 h24 H => oq rfl (qc rfl fn148 (fun w1 hw1 => impl_WindowOk_ok w1 h24 (rdm_Timpl_Window (rds_bor g15 w1 hw1)))) tt2 <| oP rfl <| bE H fun u25 hu29 H => ow_cut [(10, .bool u25), (2, .bool false)] 4 ?_ (fun key => OW.sub (R := [(1, .pointer (some ⟨b22, 0, none⟩)), (2, .bool false), (6, .bool y23)]) ?_ (sb rfl))
 ·exact oP rfl <| nT <| xr 2 rfl (by cases H; exact q1)
 ·clear H
  have H := hu29
  clear hu29
  generalize y23 = t28 at H key ⊢
  cases t28
  ·have H := of_if_f rfl H
   refine ow_batch [.p, .p, .p, .p] rfl ?_
   obtain rfl := of_some H
   exact OW.sub key (sb rfl)
  ·have H := of_if_t rfl H
   refine ow_batch [.fa 97 1 1 fa97_1] rfl <| o1 rfl (rx 1 0 _ rfl ty95 rfl) <| bE H fun y26 h27 H => oq rfl (qc rfl fn148 (fun w1 hw1 => impl_WindowOk_ok w1 h27 (rdm_Timpl_Window (rds_bor g19 w1 hw1)))) tt2 <| oP rfl <| ?_
   obtain rfl := of_some H
   exact OW.sub key (sb rfl)
theorem lib_slices_Equal___int_int__ok (w : World) {p0 : List Int} {p1 : List Int} {a_0 : Option Addr} {n_0 c_0 : Nat} {a_1 : Option Addr} {n_1 c_1 : Nat} {r : Bool} (H : lib_slices_Equal___int_int_ p0 p1 = some r)  (g0 : (eList eI 3).rd w [] p0 [.slice a_0 n_0 c_0]) (g1 : (eList eI 3).rd w [] p1 [.slice a_1 n_1 c_1]) :
    Calls Tryz.prog 169 #[.slice a_0 n_0 c_0, .slice a_1 n_1 c_1] w (fun en w' => en = .returned (.bool r) ∧ Ext [] w w') := by
 obtain rfl := rd_n g0
 obtain rfl := rd_n g1
 unfold lib_slices_Equal___int_int_ at H
 refine f_enter Tryz.func169 rfl Tryz.ntmps169 rfl (St.init w []) <| sR <| oP rfl <| nQ <| c_seq <| sR <| ow_batch [.p, .lenS 39 3 sl39, .p, .lenS 39 3 sl39, .p] rfl <| nQ <| cI H rfl (fun H => ?_) (fun H => ?_)
 ·exact sR <| oP rfl <| nT <| x_qs_ret <| xr 4 rfl (by cases H; exact q1)
 ·refine c_skip <| x_qs <| c_seq <| sR <| ow_batch [.p, .lenS 39 3 sl39, .p] rfl <| nQ <| c_block <| CW.at (loopI1 (fun (i15 : Int) => St w [] []) (fun i15 => [(0, .slice a_0 p0.length c_0), (1, .slice a_1 p1.length c_1), (12, .int .i64 (p0.length : Int)), (13, .int .i64 i15)]) (fun kk => fun i15 => lib_slices_Equal___int_int__L1 p0 p1 kk i15 = some r) (fun _ H => ?_) (fun k1 ihk1 i15 H => ?_) Fuel (0) (H)) (fun _ h => St.sel [] rfl rfl h) ⟨rfl, rfl, rfl, rfl,  trivial⟩
  ·unfold lib_slices_Equal___int_int__L1 at H
   exact absurd H (by simp)
  ·unfold lib_slices_Equal___int_int__L1 at H
   refine sR <| oP rfl <| nQ <| c_seq <| cI H rfl (fun H => ?_) (fun H => ?_)
   ·refine c_skip <| x_qs <| c_seq <| c_block <| sR <| oPP rfl <| nQ <| c_seq <| c_regQ mixed (by kernel_rfl) <| oPP rfl <| bE H fun e21 h22 H => ow_ixE (e := eI) (xs := p0) (j := i15) rfl rfl rfl rfl rfl sl39 ty3 rfl (fun w1 hw1 => rds_bor g0 w1 hw1) h22 (by rw [Nat.mul_one]) <| o1 rfl (ry_load1 rfl rfl ty3 (at_elV (fun w1 hw1 => rds_bor g0 w1 hw1) h22)) <| oPP rfl <| bE H fun e23 h24 H => ow_ixE (e := eI) (xs := p1) (j := i15) rfl rfl rfl rfl rfl sl39 ty3 rfl (fun w1 hw1 => rds_bor g1 w1 hw1) h24 (by rw [Nat.mul_one]) <| o1 rfl (ry_load1 rfl rfl ty3 (at_elV (fun w1 hw1 => rds_bor g1 w1 hw1) h24)) <| oP rfl <| ow_nilQ <| x_qs <| cI H rfl (fun H => ?_) (fun H => ?_)
    ·exact sR <| oP rfl <| nT <| x_qb_ret <| x_qs_ret <| x_ql_ret <| x_qb_ret <| x_qs_ret <| xr 4 rfl (by cases H; exact q1)
    ·exact c_skip <| x_qb <| x_qs <| c_reg <| oPP rfl <| ow_nil <| x_ql (RW.at (ihk1 (IntKind.i64.wrap (i15 + 1)) (H)) (fun _ h => St.sel [] rfl rfl h) ⟨rfl, rfl, rfl, rfl, trivial⟩)
   ·exact c_exit <| x_qs_exit <| x_ql_exit <| x_qb_here <| x_qs <| sR <| oP rfl <| nT <| xr 4 rfl (by cases H; exact q1)
theorem impl_sameLists_1_ok (w : World) {p0 : List Int} {p1 : List Int} {a_0 : Option Addr} {n_0 c_0 : Nat} {a_1 : Option Addr} {n_1 c_1 : Nat} {r : Bool} (H : impl_sameLists_1 p0 p1 = some r)  (g0 : (eList eI 3).rd w [] p0 [.slice a_0 n_0 c_0]) (g1 : (eList eI 3).rd w [] p1 [.slice a_1 n_1 c_1]) :
    Calls Tryz.prog 195 #[.slice a_0 n_0 c_0, .slice a_1 n_1 c_1] w (fun en w' => en = .returned (.bool r) ∧ Ext [] w w') := by
 obtain rfl := rd_n g0
 obtain rfl := rd_n g1
 unfold impl_sameLists_1 at H
 exact f_enter Tryz.func195 rfl Tryz.ntmps195 rfl (St.init w []) <| sR <| oP rfl <| nR <| oPP rfl <| bE H fun y10 h11 H => oq rfl (qc rfl fn169 (fun w1 hw1 => lib_slices_Equal___int_int__ok w1  h11 (rds_bor g0 w1 hw1) (rds_bor g1 w1 hw1))) tt2 <| oP rfl <| nT <| xr 4 rfl (by cases H; exact q1)
theorem lib_slices_EqualFunc_____int_____int___int___int___impl_sameLists_1_ok (w : World) {p0 : List (List Int)} {p1 : List (List Int)} {a_0 : Option Addr} {n_0 c_0 : Nat} {a_1 : Option Addr} {n_1 c_1 : Nat} {r : Bool} (H : lib_slices_EqualFunc_____int_____int___int___int___impl_sameLists_1 p0 p1 = some r)  (g0 : (eList (eList eI 3) 39).rd w [] p0 [.slice a_0 n_0 c_0]) (g1 : (eList (eList eI 3) 39).rd w [] p1 [.slice a_1 n_1 c_1]) :
    Calls Tryz.prog 194 #[.slice a_0 n_0 c_0, .slice a_1 n_1 c_1, .func (.func 195) #[] #[]] w (fun en w' => en = .returned (.bool r) ∧ Ext [] w w') := by
 obtain rfl := rd_n g0
 obtain rfl := rd_n g1
 unfold lib_slices_EqualFunc_____int_____int___int___int___impl_sameLists_1 at H
 refine f_enter Tryz.func194 rfl Tryz.ntmps194 rfl (St.init w []) <| sR <| oP rfl <| nQ <| c_seq <| sR <| ow_batch [.p, .lenS 33 39 sl33, .p, .lenS 33 39 sl33, .p] rfl <| nQ <| cI H rfl (fun H => ?_) (fun H => ?_)
 ·exact sR <| oP rfl <| nT <| x_qs_ret <| xr 6 rfl (by cases H; exact q1)
 ·refine c_skip <| x_qs <| c_seq <| sR <| ow_batch [.p, .lenS 33 39 sl33, .p] rfl <| nQ <| c_block <| CW.at (loopI1 (fun (i29 : Int) => St w [] []) (fun i29 => [(1, .slice a_1 p1.length c_1), (2, .func (.func 195) #[] #[]), (15, .slice a_0 p0.length c_0), (16, .int .i64 (p0.length : Int)), (17, .int .i64 i29)]) (fun kk => fun i29 => lib_slices_EqualFunc_____int_____int___int___int___impl_sameLists_1_L1 p0 p1 kk i29 = some r) (fun _ H => ?_) (fun k1 ihk1 i29 H => ?_) Fuel (0) (H)) (fun _ h => St.sel [] rfl rfl h) ⟨rfl, rfl, rfl, rfl, rfl,  trivial⟩
  ·unfold lib_slices_EqualFunc_____int_____int___int___int___impl_sameLists_1_L1 at H
   exact absurd H (by simp)
  ·unfold lib_slices_EqualFunc_____int_____int___int___int___impl_sameLists_1_L1 at H
   refine sR <| oP rfl <| nQ <| c_seq <| cI H rfl (fun H => ?_) (fun H => ?_)
   ·refine c_skip <| x_qs <| c_seq <| c_block <| sR <| oP rfl <| bE H fun e49 h50 H => ow_ixB rfl rfl rfl rfl rfl sl33 ty39 rfl g0 h50 fun q53 c54 hd51 hA52 => ?_
    obtain ⟨a55, c56, rfl⟩ := rd_sl1 hd51
    refine o1 rfl (ry_load1 rfl rfl ty39 (at_bor bor hA52)) <| oPP rfl <| nR <| oPP rfl <| bE H fun e57 h58 H => ow_ixB rfl rfl rfl rfl rfl sl33 ty39 rfl g1 h58 fun q61 c62 hd59 hA60 => ?_
    obtain ⟨a63, c64, rfl⟩ := rd_sl1 hd59
    refine o1 rfl (ry_load1 rfl rfl ty39 (at_bor bor hA60)) <| oP rfl <| nR <| ow_batch [.p, .p, .p] rfl <| bE H fun y65 h66 H => ow_q rfl rfl (dstOk_lt rfl) (qy_callV (cap := []) rfl fn195 rfl rfl (fun w1 hw1 => impl_sameLists_1_ok w1  h66 (rds_bor hd51 w1 hw1) (rds_bor hd59 w1 hw1))) (fun _ _ => trivial) <| oP rfl <| nQ <| cI H rfl (fun H => ?_) (fun H => ?_)
    ·exact sR <| oP rfl <| nT <| x_qb_ret <| x_qs_ret <| x_ql_ret <| x_qb_ret <| x_qs_ret <| xr 6 rfl (by cases H; exact q1)
    ·exact c_skip <| x_qb <| x_qs <| c_reg <| oPP rfl <| ow_nil <| x_ql (RW.at (ihk1 (IntKind.i64.wrap (i29 + 1)) (H)) (fun _ h => St.sel [] rfl rfl h) ⟨rfl, rfl, rfl, rfl, rfl, trivial⟩)
   ·exact c_exit <| x_qs_exit <| x_ql_exit <| x_qb_here <| x_qs <| sR <| oP rfl <| nT <| xr 6 rfl (by cases H; exact q1)
theorem impl_sameLists_ok (w : World) {p0 : List (List Int)} {p1 : List (List Int)} {a_0 : Option Addr} {n_0 c_0 : Nat} {a_1 : Option Addr} {n_1 c_1 : Nat} {r : Bool} (H : impl_sameLists p0 p1 = some r)  (g0 : (eList (eList eI 3) 39).rd w [] p0 [.slice a_0 n_0 c_0]) (g1 : (eList (eList eI 3) 39).rd w [] p1 [.slice a_1 n_1 c_1]) :
    Calls Tryz.prog 189 #[.slice a_0 n_0 c_0, .slice a_1 n_1 c_1] w (fun en w' => en = .returned (.bool r) ∧ Ext [] w w') := by
 obtain rfl := rd_n g0
 obtain rfl := rd_n g1
 unfold impl_sameLists at H
 exact f_enter Tryz.func189 rfl Tryz.ntmps189 rfl (St.init w []) <| sR <| oP rfl <| nR <| oPP rfl <| bE H fun y10 h11 H => oq rfl (qc rfl fn194 (fun w1 hw1 => lib_slices_EqualFunc_____int_____int___int___int___impl_sameLists_1_ok w1  h11 (rds_bor g0 w1 hw1) (rds_bor g1 w1 hw1))) tt2 <| oP rfl <| nT <| xr 4 rfl (by cases H; exact q1)
theorem impl_StatsSame_ok (w : World) {p0 : Timpl_Stats} {p1 : Timpl_Stats} {cs0 : List Value} {cs1 : List Value} {r : Bool} (H : impl_StatsSame p0 p1 = some r)  (g0 : (eTimpl_Stats).rd w [] p0 cs0) (g1 : (eTimpl_Stats).rd w [] p1 cs1) :
    Calls Tryz.prog 170 #[.agg cs0.toArray, .agg cs1.toArray] w (fun en w' => en = .returned (.bool r) ∧ Ext [] w w') := by
 obtain ⟨c10, c11, rfl, g12, g13⟩ := rdo_Timpl_Stats g0
 obtain ⟨a14, c15, rfl⟩ := rd_sl1 g12
 obtain ⟨a16, c17, rfl⟩ := rd_sl1 g13
 obtain ⟨c18, c19, rfl, g20, g21⟩ := rdo_Timpl_Stats g1
 obtain ⟨a22, c23, rfl⟩ := rd_sl1 g20
 obtain ⟨a24, c25, rfl⟩ := rd_sl1 g21
 unfold impl_StatsSame at H
 refine f_enter Tryz.func170 rfl Tryz.ntmps170 rfl (St.init w []) <| sR <| ob _ rfl fun b26 => ob _ rfl fun b27 => oP rfl <| nR <| ow_batch [.fa 167 0 0 fa167_0] rfl <| o1 rfl (r1 0 0 rfl ty39 rfl) <| ow_batch [.fa 167 0 0 fa167_0] rfl <| o1 rfl (r1 0 1 rfl ty39 rfl) <| bE H fun y28 h29 H => oq rfl (qc rfl fn169 (fun w1 hw1 => lib_slices_Equal___int_int__ok w1  h29 (rds_bor g12 w1 hw1) (rds_bor g20 w1 hw1))) tt2 <| oP rfl <| bE H fun u30 hu34 H => ow_cut [(16, .bool u30), (4, .bool false)] 6 ?_ (fun key => OW.sub (R := [(2, .pointer (some ⟨b26, 0, none⟩)), (3, .pointer (some ⟨b27, 0, none⟩)), (4, .bool false), (10, .bool y28)]) ?_ (sb rfl))
 ·exact oP rfl <| nT <| xr 4 rfl (by cases H; exact q1)
 ·clear H
  have H := hu34
  clear hu34
  generalize y28 = t33 at H key ⊢
  cases t33
  ·have H := of_if_f rfl H
   refine ow_batch [.p, .p, .p, .p, .p, .p] rfl ?_
   obtain rfl := of_some H
   exact OW.sub key (sb rfl)
  ·have H := of_if_t rfl H
   refine ow_batch [.fa 167 1 1 fa167_1] rfl <| o1 rfl (r1 1 0 rfl ty33 rfl) <| ow_batch [.fa 167 1 1 fa167_1] rfl <| o1 rfl (r1 1 1 rfl ty33 rfl) <| bE H fun y31 h32 H => oq rfl (qc rfl fn189 (fun w1 hw1 => impl_sameLists_ok w1  h32 (rds_bor g13 w1 hw1) (rds_bor g21 w1 hw1))) tt2 <| oP rfl <| ?_
   obtain rfl := of_some H
   exact OW.sub key (sb rfl)
theorem impl_NodeSame_ok (w : World) {p0 : Timpl_Node} {p1 : Timpl_Node} {cs0 : List Value} {cs1 : List Value} {r : Bool} (H : impl_NodeSame p0 p1 = some r)  (g0 : (eTimpl_Node).rd w [] p0 cs0) (g1 : (eTimpl_Node).rd w [] p1 cs1) :
    Calls Tryz.prog 150 #[.agg cs0.toArray, .agg cs1.toArray] w (fun en w' => en = .returned (.bool r) ∧ Ext [] w w') := by
 obtain ⟨c10, c11, c12, c13, c14, c15, c16, c17, c18, c19, rfl, g20, g21, g22, g23, g24, g25, g26, g27, g28, g29⟩ := rdo_Timpl_Node g0
 obtain rfl := g20
 obtain rfl := g21
 obtain ⟨a30, c31, rfl⟩ := rd_sl1 g22
 obtain rfl := g23
 obtain ⟨c32, c33, rfl, g34, g35⟩ := rdo_Timpl_Stats g24
 obtain ⟨a36, c37, rfl⟩ := rd_sl1 g34
 obtain ⟨a38, c39, rfl⟩ := rd_sl1 g35
 obtain rfl := g25
 obtain ⟨a40, c41, rfl⟩ := rd_sl1 g26
 obtain rfl := g27
 obtain rfl := g28
 obtain rfl := g29
 obtain ⟨c42, c43, c44, c45, c46, c47, c48, c49, c50, c51, rfl, g52, g53, g54, g55, g56, g57, g58, g59, g60, g61⟩ := rdo_Timpl_Node g1
 obtain rfl := g52
 obtain rfl := g53
 obtain ⟨a62, c63, rfl⟩ := rd_sl1 g54
 obtain rfl := g55
 obtain ⟨c64, c65, rfl, g66, g67⟩ := rdo_Timpl_Stats g56
 obtain ⟨a68, c69, rfl⟩ := rd_sl1 g66
 obtain ⟨a70, c71, rfl⟩ := rd_sl1 g67
 obtain rfl := g57
 obtain ⟨a72, c73, rfl⟩ := rd_sl1 g58
 obtain rfl := g59
 obtain rfl := g60
 obtain rfl := g61
 unfold impl_NodeSame at H
 refine f_enter Tryz.func150 rfl Tryz.ntmps150 rfl (St.init w []) <| sR <| ob _ rfl fun b74 => ob _ rfl fun b75 => oP rfl <| nR <| ow_batch [.fa 169 0 0 fa169_0] rfl <| o1 rfl (r1 0 0 rfl ty4 rfl) <| ow_batch [.fa 169 0 0 fa169_0] rfl <| o1 rfl (r1 0 1 rfl ty4 rfl) <| o1 rfl (ry_beql rfl rfl rfl bl4) <| oP rfl <| ow_cut [(16, .bool ((p0.Leaf_ == p1.Leaf_) && (p0.Fork_.Attr_ == p1.Fork_.Attr_ && (p0.Fork_.At_ == p1.Fork_.At_ && true)))), (2, .pointer (some ⟨b74, 0, none⟩)), (3, .pointer (some ⟨b75, 0, none⟩)), (4, .bool false)] 6 ?_ (fun key => OW.sub (R := [(2, .pointer (some ⟨b74, 0, none⟩)), (3, .pointer (some ⟨b75, 0, none⟩)), (4, .bool false), (10, .bool (p0.Leaf_ == p1.Leaf_))]) ?_ (sb rfl))
 ·refine oP rfl <| bE H fun u78 hu82 H => ow_cut [(23, .bool u78), (2, .pointer (some ⟨b74, 0, none⟩)), (3, .pointer (some ⟨b75, 0, none⟩)), (4, .bool false)] 6 ?_ (fun key => OW.sub (R := [(2, .pointer (some ⟨b74, 0, none⟩)), (3, .pointer (some ⟨b75, 0, none⟩)), (4, .bool false), (17, .bool ((p0.Leaf_ == p1.Leaf_) && (p0.Fork_.Attr_ == p1.Fork_.Attr_ && (p0.Fork_.At_ == p1.Fork_.At_ && true))))]) ?_ (sb rfl))
  ·refine oP rfl <| ow_cut [(30, .bool (u78 && (p0.Miss_ == p1.Miss_))), (2, .pointer (some ⟨b74, 0, none⟩)), (3, .pointer (some ⟨b75, 0, none⟩)), (4, .bool false)] 6 ?_ (fun key => OW.sub (R := [(2, .pointer (some ⟨b74, 0, none⟩)), (3, .pointer (some ⟨b75, 0, none⟩)), (4, .bool false), (24, .bool u78)]) ?_ (sb rfl))
   ·refine oP rfl <| bE H fun u85 hu89 H => ow_cut [(37, .bool u85), (2, .pointer (some ⟨b74, 0, none⟩)), (3, .pointer (some ⟨b75, 0, none⟩)), (4, .bool false)] 6 ?_ (fun key => OW.sub (R := [(2, .pointer (some ⟨b74, 0, none⟩)), (3, .pointer (some ⟨b75, 0, none⟩)), (4, .bool false), (31, .bool (u78 && (p0.Miss_ == p1.Miss_)))]) ?_ (sb rfl))
    ·refine oP rfl <| ow_cut [(44, .bool (u85 && (p0.Since_ == p1.Since_))), (2, .pointer (some ⟨b74, 0, none⟩)), (3, .pointer (some ⟨b75, 0, none⟩)), (4, .bool false)] 6 ?_ (fun key => OW.sub (R := [(2, .pointer (some ⟨b74, 0, none⟩)), (3, .pointer (some ⟨b75, 0, none⟩)), (4, .bool false), (38, .bool u85)]) ?_ (sb rfl))
     ·refine oP rfl <| bE H fun u92 hu96 H => ow_cut [(51, .bool u92), (2, .pointer (some ⟨b74, 0, none⟩)), (3, .pointer (some ⟨b75, 0, none⟩)), (4, .bool false)] 6 ?_ (fun key => OW.sub (R := [(2, .pointer (some ⟨b74, 0, none⟩)), (3, .pointer (some ⟨b75, 0, none⟩)), (4, .bool false), (45, .bool (u85 && (p0.Since_ == p1.Since_)))]) ?_ (sb rfl))
      ·refine oP rfl <| ow_cut [(58, .bool (u92 && (p0.Depth_ == p1.Depth_))), (2, .pointer (some ⟨b74, 0, none⟩)), (3, .pointer (some ⟨b75, 0, none⟩)), (4, .bool false)] 6 ?_ (fun key => OW.sub (R := [(2, .pointer (some ⟨b74, 0, none⟩)), (3, .pointer (some ⟨b75, 0, none⟩)), (4, .bool false), (52, .bool u92)]) ?_ (sb rfl))
       ·refine oP rfl <| ow_cut [(65, .bool ((u92 && (p0.Depth_ == p1.Depth_)) && (p0.Up_ == p1.Up_))), (2, .pointer (some ⟨b74, 0, none⟩)), (3, .pointer (some ⟨b75, 0, none⟩)), (4, .bool false)] 6 ?_ (fun key => OW.sub (R := [(2, .pointer (some ⟨b74, 0, none⟩)), (3, .pointer (some ⟨b75, 0, none⟩)), (4, .bool false), (59, .bool (u92 && (p0.Depth_ == p1.Depth_)))]) ?_ (sb rfl))
        ·refine oP rfl <| ow_cut [(72, .bool (((u92 && (p0.Depth_ == p1.Depth_)) && (p0.Up_ == p1.Up_)) && (p0.Born_ == p1.Born_))), (4, .bool false)] 6 ?_ (fun key => OW.sub (R := [(2, .pointer (some ⟨b74, 0, none⟩)), (3, .pointer (some ⟨b75, 0, none⟩)), (4, .bool false), (66, .bool ((u92 && (p0.Depth_ == p1.Depth_)) && (p0.Up_ == p1.Up_)))]) ?_ (sb rfl))
         ·exact oP rfl <| nT <| xr 4 rfl (by cases H; exact q1)
         ·generalize ((u92 && (p0.Depth_ == p1.Depth_)) && (p0.Up_ == p1.Up_)) = t102 at key ⊢
          cases t102
          ·exact ow_batch [.p, .p, .p, .p, .p, .p] rfl <| OW.sub key (sb rfl)
          ·exact ow_batch [.fa 169 9 11 fa169_9] rfl <| o1 rfl (r1 11 0 rfl ty3 rfl) <| ow_batch [.fa 169 9 11 fa169_9] rfl <| o1 rfl (r1 11 1 rfl ty3 rfl) <| oP rfl <| oP rfl <| OW.sub key (sb rfl)
        ·generalize (u92 && (p0.Depth_ == p1.Depth_)) = t100 at key ⊢
         cases t100
         ·exact ow_batch [.p, .p, .p, .p, .p, .p] rfl <| OW.sub key (sb rfl)
         ·exact ow_batch [.fa 169 8 10 fa169_8] rfl <| o1 rfl (r1 10 0 rfl ty3 rfl) <| ow_batch [.fa 169 8 10 fa169_8] rfl <| o1 rfl (r1 10 1 rfl ty3 rfl) <| oP rfl <| oP rfl <| OW.sub key (sb rfl)
       ·generalize u92 = t98 at key ⊢
        cases t98
        ·exact ow_batch [.p, .p, .p, .p, .p, .p] rfl <| OW.sub key (sb rfl)
        ·exact ow_batch [.fa 169 7 9 fa169_7] rfl <| o1 rfl (r1 9 0 rfl ty3 rfl) <| ow_batch [.fa 169 7 9 fa169_7] rfl <| o1 rfl (r1 9 1 rfl ty3 rfl) <| oP rfl <| oP rfl <| OW.sub key (sb rfl)
      ·clear H
       have H := hu96
       clear hu96
       generalize (u85 && (p0.Since_ == p1.Since_)) = t95 at H key ⊢
       cases t95
       ·have H := of_if_f rfl H
        refine ow_batch [.p, .p, .p, .p, .p, .p] rfl ?_
        obtain rfl := of_some H
        exact OW.sub key (sb rfl)
       ·have H := of_if_t rfl H
        refine ow_batch [.fa 169 6 8 fa169_6] rfl <| o1 rfl (r1 8 0 rfl ty39 rfl) <| ow_batch [.fa 169 6 8 fa169_6] rfl <| o1 rfl (r1 8 1 rfl ty39 rfl) <| bE H fun y93 h94 H => oq rfl (qc rfl fn169 (fun w1 hw1 => lib_slices_Equal___int_int__ok w1  h94 (rds_bor g26 w1 hw1) (rds_bor g58 w1 hw1))) tt2 <| oP rfl <| ?_
        obtain rfl := of_some H
        exact OW.sub key (sb rfl)
     ·generalize u85 = t91 at key ⊢
      cases t91
      ·exact ow_batch [.p, .p, .p, .p, .p, .p] rfl <| OW.sub key (sb rfl)
      ·exact ow_batch [.fa 169 5 7 fa169_5] rfl <| o1 rfl (r1 7 0 rfl ty3 rfl) <| ow_batch [.fa 169 5 7 fa169_5] rfl <| o1 rfl (r1 7 1 rfl ty3 rfl) <| oP rfl <| oP rfl <| OW.sub key (sb rfl)
    ·clear H
     have H := hu89
     clear hu89
     generalize (u78 && (p0.Miss_ == p1.Miss_)) = t88 at H key ⊢
     cases t88
     ·have H := of_if_f rfl H
      refine ow_batch [.p, .p, .p, .p, .p, .p] rfl ?_
      obtain rfl := of_some H
      exact OW.sub key (sb rfl)
     ·have H := of_if_t rfl H
      refine ow_batch [.fa 169 4 5 fa169_4] rfl <| o1 rfl (rx 5 0 _ rfl ty167 rfl) <| ow_batch [.fa 169 4 5 fa169_4] rfl <| o1 rfl (rx 5 1 _ rfl ty167 rfl) <| bE H fun y86 h87 H => oq rfl (qc rfl fn170 (fun w1 hw1 => impl_StatsSame_ok w1 h87 (rdm_Timpl_Stats (rds_bor g34 w1 hw1) (rds_bor g35 w1 hw1)) (rdm_Timpl_Stats (rds_bor g66 w1 hw1) (rds_bor g67 w1 hw1)))) tt2 <| oP rfl <| ?_
      obtain rfl := of_some H
      exact OW.sub key (sb rfl)
   ·generalize u78 = t84 at key ⊢
    cases t84
    ·exact ow_batch [.p, .p, .p, .p, .p, .p] rfl <| OW.sub key (sb rfl)
    ·exact ow_batch [.fa 169 3 4 fa169_3] rfl <| o1 rfl (r1 4 0 rfl ty3 rfl) <| ow_batch [.fa 169 3 4 fa169_3] rfl <| o1 rfl (r1 4 1 rfl ty3 rfl) <| oP rfl <| oP rfl <| OW.sub key (sb rfl)
  ·clear H
   have H := hu82
   clear hu82
   generalize ((p0.Leaf_ == p1.Leaf_) && (p0.Fork_.Attr_ == p1.Fork_.Attr_ && (p0.Fork_.At_ == p1.Fork_.At_ && true))) = t81 at H key ⊢
   cases t81
   ·have H := of_if_f rfl H
    refine ow_batch [.p, .p, .p, .p, .p, .p] rfl ?_
    obtain rfl := of_some H
    exact OW.sub key (sb rfl)
   ·have H := of_if_t rfl H
    refine ow_batch [.fa 169 2 3 fa169_2] rfl <| o1 rfl (r1 3 0 rfl ty39 rfl) <| ow_batch [.fa 169 2 3 fa169_2] rfl <| o1 rfl (r1 3 1 rfl ty39 rfl) <| bE H fun y79 h80 H => oq rfl (qc rfl fn169 (fun w1 hw1 => lib_slices_Equal___int_int__ok w1  h80 (rds_bor g22 w1 hw1) (rds_bor g54 w1 hw1))) tt2 <| oP rfl <| ?_
    obtain rfl := of_some H
    exact OW.sub key (sb rfl)
 ·generalize (p0.Leaf_ == p1.Leaf_) = t77 at key ⊢
  cases t77
  ·exact ow_batch [.p, .p, .p, .p, .p, .p] rfl <| OW.sub key (sb rfl)
  ·exact ow_batch [.fa 169 1 1 fa169_1] rfl <| o1 rfl (rx 1 0 _ rfl ty165 rfl) <| ow_batch [.fa 169 1 1 fa169_1] rfl <| o1 rfl (rx 1 1 _ rfl ty165 rfl) <| o1 rfl (ry_seql (xs := [.int .i64 p0.Fork_.Attr_, .int .i64 p0.Fork_.At_]) (ys := [.int .i64 p1.Fork_.Attr_, .int .i64 p1.Fork_.At_]) rfl rfl rfl (se165 p0.Fork_.Attr_ p1.Fork_.Attr_ p0.Fork_.At_ p1.Fork_.At_)) <| oP rfl <| OW.sub key (sb rfl)
theorem lib_slices_EqualFunc___impl_Node___impl_Node_impl_Node_impl_Node___impl_NodeSame_ok (w : World) {p0 : List Timpl_Node} {p1 : List Timpl_Node} {a_0 : Option Addr} {n_0 c_0 : Nat} {a_1 : Option Addr} {n_1 c_1 : Nat} {r : Bool} (H : lib_slices_EqualFunc___impl_Node___impl_Node_impl_Node_impl_Node___impl_NodeSame p0 p1 = some r)  (g0 : (eList (eTimpl_Node) 169).rd w [] p0 [.slice a_0 n_0 c_0]) (g1 : (eList (eTimpl_Node) 169).rd w [] p1 [.slice a_1 n_1 c_1]) :
    Calls Tryz.prog 149 #[.slice a_0 n_0 c_0, .slice a_1 n_1 c_1, .func (.func 150) #[] #[]] w (fun en w' => en = .returned (.bool r) ∧ Ext [] w w') := by
 obtain rfl := rd_n g0
 obtain rfl := rd_n g1
 unfold lib_slices_EqualFunc___impl_Node___impl_Node_impl_Node_impl_Node___impl_NodeSame at H
 refine f_enter Tryz.func149 rfl Tryz.ntmps149 rfl (St.init w []) <| sR <| oP rfl <| nQ <| c_seq <| sR <| ow_batch [.p, .lenS 91 169 sl91, .p, .lenS 91 169 sl91, .p] rfl <| nQ <| cI H rfl (fun H => ?_) (fun H => ?_)
 ·exact sR <| oP rfl <| nT <| x_qs_ret <| xr 6 rfl (by cases H; exact q1)
 ·refine c_skip <| x_qs <| c_seq <| sR <| ow_batch [.p, .lenS 91 169 sl91, .p] rfl <| nQ <| c_block <| CW.at (loopI1 (fun (i91 : Int) => St w [] []) (fun i91 => [(1, .slice a_1 p1.length c_1), (2, .func (.func 150) #[] #[]), (15, .slice a_0 p0.length c_0), (16, .int .i64 (p0.length : Int)), (17, .int .i64 i91)]) (fun kk => fun i91 => lib_slices_EqualFunc___impl_Node___impl_Node_impl_Node_impl_Node___impl_NodeSame_L1 p0 p1 kk i91 = some r) (fun _ H => ?_) (fun k1 ihk1 i91 H => ?_) Fuel (0) (H)) (fun _ h => St.sel [] rfl rfl h) ⟨rfl, rfl, rfl, rfl, rfl,  trivial⟩
  ·unfold lib_slices_EqualFunc___impl_Node___impl_Node_impl_Node_impl_Node___impl_NodeSame_L1 at H
   exact absurd H (by simp)
  ·unfold lib_slices_EqualFunc___impl_Node___impl_Node_impl_Node_impl_Node___impl_NodeSame_L1 at H
   refine sR <| oP rfl <| nQ <| c_seq <| cI H rfl (fun H => ?_) (fun H => ?_)
   ·refine c_skip <| x_qs <| c_seq <| c_block <| sR <| oP rfl <| bE H fun e173 h174 H => ow_ixB rfl rfl rfl rfl rfl sl91 ty169 rfl g0 h174 fun q177 c178 hd175 hA176 => ?_
    obtain ⟨c179, c180, c181, c182, c183, c184, c185, c186, c187, c188, rfl, g189, g190, g191, g192, g193, g194, g195, g196, g197, g198⟩ := rdo_Timpl_Node hd175
    obtain rfl := g189
    obtain rfl := g190
    obtain ⟨a199, c200, rfl⟩ := rd_sl1 g191
    obtain rfl := g192
    obtain ⟨c201, c202, rfl, g203, g204⟩ := rdo_Timpl_Stats g193
    obtain ⟨a205, c206, rfl⟩ := rd_sl1 g203
    obtain ⟨a207, c208, rfl⟩ := rd_sl1 g204
    obtain rfl := g194
    obtain ⟨a209, c210, rfl⟩ := rd_sl1 g195
    obtain rfl := g196
    obtain rfl := g197
    obtain rfl := g198
    refine o1 rfl (ry_load (cs := [.bool e173.Leaf_, .int .i64 e173.Fork_.Attr_, .int .i64 e173.Fork_.At_, .slice a199 e173.Kids_.length c200, .int .i64 e173.Miss_, .slice a205 e173.Stats_.Totals_.length c206, .slice a207 e173.Stats_.Cells_.length c208, .int .i64 e173.Since_, .slice a209 e173.Attrs_.length c210, .int .i64 e173.Depth_, .int .i64 e173.Up_, .int .i64 e173.Born_]) rfl rfl ty169 (at_bor bor hA176) rfl) <| ow_alloc rfl rfl rfl rfl ty169 (fun _ => kp) fun b211 => oP rfl <| sC 0 [.bool e173.Leaf_, .int .i64 e173.Fork_.Attr_, .int .i64 e173.Fork_.At_, .slice a199 e173.Kids_.length c200, .int .i64 e173.Miss_, .slice a205 e173.Stats_.Totals_.length c206, .slice a207 e173.Stats_.Cells_.length c208, .int .i64 e173.Since_, .slice a209 e173.Attrs_.length c210, .int .i64 e173.Depth_, .int .i64 e173.Up_, .int .i64 e173.Born_] [_, _, _, _, _, _, _, _, _, _, _, _] 0 rfl ty169 rfl <| nR <| oPP rfl <| bE H fun e212 h213 H => ow_ixB rfl rfl rfl rfl rfl sl91 ty169 rfl g1 h213 fun q216 c217 hd214 hA215 => ?_
    obtain ⟨c218, c219, c220, c221, c222, c223, c224, c225, c226, c227, rfl, g228, g229, g230, g231, g232, g233, g234, g235, g236, g237⟩ := rdo_Timpl_Node hd214
    obtain rfl := g228
    obtain rfl := g229
    obtain ⟨a238, c239, rfl⟩ := rd_sl1 g230
    obtain rfl := g231
    obtain ⟨c240, c241, rfl, g242, g243⟩ := rdo_Timpl_Stats g232
    obtain ⟨a244, c245, rfl⟩ := rd_sl1 g242
    obtain ⟨a246, c247, rfl⟩ := rd_sl1 g243
    obtain rfl := g233
    obtain ⟨a248, c249, rfl⟩ := rd_sl1 g234
    obtain rfl := g235
    obtain rfl := g236
    obtain rfl := g237
    refine o1 rfl (ry_load (cs := [.bool e212.Leaf_, .int .i64 e212.Fork_.Attr_, .int .i64 e212.Fork_.At_, .slice a238 e212.Kids_.length c239, .int .i64 e212.Miss_, .slice a244 e212.Stats_.Totals_.length c245, .slice a246 e212.Stats_.Cells_.length c247, .int .i64 e212.Since_, .slice a248 e212.Attrs_.length c249, .int .i64 e212.Depth_, .int .i64 e212.Up_, .int .i64 e212.Born_]) rfl rfl ty169 (at_bor bor hA215) rfl) <| ow_alloc rfl rfl rfl rfl ty169 (fun _ => kp) fun b250 => sC 0 [.bool e212.Leaf_, .int .i64 e212.Fork_.Attr_, .int .i64 e212.Fork_.At_, .slice a238 e212.Kids_.length c239, .int .i64 e212.Miss_, .slice a244 e212.Stats_.Totals_.length c245, .slice a246 e212.Stats_.Cells_.length c247, .int .i64 e212.Since_, .slice a248 e212.Attrs_.length c249, .int .i64 e212.Depth_, .int .i64 e212.Up_, .int .i64 e212.Born_] [_, _, _, _, _, _, _, _, _, _, _, _] 1 rfl ty169 rfl <| nR <| oP rfl <| o1 rfl (rx 0 0 _ rfl ty169 rfl) <| o1 rfl (rx 0 1 _ rfl ty169 rfl) <| bE H fun y251 h252 H => ow_q rfl rfl (dstOk_lt rfl) (qy_callV (cap := []) rfl fn150 rfl rfl (fun w1 hw1 => impl_NodeSame_ok w1 h252 (rdm_Timpl_Node rfl rfl (rds_bor g191 w1 hw1) rfl (rdm_Timpl_Stats (rds_bor g203 w1 hw1) (rds_bor g204 w1 hw1)) rfl (rds_bor g195 w1 hw1) rfl rfl rfl) (rdm_Timpl_Node rfl rfl (rds_bor g230 w1 hw1) rfl (rdm_Timpl_Stats (rds_bor g242 w1 hw1) (rds_bor g243 w1 hw1)) rfl (rds_bor g234 w1 hw1) rfl rfl rfl))) (fun _ _ => trivial) <| oP rfl <| nQ <| cI H rfl (fun H => ?_) (fun H => ?_)
    ·exact sR <| oP rfl <| nT <| x_qb_ret <| x_qs_ret <| x_ql_ret <| x_qb_ret <| x_qs_ret <| xr 6 rfl (by cases H; exact q1)
    ·exact c_skip <| x_qb <| x_qs <| c_reg <| oPP rfl <| ow_nil <| x_ql (RW.at (ihk1 (IntKind.i64.wrap (i91 + 1)) (H)) (fun _ h => St.sel [] rfl rfl h) ⟨rfl, rfl, rfl, rfl, rfl, trivial⟩)
   ·exact c_exit <| x_qs_exit <| x_ql_exit <| x_qb_here <| x_qs <| sR <| oP rfl <| nT <| xr 6 rfl (by cases H; exact q1)
theorem impl_TreeSame_ok (w : World) {p0 : Timpl_Tree} {p1 : Timpl_Tree} {cs0 : List Value} {cs1 : List Value} {r : Bool} (H : impl_TreeSame p0 p1 = some r)  (g0 : (eTimpl_Tree).rd w [] p0 cs0) (g1 : (eTimpl_Tree).rd w [] p1 cs1) :
    Calls Tryz.prog 121 #[.agg cs0.toArray, .agg cs1.toArray] w (fun en w' => en = .returned (.bool r) ∧ Ext [] w w') := by
 obtain ⟨c10, c11, rfl, g12, g13⟩ := rdo_Timpl_Tree g0
 obtain ⟨a14, c15, rfl⟩ := rd_sl1 g12
 obtain rfl := g13
 obtain ⟨c16, c17, rfl, g18, g19⟩ := rdo_Timpl_Tree g1
 obtain ⟨a20, c21, rfl⟩ := rd_sl1 g18
 obtain rfl := g19
 unfold impl_TreeSame at H
 refine f_enter Tryz.func121 rfl Tryz.ntmps121 rfl (St.init w []) <| sR <| ob _ rfl fun b22 => ob _ rfl fun b23 => oP rfl <| nR <| ow_batch [.fa 93 1 1 fa93_1] rfl <| o1 rfl (r1 1 0 rfl ty3 rfl) <| ow_batch [.fa 93 1 1 fa93_1] rfl <| o1 rfl (r1 1 1 rfl ty3 rfl) <| oPP rfl <| bE H fun u24 hu28 H => ow_cut [(16, .bool u24), (4, .bool false)] 6 ?_ (fun key => OW.sub (R := [(2, .pointer (some ⟨b22, 0, none⟩)), (3, .pointer (some ⟨b23, 0, none⟩)), (4, .bool false), (10, .bool (p0.Seen_ == p1.Seen_))]) ?_ (sb rfl))
 ·exact oP rfl <| nT <| xr 4 rfl (by cases H; exact q1)
 ·clear H
  have H := hu28
  clear hu28
  generalize (p0.Seen_ == p1.Seen_) = t27 at H key ⊢
  cases t27
  ·have H := of_if_f rfl H
   refine ow_batch [.p, .p, .p, .p, .p, .p] rfl ?_
   obtain rfl := of_some H
   exact OW.sub key (sb rfl)
  ·have H := of_if_t rfl H
   refine ow_batch [.fa 93 0 0 fa93_0] rfl <| o1 rfl (r1 0 0 rfl ty91 rfl) <| ow_batch [.fa 93 0 0 fa93_0] rfl <| o1 rfl (r1 0 1 rfl ty91 rfl) <| bE H fun y25 h26 H => oq rfl (qc rfl fn149 (fun w1 hw1 => lib_slices_EqualFunc___impl_Node___impl_Node_impl_Node_impl_Node___impl_NodeSame_ok w1  h26 (rds_bor g12 w1 hw1) (rds_bor g18 w1 hw1))) tt2 <| oP rfl <| ?_
   obtain rfl := of_some H
   exact OW.sub key (sb rfl)
theorem impl_MemberOk_ok (w : World) {p0 : Timpl_Conf} {p1 : Timpl_Member} {cs0 : List Value} {cs1 : List Value} {r : Bool} (H : impl_MemberOk p0 p1 = some r)  (g0 : (eTimpl_Conf).rd w [] p0 cs0) (g1 : (eTimpl_Member).rd w [] p1 cs1) :
    Calls Tryz.prog 82 #[.agg cs0.toArray, .agg cs1.toArray] w (fun en w' => en = .returned (.bool r) ∧ Ext [] w w') := by
 obtain ⟨c10, c11, c12, c13, c14, c15, c16, rfl, g17, g18, g19, g20, g21, g22, g23⟩ := rdo_Timpl_Conf g0
 obtain ⟨c24, c25, rfl, g26, g27⟩ := rdo_Timpl_Schema g17
 obtain ⟨a28, c29, rfl⟩ := rd_sl1 g26
 obtain ⟨a30, c31, rfl⟩ := rd_sl1 g27
 obtain rfl := g18
 obtain rfl := g19
 obtain rfl := g20
 obtain rfl := g21
 obtain rfl := g22
 obtain rfl := g23
 obtain ⟨c32, c33, c34, c35, rfl, g36, g37, g38, g39⟩ := rdo_Timpl_Member g1
 obtain ⟨c40, c41, rfl, g42, g43⟩ := rdo_Timpl_Tree g36
 obtain ⟨a44, c45, rfl⟩ := rd_sl1 g42
 obtain rfl := g43
 obtain rfl := g37
 obtain ⟨c46, c47, rfl, g48, g49⟩ := rdo_Timpl_Tree g38
 obtain ⟨a50, c51, rfl⟩ := rd_sl1 g48
 obtain rfl := g49
 obtain ⟨c52, c53, rfl, g54, g55⟩ := rdo_Timpl_Det g39
 obtain ⟨c56, rfl, g57⟩ := rdo_Timpl_Window g54
 obtain ⟨a58, c59, rfl⟩ := rd_sl1 g57
 obtain ⟨c60, rfl, g61⟩ := rdo_Timpl_Window g55
 obtain ⟨a62, c63, rfl⟩ := rd_sl1 g61
 unfold impl_MemberOk at H
 refine f_enter Tryz.func82 rfl Tryz.ntmps82 rfl (St.init w []) <| sR <| ob _ rfl fun b64 => ob _ rfl fun b65 => oP rfl <| nQ <| c_seq <| sR <| o1 rfl (rx 0 0 _ rfl ty51 rfl) <| bE H fun y66 h67 H => oq rfl (qc rfl fn79 (fun w1 hw1 => impl_ConfOk_ok w1 h67 (rdm_Timpl_Conf (rdm_Timpl_Schema (rds_bor g26 w1 hw1) (rds_bor g27 w1 hw1)) rfl rfl rfl rfl rfl rfl))) tt2 <| oPP rfl <| bE H fun u68 hu72 H => ow_cut [(17, .bool u68), (2, .pointer (some ⟨b64, 0, none⟩)), (3, .pointer (some ⟨b65, 0, none⟩))] 9 ?_ (fun key => OW.sub (R := [(2, .pointer (some ⟨b64, 0, none⟩)), (3, .pointer (some ⟨b65, 0, none⟩)), (8, .bool (!y66))]) ?_ (sb rfl))
 ·refine oP rfl <| bE H fun u73 hu77 H => ow_cut [(23, .bool u73), (2, .pointer (some ⟨b64, 0, none⟩)), (3, .pointer (some ⟨b65, 0, none⟩))] 5 ?_ (fun key => OW.sub (R := [(2, .pointer (some ⟨b64, 0, none⟩)), (3, .pointer (some ⟨b65, 0, none⟩)), (18, .bool u68)]) ?_ (sb rfl))
  ·refine nQ <| cI H rfl (fun H => ?_) (fun H => ?_)
   ·exact sR <| oP rfl <| nT <| x_qs_ret <| xr 4 rfl (by cases H; exact q1)
   ·refine c_skip <| x_qs <| c_seq <| sR <| ow_batch [.fa 99 1 2 fa99_1] rfl <| o1 rfl (r1 2 1 rfl ty4 rfl) <| nQ <| cI H rfl (fun H => ?_) (fun H => ?_)
    ·exact sR <| ow_batch [.fa 51 0 0 fa51_0] rfl <| o1 rfl (rx 0 0 _ rfl ty48 rfl) <| ow_batch [.fa 51 1 2 fa51_1] rfl <| o1 rfl (rx 2 0 _ rfl ty49 rfl) <| ow_batch [.fa 99 2 3 fa99_2] rfl <| o1 rfl (rx 3 1 _ rfl ty93 rfl) <| bE H fun y78 h79 H => oq rfl (qc rfl fn119 (fun w1 hw1 => impl_Fits_ok w1 (p1 := p0.Rule_) h79 (rdm_Timpl_Schema (rds_bor g26 w1 hw1) (rds_bor g27 w1 hw1)) (rdm_Timpl_Tree (rds_bor g48 w1 hw1) rfl))) tt2 <| oP rfl <| nT <| x_qs_ret <| xr 4 rfl (by cases H; exact q1)
    ·exact c_skip <| x_qs <| sR <| ow_batch [.fa 99 2 3 fa99_2] rfl <| o1 rfl (rx 3 1 _ rfl ty93 rfl) <| o1 rfl (ry_build2 [] [.slice none 0 0, .int .i64 0] rfl rfl ty93 fs93 rfl trivial rfl) <| bE H fun y80 h81 H => oq rfl (qc rfl fn121 (fun w1 hw1 => impl_TreeSame_ok w1 h81 (rdm_Timpl_Tree (rds_bor g48 w1 hw1) rfl) (rdm_Timpl_Tree (x := (Timpl_Tree.mk ([] : List Timpl_Node) 0)) rd_none rfl))) tt2 <| oP rfl <| nT <| xr 4 rfl (by cases H; exact q1)
  ·clear H
   have H := hu77
   clear hu77
   generalize u68 = t76 at H key ⊢
   cases t76
   ·have H := of_if_f rfl H
    refine ow_batch [.fa 99 3 5 fa99_3] rfl <| o1 rfl (rx 5 1 _ rfl ty97 rfl) <| bE H fun y74 h75 H => oq rfl (qc rfl fn120 (fun w1 hw1 => impl_DetOk_ok w1 h75 (rdm_Timpl_Det (rdm_Timpl_Window (rds_bor g57 w1 hw1)) (rdm_Timpl_Window (rds_bor g61 w1 hw1))))) tt2 <| oP rfl <| oP rfl <| ?_
    obtain rfl := of_some H
    exact OW.sub key (sb rfl)
   ·have H := of_if_t rfl H
    refine ow_batch [.p, .p, .p, .p, .p] rfl ?_
    obtain rfl := of_some H
    exact OW.sub key (sb rfl)
 ·clear H
  have H := hu72
  clear hu72
  generalize (!y66) = t71 at H key ⊢
  cases t71
  ·have H := of_if_f rfl H
   refine ow_batch [.fa 51 0 0 fa51_0] rfl <| o1 rfl (rx 0 0 _ rfl ty48 rfl) <| ow_batch [.fa 51 1 2 fa51_1] rfl <| o1 rfl (rx 2 0 _ rfl ty49 rfl) <| ow_batch [.fa 99 0 0 fa99_0] rfl <| o1 rfl (rx 0 1 _ rfl ty93 rfl) <| bE H fun y69 h70 H => oq rfl (qc rfl fn119 (fun w1 hw1 => impl_Fits_ok w1 (p1 := p0.Rule_) h70 (rdm_Timpl_Schema (rds_bor g26 w1 hw1) (rds_bor g27 w1 hw1)) (rdm_Timpl_Tree (rds_bor g42 w1 hw1) rfl))) tt2 <| oP rfl <| oP rfl <| ?_
   obtain rfl := of_some H
   exact OW.sub key (sb rfl)
  ·have H := of_if_t rfl H
   refine ow_batch [.p, .p, .p, .p, .p, .p, .p, .p, .p] rfl ?_
   obtain rfl := of_some H
   exact OW.sub key (sb rfl)
theorem impl_ForestOk_1_ok (w : World) {p0 : Timpl_Member} {p1 : Timpl_Conf} {cs0 : List Value} {q_1 : Addr} {cs_1 : List Value} {r : Bool} (H : impl_ForestOk_1 p0 p1 = some r)  (g0 : (eTimpl_Member).rd w [] p0 cs0) (g_1 : (eTimpl_Conf).rd w [] p1 cs_1) (hA_1 : At w [] q_1 cs_1) :
    Calls Tryz.prog 81 #[.agg cs0.toArray, .pointer (some q_1)] w (fun en w' => en = .returned (.bool r) ∧ Ext [] w w') := by
 obtain ⟨c10, c11, c12, c13, rfl, g14, g15, g16, g17⟩ := rdo_Timpl_Member g0
 obtain ⟨c18, c19, rfl, g20, g21⟩ := rdo_Timpl_Tree g14
 obtain ⟨a22, c23, rfl⟩ := rd_sl1 g20
 obtain rfl := g21
 obtain rfl := g15
 obtain ⟨c24, c25, rfl, g26, g27⟩ := rdo_Timpl_Tree g16
 obtain ⟨a28, c29, rfl⟩ := rd_sl1 g26
 obtain rfl := g27
 obtain ⟨c30, c31, rfl, g32, g33⟩ := rdo_Timpl_Det g17
 obtain ⟨c34, rfl, g35⟩ := rdo_Timpl_Window g32
 obtain ⟨a36, c37, rfl⟩ := rd_sl1 g35
 obtain ⟨c38, rfl, g39⟩ := rdo_Timpl_Window g33
 obtain ⟨a40, c41, rfl⟩ := rd_sl1 g39
 obtain ⟨c42, c43, c44, c45, c46, c47, c48, rfl, g49, g50, g51, g52, g53, g54, g55⟩ := rdo_Timpl_Conf g_1
 obtain ⟨c56, c57, rfl, g58, g59⟩ := rdo_Timpl_Schema g49
 obtain ⟨a60, c61, rfl⟩ := rd_sl1 g58
 obtain ⟨a62, c63, rfl⟩ := rd_sl1 g59
 obtain rfl := g50
 obtain rfl := g51
 obtain rfl := g52
 obtain rfl := g53
 obtain rfl := g54
 obtain rfl := g55
 unfold impl_ForestOk_1 at H
 exact f_enter Tryz.func81 rfl Tryz.ntmps81 rfl (St.init w []) <| sR <| ob _ rfl fun b64 => oP rfl <| nR <| o1 rfl (ry_load (cs := [.slice a60 p1.Schema_.Attrs_.length c61, .slice a62 p1.Schema_.Classes_.length c63, .int .i64 p1.Rule_.Sure_, .int .i64 p1.Rule_.Tie_, .int .i64 p1.Rule_.Grace_, .int .i64 p1.Rule_.Depth_, .int .i64 p1.Rule_.Nodes_, .int .i64 p1.Rule_.Units_, .bool p1.Rule_.Two_, .int .i64 p1.Members_, .int .i64 p1.Pick_, .int .i64 p1.Lambda_, .int .i64 p1.Warn_, .int .i64 p1.Drift_]) rfl rfl ty51 (at_bor bor hA_1) rfl) <| o1 rfl (rx 0 0 _ rfl ty99 rfl) <| bE H fun y65 h66 H => oq rfl (qc rfl fn82 (fun w1 hw1 => impl_MemberOk_ok w1 h66 (rdm_Timpl_Conf (rdm_Timpl_Schema (rds_bor g58 w1 hw1) (rds_bor g59 w1 hw1)) rfl rfl rfl rfl rfl rfl) (rdm_Timpl_Member (rdm_Timpl_Tree (rds_bor g20 w1 hw1) rfl) rfl (rdm_Timpl_Tree (rds_bor g26 w1 hw1) rfl) (rdm_Timpl_Det (rdm_Timpl_Window (rds_bor g35 w1 hw1)) (rdm_Timpl_Window (rds_bor g39 w1 hw1)))))) tt2 <| oPP rfl <| nT <| xr 3 rfl (by cases H; exact q1)
theorem lib_slices_IndexFunc___impl_Member_impl_Member___impl_ForestOk_1_ok (w : World) {p0 : List Timpl_Member} {p1_0 : Timpl_Conf} {a_0 : Option Addr} {n_0 c_0 : Nat} {q_1_0 : Addr} {cs_1_0 : List Value} {r : Int} (H : lib_slices_IndexFunc___impl_Member_impl_Member___impl_ForestOk_1 p0 p1_0 = some r)  (g0 : (eList (eTimpl_Member) 99).rd w [] p0 [.slice a_0 n_0 c_0]) (g_1_0 : (eTimpl_Conf).rd w [] p1_0 cs_1_0) (hA_1_0 : At w [] q_1_0 cs_1_0) :
    Calls Tryz.prog 118 #[.slice a_0 n_0 c_0, .func (.func 81) #[] #[.pointer (some q_1_0)]] w (fun en w' => en = .returned (.int .i64 r) ∧ Ext [] w w') := by
 obtain rfl := rd_n g0
 obtain ⟨c10, c11, c12, c13, c14, c15, c16, rfl, g17, g18, g19, g20, g21, g22, g23⟩ := rdo_Timpl_Conf g_1_0
 obtain ⟨c24, c25, rfl, g26, g27⟩ := rdo_Timpl_Schema g17
 obtain ⟨a28, c29, rfl⟩ := rd_sl1 g26
 obtain ⟨a30, c31, rfl⟩ := rd_sl1 g27
 obtain rfl := g18
 obtain rfl := g19
 obtain rfl := g20
 obtain rfl := g21
 obtain rfl := g22
 obtain rfl := g23
 unfold lib_slices_IndexFunc___impl_Member_impl_Member___impl_ForestOk_1 at H
 refine f_enter Tryz.func118 rfl Tryz.ntmps118 rfl (St.init w []) <| sR <| oP rfl <| nQ <| c_seq <| sR <| ow_batch [.p, .lenS 52 99 sl52, .p] rfl <| nQ <| c_block <| CW.at (loopI1 (fun (i73 : Int) => St w [] []) (fun i73 => [(0, .slice a_0 p0.length c_0), (1, .func (.func 81) #[] #[.pointer (some q_1_0)]), (7, .int .i64 (p0.length : Int)), (8, .int .i64 i73)]) (fun kk => fun i73 => lib_slices_IndexFunc___impl_Member_impl_Member___impl_ForestOk_1_L1 p0 p1_0 kk i73 = some r) (fun _ H => ?_) (fun k1 ihk1 i73 H => ?_) Fuel (0) (H)) (fun _ h => St.sel [] rfl rfl h) ⟨rfl, rfl, rfl, rfl,  trivial⟩
 ·unfold lib_slices_IndexFunc___impl_Member_impl_Member___impl_ForestOk_1_L1 at H
  exact absurd H (by simp)
 ·unfold lib_slices_IndexFunc___impl_Member_impl_Member___impl_ForestOk_1_L1 at H
  refine sR <| oP rfl <| nQ <| c_seq <| cI H rfl (fun H => ?_) (fun H => ?_)
  ·refine c_skip <| x_qs <| c_seq <| c_block <| sR <| oPP rfl <| nR <| ow_batch [.p, .p, .p] rfl <| bE H fun e115 h116 H => ow_ixB rfl rfl rfl rfl rfl sl52 ty99 rfl g0 h116 fun q119 c120 hd117 hA118 => ?_
   obtain ⟨c121, c122, c123, c124, rfl, g125, g126, g127, g128⟩ := rdo_Timpl_Member hd117
   obtain ⟨c129, c130, rfl, g131, g132⟩ := rdo_Timpl_Tree g125
   obtain ⟨a133, c134, rfl⟩ := rd_sl1 g131
   obtain rfl := g132
   obtain rfl := g126
   obtain ⟨c135, c136, rfl, g137, g138⟩ := rdo_Timpl_Tree g127
   obtain ⟨a139, c140, rfl⟩ := rd_sl1 g137
   obtain rfl := g138
   obtain ⟨c141, c142, rfl, g143, g144⟩ := rdo_Timpl_Det g128
   obtain ⟨c145, rfl, g146⟩ := rdo_Timpl_Window g143
   obtain ⟨a147, c148, rfl⟩ := rd_sl1 g146
   obtain ⟨c149, rfl, g150⟩ := rdo_Timpl_Window g144
   obtain ⟨a151, c152, rfl⟩ := rd_sl1 g150
   refine o1 rfl (ry_load (cs := [.slice a133 e115.Tree_.Nodes_.length c134, .int .i64 e115.Tree_.Seen_, .bool e115.HasYoung_, .slice a139 e115.Young_.Nodes_.length c140, .int .i64 e115.Young_.Seen_, .slice a147 e115.Det_.Warn_.Rows_.length c148, .slice a151 e115.Det_.Drift_.Rows_.length c152]) rfl rfl ty99 (at_bor bor hA118) rfl) <| bE H fun y153 h154 H => ow_q rfl rfl (dstOk_lt rfl) (qy_callV (cap := [.pointer (some q_1_0)]) rfl fn81 rfl rfl (fun w1 hw1 => impl_ForestOk_1_ok w1 (cs_1 := [.slice a28 p1_0.Schema_.Attrs_.length c29, .slice a30 p1_0.Schema_.Classes_.length c31, .int .i64 p1_0.Rule_.Sure_, .int .i64 p1_0.Rule_.Tie_, .int .i64 p1_0.Rule_.Grace_, .int .i64 p1_0.Rule_.Depth_, .int .i64 p1_0.Rule_.Nodes_, .int .i64 p1_0.Rule_.Units_, .bool p1_0.Rule_.Two_, .int .i64 p1_0.Members_, .int .i64 p1_0.Pick_, .int .i64 p1_0.Lambda_, .int .i64 p1_0.Warn_, .int .i64 p1_0.Drift_]) h154 (rdm_Timpl_Member (rdm_Timpl_Tree (rds_bor g131 w1 hw1) rfl) rfl (rdm_Timpl_Tree (rds_bor g137 w1 hw1) rfl) (rdm_Timpl_Det (rdm_Timpl_Window (rds_bor g146 w1 hw1)) (rdm_Timpl_Window (rds_bor g150 w1 hw1)))) (rdm_Timpl_Conf (rdm_Timpl_Schema (rds_bor g26 w1 hw1) (rds_bor g27 w1 hw1)) rfl rfl rfl rfl rfl rfl) (at_bor bor hA_1_0 w1 hw1))) (fun _ _ => trivial) <| nQ <| cI H rfl (fun H => ?_) (fun H => ?_)
   ·exact sR <| oPP rfl <| nT <| x_qb_ret <| x_qs_ret <| x_ql_ret <| x_qb_ret <| x_qs_ret <| xr 4 rfl (by cases H; exact q1)
   ·exact c_skip <| x_qb <| x_qs <| c_reg <| oPP rfl <| ow_nil <| x_ql (RW.at (ihk1 (IntKind.i64.wrap (i73 + 1)) (H)) (fun _ h => St.sel [] rfl rfl h) ⟨rfl, rfl, rfl, rfl, trivial⟩)
  ·exact c_exit <| x_qs_exit <| x_ql_exit <| x_qb_here <| x_qs <| sR <| oP rfl <| nT <| xr 4 rfl (by cases H; exact q1)
theorem lib_slices_ContainsFunc___impl_Member_impl_Member___impl_ForestOk_1_ok (w : World) {p0 : List Timpl_Member} {p1_0 : Timpl_Conf} {a_0 : Option Addr} {n_0 c_0 : Nat} {q_1_0 : Addr} {cs_1_0 : List Value} {r : Bool} (H : lib_slices_ContainsFunc___impl_Member_impl_Member___impl_ForestOk_1 p0 p1_0 = some r)  (g0 : (eList (eTimpl_Member) 99).rd w [] p0 [.slice a_0 n_0 c_0]) (g_1_0 : (eTimpl_Conf).rd w [] p1_0 cs_1_0) (hA_1_0 : At w [] q_1_0 cs_1_0) :
    Calls Tryz.prog 80 #[.slice a_0 n_0 c_0, .func (.func 81) #[] #[.pointer (some q_1_0)]] w (fun en w' => en = .returned (.bool r) ∧ Ext [] w w') := by
 obtain rfl := rd_n g0
 obtain ⟨c10, c11, c12, c13, c14, c15, c16, rfl, g17, g18, g19, g20, g21, g22, g23⟩ := rdo_Timpl_Conf g_1_0
 obtain ⟨c24, c25, rfl, g26, g27⟩ := rdo_Timpl_Schema g17
 obtain ⟨a28, c29, rfl⟩ := rd_sl1 g26
 obtain ⟨a30, c31, rfl⟩ := rd_sl1 g27
 obtain rfl := g18
 obtain rfl := g19
 obtain rfl := g20
 obtain rfl := g21
 obtain rfl := g22
 obtain rfl := g23
 unfold lib_slices_ContainsFunc___impl_Member_impl_Member___impl_ForestOk_1 at H
 exact f_enter Tryz.func80 rfl Tryz.ntmps80 rfl (St.init w []) <| sR <| oP rfl <| nR <| oPP rfl <| bE H fun y32 h33 H => oq rfl (qc rfl fn118 (fun w1 hw1 => lib_slices_IndexFunc___impl_Member_impl_Member___impl_ForestOk_1_ok w1 (cs_1_0 := [.slice a28 p1_0.Schema_.Attrs_.length c29, .slice a30 p1_0.Schema_.Classes_.length c31, .int .i64 p1_0.Rule_.Sure_, .int .i64 p1_0.Rule_.Tie_, .int .i64 p1_0.Rule_.Grace_, .int .i64 p1_0.Rule_.Depth_, .int .i64 p1_0.Rule_.Nodes_, .int .i64 p1_0.Rule_.Units_, .bool p1_0.Rule_.Two_, .int .i64 p1_0.Members_, .int .i64 p1_0.Pick_, .int .i64 p1_0.Lambda_, .int .i64 p1_0.Warn_, .int .i64 p1_0.Drift_]) h33 (rds_bor g0 w1 hw1) (rdm_Timpl_Conf (rdm_Timpl_Schema (rds_bor g26 w1 hw1) (rds_bor g27 w1 hw1)) rfl rfl rfl rfl rfl rfl) (at_bor bor hA_1_0 w1 hw1))) tt2 <| oPP rfl <| nT <| xr 4 rfl (by cases H; exact q1)
theorem impl_ForestOk_ok (w : World) {p0 : Timpl_Conf} {p1 : Timpl_Forest} {cs0 : List Value} {cs1 : List Value} {r : Bool} (H : impl_ForestOk p0 p1 = some r)  (g0 : (eTimpl_Conf).rd w [] p0 cs0) (g1 : (eTimpl_Forest).rd w [] p1 cs1) :
    Calls Tryz.prog 48 #[.agg cs0.toArray, .agg cs1.toArray] w (fun en w' => en = .returned (.bool r) ∧ Ext [] w w') := by
 obtain ⟨c10, c11, c12, c13, c14, c15, c16, rfl, g17, g18, g19, g20, g21, g22, g23⟩ := rdo_Timpl_Conf g0
 obtain ⟨c24, c25, rfl, g26, g27⟩ := rdo_Timpl_Schema g17
 obtain ⟨a28, c29, rfl⟩ := rd_sl1 g26
 obtain ⟨a30, c31, rfl⟩ := rd_sl1 g27
 obtain rfl := g18
 obtain rfl := g19
 obtain rfl := g20
 obtain rfl := g21
 obtain rfl := g22
 obtain rfl := g23
 obtain ⟨c32, rfl, g33⟩ := rdo_Timpl_Forest g1
 obtain ⟨a34, c35, rfl⟩ := rd_sl1 g33
 unfold impl_ForestOk at H
 refine f_enter Tryz.func48 rfl Tryz.ntmps48 rfl (St.init w []) <| sR <| ob _ rfl fun b36 => ob _ rfl fun b37 => oP rfl <| nR <| o1 rfl (rx 0 0 _ rfl ty51 rfl) <| bE H fun y38 h39 H => oq rfl (qc rfl fn79 (fun w1 hw1 => impl_ConfOk_ok w1 h39 (rdm_Timpl_Conf (rdm_Timpl_Schema (rds_bor g26 w1 hw1) (rds_bor g27 w1 hw1)) rfl rfl rfl rfl rfl rfl))) tt2 <| oP rfl <| ow_cut [(14, .bool (y38 && ((p1.Members_.length : Int) == p0.Members_))), (2, .pointer (some ⟨b36, 0, none⟩)), (3, .pointer (some ⟨b37, 0, none⟩)), (4, .bool false)] 7 ?_ (fun key => OW.sub (R := [(2, .pointer (some ⟨b36, 0, none⟩)), (3, .pointer (some ⟨b37, 0, none⟩)), (4, .bool false), (7, .bool y38)]) ?_ (sb rfl))
 ·refine oP rfl <| bE H fun u42 hu46 H => ow_cut [(21, .bool u42), (4, .bool false)] 6 ?_ (fun key => OW.sub (R := [(2, .pointer (some ⟨b36, 0, none⟩)), (3, .pointer (some ⟨b37, 0, none⟩)), (4, .bool false), (15, .bool (y38 && ((p1.Members_.length : Int) == p0.Members_)))]) ?_ (sb rfl))
  ·exact oP rfl <| nT <| xr 4 rfl (by cases H; exact q1)
  ·clear H
   have H := hu46
   clear hu46
   generalize (y38 && ((p1.Members_.length : Int) == p0.Members_)) = t45 at H key ⊢
   cases t45
   ·have H := of_if_f rfl H
    refine ow_batch [.p, .p, .p, .p, .p, .p] rfl ?_
    obtain rfl := of_some H
    exact OW.sub key (sb rfl)
   ·have H := of_if_t rfl H
    refine ow_batch [.fa 54 0 0 fa54_0] rfl <| o1 rfl (r1 0 1 rfl ty52 rfl) <| o1 rfl (ry_makeFunc rfl rfl) <| bE H fun y43 h44 H => oq rfl (qc rfl fn80 (fun w1 hw1 => lib_slices_ContainsFunc___impl_Member_impl_Member___impl_ForestOk_1_ok w1 (cs_1_0 := [.slice a28 p0.Schema_.Attrs_.length c29, .slice a30 p0.Schema_.Classes_.length c31, .int .i64 p0.Rule_.Sure_, .int .i64 p0.Rule_.Tie_, .int .i64 p0.Rule_.Grace_, .int .i64 p0.Rule_.Depth_, .int .i64 p0.Rule_.Nodes_, .int .i64 p0.Rule_.Units_, .bool p0.Rule_.Two_, .int .i64 p0.Members_, .int .i64 p0.Pick_, .int .i64 p0.Lambda_, .int .i64 p0.Warn_, .int .i64 p0.Drift_]) h44 (rds_bor g33 w1 hw1) (rdm_Timpl_Conf (rdm_Timpl_Schema (rds_bor g26 w1 hw1) (rds_bor g27 w1 hw1)) rfl rfl rfl rfl rfl rfl) (at_box (T := 51) 0 (boxIn (i := 0) rfl) rfl w1 hw1))) tt2 <| oP rfl <| oP rfl <| ?_
    obtain rfl := of_some H
    exact OW.sub key (sb rfl)
 ·generalize y38 = t41 at key ⊢
  cases t41
  ·exact ow_batch [.p, .p, .p, .p, .p, .p, .p] rfl <| OW.sub key (sb rfl)
  ·exact ow_batch [.fa 54 0 0 fa54_0] rfl <| o1 rfl (r1 0 1 rfl ty52 rfl) <| ow_batch [.lenS 52 99 sl52, .fa 51 2 9 fa51_2] rfl <| o1 rfl (r1 9 0 rfl ty3 rfl) <| oP rfl <| oP rfl <| OW.sub key (sb rfl)
theorem impl_ExOk_ok (w : World) {p0 : Timpl_Schema} {p1 : Timpl_Ex} {cs0 : List Value} {cs1 : List Value} {r : Bool} (H : impl_ExOk p0 p1 = some r)  (g0 : (eTimpl_Schema).rd w [] p0 cs0) (g1 : (eTimpl_Ex).rd w [] p1 cs1) :
    Calls Tryz.prog 49 #[.agg cs0.toArray, .agg cs1.toArray] w (fun en w' => en = .returned (.bool r) ∧ Ext [] w w') := by
 obtain ⟨c10, c11, rfl, g12, g13⟩ := rdo_Timpl_Schema g0
 obtain ⟨a14, c15, rfl⟩ := rd_sl1 g12
 obtain ⟨a16, c17, rfl⟩ := rd_sl1 g13
 obtain ⟨c18, c19, rfl, g20, g21⟩ := rdo_Timpl_Ex g1
 obtain ⟨a22, c23, rfl⟩ := rd_sl1 g20
 obtain rfl := g21
 unfold impl_ExOk at H
 refine f_enter Tryz.func49 rfl Tryz.ntmps49 rfl (St.init w []) <| sR <| ob _ rfl fun b24 => ob _ rfl fun b25 => oP rfl <| nQ <| c_seq <| sR <| o1 rfl (rx 0 0 _ rfl ty48 rfl) <| bE H fun y26 h27 H => oq rfl (qc rfl fn83 (fun w1 hw1 => impl_SchemaOk_ok w1 h27 (rdm_Timpl_Schema (rds_bor g12 w1 hw1) (rds_bor g13 w1 hw1)))) tt2 <| oPP rfl <| ow_cut [(18, .bool ((!y26) || ((p1.Bins_.length : Int) != (p0.Attrs_.length : Int)))), (2, .pointer (some ⟨b24, 0, none⟩)), (3, .pointer (some ⟨b25, 0, none⟩))] 8 ?_ (fun key => OW.sub (R := [(2, .pointer (some ⟨b24, 0, none⟩)), (3, .pointer (some ⟨b25, 0, none⟩)), (10, .bool (!y26))]) ?_ (sb rfl))
 ·refine oP rfl <| bE H fun u30 hu34 H => ow_cut [(28, .bool u30), (2, .pointer (some ⟨b24, 0, none⟩)), (3, .pointer (some ⟨b25, 0, none⟩))] 9 ?_ (fun key => OW.sub (R := [(2, .pointer (some ⟨b24, 0, none⟩)), (3, .pointer (some ⟨b25, 0, none⟩)), (19, .bool ((!y26) || ((p1.Bins_.length : Int) != (p0.Attrs_.length : Int))))]) ?_ (sb rfl))
  ·refine nQ <| cI H rfl (fun H => ?_) (fun H => ?_)
   ·exact sR <| oP rfl <| nT <| x_qs_ret <| xr 4 rfl (by cases H; exact q1)
   ·refine c_skip <| x_qs <| c_seq <| sR <| ow_batch [.fa 61 0 0 fa61_0] rfl <| o1 rfl (r1 0 1 rfl ty39 rfl) <| ow_batch [.lenS 39 3 sl39, .p] rfl <| nQ <| c_block <| CW.at (loopI1 (fun (i58 : Int) => St w [] [Res.box b24 48 [.slice a14 p0.Attrs_.length c15, .slice a16 p0.Classes_.length c17]]) (fun i58 => [(2, .pointer (some ⟨b24, 0, none⟩)), (30, .slice a22 p1.Bins_.length c23), (31, .int .i64 (p1.Bins_.length : Int)), (32, .int .i64 i58)]) (fun kk => fun i58 => impl_ExOk_L1 p1 p0 kk i58 = some r) (fun _ H => ?_) (fun k1 ihk1 i58 H => ?_) Fuel (0) (H)) (fun _ h => St.sel [0] rfl rfl h) ⟨rfl, rfl, rfl, rfl,  trivial⟩
    ·unfold impl_ExOk_L1 at H
     exact absurd H (by simp)
    ·unfold impl_ExOk_L1 at H
     refine sR <| oP rfl <| nQ <| c_seq <| cI H rfl (fun H => ?_) (fun H => ?_)
     ·refine c_skip <| x_qs <| c_seq <| c_block <| sR <| oP rfl <| bE H fun e82 h83 H => ow_ixE (e := eI) (xs := p1.Bins_) (j := i58) rfl rfl rfl rfl rfl sl39 ty3 rfl (fun w1 hw1 => rds_bor g20 w1 hw1) h83 (by rw [Nat.mul_one]) <| o1 rfl (ry_load1 rfl rfl ty3 (at_elV (fun w1 hw1 => rds_bor g20 w1 hw1) h83)) <| oPP rfl <| nR <| ow_batch [.p, .fa 48 0 0 fa48_0] rfl <| o1 rfl (r1 0 0 rfl ty46 rfl) <| oP rfl <| bE H fun e84 h85 H => ow_ixB rfl rfl rfl rfl rfl sl46 ty133 rfl g12 h85 fun q88 c89 hd86 hA87 => ?_
      obtain ⟨c90, c91, c92, rfl, g93, g94, g95⟩ := rdo_Timpl_Attr hd86
      obtain rfl := g93
      obtain ⟨a96, c97, rfl⟩ := rd_sl1 g94
      obtain ⟨a98, c99, rfl⟩ := rd_sl1 g95
      refine o1 rfl (ry_load (cs := [vS e84.Name_, .slice a96 e84.Cuts_.length c97, .slice a98 e84.Values_.length c99]) rfl rfl ty133 (at_bor bor hA87) rfl) <| bE H fun y100 h101 H => oq rfl (qc rfl fn85 (fun w1 hw1 => impl_bins_ok w1 h101 (rdm_Timpl_Attr rfl (rds_bor g94 w1 hw1) (rds_bor g95 w1 hw1)))) tt2 <| oP rfl <| bE H fun y102 h103 H => oq rfl (qc rfl fn84 (fun w1 hw1 => impl_within_ok w1  h103)) tt2 <| oP rfl <| nQ <| cI H rfl (fun H => ?_) (fun H => ?_)
      ·exact sR <| oP rfl <| nT <| x_qb_ret <| x_qs_ret <| x_ql_ret <| x_qb_ret <| x_qs_ret <| xr 4 rfl (by cases H; exact q1)
      ·exact c_skip <| x_qb <| x_qs <| c_reg <| oPP rfl <| ow_nil <| x_ql (RW.at (ihk1 (IntKind.i64.wrap (i58 + 1)) (H)) (fun _ h => St.sel [0] rfl rfl h) ⟨rfl, rfl, rfl, rfl, trivial⟩)
     ·exact c_exit <| x_qs_exit <| x_ql_exit <| x_qb_here <| x_qs <| sR <| oP rfl <| nT <| xr 4 rfl (by cases H; exact q1)
  ·clear H
   have H := hu34
   clear hu34
   generalize ((!y26) || ((p1.Bins_.length : Int) != (p0.Attrs_.length : Int))) = t33 at H key ⊢
   cases t33
   ·have H := of_if_f rfl H
    refine ow_batch [.fa 61 1 1 fa61_1] rfl <| o1 rfl (r1 1 1 rfl ty3 rfl) <| ow_batch [.fa 48 1 1 fa48_1] rfl <| o1 rfl (r1 1 0 rfl ty23 rfl) <| ow_batch [.lenS 23 9 sl23, .p] rfl <| bE H fun y31 h32 H => oq rfl (qc rfl fn84 (fun w1 hw1 => impl_within_ok w1  h32)) tt2 <| oP rfl <| oP rfl <| ?_
    obtain rfl := of_some H
    exact OW.sub key (sb rfl)
   ·have H := of_if_t rfl H
    refine ow_batch [.p, .p, .p, .p, .p, .p, .p, .p, .p] rfl ?_
    obtain rfl := of_some H
    exact OW.sub key (sb rfl)
 ·generalize (!y26) = t29 at key ⊢
  cases t29
  ·exact ow_batch [.fa 61 0 0 fa61_0] rfl <| o1 rfl (r1 0 1 rfl ty39 rfl) <| ow_batch [.lenS 39 3 sl39, .fa 48 0 0 fa48_0] rfl <| o1 rfl (r1 0 0 rfl ty46 rfl) <| ow_batch [.lenS 46 133 sl46, .p] rfl <| oP rfl <| OW.sub key (sb rfl)
  ·exact ow_batch [.p, .p, .p, .p, .p, .p, .p, .p] rfl <| OW.sub key (sb rfl)
theorem impl_BranchOf_ok (w : World) {p0 : Timpl_Schema} {p1 : Timpl_Fork} {p2 : Int} {cs0 : List Value} {r : Int} (H : impl_BranchOf p0 p1 p2 = some r)  (g0 : (eTimpl_Schema).rd w [] p0 cs0) :
    Calls Tryz.prog 175 #[.agg cs0.toArray, .agg #[.int .i64 p1.Attr_, .int .i64 p1.At_], .int .i64 p2] w (fun en w' => en = .returned (.int .i64 r) ∧ Ext [] w w') := by
 obtain ⟨c10, c11, rfl, g12, g13⟩ := rdo_Timpl_Schema g0
 obtain ⟨a14, c15, rfl⟩ := rd_sl1 g12
 obtain ⟨a16, c17, rfl⟩ := rd_sl1 g13
 unfold impl_BranchOf at H
 refine f_enter Tryz.func175 rfl Tryz.ntmps175 rfl (St.init w []) <| sR <| ob _ rfl fun b18 => ob _ rfl fun b19 => oP rfl <| nQ <| c_seq <| sR <| o1 rfl (rx 0 0 _ rfl ty48 rfl) <| o1 rfl (rx 0 1 _ rfl ty165 rfl) <| bE H fun y20 h21 H => oq rfl (qc rfl fn190 (fun w1 hw1 => impl_ForkOk_ok w1 (p1 := p1) h21 (rdm_Timpl_Schema (rds_bor g12 w1 hw1) (rds_bor g13 w1 hw1)))) tt2 <| oPP rfl <| bE H fun u22 hu44 H => ow_cut [(23, .bool u22), (2, .int .i64 p2), (3, .pointer (some ⟨b18, 0, none⟩)), (4, .pointer (some ⟨b19, 0, none⟩))] 12 ?_ (fun key => OW.sub (R := [(2, .int .i64 p2), (3, .pointer (some ⟨b18, 0, none⟩)), (4, .pointer (some ⟨b19, 0, none⟩)), (11, .bool (!y20))]) ?_ (sb rfl))
 ·refine nQ <| cI H rfl (fun H => ?_) (fun H => ?_)
  ·exact sR <| oP rfl <| nT <| x_qs_ret <| xr 6 rfl (by cases H; exact q1)
  ·refine c_skip <| x_qs <| c_seq <| c_block <| sR <| ow_batch [.fa 165 1 1 fa165_1] rfl <| o1 rfl (r1 1 1 rfl ty3 rfl) <| oPP rfl <| nQ <| cI H rfl (fun H => ?_) (fun H => ?_)
   ·exact sR <| oPP rfl <| nT <| x_qb_ret <| x_qs_ret <| xr 6 rfl (by cases H; exact q1)
   ·refine sR <| ow_batch [.p, .fa 165 1 1 fa165_1] rfl <| o1 rfl (r1 1 1 rfl ty3 rfl) <| oPP rfl <| bE H fun u45 hu65 H => ow_cut [(50, .bool u45)] 16 ?_ (fun key => OW.sub (R := [(2, .int .i64 p2), (3, .pointer (some ⟨b18, 0, none⟩)), (4, .pointer (some ⟨b19, 0, none⟩)), (34, .bool (p2 == p1.At_))]) ?_ (sb rfl))
    ·refine oP rfl <| nQ <| cI H rfl (fun H => ?_) (fun H => ?_)
     ·exact sR <| oP rfl <| nT <| x_qb_ret <| x_qs_ret <| xr 6 rfl (by cases H; exact q1)
     ·exact c_skip <| x_qb <| x_qs <| sR <| oP rfl <| nT <| xr 6 rfl (by cases H; exact q1)
    ·clear H
     have H := hu65
     clear hu65
     generalize (p2 == p1.At_) = t64 at H key ⊢
     cases t64
     ·have H := of_if_f rfl H
      refine ow_batch [.fa 48 0 0 fa48_0] rfl <| o1 rfl (r1 0 0 rfl ty46 rfl) <| ow_batch [.fa 165 0 0 fa165_0] rfl <| o1 rfl (r1 0 1 rfl ty3 rfl) <| bE H fun e46 h47 H => ow_ixB rfl rfl rfl rfl rfl sl46 ty133 rfl g12 h47 fun q50 c51 hd48 hA49 => ?_
      obtain ⟨c52, c53, c54, rfl, g55, g56, g57⟩ := rdo_Timpl_Attr hd48
      obtain rfl := g55
      obtain ⟨a58, c59, rfl⟩ := rd_sl1 g56
      obtain ⟨a60, c61, rfl⟩ := rd_sl1 g57
      refine ow_batch [.fa 133 1 1 fa133_1] rfl <| o1 rfl (ry_load1 rfl rfl ty39 (at_bor bor (at_K hA49 1 1))) <| ow_batch [.lenS 39 3 sl39, .p, .p] rfl <| ow_cut [(49, .bool ((decide ((e46.Cuts_.length : Int) > 0)) && (decide (p2 < p1.At_)))), (34, .bool false)] 5 ?_ (fun key => OW.sub (R := [(2, .int .i64 p2), (4, .pointer (some ⟨b19, 0, none⟩)), (34, .bool false), (44, .bool (decide ((e46.Cuts_.length : Int) > 0)))]) ?_ (sb rfl))
      ·refine ow_batch [.p] rfl ?_
       obtain rfl := of_some H
       exact OW.sub key ⟨rfl, trivial⟩
      ·generalize (decide ((e46.Cuts_.length : Int) > 0)) = t63 at key ⊢
       cases t63
       ·exact ow_batch [.p, .p, .p, .p, .p] rfl <| OW.sub key (sb rfl)
       ·exact ow_batch [.p, .fa 165 1 1 fa165_1] rfl <| o1 rfl (r1 1 1 rfl ty3 rfl) <| oP rfl <| oP rfl <| OW.sub key (sb rfl)
     ·have H := of_if_t rfl H
      refine ow_batch [.p, .p, .p, .p, .p, .p, .p, .p, .p, .p, .p, .p, .p, .p, .p, .p] rfl ?_
      obtain rfl := of_some H
      exact OW.sub key ⟨rfl, trivial⟩
 ·clear H
  have H := hu44
  clear hu44
  generalize (!y20) = t43 at H key ⊢
  cases t43
  ·have H := of_if_f rfl H
   refine ow_batch [.p, .fa 48 0 0 fa48_0] rfl <| o1 rfl (r1 0 0 rfl ty46 rfl) <| ow_batch [.fa 165 0 0 fa165_0] rfl <| o1 rfl (r1 0 1 rfl ty3 rfl) <| bE H fun e23 h24 H => ow_ixB rfl rfl rfl rfl rfl sl46 ty133 rfl g12 h24 fun q27 c28 hd25 hA26 => ?_
   obtain ⟨c29, c30, c31, rfl, g32, g33, g34⟩ := rdo_Timpl_Attr hd25
   obtain rfl := g32
   obtain ⟨a35, c36, rfl⟩ := rd_sl1 g33
   obtain ⟨a37, c38, rfl⟩ := rd_sl1 g34
   refine o1 rfl (ry_load (cs := [vS e23.Name_, .slice a35 e23.Cuts_.length c36, .slice a37 e23.Values_.length c38]) rfl rfl ty133 (at_bor bor hA26) rfl) <| bE H fun y39 h40 H => oq rfl (qc rfl fn85 (fun w1 hw1 => impl_bins_ok w1 h40 (rdm_Timpl_Attr rfl (rds_bor g33 w1 hw1) (rds_bor g34 w1 hw1)))) tt2 <| oP rfl <| bE H fun y41 h42 H => oq rfl (qc rfl fn84 (fun w1 hw1 => impl_within_ok w1  h42)) tt2 <| oP rfl <| oP rfl <| ?_
   obtain rfl := of_some H
   exact OW.sub key (sb rfl)
  ·have H := of_if_t rfl H
   refine ow_batch [.p, .p, .p, .p, .p, .p, .p, .p, .p, .p, .p, .p] rfl ?_
   obtain rfl := of_some H
   exact OW.sub key (sb rfl)
theorem impl_pathTo_ok (w : World) {M0 : List Nat} {p0 : Timpl_Schema} {p1 : Timpl_Tree} {p2 : Timpl_Ex} {cs0 : List Value} {cs1 : List Value} {cs2 : List Value} {r : (List Int) × Bool} (H : impl_pathTo p0 p1 p2 = some r) (HS : St w M0 [] w) (g0 : (eTimpl_Schema).rd w M0 p0 cs0) (g1 : (eTimpl_Tree).rd w M0 p1 cs1) (g2 : (eTimpl_Ex).rd w M0 p2 cs2) :
    Calls Tryz.prog 154 #[.agg cs0.toArray, .agg cs1.toArray, .agg cs2.toArray] w (fun en w' => ∃ v, en = .returned v ∧ ∃ (a0 : Option Addr), ∃ (n0 : Nat), ∃ (c0 : Nat), ∃ (F0 : List Nat), v = .slice a0 n0 c0 ∧ a0.isNone = r.2 ∧ St w M0 [Res.own (eList eI 3) F0 r.1 [.slice a0 n0 c0]] w') := by
 obtain ⟨c10, c11, rfl, g12, g13⟩ := rdo_Timpl_Schema g0
 obtain ⟨a14, c15, rfl⟩ := rd_sl1 g12
 obtain ⟨a16, c17, rfl⟩ := rd_sl1 g13
 obtain ⟨c18, c19, rfl, g20, g21⟩ := rdo_Timpl_Tree g1
 obtain ⟨a22, c23, rfl⟩ := rd_sl1 g20
 obtain rfl := g21
 obtain ⟨c24, c25, rfl, g26, g27⟩ := rdo_Timpl_Ex g2
 obtain ⟨a28, c29, rfl⟩ := rd_sl1 g26
 obtain rfl := g27
 unfold impl_pathTo at H
 refine f_enter Tryz.func154 rfl Tryz.ntmps154 rfl (HS) <| sR <| ob _ rfl fun b30 => ob _ rfl fun b31 => ob _ rfl fun b32 => oP rfl <| nR <| ow_blit (val := Value.int .i64) (h1 := fun _ => rfl) [0] [(0, [.int .i64 0])] rfl rfl rfl rfl rfl sl39 ty3 rfl rfl rfl ⟨rfl, rfl, Nat.le_of_ble_eq_true rfl,  trivial⟩ rfl rfl (fun _ => kp) fun b33 => oP rfl <| nQ <| c_block <| CW.at (loopI4 (fun (l139 : List Int) (a140 : Option Addr) (c141 : Nat) (F142 : List Nat) => St w M0 [Res.box b30 48 [.slice a14 p0.Attrs_.length c15, .slice a16 p0.Classes_.length c17], Res.box b31 93 [.slice a22 p1.Nodes_.length c23, .int .i64 p1.Seen_], Res.box b32 61 [.slice a28 p2.Bins_.length c29, .int .i64 p2.Class_], Res.own (eList eI 3) F142 l139 [.slice a140 l139.length c141]]) (fun l139 a140 c141 F142 => [(3, .pointer (some ⟨b30, 0, none⟩)), (4, .pointer (some ⟨b31, 0, none⟩)), (5, .pointer (some ⟨b32, 0, none⟩)), (7, .slice a140 l139.length c141)]) (fun kk => fun l139 a140 c141 F142 => a140.isNone = false ∧ impl_pathTo_L1 p1 p2 p0 kk l139 = some r) (fun _ _ _ _ H => ?_) (fun k1 ihk1 l139 a140 c141 F142 ⟨hz143, H⟩ => ?_) Fuel (([0] : List Int)) ((some ⟨b33, 0, none⟩)) (1) ([b33]) (⟨rfl, H⟩)) (fun _ h => St.sel [0, 1, 2, 3] rfl rfl h) ⟨rfl, rfl, rfl, rfl,  trivial⟩
 ·unfold impl_pathTo_L1 at H
  exact absurd H (by simp)
 ·unfold impl_pathTo_L1 at H
  refine c_block <| c_seq <| c_regHT 11 [(0, true), (1, true), (2, true), (3, true), (4, true), (5, true), (6, true), (7, true), (8, true), (9, true), (10, false)] (St w M0 [Res.box b30 48 [.slice a14 p0.Attrs_.length c15, .slice a16 p0.Classes_.length c17], Res.box b31 93 [.slice a22 p1.Nodes_.length c23, .int .i64 p1.Seen_], Res.box b32 61 [.slice a28 p2.Bins_.length c29, .int .i64 p2.Class_], Res.own (eList eI 3) F142 l139 [.slice a140 l139.length c141]]) mixed (by kernel_rfl) (panicOk_qs (panicOk_qb (panicOk_ql (panicOk_qb panicOk_body)))) (fun _ h => St.mask [true, true, true, true] rfl h) <| ow_batch [.fa 93 0 0 fa93_0] rfl <| ow_rH rfl (dstOk_lt rfl) (r1 0 1 rfl ty91 rfl) <| ow_batch [.p, .p, .lenS 39 3 sl39, .p] rfl <| bE H fun e290 h291 H => ow_ixE (e := eI) (xs := l139) (j := IntKind.i64.wrap ((l139.length : Int) - 1)) rfl rfl rfl rfl rfl sl39 ty3 rfl (fun w1 hw1 => rds_own (e := eList eI 3) (r := 3) rfl w1 hw1) h291 (by rw [Nat.mul_one]) <| ow_rH rfl (dstOk_lt rfl) (ry_load1 rfl rfl ty3 (at_elV (fun w1 hw1 => rds_own (e := eList eI 3) (r := 3) rfl w1 hw1) h291)) <| bE H fun e292 h293 H => ow_ixB rfl rfl rfl rfl rfl sl91 ty169 rfl g20 h293 fun q296 c297 hd294 hA295 => ?_
  obtain ⟨c298, c299, c300, c301, c302, c303, c304, c305, c306, c307, rfl, g308, g309, g310, g311, g312, g313, g314, g315, g316, g317⟩ := rdo_Timpl_Node hd294
  obtain rfl := g308
  obtain rfl := g309
  obtain ⟨a318, c319, rfl⟩ := rd_sl1 g310
  obtain rfl := g311
  obtain ⟨c320, c321, rfl, g322, g323⟩ := rdo_Timpl_Stats g312
  obtain ⟨a324, c325, rfl⟩ := rd_sl1 g322
  obtain ⟨a326, c327, rfl⟩ := rd_sl1 g323
  obtain rfl := g313
  obtain ⟨a328, c329, rfl⟩ := rd_sl1 g314
  obtain rfl := g315
  obtain rfl := g316
  obtain rfl := g317
  refine ow_rH rfl (dstOk_lt rfl) (ry_load (cs := [.bool e292.Leaf_, .int .i64 e292.Fork_.Attr_, .int .i64 e292.Fork_.At_, .slice a318 e292.Kids_.length c319, .int .i64 e292.Miss_, .slice a324 e292.Stats_.Totals_.length c325, .slice a326 e292.Stats_.Cells_.length c327, .int .i64 e292.Since_, .slice a328 e292.Attrs_.length c329, .int .i64 e292.Depth_, .int .i64 e292.Up_, .int .i64 e292.Born_]) rfl rfl ty169 (at_bor (fun _ h => h.ext) hA295) rfl) <| ow_alloc rfl rfl rfl rfl ty169 (fun _ => (fun _ h => St.mask [true, true, true, true] rfl h)) fun b330 => ow_nilH <| x_qt <| sC 0 [.bool e292.Leaf_, .int .i64 e292.Fork_.Attr_, .int .i64 e292.Fork_.At_, .slice a318 e292.Kids_.length c319, .int .i64 e292.Miss_, .slice a324 e292.Stats_.Totals_.length c325, .slice a326 e292.Stats_.Cells_.length c327, .int .i64 e292.Since_, .slice a328 e292.Attrs_.length c329, .int .i64 e292.Depth_, .int .i64 e292.Up_, .int .i64 e292.Born_] [_, _, _, _, _, _, _, _, _, _, _, _] 4 rfl ty169 rfl <| nQ <| c_seq <| sR <| ow_batch [.fa 169 0 0 fa169_0] rfl <| o1 rfl (r1 0 4 rfl ty4 rfl) <| nQ <| cI H rfl (fun H => ?_) (fun H => ?_)
  ·exact sR <| oPP rfl <| nT <| x_qs_ret <| x_qb_ret <| x_ql_ret <| x_qb_ret <| x_retR (rs := [.tmp 6]) (vs := [.slice a140 l139.length c141]) rfl ⟨rfl, trivial⟩ (fun w' hw' => by
    obtain rfl := of_some H
    exact ⟨_, rfl, a140, l139.length, c141, F142, rfl, hz143, hw'.sel [3] rfl rfl⟩)
  ·refine c_skip <| x_qs <| sR <| ow_batch [.fa 169 3 4 fa169_3] rfl <| o1 rfl (r1 4 4 rfl ty3 rfl) <| oP rfl <| nQ <| c_join1 (fun (i335 : Int) => St w M0 [Res.box b30 48 [.slice a14 p0.Attrs_.length c15, .slice a16 p0.Classes_.length c17], Res.box b31 93 [.slice a22 p1.Nodes_.length c23, .int .i64 p1.Seen_], Res.box b32 61 [.slice a28 p2.Bins_.length c29, .int .i64 p2.Class_], Res.own (eList eI 3) F142 l139 [.slice a140 l139.length c141], Res.box b330 169 [.bool e292.Leaf_, .int .i64 e292.Fork_.Attr_, .int .i64 e292.Fork_.At_, .slice a318 e292.Kids_.length c319, .int .i64 e292.Miss_, .slice a324 e292.Stats_.Totals_.length c325, .slice a326 e292.Stats_.Cells_.length c327, .int .i64 e292.Since_, .slice a328 e292.Attrs_.length c329, .int .i64 e292.Depth_, .int .i64 e292.Up_, .int .i64 e292.Born_]]) (fun (i335 : Int) => [(3, .pointer (some ⟨b30, 0, none⟩)), (4, .pointer (some ⟨b31, 0, none⟩)), (5, .pointer (some ⟨b32, 0, none⟩)), (7, .slice a140 l139.length c141), (8, .pointer (some ⟨b330, 0, none⟩)), (9, .int .i64 i335)]) (fun (i335 : Int) => impl_pathTo_J1 e292 l139 (impl_pathTo_L1 p1 p2 p0 k1) i335 = some r) (fun i335 H => ?_) (fun J1 => ?_)
   ·unfold impl_pathTo_J1 at H
    exact c_reg <| ow_batch [.p, .fa 169 2 3 fa169_2] rfl <| o1 rfl (r1 3 4 rfl ty39 rfl) <| oP rfl <| bE H fun e336 h337 H => ow_ixE (e := eI) (xs := e292.Kids_) (j := i335) rfl rfl rfl rfl rfl sl39 ty3 rfl (fun w1 hw1 => rds_bor g310 w1 hw1) h337 (by rw [Nat.mul_one]) <| o1 rfl (ry_load1 rfl rfl ty3 (at_elV (fun w1 hw1 => rds_bor g310 w1 hw1) h337)) <| ow_blit (val := Value.int .i64) (h1 := fun _ => rfl) [e336] [(0, [.int .i64 e336])] rfl rfl rfl rfl rfl sl39 ty3 rfl rfl rfl ⟨rfl, rfl, Nat.le_of_ble_eq_true rfl,  trivial⟩ rfl rfl (fun _ => kp) fun b338 => bE H fun l339 h340 H => ow_appR (r := 3) (ys := ([e336] : List Int)) rfl rfl rfl rfl rfl rfl sl39 ty3 rfl rfl rfl (fun w1 hw1 => rds_own (e := eList eI 3) (r := 5) rfl w1 hw1) h340 (fun _ _ _ => kp) fun a341 c342 F343 => ow_fact rfl (fun w1 hw1 => own_nn (i := 3) hw1 rfl (app_ne h340)) fun hz344 => oP rfl <| ow_nil <| x_qb <| x_ql (RW.at (ihk1 (l339) (a341) (c342) (F343) (⟨hz344, H⟩)) (fun _ h => St.sel [0, 1, 2, 3] rfl rfl h) ⟨rfl, rfl, rfl, rfl, trivial⟩)
   ·refine sR <| ow_batch [.fa 61 0 0 fa61_0] rfl <| o1 rfl (r1 0 2 rfl ty39 rfl) <| ow_batch [.fa 169 1 1 fa169_1, .fa 165 0 0 fa165_0] rfl <| o1 rfl (r1 1 4 rfl ty3 rfl) <| bE H fun e345 h346 H => ow_ixE (e := eI) (xs := p2.Bins_) (j := e292.Fork_.Attr_) rfl rfl rfl rfl rfl sl39 ty3 rfl (fun w1 hw1 => rds_bor g26 w1 hw1) h346 (by rw [Nat.mul_one]) <| o1 rfl (ry_load1 rfl rfl ty3 (at_elV (fun w1 hw1 => rds_bor g26 w1 hw1) h346)) <| oP rfl <| nR <| oPP rfl <| nQ <| cI H rfl (fun H => ?_) (fun H => ?_)
    ·exact c_reg <| o1 rfl (rx 0 0 _ rfl ty48 rfl) <| ow_batch [.fa 169 1 1 fa169_1] rfl <| o1 rfl (rx 1 4 _ rfl ty165 rfl) <| oP rfl <| bE H fun y347 h348 H => oq rfl (qc rfl fn175 (fun w1 hw1 => impl_BranchOf_ok w1 (p1 := e292.Fork_) h348 (rdm_Timpl_Schema (rds_bor g12 w1 hw1) (rds_bor g13 w1 hw1)))) tt2 <| oP rfl <| ow_nil <| XW.at (J1 (y347) (H)) (fun _ h => St.sel [0, 1, 2, 3, 4] rfl rfl h) ⟨rfl, rfl, rfl, rfl, rfl, rfl, trivial⟩
    ·exact c_skip <| XW.at (J1 (e292.Miss_) (H)) (fun _ h => St.sel [0, 1, 2, 3, 4] rfl rfl h) ⟨rfl, rfl, rfl, rfl, rfl, rfl, trivial⟩
theorem impl_PathTo_ok (w : World) {M0 : List Nat} {p0 : Timpl_Schema} {p1 : Timpl_Tree} {p2 : Timpl_Ex} {cs0 : List Value} {cs1 : List Value} {cs2 : List Value} {r : (List Int) × Bool} (H : impl_PathTo p0 p1 p2 = some r) (HS : St w M0 [] w) (g0 : (eTimpl_Schema).rd w M0 p0 cs0) (g1 : (eTimpl_Tree).rd w M0 p1 cs1) (g2 : (eTimpl_Ex).rd w M0 p2 cs2) :
    Calls Tryz.prog 124 #[.agg cs0.toArray, .agg cs1.toArray, .agg cs2.toArray] w (fun en w' => ∃ v, en = .returned v ∧ ∃ (a0 : Option Addr), ∃ (n0 : Nat), ∃ (c0 : Nat), ∃ (F0 : List Nat), v = .slice a0 n0 c0 ∧ a0.isNone = r.2 ∧ St w M0 [Res.own (eList eI 3) F0 r.1 [.slice a0 n0 c0]] w') := by
 obtain ⟨c10, c11, rfl, g12, g13⟩ := rdo_Timpl_Schema g0
 obtain ⟨a14, c15, rfl⟩ := rd_sl1 g12
 obtain ⟨a16, c17, rfl⟩ := rd_sl1 g13
 obtain ⟨c18, c19, rfl, g20, g21⟩ := rdo_Timpl_Tree g1
 obtain ⟨a22, c23, rfl⟩ := rd_sl1 g20
 obtain rfl := g21
 obtain ⟨c24, c25, rfl, g26, g27⟩ := rdo_Timpl_Ex g2
 obtain ⟨a28, c29, rfl⟩ := rd_sl1 g26
 obtain rfl := g27
 unfold impl_PathTo at H
 refine f_enter Tryz.func124 rfl Tryz.ntmps124 rfl (HS) <| sR <| ob _ rfl fun b30 => ob _ rfl fun b31 => ob _ rfl fun b32 => oP rfl <| nQ <| c_seq <| sR <| o1 rfl (rx 0 0 _ rfl ty48 rfl) <| o1 rfl (rx 0 1 _ rfl ty93 rfl) <| bE H fun y33 h34 H => oq rfl (qc rfl fn145 (fun w1 hw1 => impl_TreeOk_ok w1 h34 (rdm_Timpl_Schema (rds_bor g12 w1 hw1) (rds_bor g13 w1 hw1)) (rdm_Timpl_Tree (rds_bor g20 w1 hw1) rfl))) tt2 <| oPP rfl <| bE H fun u35 hu39 H => ow_cut [(16, .bool u35), (3, .pointer (some ⟨b30, 0, none⟩)), (4, .pointer (some ⟨b31, 0, none⟩)), (5, .pointer (some ⟨b32, 0, none⟩))] 5 ?_ (fun key => OW.sub (R := [(3, .pointer (some ⟨b30, 0, none⟩)), (4, .pointer (some ⟨b31, 0, none⟩)), (5, .pointer (some ⟨b32, 0, none⟩)), (11, .bool (!y33))]) ?_ (sb rfl))
 ·refine nQ <| cI H rfl (fun H => ?_) (fun H => ?_)
  ·exact sR <| oP rfl <| nT <| x_qs_ret <| xw_st (fun _ h => St.pushNil (e := eI) (T := 3) h) <| x_retR (rs := [.tmp 6]) (vs := [.slice none 0 0]) rfl ⟨rfl, trivial⟩ (fun w' hw' => by
    obtain rfl := of_some H
    exact ⟨_, rfl, none, 0, 0, [], rfl, rfl, hw'.sel [3] rfl rfl⟩)
  ·refine c_skip <| x_qs <| sR <| o1 rfl (rx 0 0 _ rfl ty48 rfl) <| o1 rfl (rx 0 1 _ rfl ty93 rfl) <| o1 rfl (rx 0 2 _ rfl ty61 rfl) <| bE H fun y40 h41 H => ow_callS rfl fn154 rfl rfl rfl rfl (fun w1 hw1 => impl_pathTo_ok w1 h41 (hw1.carve [] rfl rfl) (rdm_Timpl_Schema (rds_bor g12 w1 hw1) (rds_bor g13 w1 hw1)) (rdm_Timpl_Tree (rds_bor g20 w1 hw1) rfl) (rdm_Timpl_Ex (rds_bor g26 w1 hw1) rfl)) fun v42 w1 w2 hw1 hR44 => ?_
   obtain ⟨a45, n46, c47, F48, rfl, hz49, hS43⟩ := hR44
   obtain rfl := own_nS (i := 0) hS43 rfl
   refine ⟨St w M0 [_, _, _, _], hw1.comp [] rfl rfl hS43, fun _ _ => trivial, ?_⟩
   exact oP rfl <| nT <| x_retR (rs := [.tmp 6]) (vs := [.slice a45 y40.1.length c47]) rfl ⟨rfl, trivial⟩ (fun w' hw' => by
    obtain rfl := of_some H
    exact ⟨_, rfl, a45, y40.1.length, c47, F48, rfl, hz49, hw'.sel [3] rfl rfl⟩)
 ·clear H
  have H := hu39
  clear hu39
  generalize (!y33) = t38 at H key ⊢
  cases t38
  ·have H := of_if_f rfl H
   refine o1 rfl (rx 0 0 _ rfl ty48 rfl) <| o1 rfl (rx 0 2 _ rfl ty61 rfl) <| bE H fun y36 h37 H => oq rfl (qc rfl fn49 (fun w1 hw1 => impl_ExOk_ok w1 h37 (rdm_Timpl_Schema (rds_bor g12 w1 hw1) (rds_bor g13 w1 hw1)) (rdm_Timpl_Ex (rds_bor g26 w1 hw1) rfl))) tt2 <| oP rfl <| oP rfl <| ?_
   obtain rfl := of_some H
   exact OW.sub key (sb rfl)
  ·have H := of_if_t rfl H
   refine ow_batch [.p, .p, .p, .p, .p] rfl ?_
   obtain rfl := of_some H
   exact OW.sub key (sb rfl)
theorem lib_slices_Clone___int_int__ok (w : World) {M0 : List Nat} {p0 : List Int} {a_0 : Option Addr} {n_0 c_0 : Nat} {r : List Int} (H : lib_slices_Clone___int_int_ p0 = some r) (HS : St w M0 [] w) (g0 : (eList eI 3).rd w M0 p0 [.slice a_0 n_0 c_0]) :
    Calls Tryz.prog 126 #[.slice a_0 n_0 c_0] w (fun en w' => ∃ v, en = .returned v ∧ ∃ (a0 : Option Addr), ∃ (n0 : Nat), ∃ (c0 : Nat), ∃ (F0 : List Nat), v = .slice a0 n0 c0 ∧ St w M0 [Res.own (eList eI 3) F0 r [.slice a0 n0 c0]] w') := by
 obtain rfl := rd_n g0
 unfold lib_slices_Clone___int_int_ at H
 refine f_enter Tryz.func126 rfl Tryz.ntmps126 rfl (HS) <| sR <| oP rfl <| nQ <| c_seq <| sR <| oP rfl <| o1 rfl (ry_nilB rfl rfl sl39 rfl) <| nQ <| c_if rfl (fun hb => ?_) (fun _ => ?_)
 ·obtain rfl : p0 = [] := rd_isNone g0 hb
  have H : some ([] : List Int) = some r := by simpa [app] using H
  exact sR <| oP rfl <| nT <| x_qs_ret <| xw_st (fun _ h => St.pushNil (e := eI) (T := 3) h) <| x_retR (rs := [.tmp 2]) (vs := [.slice none 0 0]) rfl ⟨rfl, trivial⟩ (fun w' hw' => by
   obtain rfl := of_some H
   exact ⟨_, rfl, none, 0, 0, [], rfl, hw'.sel [0] rfl rfl⟩)
 ·exact c_skip <| x_qs <| sR <| ow_blit0 (e := eI) rfl rfl rfl rfl sl39 ty3 (fun _ => kp) fun b10 => oP rfl <| bE H fun l11 h12 H => ow_appR (r := 0) (ys := p0) rfl rfl rfl rfl rfl rfl sl39 ty3 rfl rfl rfl (fun w1 hw1 => rds_bor g0 w1 hw1) h12 (fun _ _ _ => kp) fun a13 c14 F15 => oP rfl <| nT <| x_retR (rs := [.tmp 2]) (vs := [.slice a13 l11.length c14]) rfl ⟨rfl, trivial⟩ (fun w' hw' => by
   obtain rfl := of_some H
   exact ⟨_, rfl, a13, l11.length, c14, F15, rfl, hw'.sel [0] rfl rfl⟩)
theorem impl_LeafVote_ok (w : World) {M0 : List Nat} {p0 : Timpl_Schema} {p1 : Timpl_Tree} {p2 : Timpl_Ex} {cs0 : List Value} {cs1 : List Value} {cs2 : List Value} {r : List Int} (H : impl_LeafVote p0 p1 p2 = some r) (HS : St w M0 [] w) (g0 : (eTimpl_Schema).rd w M0 p0 cs0) (g1 : (eTimpl_Tree).rd w M0 p1 cs1) (g2 : (eTimpl_Ex).rd w M0 p2 cs2) :
    Calls Tryz.prog 86 #[.agg cs0.toArray, .agg cs1.toArray, .agg cs2.toArray] w (fun en w' => ∃ v, en = .returned v ∧ ∃ (a0 : Option Addr), ∃ (n0 : Nat), ∃ (c0 : Nat), ∃ (F0 : List Nat), v = .slice a0 n0 c0 ∧ St w M0 [Res.own (eList eI 3) F0 r [.slice a0 n0 c0]] w') := by
 obtain ⟨c10, c11, rfl, g12, g13⟩ := rdo_Timpl_Schema g0
 obtain ⟨a14, c15, rfl⟩ := rd_sl1 g12
 obtain ⟨a16, c17, rfl⟩ := rd_sl1 g13
 obtain ⟨c18, c19, rfl, g20, g21⟩ := rdo_Timpl_Tree g1
 obtain ⟨a22, c23, rfl⟩ := rd_sl1 g20
 obtain rfl := g21
 obtain ⟨c24, c25, rfl, g26, g27⟩ := rdo_Timpl_Ex g2
 obtain ⟨a28, c29, rfl⟩ := rd_sl1 g26
 obtain rfl := g27
 unfold impl_LeafVote at H
 refine f_enter Tryz.func86 rfl Tryz.ntmps86 rfl (HS) <| sR <| ob _ rfl fun b30 => ob _ rfl fun b31 => ob _ rfl fun b32 => oP rfl <| nR <| o1 rfl (rx 0 0 _ rfl ty48 rfl) <| o1 rfl (rx 0 1 _ rfl ty93 rfl) <| o1 rfl (rx 0 2 _ rfl ty61 rfl) <| bE H fun y33 h34 H => ow_callS rfl fn124 rfl rfl rfl rfl (fun w1 hw1 => impl_PathTo_ok w1 h34 (hw1.carve [] rfl rfl) (rdm_Timpl_Schema (rds_bor g12 w1 hw1) (rds_bor g13 w1 hw1)) (rdm_Timpl_Tree (rds_bor g20 w1 hw1) rfl) (rdm_Timpl_Ex (rds_bor g26 w1 hw1) rfl)) fun v35 w1 w2 hw1 hR37 => ?_
 obtain ⟨a38, n39, c40, F41, rfl, hz42, hS36⟩ := hR37
 obtain rfl := own_nS (i := 0) hS36 rfl
 refine ⟨St w M0 [_, _, _, _], hw1.comp [] rfl rfl hS36, fun _ _ => trivial, ?_⟩
 refine oP rfl <| nQ <| c_seq <| sR <| oP rfl <| o1 rfl (ry_nilB rfl rfl sl39 hz42) <| nQ <| cI H rfl (fun H => ?_) (fun H => ?_)
 ·exact sR <| oP rfl <| nT <| x_qs_ret <| xw_st (fun _ h => St.pushNil (e := eI) (T := 3) h) <| x_retR (rs := [.tmp 6]) (vs := [.slice none 0 0]) rfl ⟨rfl, trivial⟩ (fun w' hw' => by
   obtain rfl := of_some H
   exact ⟨_, rfl, none, 0, 0, [], rfl, hw'.sel [4] rfl rfl⟩)
 ·refine c_skip <| x_qs <| c_seq <| sR <| ow_batch [.p, .lenS 39 3 sl39, .p, .p] rfl <| nQ <| c_block <| CW.at (loopI1 (fun (i95 : Int) => St w M0 [Res.box b30 48 [.slice a14 p0.Attrs_.length c15, .slice a16 p0.Classes_.length c17], Res.box b31 93 [.slice a22 p1.Nodes_.length c23, .int .i64 p1.Seen_], Res.own (eList eI 3) F41 y33.1 [.slice a38 y33.1.length c40]]) (fun i95 => [(3, .pointer (some ⟨b30, 0, none⟩)), (4, .pointer (some ⟨b31, 0, none⟩)), (7, .slice a38 y33.1.length c40), (8, .int .i64 i95)]) (fun kk => fun i95 => impl_LeafVote_L1 y33 p1 p0 kk i95 = some r) (fun _ H => ?_) (fun k1 ihk1 i95 H => ?_) Fuel (IntKind.i64.wrap ((y33.1.length : Int) - 1)) (H)) (fun _ h => St.sel [0, 1, 3] rfl rfl h) ⟨rfl, rfl, rfl, rfl,  trivial⟩
  ·unfold impl_LeafVote_L1 at H
   exact absurd H (by simp)
  ·unfold impl_LeafVote_L1 at H
   refine c_seq <| sR <| oPP rfl <| nQ <| cI H rfl (fun H => ?_) (fun H => ?_)
   ·refine c_skip <| x_qs <| c_seq <| c_block <| c_seq <| c_regQ mixed (by kernel_rfl) <| ow_batch [.fa 93 0 0 fa93_0] rfl <| o1 rfl (r1 0 1 rfl ty91 rfl) <| oPP rfl <| bE H fun e148 h149 H => ow_ixE (e := eI) (xs := y33.1) (j := i95) rfl rfl rfl rfl rfl sl39 ty3 rfl (fun w1 hw1 => rds_own (e := eList eI 3) (r := 2) rfl w1 hw1) h149 (by rw [Nat.mul_one]) <| o1 rfl (ry_load1 rfl rfl ty3 (at_elV (fun w1 hw1 => rds_own (e := eList eI 3) (r := 2) rfl w1 hw1) h149)) <| bE H fun e150 h151 H => ow_ixB rfl rfl rfl rfl rfl sl91 ty169 rfl g20 h151 fun q154 c155 hd152 hA153 => ?_
    obtain ⟨c156, c157, c158, c159, c160, c161, c162, c163, c164, c165, rfl, g166, g167, g168, g169, g170, g171, g172, g173, g174, g175⟩ := rdo_Timpl_Node hd152
    obtain rfl := g166
    obtain rfl := g167
    obtain ⟨a176, c177, rfl⟩ := rd_sl1 g168
    obtain rfl := g169
    obtain ⟨c178, c179, rfl, g180, g181⟩ := rdo_Timpl_Stats g170
    obtain ⟨a182, c183, rfl⟩ := rd_sl1 g180
    obtain ⟨a184, c185, rfl⟩ := rd_sl1 g181
    obtain rfl := g171
    obtain ⟨a186, c187, rfl⟩ := rd_sl1 g172
    obtain rfl := g173
    obtain rfl := g174
    obtain rfl := g175
    refine ow_batch [.fa 169 4 5 fa169_4, .fa 167 0 0 fa167_0] rfl <| o1 rfl (ry_load1 rfl rfl ty39 (at_bor bor (at_K (at_K hA153 5 2) 0 1))) <| oP rfl <| ow_nilQ <| x_qs <| sR <| oP rfl <| bE H fun y188 h189 H => oq rfl (qc rfl fn125 (fun w1 hw1 => impl_total_ok w1  h189 (rds_bor g180 w1 hw1))) tt2 <| oP rfl <| nQ <| cI H rfl (fun H => ?_) (fun H => ?_)
    ·refine sR <| oP rfl <| bE H fun y190 h191 H => ow_callS rfl fn126 rfl rfl rfl rfl (fun w1 hw1 => lib_slices_Clone___int_int__ok w1  h191 (hw1.carve [] rfl rfl) (rds_bor g180 w1 hw1)) fun v192 w1 w2 hw1 hR194 => ?_
     obtain ⟨a195, n196, c197, F198, rfl, hS193⟩ := hR194
     obtain rfl := own_nS (i := 0) hS193 rfl
     refine ⟨St w M0 [_, _, _, _], hw1.comp [] rfl rfl hS193, fun _ _ => trivial, ?_⟩
     exact oP rfl <| nT <| x_qb_ret <| x_qs_ret <| x_ql_ret <| x_qb_ret <| x_qs_ret <| x_retR (rs := [.tmp 6]) (vs := [.slice a195 y190.length c197]) rfl ⟨rfl, trivial⟩ (fun w' hw' => by
      obtain rfl := of_some H
      exact ⟨_, rfl, a195, y190.length, c197, F198, rfl, hw'.sel [3] rfl rfl⟩)
    ·exact c_skip <| x_qb <| x_qs <| c_reg <| ow_batch [.p, .p, .p] rfl <| ow_nil <| x_ql (RW.at (ihk1 (IntKind.i64.wrap (i95 - 1)) (H)) (fun _ h => St.sel [0, 1, 2] rfl rfl h) ⟨rfl, rfl, rfl, rfl, trivial⟩)
   ·refine c_exit <| x_qs_exit <| x_ql_exit <| x_qb_here <| x_qs <| sR <| ow_batch [.fa 48 1 1 fa48_1] rfl <| o1 rfl (r1 1 0 rfl ty23 rfl) <| ow_batch [.lenS 23 9 sl23] rfl <| bE H fun y199 h200 H => ow_callS rfl fn87 rfl rfl rfl rfl (fun w1 hw1 => impl_zeros_ok w1  h200 (hw1.carve [] rfl rfl)) fun v201 w1 w2 hw1 hR203 => ?_
    obtain ⟨a204, n205, c206, F207, rfl, hS202⟩ := hR203
    obtain rfl := own_nS (i := 0) hS202 rfl
    refine ⟨St w M0 [_, _, _, _], hw1.comp [] rfl rfl hS202, fun _ _ => trivial, ?_⟩
    exact oP rfl <| nT <| x_retR (rs := [.tmp 6]) (vs := [.slice a204 y199.length c206]) rfl ⟨rfl, trivial⟩ (fun w' hw' => by
     obtain rfl := of_some H
     exact ⟨_, rfl, a204, y199.length, c206, F207, rfl, hw'.sel [3] rfl rfl⟩)
theorem lib_slices_Max___int_int__ok (w : World) {p0 : List Int} {a_0 : Option Addr} {n_0 c_0 : Nat} {r : Int} (H : lib_slices_Max___int_int_ p0 = some r)  (g0 : (eList eI 3).rd w [] p0 [.slice a_0 n_0 c_0]) :
    Calls Tryz.prog 92 #[.slice a_0 n_0 c_0] w (fun en w' => en = .returned (.int .i64 r) ∧ Ext [] w w') := by
 obtain rfl := rd_n g0
 unfold lib_slices_Max___int_int_ at H
 refine f_enter Tryz.func92 rfl Tryz.ntmps92 rfl (St.init w []) <| sR <| oP rfl <| nQ <| c_seq <| sR <| ow_batch [.p, .lenS 39 3 sl39, .p] rfl <| nQ <| cI H rfl (fun H => ?_) (fun H => ?_)
 ·exact nomatch H
 ·refine c_skip <| x_qs <| sR <| oP rfl <| bE H fun e10 h11 H => ow_ixE (e := eI) (xs := p0) (j := 0) rfl rfl rfl rfl rfl sl39 ty3 rfl (fun w1 hw1 => rds_bor g0 w1 hw1) h11 (by rw [Nat.mul_one]) <| o1 rfl (ry_load1 rfl rfl ty3 (at_elV (fun w1 hw1 => rds_bor g0 w1 hw1) h11)) <| oP rfl <| nQ <| c_seq <| sR <| oP rfl <| nQ <| c_block <| CW.at (loopI2 (fun (i17 : Int) (i18 : Int) => St w [] []) (fun i17 i18 => [(0, .slice a_0 p0.length c_0), (3, .int .i64 i17), (4, .int .i64 i18)]) (fun kk => fun i17 i18 => lib_slices_Max___int_int__L1 p0 kk i17 i18 = some r) (fun _ _ H => ?_) (fun k1 ihk1 i17 i18 H => ?_) Fuel (e10) (1) (H)) (fun _ h => St.sel [] rfl rfl h) ⟨rfl, rfl, rfl,  trivial⟩
  ·unfold lib_slices_Max___int_int__L1 at H
   exact absurd H (by simp)
  ·unfold lib_slices_Max___int_int__L1 at H
   refine c_seq <| sR <| ow_batch [.p, .p, .lenS 39 3 sl39, .p] rfl <| nQ <| cI H rfl (fun H => ?_) (fun H => ?_)
   ·exact c_skip <| x_qs <| c_seq <| c_block <| c_reg <| ow_batch [.p, .p, .p] rfl <| bE H fun e23 h24 H => ow_ixE (e := eI) (xs := p0) (j := i18) rfl rfl rfl rfl rfl sl39 ty3 rfl (fun w1 hw1 => rds_bor g0 w1 hw1) h24 (by rw [Nat.mul_one]) <| o1 rfl (ry_load1 rfl rfl ty3 (at_elV (fun w1 hw1 => rds_bor g0 w1 hw1) h24)) <| o1 rfl (ry_max rfl rfl rfl) <| oP rfl <| ow_nil <| x_qb <| x_qs <| c_reg <| ow_batch [.p, .p, .p] rfl <| ow_nil <| x_ql (RW.at (ihk1 ((if i17 < e23 then e23 else i17)) (IntKind.i64.wrap (i18 + 1)) (H)) (fun _ h => St.sel [] rfl rfl h) ⟨rfl, rfl, rfl, trivial⟩)
   ·exact c_exit <| x_qs_exit <| x_ql_exit <| x_qb_here <| x_qs <| sR <| oPP rfl <| nT <| xr 2 rfl (by cases H; exact q1)
theorem impl_TopOf_ok (w : World) {p0 : List Int} {a_0 : Option Addr} {n_0 c_0 : Nat} {r : Int} (H : impl_TopOf p0 = some r)  (g0 : (eList eI 3).rd w [] p0 [.slice a_0 n_0 c_0]) :
    Calls Tryz.prog 53 #[.slice a_0 n_0 c_0] w (fun en w' => en = .returned (.int .i64 r) ∧ Ext [] w w') := by
 obtain rfl := rd_n g0
 unfold impl_TopOf at H
 refine f_enter Tryz.func53 rfl Tryz.ntmps53 rfl (St.init w []) <| sR <| oP rfl <| nQ <| c_seq <| sR <| ow_batch [.p, .lenS 39 3 sl39, .p] rfl <| nQ <| cI H rfl (fun H => ?_) (fun H => ?_)
 ·exact sR <| oP rfl <| nT <| x_qs_ret <| xr 2 rfl (by cases H; exact q1)
 ·exact c_skip <| x_qs <| sR <| oPP rfl <| bE H fun y10 h11 H => oq rfl (qc rfl fn92 (fun w1 hw1 => lib_slices_Max___int_int__ok w1  h11 (rds_bor g0 w1 hw1))) tt2 <| bE H fun y12 h13 H => oq rfl (qc rfl fn91 (fun w1 hw1 => lib_slices_Index___int_int__ok w1  h13 (rds_bor g0 w1 hw1))) tt2 <| oP rfl <| nT <| xr 2 rfl (by cases H; exact q1)
theorem impl_TreeSays_ok (w : World) {p0 : Timpl_Schema} {p1 : Timpl_Tree} {p2 : Timpl_Ex} {cs0 : List Value} {cs1 : List Value} {cs2 : List Value} {r : Int} (H : impl_TreeSays p0 p1 p2 = some r)  (g0 : (eTimpl_Schema).rd w [] p0 cs0) (g1 : (eTimpl_Tree).rd w [] p1 cs1) (g2 : (eTimpl_Ex).rd w [] p2 cs2) :
    Calls Tryz.prog 50 #[.agg cs0.toArray, .agg cs1.toArray, .agg cs2.toArray] w (fun en w' => en = .returned (.int .i64 r) ∧ Ext [] w w') := by
 obtain ⟨c10, c11, rfl, g12, g13⟩ := rdo_Timpl_Schema g0
 obtain ⟨a14, c15, rfl⟩ := rd_sl1 g12
 obtain ⟨a16, c17, rfl⟩ := rd_sl1 g13
 obtain ⟨c18, c19, rfl, g20, g21⟩ := rdo_Timpl_Tree g1
 obtain ⟨a22, c23, rfl⟩ := rd_sl1 g20
 obtain rfl := g21
 obtain ⟨c24, c25, rfl, g26, g27⟩ := rdo_Timpl_Ex g2
 obtain ⟨a28, c29, rfl⟩ := rd_sl1 g26
 obtain rfl := g27
 unfold impl_TreeSays at H
 refine f_enter Tryz.func50 rfl Tryz.ntmps50 rfl (St.init w []) <| sR <| ob _ rfl fun b30 => ob _ rfl fun b31 => ob _ rfl fun b32 => oP rfl <| nR <| o1 rfl (rx 0 0 _ rfl ty48 rfl) <| o1 rfl (rx 0 1 _ rfl ty93 rfl) <| o1 rfl (rx 0 2 _ rfl ty61 rfl) <| bE H fun y33 h34 H => ow_callS rfl fn86 rfl rfl rfl rfl (fun w1 hw1 => impl_LeafVote_ok w1 h34 (hw1.carve [] rfl rfl) (rdm_Timpl_Schema (rds_bor g12 w1 hw1) (rds_bor g13 w1 hw1)) (rdm_Timpl_Tree (rds_bor g20 w1 hw1) rfl) (rdm_Timpl_Ex (rds_bor g26 w1 hw1) rfl)) fun v35 w1 w2 hw1 hR37 => ?_
 obtain ⟨a38, n39, c40, F41, rfl, hS36⟩ := hR37
 obtain rfl := own_nS (i := 0) hS36 rfl
 refine ⟨St w [] [_, _, _, _], hw1.comp [] rfl rfl hS36, fun _ _ => trivial, ?_⟩
 exact bE H fun y42 h43 H => oq rfl (qc rfl fn53 (fun w1 hw1 => impl_TopOf_ok w1  h43 (rds_own (e := eList eI 3) (r := 3) rfl w1 hw1))) tt2 <| oP rfl <| nT <| xr 6 rfl (by cases H; exact q1)
theorem impl_Buckets_ok (w : World) {M0 : List Nat} {p0 : Timpl_Window} {cs0 : List Value} {r : List Timpl_Bucket} (H : impl_Buckets p0 = some r) (HS : St w M0 [] w) (g0 : (eTimpl_Window).rd w M0 p0 cs0) :
    Calls Tryz.prog 127 #[.agg cs0.toArray] w (fun en w' => ∃ v, en = .returned v ∧ ∃ (a0 : Option Addr), ∃ (n0 : Nat), ∃ (c0 : Nat), ∃ (F0 : List Nat), v = .slice a0 n0 c0 ∧ St w M0 [Res.own (eList (eTimpl_Bucket) 175) F0 r [.slice a0 n0 c0]] w') := by
 obtain ⟨c10, rfl, g11⟩ := rdo_Timpl_Window g0
 obtain ⟨a12, c13, rfl⟩ := rd_sl1 g11
 unfold impl_Buckets at H
 refine f_enter Tryz.func127 rfl Tryz.ntmps127 rfl (HS) <| sR <| ob _ rfl fun b14 => oP rfl <| nQ <| c_seq <| sR <| o1 rfl (rx 0 0 _ rfl ty95 rfl) <| bE H fun y15 h16 H => oq rfl (qc rfl fn148 (fun w1 hw1 => impl_WindowOk_ok w1 h16 (rdm_Timpl_Window (rds_bor g11 w1 hw1)))) tt2 <| oP rfl <| nQ <| cI H rfl (fun H => ?_) (fun H => ?_)
 ·exact sR <| oP rfl <| nT <| x_qs_ret <| xw_st (fun _ h => St.pushNil (e := eTimpl_Bucket) (T := 175) h) <| x_retR (rs := [.tmp 2]) (vs := [.slice none 0 0]) rfl ⟨rfl, trivial⟩ (fun w' hw' => by
   obtain rfl := of_some H
   exact ⟨_, rfl, none, 0, 0, [], rfl, hw'.sel [1] rfl rfl⟩)
 ·refine c_skip <| x_qs <| sR <| ow_blit0 (e := eTimpl_Bucket) rfl rfl rfl rfl sl172 ty175 (fun _ => kp) fun b17 => oP rfl <| nQ <| c_seq <| sR <| ow_batch [.fa 95 0 0 fa95_0] rfl <| o1 rfl (r1 0 0 rfl ty33 rfl) <| ow_batch [.lenS 33 39 sl33, .p, .p] rfl <| nQ <| c_block <| CW.at (loopI5 (fun (l83 : List Timpl_Bucket) (a84 : Option Addr) (c85 : Nat) (F86 : List Nat) (i88 : Int) => St w M0 [Res.box b14 95 [.slice a12 p0.Rows_.length c13], Res.own (eList (eTimpl_Bucket) 175) F86 l83 [.slice a84 l83.length c85]]) (fun l83 a84 c85 F86 i88 => [(1, .pointer (some ⟨b14, 0, none⟩)), (3, .slice a84 l83.length c85), (4, .int .i64 i88)]) (fun kk => fun l83 a84 c85 F86 i88 => a84.isNone = false ∧ impl_Buckets_L1 p0 kk l83 i88 = some r) (fun _ _ _ _ _ H => ?_) (fun k1 ihk1 l83 a84 c85 F86 i88 ⟨hz87, H⟩ => ?_) Fuel (([] : List Timpl_Bucket)) ((some ⟨b17, 0, none⟩)) (0) ([b17]) (IntKind.i64.wrap ((p0.Rows_.length : Int) - 1)) (⟨rfl, H⟩)) (fun _ h => St.sel [0, 1] rfl rfl h) ⟨rfl, rfl, rfl,  trivial⟩
  ·unfold impl_Buckets_L1 at H
   exact absurd H (by simp)
  ·unfold impl_Buckets_L1 at H
   refine c_seq <| sR <| oPP rfl <| nQ <| cI H rfl (fun H => ?_) (fun H => ?_)
   ·refine c_skip <| x_qs <| c_seq <| c_block <| sR <| ow_batch [.fa 95 0 0 fa95_0] rfl <| o1 rfl (r1 0 0 rfl ty33 rfl) <| oP rfl <| bE H fun e154 h155 H => ow_ixB rfl rfl rfl rfl rfl sl33 ty39 rfl g11 h155 fun q158 c159 hd156 hA157 => ?_
    obtain ⟨a160, c161, rfl⟩ := rd_sl1 hd156
    refine o1 rfl (ry_load1 rfl rfl ty39 (at_bor bor hA157)) <| ow_batch [.lenS 39 3 sl39, .p] rfl <| nQ <| c_block <| CW.at (loopI5 (fun (i179 : Int) (l180 : List Timpl_Bucket) (a181 : Option Addr) (c182 : Nat) (F183 : List Nat) => St w M0 [Res.box b14 95 [.slice a12 p0.Rows_.length c13], Res.own (eList (eTimpl_Bucket) 175) F183 l180 [.slice a181 l180.length c182]]) (fun i179 l180 a181 c182 F183 => [(1, .pointer (some ⟨b14, 0, none⟩)), (3, .slice a181 l180.length c182), (4, .int .i64 i88), (23, .slice a160 e154.length c161), (24, .int .i64 (e154.length : Int)), (25, .int .i64 i179)]) (fun kk => fun i179 l180 a181 c182 F183 => a181.isNone = false ∧ impl_Buckets_L2 e154 i88 (impl_Buckets_L1 p0 k1) kk i179 l180 = some r) (fun _ _ _ _ _ H => ?_) (fun k2 ihk2 i179 l180 a181 c182 F183 ⟨hz184, H⟩ => ?_) Fuel (0) (l83) (a84) (c85) (F86) (⟨hz87, H⟩)) (fun _ h => St.sel [0, 1] rfl rfl h) ⟨rfl, rfl, rfl, rfl, rfl, rfl,  trivial⟩
    ·unfold impl_Buckets_L2 at H
     exact absurd H (by simp)
    ·unfold impl_Buckets_L2 at H
     refine sR <| oP rfl <| nQ <| c_seq <| cI H rfl (fun H => ?_) (fun H => ?_)
     ·refine c_skip <| x_qs <| c_seq <| c_block <| sR <| bE H fun e202 h203 H => ow_ixE (e := eI) (xs := e154) (j := i179) rfl rfl rfl rfl rfl sl39 ty3 rfl (fun w1 hw1 => rds_bor hd156 w1 hw1) h203 (by rw [Nat.mul_one]) <| o1 rfl (ry_load1 rfl rfl ty3 (at_elV (fun w1 hw1 => rds_bor hd156 w1 hw1) h203)) <| oP rfl <| nQ <| c_reg <| oPP rfl <| bE H fun x204 h205 H => o1 rfl (ry_shl rfl rfl rfl h205) <| oP rfl <| o1 rfl (ry_build2 [(0, [.int .i64 x204]), (1, [.int .i64 e202])] [.int .i64 x204, .int .i64 e202] rfl rfl ty175 fs175 rfl ⟨rfl, rfl, Nat.le_of_ble_eq_true rfl, rfl, rfl, Nat.le_of_ble_eq_true rfl,  trivial⟩ rfl) <| ow_blitF ([(Timpl_Bucket.mk x204 e202)] : List Timpl_Bucket) [(0, [.int .i64 x204, .int .i64 e202])] rfl rfl rfl rfl rfl sl172 ty175 rfl rfl rfl rfl ⟨rfl, rfl, Nat.le_of_ble_eq_true rfl,  trivial⟩ rfl (fun _ => kp) (fun b206 => (?_ : OW _ _ _ (St w M0 [Res.box b14 95 [.slice a12 p0.Rows_.length c13], Res.own (eList (eTimpl_Bucket) 175) F183 l180 [.slice a181 l180.length c182], Res.own (eList (eTimpl_Bucket) 175) [b206] [(Timpl_Bucket.mk x204 e202)] [.slice (some ⟨b206, 0, none⟩) ([(Timpl_Bucket.mk x204 e202)] : List Timpl_Bucket).length 1]]) _ _ _))
      exact bE H fun l207 h208 H => ow_appF (r := 1) (ys := ([(Timpl_Bucket.mk x204 e202)] : List Timpl_Bucket)) rfl rfl rfl rfl rfl rfl sl172 ty175 rfl rfl rfl rfl rfl (fun w1 hw1 => rds_own (e := eList (eTimpl_Bucket) 175) (r := 2) rfl w1 hw1) h208 (fun _ _ _ => kp) fun a209 c210 F211 => ow_fact rfl (fun w1 hw1 => own_nn (i := 1) hw1 rfl (app_ne h208)) fun hz212 => oP rfl <| ow_nil <| x_qb <| x_qs <| c_reg <| oPP rfl <| ow_nil <| x_ql (RW.at (ihk2 (IntKind.i64.wrap (i179 + 1)) (l207) (a209) (c210) (F211) (⟨hz212, H⟩)) (fun _ h => St.sel [0, 1] rfl rfl h) ⟨rfl, rfl, rfl, rfl, rfl, rfl, trivial⟩)
     ·exact c_exit <| x_qs_exit <| x_ql_exit <| x_qb_here <| x_qb <| x_qs <| c_reg <| ow_batch [.p, .p, .p] rfl <| ow_nil <| x_ql (RW.at (ihk1 (l180) (a181) (c182) (F183) (IntKind.i64.wrap (i88 - 1)) (⟨hz184, H⟩)) (fun _ h => St.sel [0, 1] rfl rfl h) ⟨rfl, rfl, rfl, trivial⟩)
   ·exact c_exit <| x_qs_exit <| x_ql_exit <| x_qb_here <| x_qs <| sR <| oPP rfl <| nT <| x_retR (rs := [.tmp 2]) (vs := [.slice a84 l83.length c85]) rfl ⟨rfl, trivial⟩ (fun w' hw' => by
     obtain rfl := of_some H
     exact ⟨_, rfl, a84, l83.length, c85, F86, rfl, hw'.sel [1] rfl rfl⟩)
theorem impl_WindowTotal_ok (w : World) {p0 : Timpl_Window} {cs0 : List Value} {r : Int} (H : impl_WindowTotal p0 = some r)  (g0 : (eTimpl_Window).rd w [] p0 cs0) :
    Calls Tryz.prog 88 #[.agg cs0.toArray] w (fun en w' => en = .returned (.int .i64 r) ∧ Ext [] w w') := by
 obtain ⟨c10, rfl, g11⟩ := rdo_Timpl_Window g0
 obtain ⟨a12, c13, rfl⟩ := rd_sl1 g11
 unfold impl_WindowTotal at H
 refine f_enter Tryz.func88 rfl Tryz.ntmps88 rfl (St.init w []) <| sR <| ob _ rfl fun b14 => oP rfl <| nR <| oP rfl <| nQ <| c_seq <| sR <| o1 rfl (rx 0 0 _ rfl ty95 rfl) <| bE H fun y15 h16 H => ow_callS rfl fn127 rfl rfl rfl rfl (fun w1 hw1 => impl_Buckets_ok w1 h16 (hw1.carve [] rfl rfl) (rdm_Timpl_Window (rds_bor g11 w1 hw1))) fun v17 w1 w2 hw1 hR19 => ?_
 obtain ⟨a20, n21, c22, F23, rfl, hS18⟩ := hR19
 obtain rfl := own_nS (i := 0) hS18 rfl
 refine ⟨St w [] [_, _], hw1.comp [] rfl rfl hS18, fun _ _ => trivial, ?_⟩
 refine ow_batch [.lenS 172 175 sl172, .p] rfl <| nQ <| c_block <| CW.at (loopI2 (fun (i29 : Int) (i30 : Int) => St w [] [Res.own (eList (eTimpl_Bucket) 175) F23 y15 [.slice a20 y15.length c22]]) (fun i29 i30 => [(3, .int .i64 i29), (7, .slice a20 y15.length c22), (8, .int .i64 (y15.length : Int)), (9, .int .i64 i30)]) (fun kk => fun i29 i30 => impl_WindowTotal_L1 y15 kk i29 i30 = some r) (fun _ _ H => ?_) (fun k1 ihk1 i29 i30 H => ?_) Fuel (0) (0) (H)) (fun _ h => St.sel [1] rfl rfl h) ⟨rfl, rfl, rfl, rfl,  trivial⟩
 ·unfold impl_WindowTotal_L1 at H
  exact absurd H (by simp)
 ·unfold impl_WindowTotal_L1 at H
  refine sR <| oP rfl <| nQ <| c_seq <| cI H rfl (fun H => ?_) (fun H => ?_)
  ·exact c_skip <| x_qs <| c_seq <| c_block <| sR <| bE H fun e36 h37 H => ow_ixE (e := eTimpl_Bucket) (xs := y15) (j := i30) rfl rfl rfl rfl rfl sl172 ty175 rfl (fun w1 hw1 => rds_own (e := eList (eTimpl_Bucket) 175) (r := 0) rfl w1 hw1) h37 rfl <| o1 rfl (ry_load (cs := [.int .i64 e36.Size_, .int .i64 e36.Ones_]) rfl rfl ty175 (at_castA (at_eltE (fun w1 hw1 => rds_own (e := eList (eTimpl_Bucket) 175) (r := 0) rfl w1 hw1) h37 (fun _ _ h => h)) rfl) rfl) <| ow_alloc rfl rfl rfl rfl ty175 (fun _ => kp) fun b38 => sC 0 [.int .i64 e36.Size_, .int .i64 e36.Ones_] [_, _] 1 rfl ty175 rfl <| nQ <| c_reg <| ow_batch [.p, .fa 175 0 0 fa175_0] rfl <| o1 rfl (r1 0 1 rfl ty3 rfl) <| oPP rfl <| ow_nil <| x_qb <| x_qs <| c_reg <| oPP rfl <| ow_nil <| x_ql (RW.at (ihk1 (IntKind.i64.wrap (i29 + e36.Size_)) (IntKind.i64.wrap (i30 + 1)) (H)) (fun _ h => St.sel [0] rfl rfl h) ⟨rfl, rfl, rfl, rfl, trivial⟩)
  ·exact c_exit <| x_qs_exit <| x_ql_exit <| x_qb_here <| x_qs <| sR <| oPP rfl <| nT <| xr 2 rfl (by cases H; exact q1)
theorem impl_WindowOnes_ok (w : World) {p0 : Timpl_Window} {cs0 : List Value} {r : Int} (H : impl_WindowOnes p0 = some r)  (g0 : (eTimpl_Window).rd w [] p0 cs0) :
    Calls Tryz.prog 90 #[.agg cs0.toArray] w (fun en w' => en = .returned (.int .i64 r) ∧ Ext [] w w') := by
 obtain ⟨c10, rfl, g11⟩ := rdo_Timpl_Window g0
 obtain ⟨a12, c13, rfl⟩ := rd_sl1 g11
 unfold impl_WindowOnes at H
 refine f_enter Tryz.func90 rfl Tryz.ntmps90 rfl (St.init w []) <| sR <| ob _ rfl fun b14 => oP rfl <| nR <| oP rfl <| nQ <| c_seq <| sR <| o1 rfl (rx 0 0 _ rfl ty95 rfl) <| bE H fun y15 h16 H => ow_callS rfl fn127 rfl rfl rfl rfl (fun w1 hw1 => impl_Buckets_ok w1 h16 (hw1.carve [] rfl rfl) (rdm_Timpl_Window (rds_bor g11 w1 hw1))) fun v17 w1 w2 hw1 hR19 => ?_
 obtain ⟨a20, n21, c22, F23, rfl, hS18⟩ := hR19
 obtain rfl := own_nS (i := 0) hS18 rfl
 refine ⟨St w [] [_, _], hw1.comp [] rfl rfl hS18, fun _ _ => trivial, ?_⟩
 refine ow_batch [.lenS 172 175 sl172, .p] rfl <| nQ <| c_block <| CW.at (loopI2 (fun (i29 : Int) (i30 : Int) => St w [] [Res.own (eList (eTimpl_Bucket) 175) F23 y15 [.slice a20 y15.length c22]]) (fun i29 i30 => [(3, .int .i64 i29), (7, .slice a20 y15.length c22), (8, .int .i64 (y15.length : Int)), (9, .int .i64 i30)]) (fun kk => fun i29 i30 => impl_WindowOnes_L1 y15 kk i29 i30 = some r) (fun _ _ H => ?_) (fun k1 ihk1 i29 i30 H => ?_) Fuel (0) (0) (H)) (fun _ h => St.sel [1] rfl rfl h) ⟨rfl, rfl, rfl, rfl,  trivial⟩
 ·unfold impl_WindowOnes_L1 at H
  exact absurd H (by simp)
 ·unfold impl_WindowOnes_L1 at H
  refine sR <| oP rfl <| nQ <| c_seq <| cI H rfl (fun H => ?_) (fun H => ?_)
  ·exact c_skip <| x_qs <| c_seq <| c_block <| sR <| bE H fun e36 h37 H => ow_ixE (e := eTimpl_Bucket) (xs := y15) (j := i30) rfl rfl rfl rfl rfl sl172 ty175 rfl (fun w1 hw1 => rds_own (e := eList (eTimpl_Bucket) 175) (r := 0) rfl w1 hw1) h37 rfl <| o1 rfl (ry_load (cs := [.int .i64 e36.Size_, .int .i64 e36.Ones_]) rfl rfl ty175 (at_castA (at_eltE (fun w1 hw1 => rds_own (e := eList (eTimpl_Bucket) 175) (r := 0) rfl w1 hw1) h37 (fun _ _ h => h)) rfl) rfl) <| ow_alloc rfl rfl rfl rfl ty175 (fun _ => kp) fun b38 => sC 0 [.int .i64 e36.Size_, .int .i64 e36.Ones_] [_, _] 1 rfl ty175 rfl <| nQ <| c_reg <| ow_batch [.p, .fa 175 1 1 fa175_1] rfl <| o1 rfl (r1 1 1 rfl ty3 rfl) <| oPP rfl <| ow_nil <| x_qb <| x_qs <| c_reg <| oPP rfl <| ow_nil <| x_ql (RW.at (ihk1 (IntKind.i64.wrap (i29 + e36.Ones_)) (IntKind.i64.wrap (i30 + 1)) (H)) (fun _ h => St.sel [0] rfl rfl h) ⟨rfl, rfl, rfl, rfl, trivial⟩)
  ·exact c_exit <| x_qs_exit <| x_ql_exit <| x_qb_here <| x_qs <| sR <| oPP rfl <| nT <| xr 2 rfl (by cases H; exact q1)
theorem impl_FracOk_ok (w : World) {p0 : Timpl_Frac}  {r : Bool} (H : impl_FracOk p0 = some r)   :
    Calls Tryz.prog 128 #[.agg #[.int .i64 p0.Num_, .int .i64 p0.Den_]] w (fun en w' => en = .returned (.bool r) ∧ Ext [] w w') := by
 unfold impl_FracOk at H
 refine f_enter Tryz.func128 rfl Tryz.ntmps128 rfl (St.init w []) <| sR <| ob _ rfl fun b10 => oP rfl <| nR <| ow_batch [.fa 138 0 0 fa138_0] rfl <| o1 rfl (r1 0 0 rfl ty3 rfl) <| bE H fun y11 h12 H => oq rfl (qc rfl fn84 (fun w1 hw1 => impl_within_ok w1  h12)) tt2 <| oP rfl <| bE H fun u13 hu17 H => ow_cut [(10, .bool u13), (2, .bool false)] 4 ?_ (fun key => OW.sub (R := [(1, .pointer (some ⟨b10, 0, none⟩)), (2, .bool false), (6, .bool y11)]) ?_ (sb rfl))
 ·exact oP rfl <| nT <| xr 2 rfl (by cases H; exact q1)
 ·clear H
  have H := hu17
  clear hu17
  generalize y11 = t16 at H key ⊢
  cases t16
  ·have H := of_if_f rfl H
   refine ow_batch [.p, .p, .p, .p] rfl ?_
   obtain rfl := of_some H
   exact OW.sub key (sb rfl)
  ·have H := of_if_t rfl H
   refine ow_batch [.fa 138 1 1 fa138_1] rfl <| o1 rfl (r1 1 0 rfl ty3 rfl) <| bE H fun y14 h15 H => oq rfl (qc rfl fn84 (fun w1 hw1 => impl_within_ok w1  h15)) tt2 <| oP rfl <| ?_
   obtain rfl := of_some H
   exact OW.sub key (sb rfl)
theorem impl_Thousandths_ok (w : World) {p0 : Timpl_Frac}  {r : Int} (H : impl_Thousandths p0 = some r)   :
    Calls Tryz.prog 89 #[.agg #[.int .i64 p0.Num_, .int .i64 p0.Den_]] w (fun en w' => en = .returned (.int .i64 r) ∧ Ext [] w w') := by
 unfold impl_Thousandths at H
 refine f_enter Tryz.func89 rfl Tryz.ntmps89 rfl (St.init w []) <| sR <| ob _ rfl fun b10 => oP rfl <| nQ <| c_seq <| sR <| o1 rfl (rx 0 0 _ rfl ty138 rfl) <| bE H fun y11 h12 H => oq rfl (qc rfl fn128 (fun w1 hw1 => impl_FracOk_ok w1 (p0 := p0) h12)) tt2 <| oPP rfl <| ow_cut [(12, .bool ((!y11) || (decide (p0.Num_ > p0.Den_)))), (1, .pointer (some ⟨b10, 0, none⟩))] 6 ?_ (fun key => OW.sub (R := [(1, .pointer (some ⟨b10, 0, none⟩)), (6, .bool (!y11))]) ?_ (sb rfl))
 ·refine nQ <| cI H rfl (fun H => ?_) (fun H => ?_)
  ·exact sR <| oP rfl <| nT <| x_qs_ret <| xr 2 rfl (by cases H; exact q1)
  ·exact c_skip <| x_qs <| sR <| ow_batch [.fa 138 0 0 fa138_0] rfl <| o1 rfl (r1 0 0 rfl ty3 rfl) <| ow_batch [.p, .fa 138 1 1 fa138_1] rfl <| o1 rfl (r1 1 0 rfl ty3 rfl) <| bE H fun x15 h16 H => o1 rfl (ry_quo rfl rfl rfl h16) <| oP rfl <| nT <| xr 2 rfl (by cases H; exact q1)
 ·generalize (!y11) = t14 at key ⊢
  cases t14
  ·exact ow_batch [.fa 138 0 0 fa138_0] rfl <| o1 rfl (r1 0 0 rfl ty3 rfl) <| ow_batch [.fa 138 1 1 fa138_1] rfl <| o1 rfl (r1 1 0 rfl ty3 rfl) <| oP rfl <| oP rfl <| OW.sub key (sb rfl)
  ·exact ow_batch [.p, .p, .p, .p, .p, .p] rfl <| OW.sub key (sb rfl)
theorem impl_Voices_ok (w : World) {M0 : List Nat} {p0 : Timpl_Conf} {p1 : Timpl_Forest} {cs0 : List Value} {cs1 : List Value} {r : List Int} (H : impl_Voices p0 p1 = some r) (HS : St w M0 [] w) (g0 : (eTimpl_Conf).rd w M0 p0 cs0) (g1 : (eTimpl_Forest).rd w M0 p1 cs1) :
    Calls Tryz.prog 52 #[.agg cs0.toArray, .agg cs1.toArray] w (fun en w' => ∃ v, en = .returned v ∧ ∃ (a0 : Option Addr), ∃ (n0 : Nat), ∃ (c0 : Nat), ∃ (F0 : List Nat), v = .slice a0 n0 c0 ∧ St w M0 [Res.own (eList eI 3) F0 r [.slice a0 n0 c0]] w') := by
 obtain ⟨c10, c11, c12, c13, c14, c15, c16, rfl, g17, g18, g19, g20, g21, g22, g23⟩ := rdo_Timpl_Conf g0
 obtain ⟨c24, c25, rfl, g26, g27⟩ := rdo_Timpl_Schema g17
 obtain ⟨a28, c29, rfl⟩ := rd_sl1 g26
 obtain ⟨a30, c31, rfl⟩ := rd_sl1 g27
 obtain rfl := g18
 obtain rfl := g19
 obtain rfl := g20
 obtain rfl := g21
 obtain rfl := g22
 obtain rfl := g23
 obtain ⟨c32, rfl, g33⟩ := rdo_Timpl_Forest g1
 obtain ⟨a34, c35, rfl⟩ := rd_sl1 g33
 unfold impl_Voices at H
 refine f_enter Tryz.func52 rfl Tryz.ntmps52 rfl (HS) <| sR <| ob _ rfl fun b36 => ob _ rfl fun b37 => oP rfl <| nQ <| c_seq <| sR <| o1 rfl (rx 0 0 _ rfl ty51 rfl) <| o1 rfl (rx 0 1 _ rfl ty54 rfl) <| bE H fun y38 h39 H => oq rfl (qc rfl fn48 (fun w1 hw1 => impl_ForestOk_ok w1 h39 (rdm_Timpl_Conf (rdm_Timpl_Schema (rds_bor g26 w1 hw1) (rds_bor g27 w1 hw1)) rfl rfl rfl rfl rfl rfl) (rdm_Timpl_Forest (rds_bor g33 w1 hw1)))) tt2 <| oP rfl <| nQ <| cI H rfl (fun H => ?_) (fun H => ?_)
 ·exact sR <| oP rfl <| nT <| x_qs_ret <| xw_st (fun _ h => St.pushNil (e := eI) (T := 3) h) <| x_retR (rs := [.tmp 4]) (vs := [.slice none 0 0]) rfl ⟨rfl, trivial⟩ (fun w' hw' => by
   obtain rfl := of_some H
   exact ⟨_, rfl, none, 0, 0, [], rfl, hw'.sel [2] rfl rfl⟩)
 ·refine c_skip <| x_qs <| sR <| ow_blit0 (e := eI) rfl rfl rfl rfl sl39 ty3 (fun _ => kp) fun b40 => oP rfl <| nQ <| c_seq <| sR <| ow_batch [.fa 54 0 0 fa54_0] rfl <| o1 rfl (r1 0 1 rfl ty52 rfl) <| ow_batch [.lenS 52 99 sl52, .p] rfl <| nQ <| c_block <| CW.at (loopI5 (fun (i99 : Int) (l100 : List Int) (a101 : Option Addr) (c102 : Nat) (F103 : List Nat) => St w M0 [Res.own (eList eI 3) F103 l100 [.slice a101 l100.length c102]]) (fun i99 l100 a101 c102 F103 => [(5, .slice a101 l100.length c102), (15, .slice a34 p1.Members_.length c35), (16, .int .i64 (p1.Members_.length : Int)), (17, .int .i64 i99)]) (fun kk => fun i99 l100 a101 c102 F103 => a101.isNone = false ∧ impl_Voices_L1 p1 kk i99 l100 = some r) (fun _ _ _ _ _ H => ?_) (fun k1 ihk1 i99 l100 a101 c102 F103 ⟨hz104, H⟩ => ?_) Fuel (0) (([] : List Int)) ((some ⟨b40, 0, none⟩)) (0) ([b40]) (⟨rfl, H⟩)) (fun _ h => St.sel [2] rfl rfl h) ⟨rfl, rfl, rfl, rfl,  trivial⟩
  ·unfold impl_Voices_L1 at H
   exact absurd H (by simp)
  ·unfold impl_Voices_L1 at H
   refine sR <| oP rfl <| nQ <| c_seq <| cI H rfl (fun H => ?_) (fun H => ?_)
   ·refine c_skip <| x_qs <| c_seq <| c_block <| sR <| bE H fun e163 h164 H => ow_ixB rfl rfl rfl rfl rfl sl52 ty99 rfl g33 h164 fun q167 c168 hd165 hA166 => ?_
    obtain ⟨c169, c170, c171, c172, rfl, g173, g174, g175, g176⟩ := rdo_Timpl_Member hd165
    obtain ⟨c177, c178, rfl, g179, g180⟩ := rdo_Timpl_Tree g173
    obtain ⟨a181, c182, rfl⟩ := rd_sl1 g179
    obtain rfl := g180
    obtain rfl := g174
    obtain ⟨c183, c184, rfl, g185, g186⟩ := rdo_Timpl_Tree g175
    obtain ⟨a187, c188, rfl⟩ := rd_sl1 g185
    obtain rfl := g186
    obtain ⟨c189, c190, rfl, g191, g192⟩ := rdo_Timpl_Det g176
    obtain ⟨c193, rfl, g194⟩ := rdo_Timpl_Window g191
    obtain ⟨a195, c196, rfl⟩ := rd_sl1 g194
    obtain ⟨c197, rfl, g198⟩ := rdo_Timpl_Window g192
    obtain ⟨a199, c200, rfl⟩ := rd_sl1 g198
    exact o1 rfl (ry_load (cs := [.slice a181 e163.Tree_.Nodes_.length c182, .int .i64 e163.Tree_.Seen_, .bool e163.HasYoung_, .slice a187 e163.Young_.Nodes_.length c188, .int .i64 e163.Young_.Seen_, .slice a195 e163.Det_.Warn_.Rows_.length c196, .slice a199 e163.Det_.Drift_.Rows_.length c200]) rfl rfl ty99 (at_bor bor hA166) rfl) <| ow_alloc rfl rfl rfl rfl ty99 (fun _ => kp) fun b201 => sC 0 [.slice a181 e163.Tree_.Nodes_.length c182, .int .i64 e163.Tree_.Seen_, .bool e163.HasYoung_, .slice a187 e163.Young_.Nodes_.length c188, .int .i64 e163.Young_.Seen_, .slice a195 e163.Det_.Warn_.Rows_.length c196, .slice a199 e163.Det_.Drift_.Rows_.length c200] [_, _, _, _, _, _, _] 1 rfl ty99 rfl <| nR <| ow_batch [.fa 99 3 5 fa99_3, .fa 97 1 1 fa97_1] rfl <| o1 rfl (rx 6 1 _ rfl ty95 rfl) <| bE H fun y202 h203 H => oq rfl (qc rfl fn88 (fun w1 hw1 => impl_WindowTotal_ok w1 h203 (rdm_Timpl_Window (x := e163.Det_.Drift_) (c0 := [.slice a199 e163.Det_.Drift_.Rows_.length c200]) (rds_bor g198 w1 hw1)))) tt2 <| oP rfl <| nQ <| c_reg <| ow_batch [.p, .p, .p, .fa 99 3 5 fa99_3, .fa 97 1 1 fa97_1] rfl <| o1 rfl (rx 6 1 _ rfl ty95 rfl) <| bE H fun y204 h205 H => oq rfl (qc rfl fn90 (fun w1 hw1 => impl_WindowOnes_ok w1 h205 (rdm_Timpl_Window (x := e163.Det_.Drift_) (c0 := [.slice a199 e163.Det_.Drift_.Rows_.length c200]) (rds_bor g198 w1 hw1)))) tt2 <| ow_batch [.p, .p, .p] rfl <| o1 rfl (ry_build2 [(0, [.int .i64 (IntKind.i64.wrap ((IntKind.i64.wrap (1 + y202)) - y204))]), (1, [.int .i64 (IntKind.i64.wrap (2 + y202))])] [.int .i64 (IntKind.i64.wrap ((IntKind.i64.wrap (1 + y202)) - y204)), .int .i64 (IntKind.i64.wrap (2 + y202))] rfl rfl ty138 fs138 rfl ⟨rfl, rfl, Nat.le_of_ble_eq_true rfl, rfl, rfl, Nat.le_of_ble_eq_true rfl,  trivial⟩ rfl) <| bE H fun y206 h207 H => oq rfl (qc rfl fn89 (fun w1 hw1 => impl_Thousandths_ok w1 (p0 := (Timpl_Frac.mk (IntKind.i64.wrap ((IntKind.i64.wrap (1 + y202)) - y204)) (IntKind.i64.wrap (2 + y202)))) h207)) tt2 <| ow_blit (val := Value.int .i64) (h1 := fun _ => rfl) [y206] [(0, [.int .i64 y206])] rfl rfl rfl rfl rfl sl39 ty3 rfl rfl rfl ⟨rfl, rfl, Nat.le_of_ble_eq_true rfl,  trivial⟩ rfl rfl (fun _ => kp) fun b208 => bE H fun l209 h210 H => ow_appR (r := 0) (ys := ([y206] : List Int)) rfl rfl rfl rfl rfl rfl sl39 ty3 rfl rfl rfl (fun w1 hw1 => rds_own (e := eList eI 3) (r := 2) rfl w1 hw1) h210 (fun _ _ _ => kp) fun a211 c212 F213 => ow_fact rfl (fun w1 hw1 => own_nn (i := 0) hw1 rfl (app_ne h210)) fun hz214 => oP rfl <| ow_nil <| x_qb <| x_qs <| c_reg <| oPP rfl <| ow_nil <| x_ql (RW.at (ihk1 (IntKind.i64.wrap (i99 + 1)) (l209) (a211) (c212) (F213) (⟨hz214, H⟩)) (fun _ h => St.sel [0] rfl rfl h) ⟨rfl, rfl, rfl, rfl, trivial⟩)
   ·exact c_exit <| x_qs_exit <| x_ql_exit <| x_qb_here <| x_qs <| sR <| oPP rfl <| nT <| x_retR (rs := [.tmp 4]) (vs := [.slice a101 l100.length c102]) rfl ⟨rfl, trivial⟩ (fun w' hw' => by
     obtain rfl := of_some H
     exact ⟨_, rfl, a101, l100.length, c102, F103, rfl, hw'.sel [0] rfl rfl⟩)
theorem impl_Tally_ok (w : World) {M0 : List Nat} {p0 : Int} {p1 : List Int} {p2 : List Int} {a_1 : Option Addr} {n_1 c_1 : Nat} {a_2 : Option Addr} {n_2 c_2 : Nat} {r : List Int} (H : impl_Tally p0 p1 p2 = some r) (HS : St w M0 [] w) (g1 : (eList eI 3).rd w M0 p1 [.slice a_1 n_1 c_1]) (g2 : (eList eI 3).rd w M0 p2 [.slice a_2 n_2 c_2]) :
    Calls Tryz.prog 51 #[.int .i64 p0, .slice a_1 n_1 c_1, .slice a_2 n_2 c_2] w (fun en w' => ∃ v, en = .returned v ∧ ∃ (a0 : Option Addr), ∃ (n0 : Nat), ∃ (c0 : Nat), ∃ (F0 : List Nat), v = .slice a0 n0 c0 ∧ St w M0 [Res.own (eList eI 3) F0 r [.slice a0 n0 c0]] w') := by
 obtain rfl := rd_n g1
 obtain rfl := rd_n g2
 unfold impl_Tally at H
 refine f_enter Tryz.func51 rfl Tryz.ntmps51 rfl (HS) <| sR <| oP rfl <| nQ <| c_seq <| sR <| oP rfl <| bE H fun y10 h11 H => oq rfl (qc rfl fn84 (fun w1 hw1 => impl_within_ok w1  h11)) tt2 <| oPP rfl <| ow_cut [(19, .bool ((!y10) || ((p1.length : Int) != (p2.length : Int)))), (0, .int .i64 p0), (1, .slice a_1 p1.length c_1), (2, .slice a_2 p2.length c_2)] 6 ?_ (fun key => OW.sub (R := [(0, .int .i64 p0), (1, .slice a_1 p1.length c_1), (2, .slice a_2 p2.length c_2), (13, .bool (!y10))]) ?_ (sb rfl))
 ·refine oP rfl <| ow_cut [(24, .bool (((!y10) || ((p1.length : Int) != (p2.length : Int))) || (decide ((p1.length : Int) > 64)))), (0, .int .i64 p0), (1, .slice a_1 p1.length c_1), (2, .slice a_2 p2.length c_2)] 4 ?_ (fun key => OW.sub (R := [(0, .int .i64 p0), (1, .slice a_1 p1.length c_1), (2, .slice a_2 p2.length c_2), (20, .bool ((!y10) || ((p1.length : Int) != (p2.length : Int))))]) ?_ (sb rfl))
  ·refine nQ <| cI H rfl (fun H => ?_) (fun H => ?_)
   ·exact sR <| oP rfl <| nT <| x_qs_ret <| xw_st (fun _ h => St.pushNil (e := eI) (T := 3) h) <| x_retR (rs := [.tmp 6]) (vs := [.slice none 0 0]) rfl ⟨rfl, trivial⟩ (fun w' hw' => by
     obtain rfl := of_some H
     exact ⟨_, rfl, none, 0, 0, [], rfl, hw'.sel [0] rfl rfl⟩)
   ·refine c_skip <| x_qs <| sR <| oP rfl <| bE H fun y16 h17 H => ow_callS rfl fn87 rfl rfl rfl rfl (fun w1 hw1 => impl_zeros_ok w1  h17 (hw1.carve [] rfl rfl)) fun v18 w1 w2 hw1 hR20 => ?_
    obtain ⟨a21, n22, c23, F24, rfl, hS19⟩ := hR20
    obtain rfl := own_nS (i := 0) hS19 rfl
    refine ⟨St w M0 [_], hw1.comp [] rfl rfl hS19, fun _ _ => trivial, ?_⟩
    refine oP rfl <| nQ <| c_seq <| sR <| ow_batch [.p, .lenS 39 3 sl39, .p] rfl <| nQ <| c_block <| CW.at (loopI2 (fun (i44 : Int) (l45 : List Int) => St w M0 [Res.own (eList eI 3) F24 l45 [.slice a21 y16.length c23]]) (fun i44 l45 => [(0, .int .i64 p0), (2, .slice a_2 p2.length c_2), (7, .slice a21 y16.length c23), (27, .slice a_1 p1.length c_1), (28, .int .i64 (p1.length : Int)), (29, .int .i64 i44)]) (fun kk => fun i44 l45 => impl_Tally_L1 p1 p0 p2 kk i44 l45 = some r) (fun _ _ H => ?_) (fun k1 ihk1 i44 l45 H => ?_) Fuel (0) (y16) (H)) (fun _ h => St.sel [0] rfl rfl h) ⟨rfl, rfl, rfl, rfl, rfl, rfl,  trivial⟩
    ·unfold impl_Tally_L1 at H
     exact absurd H (by simp)
    ·unfold impl_Tally_L1 at H
     refine sR <| oP rfl <| nQ <| c_seq <| cI H rfl (fun H => ?_) (fun H => ?_)
     ·refine c_skip <| x_qs <| c_seq <| c_block <| sR <| oP rfl <| bE H fun e65 h66 H => ow_ixE (e := eI) (xs := p1) (j := i44) rfl rfl rfl rfl rfl sl39 ty3 rfl (fun w1 hw1 => rds_bor g1 w1 hw1) h66 (by rw [Nat.mul_one]) <| o1 rfl (ry_load1 rfl rfl ty3 (at_elV (fun w1 hw1 => rds_bor g1 w1 hw1) h66)) <| oPP rfl <| nQ <| c_seq <| sR <| ow_batch [.p, .p, .p] rfl <| bE H fun y67 h68 H => oq rfl (qc rfl fn84 (fun w1 hw1 => impl_within_ok w1  h68)) tt2 <| oPP rfl <| bE H fun u69 hu75 H => ow_cut [(46, .bool u69), (0, .int .i64 p0), (2, .slice a_2 p2.length c_2), (7, .slice a21 y16.length c23), (8, .int .i64 i44), (9, .int .i64 e65), (27, .slice a_1 p1.length c_1), (28, .int .i64 (p1.length : Int)), (29, .int .i64 i44)] 7 ?_ (fun key => OW.sub (R := [(0, .int .i64 p0), (2, .slice a_2 p2.length c_2), (7, .slice a21 y16.length c23), (8, .int .i64 i44), (9, .int .i64 e65), (27, .slice a_1 p1.length c_1), (28, .int .i64 (p1.length : Int)), (29, .int .i64 i44), (39, .bool (!y67))]) ?_ (sb rfl))
      ·refine nQ <| cI H rfl (fun H => ?_) (fun H => ?_)
       ·exact sR <| oP rfl <| nT <| x_qs_ret <| x_qb_ret <| x_qs_ret <| x_ql_ret <| x_qb_ret <| x_qs_ret <| xw_st (fun _ h => St.pushNil (e := eI) (T := 3) h) <| x_retR (rs := [.tmp 6]) (vs := [.slice none 0 0]) rfl ⟨rfl, trivial⟩ (fun w' hw' => by
         obtain rfl := of_some H
         exact ⟨_, rfl, none, 0, 0, [], rfl, hw'.sel [1] rfl rfl⟩)
       ·refine c_skip <| x_qs <| sR <| oPP rfl <| nQ <| cI H rfl (fun H => ?_) (fun H => ?_)
        ·exact c_regT 10 mixed (by kernel_rfl) <| oPP rfl <| bE H fun e76 h77 H => ow_ixE (e := eI) (xs := l45) (j := e65) rfl rfl rfl rfl rfl sl39 ty3 rfl (fun w1 hw1 => rds_own (e := eList eI 3) (r := 0) rfl w1 hw1) h77 (by rw [Nat.mul_one]) <| o1 rfl (ry_load1 rfl rfl ty3 (at_elV (fun w1 hw1 => rds_own (e := eList eI 3) (r := 0) rfl w1 hw1) h77)) <| oPP rfl <| bE H fun e78 h79 H => ow_ixE (e := eI) (xs := p2) (j := i44) rfl rfl rfl rfl rfl sl39 ty3 rfl (fun w1 hw1 => rds_bor g2 w1 hw1) h79 (by rw [Nat.mul_one]) <| o1 rfl (ry_load1 rfl rfl ty3 (at_elV (fun w1 hw1 => rds_bor g2 w1 hw1) h79)) <| oP rfl <| bE H fun e80 h81 H => ow_ixE (e := eI) (xs := l45) (j := e65) rfl rfl rfl rfl rfl sl39 ty3 rfl (fun w1 hw1 => rds_own (e := eList eI 3) (r := 0) rfl w1 hw1) h81 (by rw [Nat.mul_one]) <| ow_nilQ <| ow_storeV (i := 0) (j := e65) rfl rfl rfl rfl rfl rfl ty3 rfl h81 (fun _ => rfl) kp <| ow_nil <| x_qb <| x_qs <| c_reg <| oPP rfl <| ow_nil <| x_ql (RW.at (ihk1 (IntKind.i64.wrap (i44 + 1)) ((l45.set e65.toNat (IntKind.i64.wrap (e76 + e78)))) (H)) (fun _ h => St.sel [0] rfl rfl h) ⟨rfl, rfl, rfl, rfl, rfl, rfl, trivial⟩)
        ·exact c_skip <| x_qb <| x_qs <| c_reg <| oPP rfl <| ow_nil <| x_ql (RW.at (ihk1 (IntKind.i64.wrap (i44 + 1)) (l45) (H)) (fun _ h => St.sel [0] rfl rfl h) ⟨rfl, rfl, rfl, rfl, rfl, rfl, trivial⟩)
      ·clear H
       have H := hu75
       clear hu75
       generalize (!y67) = t74 at H key ⊢
       cases t74
       ·have H := of_if_f rfl H
        refine oPP rfl <| bE H fun e70 h71 H => ow_ixE (e := eI) (xs := p2) (j := i44) rfl rfl rfl rfl rfl sl39 ty3 rfl (fun w1 hw1 => rds_bor g2 w1 hw1) h71 (by rw [Nat.mul_one]) <| o1 rfl (ry_load1 rfl rfl ty3 (at_elV (fun w1 hw1 => rds_bor g2 w1 hw1) h71)) <| bE H fun y72 h73 H => oq rfl (qc rfl fn84 (fun w1 hw1 => impl_within_ok w1  h73)) tt2 <| oP rfl <| oP rfl <| ?_
        obtain rfl := of_some H
        exact OW.sub key (sb rfl)
       ·have H := of_if_t rfl H
        refine ow_batch [.p, .p, .p, .p, .p, .p, .p] rfl ?_
        obtain rfl := of_some H
        exact OW.sub key (sb rfl)
     ·exact c_exit <| x_qs_exit <| x_ql_exit <| x_qb_here <| x_qs <| sR <| oPP rfl <| nT <| x_retR (rs := [.tmp 6]) (vs := [.slice a21 y16.length c23]) rfl ⟨rfl, trivial⟩ (fun w' hw' => by
       obtain rfl := of_some H
       exact ⟨_, rfl, a21, y16.length, c23, F24, rfl, hw'.sel [0] rfl rfl⟩)
  ·generalize ((!y10) || ((p1.length : Int) != (p2.length : Int))) = t15 at key ⊢
   cases t15
   ·exact ow_batch [.p, .lenS 39 3 sl39, .p] rfl <| oP rfl <| OW.sub key (sb rfl)
   ·exact ow_batch [.p, .p, .p, .p] rfl <| OW.sub key (sb rfl)
 ·generalize (!y10) = t13 at key ⊢
  cases t13
  ·exact ow_batch [.p, .lenS 39 3 sl39, .p, .lenS 39 3 sl39, .p] rfl <| oP rfl <| OW.sub key (sb rfl)
  ·exact ow_batch [.p, .p, .p, .p, .p, .p] rfl <| OW.sub key (sb rfl)
theorem impl_ForestSays_ok (w : World) {M0 : List Nat} {p0 : Timpl_Conf} {p1 : Timpl_Forest} {p2 : Timpl_Ex} {cs0 : List Value} {cs1 : List Value} {cs2 : List Value} {r : Int × (List Int)} (H : impl_ForestSays p0 p1 p2 = some r) (HS : St w M0 [] w) (g0 : (eTimpl_Conf).rd w M0 p0 cs0) (g1 : (eTimpl_Forest).rd w M0 p1 cs1) (g2 : (eTimpl_Ex).rd w M0 p2 cs2) :
    Calls Tryz.prog 26 #[.agg cs0.toArray, .agg cs1.toArray, .agg cs2.toArray] w (fun en w' => ∃ v, en = .returned v ∧ ∃ (a0 : Option Addr), ∃ (n0 : Nat), ∃ (c0 : Nat), ∃ (F0 : List Nat), v = .tuple #[.int .i64 r.1, .slice a0 n0 c0] ∧ St w M0 [Res.own (eList eI 3) F0 r.2 [.slice a0 n0 c0]] w') := by
 obtain ⟨c10, c11, c12, c13, c14, c15, c16, rfl, g17, g18, g19, g20, g21, g22, g23⟩ := rdo_Timpl_Conf g0
 obtain ⟨c24, c25, rfl, g26, g27⟩ := rdo_Timpl_Schema g17
 obtain ⟨a28, c29, rfl⟩ := rd_sl1 g26
 obtain ⟨a30, c31, rfl⟩ := rd_sl1 g27
 obtain rfl := g18
 obtain rfl := g19
 obtain rfl := g20
 obtain rfl := g21
 obtain rfl := g22
 obtain rfl := g23
 obtain ⟨c32, rfl, g33⟩ := rdo_Timpl_Forest g1
 obtain ⟨a34, c35, rfl⟩ := rd_sl1 g33
 obtain ⟨c36, c37, rfl, g38, g39⟩ := rdo_Timpl_Ex g2
 obtain ⟨a40, c41, rfl⟩ := rd_sl1 g38
 obtain rfl := g39
 unfold impl_ForestSays at H
 refine f_enter Tryz.func26 rfl Tryz.ntmps26 rfl (HS) <| sR <| ob _ rfl fun b42 => ob _ rfl fun b43 => ob _ rfl fun b44 => oPP rfl <| nQ <| c_seq <| sR <| o1 rfl (rx 0 0 _ rfl ty51 rfl) <| o1 rfl (rx 0 1 _ rfl ty54 rfl) <| bE H fun y45 h46 H => oq rfl (qc rfl fn48 (fun w1 hw1 => impl_ForestOk_ok w1 h46 (rdm_Timpl_Conf (rdm_Timpl_Schema (rds_bor g26 w1 hw1) (rds_bor g27 w1 hw1)) rfl rfl rfl rfl rfl rfl) (rdm_Timpl_Forest (rds_bor g33 w1 hw1)))) tt2 <| oPP rfl <| bE H fun u47 hu51 H => ow_cut [(22, .bool u47), (3, .pointer (some ⟨b42, 0, none⟩)), (4, .pointer (some ⟨b43, 0, none⟩)), (5, .pointer (some ⟨b44, 0, none⟩))] 6 ?_ (fun key => OW.sub (R := [(3, .pointer (some ⟨b42, 0, none⟩)), (4, .pointer (some ⟨b43, 0, none⟩)), (5, .pointer (some ⟨b44, 0, none⟩)), (16, .bool (!y45))]) ?_ (sb rfl))
 ·refine nQ <| cI H rfl (fun H => ?_) (fun H => ?_)
  ·exact sR <| oPP rfl <| nT <| x_qs_ret <| xw_st (fun _ h => St.pushNil (e := eI) (T := 3) h) <| x_retR (rs := [.tmp 6, .tmp 7]) (vs := [.int .i64 (-1), .slice none 0 0]) rfl ⟨rfl, rfl, trivial⟩ (fun w' hw' => by
    obtain rfl := of_some H
    exact ⟨_, rfl, none, 0, 0, [], rfl, hw'.sel [3] rfl rfl⟩)
  ·refine c_skip <| x_qs <| sR <| ow_blit0 (e := eI) rfl rfl rfl rfl sl39 ty3 (fun _ => kp) fun b52 => oP rfl <| nQ <| c_seq <| sR <| ow_batch [.fa 54 0 0 fa54_0] rfl <| o1 rfl (r1 0 1 rfl ty52 rfl) <| ow_batch [.lenS 52 99 sl52, .p] rfl <| nQ <| c_block <| CW.at (loopI5 (fun (i107 : Int) (l108 : List Int) (a109 : Option Addr) (c110 : Nat) (F111 : List Nat) => St w M0 [Res.box b42 51 [.slice a28 p0.Schema_.Attrs_.length c29, .slice a30 p0.Schema_.Classes_.length c31, .int .i64 p0.Rule_.Sure_, .int .i64 p0.Rule_.Tie_, .int .i64 p0.Rule_.Grace_, .int .i64 p0.Rule_.Depth_, .int .i64 p0.Rule_.Nodes_, .int .i64 p0.Rule_.Units_, .bool p0.Rule_.Two_, .int .i64 p0.Members_, .int .i64 p0.Pick_, .int .i64 p0.Lambda_, .int .i64 p0.Warn_, .int .i64 p0.Drift_], Res.box b43 54 [.slice a34 p1.Members_.length c35], Res.box b44 61 [.slice a40 p2.Bins_.length c41, .int .i64 p2.Class_], Res.own (eList eI 3) F111 l108 [.slice a109 l108.length c110]]) (fun i107 l108 a109 c110 F111 => [(3, .pointer (some ⟨b42, 0, none⟩)), (4, .pointer (some ⟨b43, 0, none⟩)), (5, .pointer (some ⟨b44, 0, none⟩)), (8, .slice a109 l108.length c110), (25, .slice a34 p1.Members_.length c35), (26, .int .i64 (p1.Members_.length : Int)), (27, .int .i64 i107)]) (fun kk => fun i107 l108 a109 c110 F111 => a109.isNone = false ∧ impl_ForestSays_L1 p1 p0 p2 kk i107 l108 = some r) (fun _ _ _ _ _ H => ?_) (fun k1 ihk1 i107 l108 a109 c110 F111 ⟨hz112, H⟩ => ?_) Fuel (0) (([] : List Int)) ((some ⟨b52, 0, none⟩)) (0) ([b52]) (⟨rfl, H⟩)) (fun _ h => St.sel [0, 1, 2, 3] rfl rfl h) ⟨rfl, rfl, rfl, rfl, rfl, rfl, rfl,  trivial⟩
   ·unfold impl_ForestSays_L1 at H
    exact absurd H (by simp)
   ·unfold impl_ForestSays_L1 at H
    refine sR <| oP rfl <| nQ <| c_seq <| cI H rfl (fun H => ?_) (fun H => ?_)
    ·refine c_skip <| x_qs <| c_seq <| c_block <| sR <| bE H fun e167 h168 H => ow_ixB rfl rfl rfl rfl rfl sl52 ty99 rfl g33 h168 fun q171 c172 hd169 hA170 => ?_
     obtain ⟨c173, c174, c175, c176, rfl, g177, g178, g179, g180⟩ := rdo_Timpl_Member hd169
     obtain ⟨c181, c182, rfl, g183, g184⟩ := rdo_Timpl_Tree g177
     obtain ⟨a185, c186, rfl⟩ := rd_sl1 g183
     obtain rfl := g184
     obtain rfl := g178
     obtain ⟨c187, c188, rfl, g189, g190⟩ := rdo_Timpl_Tree g179
     obtain ⟨a191, c192, rfl⟩ := rd_sl1 g189
     obtain rfl := g190
     obtain ⟨c193, c194, rfl, g195, g196⟩ := rdo_Timpl_Det g180
     obtain ⟨c197, rfl, g198⟩ := rdo_Timpl_Window g195
     obtain ⟨a199, c200, rfl⟩ := rd_sl1 g198
     obtain ⟨c201, rfl, g202⟩ := rdo_Timpl_Window g196
     obtain ⟨a203, c204, rfl⟩ := rd_sl1 g202
     exact o1 rfl (ry_load (cs := [.slice a185 e167.Tree_.Nodes_.length c186, .int .i64 e167.Tree_.Seen_, .bool e167.HasYoung_, .slice a191 e167.Young_.Nodes_.length c192, .int .i64 e167.Young_.Seen_, .slice a199 e167.Det_.Warn_.Rows_.length c200, .slice a203 e167.Det_.Drift_.Rows_.length c204]) rfl rfl ty99 (at_bor bor hA170) rfl) <| ow_alloc rfl rfl rfl rfl ty99 (fun _ => kp) fun b205 => sC 0 [.slice a185 e167.Tree_.Nodes_.length c186, .int .i64 e167.Tree_.Seen_, .bool e167.HasYoung_, .slice a191 e167.Young_.Nodes_.length c192, .int .i64 e167.Young_.Seen_, .slice a199 e167.Det_.Warn_.Rows_.length c200, .slice a203 e167.Det_.Drift_.Rows_.length c204] [_, _, _, _, _, _, _] 4 rfl ty99 rfl <| nQ <| c_reg <| ow_batch [.p, .fa 51 0 0 fa51_0] rfl <| o1 rfl (rx 0 0 _ rfl ty48 rfl) <| ow_batch [.fa 99 0 0 fa99_0] rfl <| o1 rfl (rx 0 4 _ rfl ty93 rfl) <| o1 rfl (rx 0 2 _ rfl ty61 rfl) <| bE H fun y206 h207 H => oq rfl (qc rfl fn50 (fun w1 hw1 => impl_TreeSays_ok w1 h207 (rdm_Timpl_Schema (x := p0.Schema_) (c0 := [.slice a28 p0.Schema_.Attrs_.length c29]) (c1 := [.slice a30 p0.Schema_.Classes_.length c31]) (rds_bor g26 w1 hw1) (rds_bor g27 w1 hw1)) (rdm_Timpl_Tree (x := e167.Tree_) (c0 := [.slice a185 e167.Tree_.Nodes_.length c186]) (c1 := [.int .i64 e167.Tree_.Seen_]) (rds_bor g183 w1 hw1) rfl) (rdm_Timpl_Ex (x := p2) (c0 := [.slice a40 p2.Bins_.length c41]) (c1 := [.int .i64 p2.Class_]) (rds_bor g38 w1 hw1) rfl))) tt2 <| ow_blit (val := Value.int .i64) (h1 := fun _ => rfl) [y206] [(0, [.int .i64 y206])] rfl rfl rfl rfl rfl sl39 ty3 rfl rfl rfl ⟨rfl, rfl, Nat.le_of_ble_eq_true rfl,  trivial⟩ rfl rfl (fun _ => kp) fun b208 => bE H fun l209 h210 H => ow_appR (r := 3) (ys := ([y206] : List Int)) rfl rfl rfl rfl rfl rfl sl39 ty3 rfl rfl rfl (fun w1 hw1 => rds_own (e := eList eI 3) (r := 5) rfl w1 hw1) h210 (fun _ _ _ => kp) fun a211 c212 F213 => ow_fact rfl (fun w1 hw1 => own_nn (i := 3) hw1 rfl (app_ne h210)) fun hz214 => oP rfl <| ow_nil <| x_qb <| x_qs <| c_reg <| oPP rfl <| ow_nil <| x_ql (RW.at (ihk1 (IntKind.i64.wrap (i107 + 1)) (l209) (a211) (c212) (F213) (⟨hz214, H⟩)) (fun _ h => St.sel [0, 1, 2, 3] rfl rfl h) ⟨rfl, rfl, rfl, rfl, rfl, rfl, rfl, trivial⟩)
    ·refine c_exit <| x_qs_exit <| x_ql_exit <| x_qb_here <| x_qs <| c_seq <| c_regHT 8 [(0, true), (1, true), (2, true), (3, true), (4, true), (5, true), (6, true), (7, false)] (St w M0 [Res.box b42 51 [.slice a28 p0.Schema_.Attrs_.length c29, .slice a30 p0.Schema_.Classes_.length c31, .int .i64 p0.Rule_.Sure_, .int .i64 p0.Rule_.Tie_, .int .i64 p0.Rule_.Grace_, .int .i64 p0.Rule_.Depth_, .int .i64 p0.Rule_.Nodes_, .int .i64 p0.Rule_.Units_, .bool p0.Rule_.Two_, .int .i64 p0.Members_, .int .i64 p0.Pick_, .int .i64 p0.Lambda_, .int .i64 p0.Warn_, .int .i64 p0.Drift_], Res.box b43 54 [.slice a34 p1.Members_.length c35], Res.box b44 61 [.slice a40 p2.Bins_.length c41, .int .i64 p2.Class_], Res.own (eList eI 3) F111 l108 [.slice a109 l108.length c110]]) mixed (by kernel_rfl) (panicOk_qs panicOk_body) (fun _ h => St.mask [true, true, true, true] rfl h) <| ow_batch [.fa 51 0 0 fa51_0, .fa 48 1 1 fa48_1] rfl <| ow_rH rfl (dstOk_lt rfl) (r1 1 0 rfl ty23 rfl) <| ow_batch [.lenS 23 9 sl23, .p] rfl <| ow_rH rfl (dstOk_lt rfl) (rx 0 0 _ rfl ty51 rfl) <| ow_rH rfl (dstOk_lt rfl) (rx 0 1 _ rfl ty54 rfl) <| bE H fun y224 h225 H => ow_callS rfl fn52 rfl rfl rfl rfl (fun w1 hw1 => impl_Voices_ok w1 h225 (hw1.carve [] rfl rfl) (rdm_Timpl_Conf (rdm_Timpl_Schema (rds_bor g26 w1 hw1) (rds_bor g27 w1 hw1)) rfl rfl rfl rfl rfl rfl) (rdm_Timpl_Forest (rds_bor g33 w1 hw1))) fun v226 w1 w2 hw1 hR228 => ?_
     obtain ⟨a229, n230, c231, F232, rfl, hS227⟩ := hR228
     obtain rfl := own_nS (i := 0) hS227 rfl
     refine ⟨St w M0 [_, _, _, _, _], hw1.comp [] rfl rfl hS227, (fun _ h => St.mask [true, true, true, true] rfl h), ?_⟩
     refine ow_nilH <| x_qt <| bE H fun y233 h234 H => ow_callS rfl fn51 rfl rfl rfl rfl (fun w1 hw1 => impl_Tally_ok w1  h234 (hw1.carve [] rfl rfl) (rds_own (e := eList eI 3) (r := 3) rfl w1 hw1) (rds_own (e := eList eI 3) (r := 4) rfl w1 hw1)) fun v235 w1 w2 hw1 hR237 => ?_
     obtain ⟨a238, n239, c240, F241, rfl, hS236⟩ := hR237
     obtain rfl := own_nS (i := 0) hS236 rfl
     refine ⟨St w M0 [_, _, _, _, _, _], hw1.comp [] rfl rfl hS236, fun _ _ => trivial, ?_⟩
     exact oP rfl <| nR <| oP rfl <| bE H fun y242 h243 H => oq rfl (qc rfl fn53 (fun w1 hw1 => impl_TopOf_ok w1  h243 (rds_own (e := eList eI 3) (r := 5) rfl w1 hw1))) tt2 <| ow_batch [.p, .p, .p] rfl <| nT <| x_retR (rs := [.tmp 6, .tmp 7]) (vs := [.int .i64 y242, .slice a238 y233.length c240]) rfl ⟨rfl, rfl, trivial⟩ (fun w' hw' => by
      obtain rfl := of_some H
      exact ⟨_, rfl, a238, y233.length, c240, F241, rfl, hw'.sel [5] rfl rfl⟩)
 ·clear H
  have H := hu51
  clear hu51
  generalize (!y45) = t50 at H key ⊢
  cases t50
  ·have H := of_if_f rfl H
   refine ow_batch [.fa 51 0 0 fa51_0] rfl <| o1 rfl (rx 0 0 _ rfl ty48 rfl) <| o1 rfl (rx 0 2 _ rfl ty61 rfl) <| bE H fun y48 h49 H => oq rfl (qc rfl fn49 (fun w1 hw1 => impl_ExOk_ok w1 h49 (rdm_Timpl_Schema (rds_bor g26 w1 hw1) (rds_bor g27 w1 hw1)) (rdm_Timpl_Ex (rds_bor g38 w1 hw1) rfl))) tt2 <| oP rfl <| oP rfl <| ?_
   obtain rfl := of_some H
   exact OW.sub key (sb rfl)
  ·have H := of_if_t rfl H
   refine ow_batch [.p, .p, .p, .p, .p, .p] rfl ?_
   obtain rfl := of_some H
   exact OW.sub key (sb rfl)
theorem impl_StateSays_ok (w : World) {M0 : List Nat} {p0 : Timpl_State} {p1 : Timpl_Ex} {cs0 : List Value} {cs1 : List Value} {r : Int × (List Int)} (H : impl_StateSays p0 p1 = some r) (HS : St w M0 [] w) (g0 : (eTimpl_State).rd w M0 p0 cs0) (g1 : (eTimpl_Ex).rd w M0 p1 cs1) :
    Calls Tryz.prog 9 #[.agg cs0.toArray, .agg cs1.toArray] w (fun en w' => ∃ v, en = .returned v ∧ ∃ (a0 : Option Addr), ∃ (n0 : Nat), ∃ (c0 : Nat), ∃ (F0 : List Nat), v = .tuple #[.int .i64 r.1, .slice a0 n0 c0] ∧ St w M0 [Res.own (eList eI 3) F0 r.2 [.slice a0 n0 c0]] w') := by
 obtain ⟨c10, c11, c12, rfl, g13, g14, g15⟩ := rdo_Timpl_State g0
 obtain ⟨c16, c17, c18, c19, c20, c21, c22, rfl, g23, g24, g25, g26, g27, g28, g29⟩ := rdo_Timpl_Conf g13
 obtain ⟨c30, c31, rfl, g32, g33⟩ := rdo_Timpl_Schema g23
 obtain ⟨a34, c35, rfl⟩ := rd_sl1 g32
 obtain ⟨a36, c37, rfl⟩ := rd_sl1 g33
 obtain rfl := g24
 obtain rfl := g25
 obtain rfl := g26
 obtain rfl := g27
 obtain rfl := g28
 obtain rfl := g29
 obtain ⟨c38, rfl, g39⟩ := rdo_Timpl_Forest g14
 obtain ⟨a40, c41, rfl⟩ := rd_sl1 g39
 obtain ⟨c42, c43, rfl, g44, g45⟩ := rdo_Timpl_Score g15
 obtain ⟨a46, c47, rfl⟩ := rd_sl1 g44
 obtain ⟨a48, c49, rfl⟩ := rd_sl1 g45
 obtain ⟨c50, c51, rfl, g52, g53⟩ := rdo_Timpl_Ex g1
 obtain ⟨a54, c55, rfl⟩ := rd_sl1 g52
 obtain rfl := g53
 unfold impl_StateSays at H
 refine f_enter Tryz.func9 rfl Tryz.ntmps9 rfl (HS) <| sR <| ob _ rfl fun b56 => ob _ rfl fun b57 => oPP rfl <| nR <| ow_batch [.fa 59 0 0 fa59_0] rfl <| o1 rfl (rx 0 0 _ rfl ty51 rfl) <| ow_batch [.fa 59 1 14 fa59_1] rfl <| o1 rfl (rx 14 0 _ rfl ty54 rfl) <| o1 rfl (rx 0 1 _ rfl ty61 rfl) <| bE H fun y58 h59 H => ow_callS rfl fn26 rfl rfl rfl rfl (fun w1 hw1 => impl_ForestSays_ok w1 h59 (hw1.carve [] rfl rfl) (rdm_Timpl_Conf (rdm_Timpl_Schema (rds_bor g32 w1 hw1) (rds_bor g33 w1 hw1)) rfl rfl rfl rfl rfl rfl) (rdm_Timpl_Forest (rds_bor g39 w1 hw1)) (rdm_Timpl_Ex (rds_bor g52 w1 hw1) rfl)) fun v60 w1 w2 hw1 hR62 => ?_
 obtain ⟨a63, n64, c65, F66, rfl, hS61⟩ := hR62
 obtain rfl := own_nS (i := 0) hS61 rfl
 refine ⟨St w M0 [_, _, _], hw1.comp [] rfl rfl hS61, fun _ _ => trivial, ?_⟩
 exact ow_batch [.p, .p, .p, .p] rfl <| nT <| x_retR (rs := [.tmp 4, .tmp 5]) (vs := [.int .i64 y58.1, .slice a63 y58.2.length c65]) rfl ⟨rfl, rfl, trivial⟩ (fun w' hw' => by
  obtain rfl := of_some H
  exact ⟨_, rfl, a63, y58.2.length, c65, F66, rfl, hw'.sel [2] rfl rfl⟩)
theorem laws_eqIntS_ok (w : World) {p0 : List Int} {p1 : List Int} {a_0 : Option Addr} {n_0 c_0 : Nat} {a_1 : Option Addr} {n_1 c_1 : Nat} {r : Bool} (H : laws_eqIntS p0 p1 = some r)  (g0 : (eList eI 3).rd w [] p0 [.slice a_0 n_0 c_0]) (g1 : (eList eI 3).rd w [] p1 [.slice a_1 n_1 c_1]) :
    Calls Tryz.prog 10 #[.slice a_0 n_0 c_0, .slice a_1 n_1 c_1] w (fun en w' => en = .returned (.bool r) ∧ Ext [] w w') := by
 obtain rfl := rd_n g0
 obtain rfl := rd_n g1
 unfold laws_eqIntS at H
 refine f_enter Tryz.func10 rfl Tryz.ntmps10 rfl (St.init w []) <| sR <| oP rfl <| nQ <| c_seq <| sR <| ow_batch [.p, .lenS 39 3 sl39, .p, .lenS 39 3 sl39, .p] rfl <| nQ <| cI H rfl (fun H => ?_) (fun H => ?_)
 ·exact sR <| oP rfl <| nT <| x_qs_ret <| xr 4 rfl (by cases H; exact q1)
 ·refine c_skip <| x_qs <| c_seq <| sR <| oP rfl <| nQ <| c_block <| CW.at (loopI1 (fun (i15 : Int) => St w [] []) (fun i15 => [(0, .slice a_0 p0.length c_0), (1, .slice a_1 p1.length c_1), (5, .int .i64 i15)]) (fun kk => fun i15 => laws_eqIntS_L1 p0 p1 kk i15 = some r) (fun _ H => ?_) (fun k1 ihk1 i15 H => ?_) Fuel (0) (H)) (fun _ h => St.sel [] rfl rfl h) ⟨rfl, rfl, rfl,  trivial⟩
  ·unfold laws_eqIntS_L1 at H
   exact absurd H (by simp)
  ·unfold laws_eqIntS_L1 at H
   refine c_seq <| sR <| ow_batch [.p, .p, .lenS 39 3 sl39, .p] rfl <| nQ <| cI H rfl (fun H => ?_) (fun H => ?_)
   ·refine c_skip <| x_qs <| c_seq <| c_block <| c_seq <| c_regQ mixed (by kernel_rfl) <| oPP rfl <| bE H fun e21 h22 H => ow_ixE (e := eI) (xs := p0) (j := i15) rfl rfl rfl rfl rfl sl39 ty3 rfl (fun w1 hw1 => rds_bor g0 w1 hw1) h22 (by rw [Nat.mul_one]) <| o1 rfl (ry_load1 rfl rfl ty3 (at_elV (fun w1 hw1 => rds_bor g0 w1 hw1) h22)) <| oPP rfl <| bE H fun e23 h24 H => ow_ixE (e := eI) (xs := p1) (j := i15) rfl rfl rfl rfl rfl sl39 ty3 rfl (fun w1 hw1 => rds_bor g1 w1 hw1) h24 (by rw [Nat.mul_one]) <| o1 rfl (ry_load1 rfl rfl ty3 (at_elV (fun w1 hw1 => rds_bor g1 w1 hw1) h24)) <| oP rfl <| ow_nilQ <| x_qs <| cI H rfl (fun H => ?_) (fun H => ?_)
    ·exact sR <| oP rfl <| nT <| x_qb_ret <| x_qs_ret <| x_ql_ret <| x_qb_ret <| x_qs_ret <| xr 4 rfl (by cases H; exact q1)
    ·exact c_skip <| x_qb <| x_qs <| c_reg <| ow_batch [.p, .p, .p] rfl <| ow_nil <| x_ql (RW.at (ihk1 (IntKind.i64.wrap (i15 + 1)) (H)) (fun _ h => St.sel [] rfl rfl h) ⟨rfl, rfl, rfl, trivial⟩)
   ·exact c_exit <| x_qs_exit <| x_ql_exit <| x_qb_here <| x_qs <| sR <| oP rfl <| nT <| xr 4 rfl (by cases H; exact q1)
theorem laws_eqStringS_ok (w : World) {p0 : List (List UInt8)} {p1 : List (List UInt8)} {a_0 : Option Addr} {n_0 c_0 : Nat} {a_1 : Option Addr} {n_1 c_1 : Nat} {r : Bool} (H : laws_eqStringS p0 p1 = some r)  (g0 : (eList (eStr) 9).rd w [] p0 [.slice a_0 n_0 c_0]) (g1 : (eList (eStr) 9).rd w [] p1 [.slice a_1 n_1 c_1]) :
    Calls Tryz.prog 94 #[.slice a_0 n_0 c_0, .slice a_1 n_1 c_1] w (fun en w' => en = .returned (.bool r) ∧ Ext [] w w') := by
 obtain rfl := rd_n g0
 obtain rfl := rd_n g1
 unfold laws_eqStringS at H
 refine f_enter Tryz.func94 rfl Tryz.ntmps94 rfl (St.init w []) <| sR <| oP rfl <| nQ <| c_seq <| sR <| ow_batch [.p, .lenS 23 9 sl23, .p, .lenS 23 9 sl23, .p] rfl <| nQ <| cI H rfl (fun H => ?_) (fun H => ?_)
 ·exact sR <| oP rfl <| nT <| x_qs_ret <| xr 4 rfl (by cases H; exact q1)
 ·refine c_skip <| x_qs <| c_seq <| sR <| oP rfl <| nQ <| c_block <| CW.at (loopI1 (fun (i15 : Int) => St w [] []) (fun i15 => [(0, .slice a_0 p0.length c_0), (1, .slice a_1 p1.length c_1), (5, .int .i64 i15)]) (fun kk => fun i15 => laws_eqStringS_L1 p0 p1 kk i15 = some r) (fun _ H => ?_) (fun k1 ihk1 i15 H => ?_) Fuel (0) (H)) (fun _ h => St.sel [] rfl rfl h) ⟨rfl, rfl, rfl,  trivial⟩
  ·unfold laws_eqStringS_L1 at H
   exact absurd H (by simp)
  ·unfold laws_eqStringS_L1 at H
   refine c_seq <| sR <| ow_batch [.p, .p, .lenS 23 9 sl23, .p] rfl <| nQ <| cI H rfl (fun H => ?_) (fun H => ?_)
   ·refine c_skip <| x_qs <| c_seq <| c_block <| c_seq <| c_regQ mixed (by kernel_rfl) <| oPP rfl <| bE H fun e21 h22 H => ow_ixE (e := eStr) (xs := p0) (j := i15) rfl rfl rfl rfl rfl sl23 ty9 rfl (fun w1 hw1 => rds_bor g0 w1 hw1) h22 (by rw [Nat.mul_one]) <| o1 rfl (ry_load1 rfl rfl ty9 (at_elV (fun w1 hw1 => rds_bor g0 w1 hw1) h22)) <| oPP rfl <| bE H fun e23 h24 H => ow_ixE (e := eStr) (xs := p1) (j := i15) rfl rfl rfl rfl rfl sl23 ty9 rfl (fun w1 hw1 => rds_bor g1 w1 hw1) h24 (by rw [Nat.mul_one]) <| o1 rfl (ry_load1 rfl rfl ty9 (at_elV (fun w1 hw1 => rds_bor g1 w1 hw1) h24)) <| oP rfl <| ow_nilQ <| x_qs <| cI H rfl (fun H => ?_) (fun H => ?_)
    ·exact sR <| oP rfl <| nT <| x_qb_ret <| x_qs_ret <| x_ql_ret <| x_qb_ret <| x_qs_ret <| xr 4 rfl (by cases H; exact q1)
    ·exact c_skip <| x_qb <| x_qs <| c_reg <| ow_batch [.p, .p, .p] rfl <| ow_nil <| x_ql (RW.at (ihk1 (IntKind.i64.wrap (i15 + 1)) (H)) (fun _ h => St.sel [] rfl rfl h) ⟨rfl, rfl, rfl, trivial⟩)
   ·exact c_exit <| x_qs_exit <| x_ql_exit <| x_qb_here <| x_qs <| sR <| oP rfl <| nT <| xr 4 rfl (by cases H; exact q1)
theorem laws_eqAttr_ok (w : World) {p0 : Timpl_Attr} {p1 : Timpl_Attr} {cs0 : List Value} {cs1 : List Value} {r : Bool} (H : laws_eqAttr p0 p1 = some r)  (g0 : (eTimpl_Attr).rd w [] p0 cs0) (g1 : (eTimpl_Attr).rd w [] p1 cs1) :
    Calls Tryz.prog 129 #[.agg cs0.toArray, .agg cs1.toArray] w (fun en w' => en = .returned (.bool r) ∧ Ext [] w w') := by
 obtain ⟨c10, c11, c12, rfl, g13, g14, g15⟩ := rdo_Timpl_Attr g0
 obtain rfl := g13
 obtain ⟨a16, c17, rfl⟩ := rd_sl1 g14
 obtain ⟨a18, c19, rfl⟩ := rd_sl1 g15
 obtain ⟨c20, c21, c22, rfl, g23, g24, g25⟩ := rdo_Timpl_Attr g1
 obtain rfl := g23
 obtain ⟨a26, c27, rfl⟩ := rd_sl1 g24
 obtain ⟨a28, c29, rfl⟩ := rd_sl1 g25
 unfold laws_eqAttr at H
 refine f_enter Tryz.func129 rfl Tryz.ntmps129 rfl (St.init w []) <| sR <| ob _ rfl fun b30 => ob _ rfl fun b31 => oP rfl <| nQ <| c_seq <| sR <| ow_batch [.fa 133 0 0 fa133_0] rfl <| o1 rfl (r1 0 0 rfl ty9 rfl) <| ow_batch [.fa 133 0 0 fa133_0] rfl <| o1 rfl (r1 0 1 rfl ty9 rfl) <| oP rfl <| nQ <| cI H rfl (fun H => ?_) (fun H => ?_)
 ·exact sR <| oP rfl <| nT <| x_qs_ret <| xr 4 rfl (by cases H; exact q1)
 ·refine c_skip <| x_qs <| c_seq <| sR <| ow_batch [.fa 133 1 1 fa133_1] rfl <| o1 rfl (r1 1 0 rfl ty39 rfl) <| ow_batch [.fa 133 1 1 fa133_1] rfl <| o1 rfl (r1 1 1 rfl ty39 rfl) <| bE H fun y32 h33 H => oq rfl (qc rfl fn10 (fun w1 hw1 => laws_eqIntS_ok w1  h33 (rds_bor g14 w1 hw1) (rds_bor g24 w1 hw1))) tt2 <| oP rfl <| nQ <| cI H rfl (fun H => ?_) (fun H => ?_)
  ·exact sR <| oP rfl <| nT <| x_qs_ret <| xr 4 rfl (by cases H; exact q1)
  ·refine c_skip <| x_qs <| c_seq <| sR <| ow_batch [.fa 133 2 2 fa133_2] rfl <| o1 rfl (r1 2 0 rfl ty23 rfl) <| ow_batch [.fa 133 2 2 fa133_2] rfl <| o1 rfl (r1 2 1 rfl ty23 rfl) <| bE H fun y34 h35 H => oq rfl (qc rfl fn94 (fun w1 hw1 => laws_eqStringS_ok w1  h35 (rds_bor g15 w1 hw1) (rds_bor g25 w1 hw1))) tt2 <| oP rfl <| nQ <| cI H rfl (fun H => ?_) (fun H => ?_)
   ·exact sR <| oP rfl <| nT <| x_qs_ret <| xr 4 rfl (by cases H; exact q1)
   ·exact c_skip <| x_qs <| sR <| oP rfl <| nT <| xr 4 rfl (by cases H; exact q1)
theorem laws_eqAttrS_ok (w : World) {p0 : List Timpl_Attr} {p1 : List Timpl_Attr} {a_0 : Option Addr} {n_0 c_0 : Nat} {a_1 : Option Addr} {n_1 c_1 : Nat} {r : Bool} (H : laws_eqAttrS p0 p1 = some r)  (g0 : (eList (eTimpl_Attr) 133).rd w [] p0 [.slice a_0 n_0 c_0]) (g1 : (eList (eTimpl_Attr) 133).rd w [] p1 [.slice a_1 n_1 c_1]) :
    Calls Tryz.prog 93 #[.slice a_0 n_0 c_0, .slice a_1 n_1 c_1] w (fun en w' => en = .returned (.bool r) ∧ Ext [] w w') := by
 obtain rfl := rd_n g0
 obtain rfl := rd_n g1
 unfold laws_eqAttrS at H
 refine f_enter Tryz.func93 rfl Tryz.ntmps93 rfl (St.init w []) <| sR <| oP rfl <| nQ <| c_seq <| sR <| ow_batch [.p, .lenS 46 133 sl46, .p, .lenS 46 133 sl46, .p] rfl <| nQ <| cI H rfl (fun H => ?_) (fun H => ?_)
 ·exact sR <| oP rfl <| nT <| x_qs_ret <| xr 4 rfl (by cases H; exact q1)
 ·refine c_skip <| x_qs <| c_seq <| sR <| oP rfl <| nQ <| c_block <| CW.at (loopI1 (fun (i45 : Int) => St w [] []) (fun i45 => [(0, .slice a_0 p0.length c_0), (1, .slice a_1 p1.length c_1), (5, .int .i64 i45)]) (fun kk => fun i45 => laws_eqAttrS_L1 p0 p1 kk i45 = some r) (fun _ H => ?_) (fun k1 ihk1 i45 H => ?_) Fuel (0) (H)) (fun _ h => St.sel [] rfl rfl h) ⟨rfl, rfl, rfl,  trivial⟩
  ·unfold laws_eqAttrS_L1 at H
   exact absurd H (by simp)
  ·unfold laws_eqAttrS_L1 at H
   refine c_seq <| sR <| ow_batch [.p, .p, .lenS 46 133 sl46, .p] rfl <| nQ <| cI H rfl (fun H => ?_) (fun H => ?_)
   ·refine c_skip <| x_qs <| c_seq <| c_block <| c_seq <| c_regQ mixed (by kernel_rfl) <| oPP rfl <| bE H fun e81 h82 H => ow_ixB rfl rfl rfl rfl rfl sl46 ty133 rfl g0 h82 fun q85 c86 hd83 hA84 => ?_
    obtain ⟨c87, c88, c89, rfl, g90, g91, g92⟩ := rdo_Timpl_Attr hd83
    obtain rfl := g90
    obtain ⟨a93, c94, rfl⟩ := rd_sl1 g91
    obtain ⟨a95, c96, rfl⟩ := rd_sl1 g92
    refine o1 rfl (ry_load (cs := [vS e81.Name_, .slice a93 e81.Cuts_.length c94, .slice a95 e81.Values_.length c96]) rfl rfl ty133 (at_bor bor hA84) rfl) <| oPP rfl <| bE H fun e97 h98 H => ow_ixB rfl rfl rfl rfl rfl sl46 ty133 rfl g1 h98 fun q101 c102 hd99 hA100 => ?_
    obtain ⟨c103, c104, c105, rfl, g106, g107, g108⟩ := rdo_Timpl_Attr hd99
    obtain rfl := g106
    obtain ⟨a109, c110, rfl⟩ := rd_sl1 g107
    obtain ⟨a111, c112, rfl⟩ := rd_sl1 g108
    refine o1 rfl (ry_load (cs := [vS e97.Name_, .slice a109 e97.Cuts_.length c110, .slice a111 e97.Values_.length c112]) rfl rfl ty133 (at_bor bor hA100) rfl) <| bE H fun y113 h114 H => oq rfl (qc rfl fn129 (fun w1 hw1 => laws_eqAttr_ok w1 h114 (rdm_Timpl_Attr rfl (rds_bor g91 w1 hw1) (rds_bor g92 w1 hw1)) (rdm_Timpl_Attr rfl (rds_bor g107 w1 hw1) (rds_bor g108 w1 hw1)))) tt2 <| oP rfl <| ow_nilQ <| x_qs <| cI H rfl (fun H => ?_) (fun H => ?_)
    ·exact sR <| oP rfl <| nT <| x_qb_ret <| x_qs_ret <| x_ql_ret <| x_qb_ret <| x_qs_ret <| xr 4 rfl (by cases H; exact q1)
    ·exact c_skip <| x_qb <| x_qs <| c_reg <| ow_batch [.p, .p, .p] rfl <| ow_nil <| x_ql (RW.at (ihk1 (IntKind.i64.wrap (i45 + 1)) (H)) (fun _ h => St.sel [] rfl rfl h) ⟨rfl, rfl, rfl, trivial⟩)
   ·exact c_exit <| x_qs_exit <| x_ql_exit <| x_qb_here <| x_qs <| sR <| oP rfl <| nT <| xr 4 rfl (by cases H; exact q1)
theorem laws_eqSchema_ok (w : World) {p0 : Timpl_Schema} {p1 : Timpl_Schema} {cs0 : List Value} {cs1 : List Value} {r : Bool} (H : laws_eqSchema p0 p1 = some r)  (g0 : (eTimpl_Schema).rd w [] p0 cs0) (g1 : (eTimpl_Schema).rd w [] p1 cs1) :
    Calls Tryz.prog 54 #[.agg cs0.toArray, .agg cs1.toArray] w (fun en w' => en = .returned (.bool r) ∧ Ext [] w w') := by
 obtain ⟨c10, c11, rfl, g12, g13⟩ := rdo_Timpl_Schema g0
 obtain ⟨a14, c15, rfl⟩ := rd_sl1 g12
 obtain ⟨a16, c17, rfl⟩ := rd_sl1 g13
 obtain ⟨c18, c19, rfl, g20, g21⟩ := rdo_Timpl_Schema g1
 obtain ⟨a22, c23, rfl⟩ := rd_sl1 g20
 obtain ⟨a24, c25, rfl⟩ := rd_sl1 g21
 unfold laws_eqSchema at H
 refine f_enter Tryz.func54 rfl Tryz.ntmps54 rfl (St.init w []) <| sR <| ob _ rfl fun b26 => ob _ rfl fun b27 => oP rfl <| nQ <| c_seq <| sR <| ow_batch [.fa 48 0 0 fa48_0] rfl <| o1 rfl (r1 0 0 rfl ty46 rfl) <| ow_batch [.fa 48 0 0 fa48_0] rfl <| o1 rfl (r1 0 1 rfl ty46 rfl) <| bE H fun y28 h29 H => oq rfl (qc rfl fn93 (fun w1 hw1 => laws_eqAttrS_ok w1  h29 (rds_bor g12 w1 hw1) (rds_bor g20 w1 hw1))) tt2 <| oP rfl <| nQ <| cI H rfl (fun H => ?_) (fun H => ?_)
 ·exact sR <| oP rfl <| nT <| x_qs_ret <| xr 4 rfl (by cases H; exact q1)
 ·refine c_skip <| x_qs <| c_seq <| sR <| ow_batch [.fa 48 1 1 fa48_1] rfl <| o1 rfl (r1 1 0 rfl ty23 rfl) <| ow_batch [.fa 48 1 1 fa48_1] rfl <| o1 rfl (r1 1 1 rfl ty23 rfl) <| bE H fun y30 h31 H => oq rfl (qc rfl fn94 (fun w1 hw1 => laws_eqStringS_ok w1  h31 (rds_bor g13 w1 hw1) (rds_bor g21 w1 hw1))) tt2 <| oP rfl <| nQ <| cI H rfl (fun H => ?_) (fun H => ?_)
  ·exact sR <| oP rfl <| nT <| x_qs_ret <| xr 4 rfl (by cases H; exact q1)
  ·exact c_skip <| x_qs <| sR <| oP rfl <| nT <| xr 4 rfl (by cases H; exact q1)
theorem laws_eqRule_ok (w : World) {p0 : Timpl_Rule} {p1 : Timpl_Rule}  {r : Bool} (H : laws_eqRule p0 p1 = some r)   :
    Calls Tryz.prog 55 #[.agg #[.int .i64 p0.Sure_, .int .i64 p0.Tie_, .int .i64 p0.Grace_, .int .i64 p0.Depth_, .int .i64 p0.Nodes_, .int .i64 p0.Units_, .bool p0.Two_], .agg #[.int .i64 p1.Sure_, .int .i64 p1.Tie_, .int .i64 p1.Grace_, .int .i64 p1.Depth_, .int .i64 p1.Nodes_, .int .i64 p1.Units_, .bool p1.Two_]] w (fun en w' => en = .returned (.bool r) ∧ Ext [] w w') := by
 unfold laws_eqRule at H
 refine f_enter Tryz.func55 rfl Tryz.ntmps55 rfl (St.init w []) <| sR <| ob _ rfl fun b10 => ob _ rfl fun b11 => oP rfl <| nQ <| c_seq <| sR <| ow_batch [.fa 49 0 0 fa49_0] rfl <| o1 rfl (r1 0 0 rfl ty3 rfl) <| ow_batch [.fa 49 0 0 fa49_0] rfl <| o1 rfl (r1 0 1 rfl ty3 rfl) <| oP rfl <| nQ <| cI H rfl (fun H => ?_) (fun H => ?_)
 ·exact sR <| oP rfl <| nT <| x_qs_ret <| xr 4 rfl (by cases H; exact q1)
 ·refine c_skip <| x_qs <| c_seq <| sR <| ow_batch [.fa 49 1 1 fa49_1] rfl <| o1 rfl (r1 1 0 rfl ty3 rfl) <| ow_batch [.fa 49 1 1 fa49_1] rfl <| o1 rfl (r1 1 1 rfl ty3 rfl) <| oP rfl <| nQ <| cI H rfl (fun H => ?_) (fun H => ?_)
  ·exact sR <| oP rfl <| nT <| x_qs_ret <| xr 4 rfl (by cases H; exact q1)
  ·refine c_skip <| x_qs <| c_seq <| sR <| ow_batch [.fa 49 2 2 fa49_2] rfl <| o1 rfl (r1 2 0 rfl ty3 rfl) <| ow_batch [.fa 49 2 2 fa49_2] rfl <| o1 rfl (r1 2 1 rfl ty3 rfl) <| oP rfl <| nQ <| cI H rfl (fun H => ?_) (fun H => ?_)
   ·exact sR <| oP rfl <| nT <| x_qs_ret <| xr 4 rfl (by cases H; exact q1)
   ·refine c_skip <| x_qs <| c_seq <| sR <| ow_batch [.fa 49 3 3 fa49_3] rfl <| o1 rfl (r1 3 0 rfl ty3 rfl) <| ow_batch [.fa 49 3 3 fa49_3] rfl <| o1 rfl (r1 3 1 rfl ty3 rfl) <| oP rfl <| nQ <| cI H rfl (fun H => ?_) (fun H => ?_)
    ·exact sR <| oP rfl <| nT <| x_qs_ret <| xr 4 rfl (by cases H; exact q1)
    ·refine c_skip <| x_qs <| c_seq <| sR <| ow_batch [.fa 49 4 4 fa49_4] rfl <| o1 rfl (r1 4 0 rfl ty3 rfl) <| ow_batch [.fa 49 4 4 fa49_4] rfl <| o1 rfl (r1 4 1 rfl ty3 rfl) <| oP rfl <| nQ <| cI H rfl (fun H => ?_) (fun H => ?_)
     ·exact sR <| oP rfl <| nT <| x_qs_ret <| xr 4 rfl (by cases H; exact q1)
     ·refine c_skip <| x_qs <| c_seq <| sR <| ow_batch [.fa 49 5 5 fa49_5] rfl <| o1 rfl (r1 5 0 rfl ty3 rfl) <| ow_batch [.fa 49 5 5 fa49_5] rfl <| o1 rfl (r1 5 1 rfl ty3 rfl) <| oP rfl <| nQ <| cI H rfl (fun H => ?_) (fun H => ?_)
      ·exact sR <| oP rfl <| nT <| x_qs_ret <| xr 4 rfl (by cases H; exact q1)
      ·refine c_skip <| x_qs <| c_seq <| sR <| ow_batch [.fa 49 6 6 fa49_6] rfl <| o1 rfl (r1 6 0 rfl ty4 rfl) <| ow_batch [.fa 49 6 6 fa49_6] rfl <| o1 rfl (r1 6 1 rfl ty4 rfl) <| o1 rfl (ry_bneq rfl rfl rfl bl4) <| nQ <| cI H rfl (fun H => ?_) (fun H => ?_)
       ·exact sR <| oP rfl <| nT <| x_qs_ret <| xr 4 rfl (by cases H; exact q1)
       ·exact c_skip <| x_qs <| sR <| oP rfl <| nT <| xr 4 rfl (by cases H; exact q1)
theorem laws_eqConf_ok (w : World) {p0 : Timpl_Conf} {p1 : Timpl_Conf} {cs0 : List Value} {cs1 : List Value} {r : Bool} (H : laws_eqConf p0 p1 = some r)  (g0 : (eTimpl_Conf).rd w [] p0 cs0) (g1 : (eTimpl_Conf).rd w [] p1 cs1) :
    Calls Tryz.prog 27 #[.agg cs0.toArray, .agg cs1.toArray] w (fun en w' => en = .returned (.bool r) ∧ Ext [] w w') := by
 obtain ⟨c10, c11, c12, c13, c14, c15, c16, rfl, g17, g18, g19, g20, g21, g22, g23⟩ := rdo_Timpl_Conf g0
 obtain ⟨c24, c25, rfl, g26, g27⟩ := rdo_Timpl_Schema g17
 obtain ⟨a28, c29, rfl⟩ := rd_sl1 g26
 obtain ⟨a30, c31, rfl⟩ := rd_sl1 g27
 obtain rfl := g18
 obtain rfl := g19
 obtain rfl := g20
 obtain rfl := g21
 obtain rfl := g22
 obtain rfl := g23
 obtain ⟨c32, c33, c34, c35, c36, c37, c38, rfl, g39, g40, g41, g42, g43, g44, g45⟩ := rdo_Timpl_Conf g1
 obtain ⟨c46, c47, rfl, g48, g49⟩ := rdo_Timpl_Schema g39
 obtain ⟨a50, c51, rfl⟩ := rd_sl1 g48
 obtain ⟨a52, c53, rfl⟩ := rd_sl1 g49
 obtain rfl := g40
 obtain rfl := g41
 obtain rfl := g42
 obtain rfl := g43
 obtain rfl := g44
 obtain rfl := g45
 unfold laws_eqConf at H
 refine f_enter Tryz.func27 rfl Tryz.ntmps27 rfl (St.init w []) <| sR <| ob _ rfl fun b54 => ob _ rfl fun b55 => oP rfl <| nQ <| c_seq <| sR <| ow_batch [.fa 51 0 0 fa51_0] rfl <| o1 rfl (rx 0 0 _ rfl ty48 rfl) <| ow_batch [.fa 51 0 0 fa51_0] rfl <| o1 rfl (rx 0 1 _ rfl ty48 rfl) <| bE H fun y56 h57 H => oq rfl (qc rfl fn54 (fun w1 hw1 => laws_eqSchema_ok w1 h57 (rdm_Timpl_Schema (rds_bor g26 w1 hw1) (rds_bor g27 w1 hw1)) (rdm_Timpl_Schema (rds_bor g48 w1 hw1) (rds_bor g49 w1 hw1)))) tt2 <| oP rfl <| nQ <| cI H rfl (fun H => ?_) (fun H => ?_)
 ·exact sR <| oP rfl <| nT <| x_qs_ret <| xr 4 rfl (by cases H; exact q1)
 ·refine c_skip <| x_qs <| c_seq <| sR <| ow_batch [.fa 51 1 2 fa51_1] rfl <| o1 rfl (rx 2 0 _ rfl ty49 rfl) <| ow_batch [.fa 51 1 2 fa51_1] rfl <| o1 rfl (rx 2 1 _ rfl ty49 rfl) <| bE H fun y58 h59 H => oq rfl (qc rfl fn55 (fun w1 hw1 => laws_eqRule_ok w1 (p0 := p0.Rule_) (p1 := p1.Rule_) h59)) tt2 <| oP rfl <| nQ <| cI H rfl (fun H => ?_) (fun H => ?_)
  ·exact sR <| oP rfl <| nT <| x_qs_ret <| xr 4 rfl (by cases H; exact q1)
  ·refine c_skip <| x_qs <| c_seq <| sR <| ow_batch [.fa 51 2 9 fa51_2] rfl <| o1 rfl (r1 9 0 rfl ty3 rfl) <| ow_batch [.fa 51 2 9 fa51_2] rfl <| o1 rfl (r1 9 1 rfl ty3 rfl) <| oP rfl <| nQ <| cI H rfl (fun H => ?_) (fun H => ?_)
   ·exact sR <| oP rfl <| nT <| x_qs_ret <| xr 4 rfl (by cases H; exact q1)
   ·refine c_skip <| x_qs <| c_seq <| sR <| ow_batch [.fa 51 3 10 fa51_3] rfl <| o1 rfl (r1 10 0 rfl ty3 rfl) <| ow_batch [.fa 51 3 10 fa51_3] rfl <| o1 rfl (r1 10 1 rfl ty3 rfl) <| oP rfl <| nQ <| cI H rfl (fun H => ?_) (fun H => ?_)
    ·exact sR <| oP rfl <| nT <| x_qs_ret <| xr 4 rfl (by cases H; exact q1)
    ·refine c_skip <| x_qs <| c_seq <| sR <| ow_batch [.fa 51 4 11 fa51_4] rfl <| o1 rfl (r1 11 0 rfl ty3 rfl) <| ow_batch [.fa 51 4 11 fa51_4] rfl <| o1 rfl (r1 11 1 rfl ty3 rfl) <| oP rfl <| nQ <| cI H rfl (fun H => ?_) (fun H => ?_)
     ·exact sR <| oP rfl <| nT <| x_qs_ret <| xr 4 rfl (by cases H; exact q1)
     ·refine c_skip <| x_qs <| c_seq <| sR <| ow_batch [.fa 51 5 12 fa51_5] rfl <| o1 rfl (r1 12 0 rfl ty3 rfl) <| ow_batch [.fa 51 5 12 fa51_5] rfl <| o1 rfl (r1 12 1 rfl ty3 rfl) <| oP rfl <| nQ <| cI H rfl (fun H => ?_) (fun H => ?_)
      ·exact sR <| oP rfl <| nT <| x_qs_ret <| xr 4 rfl (by cases H; exact q1)
      ·refine c_skip <| x_qs <| c_seq <| sR <| ow_batch [.fa 51 6 13 fa51_6] rfl <| o1 rfl (r1 13 0 rfl ty3 rfl) <| ow_batch [.fa 51 6 13 fa51_6] rfl <| o1 rfl (r1 13 1 rfl ty3 rfl) <| oP rfl <| nQ <| cI H rfl (fun H => ?_) (fun H => ?_)
       ·exact sR <| oP rfl <| nT <| x_qs_ret <| xr 4 rfl (by cases H; exact q1)
       ·exact c_skip <| x_qs <| sR <| oP rfl <| nT <| xr 4 rfl (by cases H; exact q1)
theorem laws_eqFork_ok (w : World) {p0 : Timpl_Fork} {p1 : Timpl_Fork}  {r : Bool} (H : laws_eqFork p0 p1 = some r)   :
    Calls Tryz.prog 191 #[.agg #[.int .i64 p0.Attr_, .int .i64 p0.At_], .agg #[.int .i64 p1.Attr_, .int .i64 p1.At_]] w (fun en w' => en = .returned (.bool r) ∧ Ext [] w w') := by
 unfold laws_eqFork at H
 refine f_enter Tryz.func191 rfl Tryz.ntmps191 rfl (St.init w []) <| sR <| ob _ rfl fun b10 => ob _ rfl fun b11 => oP rfl <| nQ <| c_seq <| sR <| ow_batch [.fa 165 0 0 fa165_0] rfl <| o1 rfl (r1 0 0 rfl ty3 rfl) <| ow_batch [.fa 165 0 0 fa165_0] rfl <| o1 rfl (r1 0 1 rfl ty3 rfl) <| oP rfl <| nQ <| cI H rfl (fun H => ?_) (fun H => ?_)
 ·exact sR <| oP rfl <| nT <| x_qs_ret <| xr 4 rfl (by cases H; exact q1)
 ·refine c_skip <| x_qs <| c_seq <| sR <| ow_batch [.fa 165 1 1 fa165_1] rfl <| o1 rfl (r1 1 0 rfl ty3 rfl) <| ow_batch [.fa 165 1 1 fa165_1] rfl <| o1 rfl (r1 1 1 rfl ty3 rfl) <| oP rfl <| nQ <| cI H rfl (fun H => ?_) (fun H => ?_)
  ·exact sR <| oP rfl <| nT <| x_qs_ret <| xr 4 rfl (by cases H; exact q1)
  ·exact c_skip <| x_qs <| sR <| oP rfl <| nT <| xr 4 rfl (by cases H; exact q1)
theorem laws_eqIntSS_ok (w : World) {p0 : List (List Int)} {p1 : List (List Int)} {a_0 : Option Addr} {n_0 c_0 : Nat} {a_1 : Option Addr} {n_1 c_1 : Nat} {r : Bool} (H : laws_eqIntSS p0 p1 = some r)  (g0 : (eList (eList eI 3) 39).rd w [] p0 [.slice a_0 n_0 c_0]) (g1 : (eList (eList eI 3) 39).rd w [] p1 [.slice a_1 n_1 c_1]) :
    Calls Tryz.prog 57 #[.slice a_0 n_0 c_0, .slice a_1 n_1 c_1] w (fun en w' => en = .returned (.bool r) ∧ Ext [] w w') := by
 obtain rfl := rd_n g0
 obtain rfl := rd_n g1
 unfold laws_eqIntSS at H
 refine f_enter Tryz.func57 rfl Tryz.ntmps57 rfl (St.init w []) <| sR <| oP rfl <| nQ <| c_seq <| sR <| ow_batch [.p, .lenS 33 39 sl33, .p, .lenS 33 39 sl33, .p] rfl <| nQ <| cI H rfl (fun H => ?_) (fun H => ?_)
 ·exact sR <| oP rfl <| nT <| x_qs_ret <| xr 4 rfl (by cases H; exact q1)
 ·refine c_skip <| x_qs <| c_seq <| sR <| oP rfl <| nQ <| c_block <| CW.at (loopI1 (fun (i29 : Int) => St w [] []) (fun i29 => [(0, .slice a_0 p0.length c_0), (1, .slice a_1 p1.length c_1), (5, .int .i64 i29)]) (fun kk => fun i29 => laws_eqIntSS_L1 p0 p1 kk i29 = some r) (fun _ H => ?_) (fun k1 ihk1 i29 H => ?_) Fuel (0) (H)) (fun _ h => St.sel [] rfl rfl h) ⟨rfl, rfl, rfl,  trivial⟩
  ·unfold laws_eqIntSS_L1 at H
   exact absurd H (by simp)
  ·unfold laws_eqIntSS_L1 at H
   refine c_seq <| sR <| ow_batch [.p, .p, .lenS 33 39 sl33, .p] rfl <| nQ <| cI H rfl (fun H => ?_) (fun H => ?_)
   ·refine c_skip <| x_qs <| c_seq <| c_block <| c_seq <| c_regQ mixed (by kernel_rfl) <| oPP rfl <| bE H fun e49 h50 H => ow_ixB rfl rfl rfl rfl rfl sl33 ty39 rfl g0 h50 fun q53 c54 hd51 hA52 => ?_
    obtain ⟨a55, c56, rfl⟩ := rd_sl1 hd51
    refine o1 rfl (ry_load1 rfl rfl ty39 (at_bor bor hA52)) <| oPP rfl <| bE H fun e57 h58 H => ow_ixB rfl rfl rfl rfl rfl sl33 ty39 rfl g1 h58 fun q61 c62 hd59 hA60 => ?_
    obtain ⟨a63, c64, rfl⟩ := rd_sl1 hd59
    refine o1 rfl (ry_load1 rfl rfl ty39 (at_bor bor hA60)) <| bE H fun y65 h66 H => oq rfl (qc rfl fn10 (fun w1 hw1 => laws_eqIntS_ok w1  h66 (rds_bor hd51 w1 hw1) (rds_bor hd59 w1 hw1))) tt2 <| oP rfl <| ow_nilQ <| x_qs <| cI H rfl (fun H => ?_) (fun H => ?_)
    ·exact sR <| oP rfl <| nT <| x_qb_ret <| x_qs_ret <| x_ql_ret <| x_qb_ret <| x_qs_ret <| xr 4 rfl (by cases H; exact q1)
    ·exact c_skip <| x_qb <| x_qs <| c_reg <| ow_batch [.p, .p, .p] rfl <| ow_nil <| x_ql (RW.at (ihk1 (IntKind.i64.wrap (i29 + 1)) (H)) (fun _ h => St.sel [] rfl rfl h) ⟨rfl, rfl, rfl, trivial⟩)
   ·exact c_exit <| x_qs_exit <| x_ql_exit <| x_qb_here <| x_qs <| sR <| oP rfl <| nT <| xr 4 rfl (by cases H; exact q1)
theorem laws_eqStats_ok (w : World) {p0 : Timpl_Stats} {p1 : Timpl_Stats} {cs0 : List Value} {cs1 : List Value} {r : Bool} (H : laws_eqStats p0 p1 = some r)  (g0 : (eTimpl_Stats).rd w [] p0 cs0) (g1 : (eTimpl_Stats).rd w [] p1 cs1) :
    Calls Tryz.prog 192 #[.agg cs0.toArray, .agg cs1.toArray] w (fun en w' => en = .returned (.bool r) ∧ Ext [] w w') := by
 obtain ⟨c10, c11, rfl, g12, g13⟩ := rdo_Timpl_Stats g0
 obtain ⟨a14, c15, rfl⟩ := rd_sl1 g12
 obtain ⟨a16, c17, rfl⟩ := rd_sl1 g13
 obtain ⟨c18, c19, rfl, g20, g21⟩ := rdo_Timpl_Stats g1
 obtain ⟨a22, c23, rfl⟩ := rd_sl1 g20
 obtain ⟨a24, c25, rfl⟩ := rd_sl1 g21
 unfold laws_eqStats at H
 refine f_enter Tryz.func192 rfl Tryz.ntmps192 rfl (St.init w []) <| sR <| ob _ rfl fun b26 => ob _ rfl fun b27 => oP rfl <| nQ <| c_seq <| sR <| ow_batch [.fa 167 0 0 fa167_0] rfl <| o1 rfl (r1 0 0 rfl ty39 rfl) <| ow_batch [.fa 167 0 0 fa167_0] rfl <| o1 rfl (r1 0 1 rfl ty39 rfl) <| bE H fun y28 h29 H => oq rfl (qc rfl fn10 (fun w1 hw1 => laws_eqIntS_ok w1  h29 (rds_bor g12 w1 hw1) (rds_bor g20 w1 hw1))) tt2 <| oP rfl <| nQ <| cI H rfl (fun H => ?_) (fun H => ?_)
 ·exact sR <| oP rfl <| nT <| x_qs_ret <| xr 4 rfl (by cases H; exact q1)
 ·refine c_skip <| x_qs <| c_seq <| sR <| ow_batch [.fa 167 1 1 fa167_1] rfl <| o1 rfl (r1 1 0 rfl ty33 rfl) <| ow_batch [.fa 167 1 1 fa167_1] rfl <| o1 rfl (r1 1 1 rfl ty33 rfl) <| bE H fun y30 h31 H => oq rfl (qc rfl fn57 (fun w1 hw1 => laws_eqIntSS_ok w1  h31 (rds_bor g13 w1 hw1) (rds_bor g21 w1 hw1))) tt2 <| oP rfl <| nQ <| cI H rfl (fun H => ?_) (fun H => ?_)
  ·exact sR <| oP rfl <| nT <| x_qs_ret <| xr 4 rfl (by cases H; exact q1)
  ·exact c_skip <| x_qs <| sR <| oP rfl <| nT <| xr 4 rfl (by cases H; exact q1)
theorem laws_eqNode_ok (w : World) {p0 : Timpl_Node} {p1 : Timpl_Node} {cs0 : List Value} {cs1 : List Value} {r : Bool} (H : laws_eqNode p0 p1 = some r)  (g0 : (eTimpl_Node).rd w [] p0 cs0) (g1 : (eTimpl_Node).rd w [] p1 cs1) :
    Calls Tryz.prog 176 #[.agg cs0.toArray, .agg cs1.toArray] w (fun en w' => en = .returned (.bool r) ∧ Ext [] w w') := by
 obtain ⟨c10, c11, c12, c13, c14, c15, c16, c17, c18, c19, rfl, g20, g21, g22, g23, g24, g25, g26, g27, g28, g29⟩ := rdo_Timpl_Node g0
 obtain rfl := g20
 obtain rfl := g21
 obtain ⟨a30, c31, rfl⟩ := rd_sl1 g22
 obtain rfl := g23
 obtain ⟨c32, c33, rfl, g34, g35⟩ := rdo_Timpl_Stats g24
 obtain ⟨a36, c37, rfl⟩ := rd_sl1 g34
 obtain ⟨a38, c39, rfl⟩ := rd_sl1 g35
 obtain rfl := g25
 obtain ⟨a40, c41, rfl⟩ := rd_sl1 g26
 obtain rfl := g27
 obtain rfl := g28
 obtain rfl := g29
 obtain ⟨c42, c43, c44, c45, c46, c47, c48, c49, c50, c51, rfl, g52, g53, g54, g55, g56, g57, g58, g59, g60, g61⟩ := rdo_Timpl_Node g1
 obtain rfl := g52
 obtain rfl := g53
 obtain ⟨a62, c63, rfl⟩ := rd_sl1 g54
 obtain rfl := g55
 obtain ⟨c64, c65, rfl, g66, g67⟩ := rdo_Timpl_Stats g56
 obtain ⟨a68, c69, rfl⟩ := rd_sl1 g66
 obtain ⟨a70, c71, rfl⟩ := rd_sl1 g67
 obtain rfl := g57
 obtain ⟨a72, c73, rfl⟩ := rd_sl1 g58
 obtain rfl := g59
 obtain rfl := g60
 obtain rfl := g61
 unfold laws_eqNode at H
 refine f_enter Tryz.func176 rfl Tryz.ntmps176 rfl (St.init w []) <| sR <| ob _ rfl fun b74 => ob _ rfl fun b75 => oP rfl <| nQ <| c_seq <| sR <| ow_batch [.fa 169 0 0 fa169_0] rfl <| o1 rfl (r1 0 0 rfl ty4 rfl) <| ow_batch [.fa 169 0 0 fa169_0] rfl <| o1 rfl (r1 0 1 rfl ty4 rfl) <| o1 rfl (ry_bneq rfl rfl rfl bl4) <| nQ <| cI H rfl (fun H => ?_) (fun H => ?_)
 ·exact sR <| oP rfl <| nT <| x_qs_ret <| xr 4 rfl (by cases H; exact q1)
 ·refine c_skip <| x_qs <| c_seq <| sR <| ow_batch [.fa 169 1 1 fa169_1] rfl <| o1 rfl (rx 1 0 _ rfl ty165 rfl) <| ow_batch [.fa 169 1 1 fa169_1] rfl <| o1 rfl (rx 1 1 _ rfl ty165 rfl) <| bE H fun y76 h77 H => oq rfl (qc rfl fn191 (fun w1 hw1 => laws_eqFork_ok w1 (p0 := p0.Fork_) (p1 := p1.Fork_) h77)) tt2 <| oP rfl <| nQ <| cI H rfl (fun H => ?_) (fun H => ?_)
  ·exact sR <| oP rfl <| nT <| x_qs_ret <| xr 4 rfl (by cases H; exact q1)
  ·refine c_skip <| x_qs <| c_seq <| sR <| ow_batch [.fa 169 2 3 fa169_2] rfl <| o1 rfl (r1 3 0 rfl ty39 rfl) <| ow_batch [.fa 169 2 3 fa169_2] rfl <| o1 rfl (r1 3 1 rfl ty39 rfl) <| bE H fun y78 h79 H => oq rfl (qc rfl fn10 (fun w1 hw1 => laws_eqIntS_ok w1  h79 (rds_bor g22 w1 hw1) (rds_bor g54 w1 hw1))) tt2 <| oP rfl <| nQ <| cI H rfl (fun H => ?_) (fun H => ?_)
   ·exact sR <| oP rfl <| nT <| x_qs_ret <| xr 4 rfl (by cases H; exact q1)
   ·refine c_skip <| x_qs <| c_seq <| sR <| ow_batch [.fa 169 3 4 fa169_3] rfl <| o1 rfl (r1 4 0 rfl ty3 rfl) <| ow_batch [.fa 169 3 4 fa169_3] rfl <| o1 rfl (r1 4 1 rfl ty3 rfl) <| oP rfl <| nQ <| cI H rfl (fun H => ?_) (fun H => ?_)
    ·exact sR <| oP rfl <| nT <| x_qs_ret <| xr 4 rfl (by cases H; exact q1)
    ·refine c_skip <| x_qs <| c_seq <| sR <| ow_batch [.fa 169 4 5 fa169_4] rfl <| o1 rfl (rx 5 0 _ rfl ty167 rfl) <| ow_batch [.fa 169 4 5 fa169_4] rfl <| o1 rfl (rx 5 1 _ rfl ty167 rfl) <| bE H fun y80 h81 H => oq rfl (qc rfl fn192 (fun w1 hw1 => laws_eqStats_ok w1 h81 (rdm_Timpl_Stats (rds_bor g34 w1 hw1) (rds_bor g35 w1 hw1)) (rdm_Timpl_Stats (rds_bor g66 w1 hw1) (rds_bor g67 w1 hw1)))) tt2 <| oP rfl <| nQ <| cI H rfl (fun H => ?_) (fun H => ?_)
     ·exact sR <| oP rfl <| nT <| x_qs_ret <| xr 4 rfl (by cases H; exact q1)
     ·refine c_skip <| x_qs <| c_seq <| sR <| ow_batch [.fa 169 5 7 fa169_5] rfl <| o1 rfl (r1 7 0 rfl ty3 rfl) <| ow_batch [.fa 169 5 7 fa169_5] rfl <| o1 rfl (r1 7 1 rfl ty3 rfl) <| oP rfl <| nQ <| cI H rfl (fun H => ?_) (fun H => ?_)
      ·exact sR <| oP rfl <| nT <| x_qs_ret <| xr 4 rfl (by cases H; exact q1)
      ·refine c_skip <| x_qs <| c_seq <| sR <| ow_batch [.fa 169 6 8 fa169_6] rfl <| o1 rfl (r1 8 0 rfl ty39 rfl) <| ow_batch [.fa 169 6 8 fa169_6] rfl <| o1 rfl (r1 8 1 rfl ty39 rfl) <| bE H fun y82 h83 H => oq rfl (qc rfl fn10 (fun w1 hw1 => laws_eqIntS_ok w1  h83 (rds_bor g26 w1 hw1) (rds_bor g58 w1 hw1))) tt2 <| oP rfl <| nQ <| cI H rfl (fun H => ?_) (fun H => ?_)
       ·exact sR <| oP rfl <| nT <| x_qs_ret <| xr 4 rfl (by cases H; exact q1)
       ·refine c_skip <| x_qs <| c_seq <| sR <| ow_batch [.fa 169 7 9 fa169_7] rfl <| o1 rfl (r1 9 0 rfl ty3 rfl) <| ow_batch [.fa 169 7 9 fa169_7] rfl <| o1 rfl (r1 9 1 rfl ty3 rfl) <| oP rfl <| nQ <| cI H rfl (fun H => ?_) (fun H => ?_)
        ·exact sR <| oP rfl <| nT <| x_qs_ret <| xr 4 rfl (by cases H; exact q1)
        ·refine c_skip <| x_qs <| c_seq <| sR <| ow_batch [.fa 169 8 10 fa169_8] rfl <| o1 rfl (r1 10 0 rfl ty3 rfl) <| ow_batch [.fa 169 8 10 fa169_8] rfl <| o1 rfl (r1 10 1 rfl ty3 rfl) <| oP rfl <| nQ <| cI H rfl (fun H => ?_) (fun H => ?_)
         ·exact sR <| oP rfl <| nT <| x_qs_ret <| xr 4 rfl (by cases H; exact q1)
         ·refine c_skip <| x_qs <| c_seq <| sR <| ow_batch [.fa 169 9 11 fa169_9] rfl <| o1 rfl (r1 11 0 rfl ty3 rfl) <| ow_batch [.fa 169 9 11 fa169_9] rfl <| o1 rfl (r1 11 1 rfl ty3 rfl) <| oP rfl <| nQ <| cI H rfl (fun H => ?_) (fun H => ?_)
          ·exact sR <| oP rfl <| nT <| x_qs_ret <| xr 4 rfl (by cases H; exact q1)
          ·exact c_skip <| x_qs <| sR <| oP rfl <| nT <| xr 4 rfl (by cases H; exact q1)
theorem laws_eqNodeS_ok (w : World) {p0 : List Timpl_Node} {p1 : List Timpl_Node} {a_0 : Option Addr} {n_0 c_0 : Nat} {a_1 : Option Addr} {n_1 c_1 : Nat} {r : Bool} (H : laws_eqNodeS p0 p1 = some r)  (g0 : (eList (eTimpl_Node) 169).rd w [] p0 [.slice a_0 n_0 c_0]) (g1 : (eList (eTimpl_Node) 169).rd w [] p1 [.slice a_1 n_1 c_1]) :
    Calls Tryz.prog 155 #[.slice a_0 n_0 c_0, .slice a_1 n_1 c_1] w (fun en w' => en = .returned (.bool r) ∧ Ext [] w w') := by
 obtain rfl := rd_n g0
 obtain rfl := rd_n g1
 unfold laws_eqNodeS at H
 refine f_enter Tryz.func155 rfl Tryz.ntmps155 rfl (St.init w []) <| sR <| oP rfl <| nQ <| c_seq <| sR <| ow_batch [.p, .lenS 91 169 sl91, .p, .lenS 91 169 sl91, .p] rfl <| nQ <| cI H rfl (fun H => ?_) (fun H => ?_)
 ·exact sR <| oP rfl <| nT <| x_qs_ret <| xr 4 rfl (by cases H; exact q1)
 ·refine c_skip <| x_qs <| c_seq <| sR <| oP rfl <| nQ <| c_block <| CW.at (loopI1 (fun (i89 : Int) => St w [] []) (fun i89 => [(0, .slice a_0 p0.length c_0), (1, .slice a_1 p1.length c_1), (5, .int .i64 i89)]) (fun kk => fun i89 => laws_eqNodeS_L1 p0 p1 kk i89 = some r) (fun _ H => ?_) (fun k1 ihk1 i89 H => ?_) Fuel (0) (H)) (fun _ h => St.sel [] rfl rfl h) ⟨rfl, rfl, rfl,  trivial⟩
  ·unfold laws_eqNodeS_L1 at H
   exact absurd H (by simp)
  ·unfold laws_eqNodeS_L1 at H
   refine c_seq <| sR <| ow_batch [.p, .p, .lenS 91 169 sl91, .p] rfl <| nQ <| cI H rfl (fun H => ?_) (fun H => ?_)
   ·refine c_skip <| x_qs <| c_seq <| c_block <| c_seq <| c_regQ mixed (by kernel_rfl) <| oPP rfl <| bE H fun e169 h170 H => ow_ixB rfl rfl rfl rfl rfl sl91 ty169 rfl g0 h170 fun q173 c174 hd171 hA172 => ?_
    obtain ⟨c175, c176, c177, c178, c179, c180, c181, c182, c183, c184, rfl, g185, g186, g187, g188, g189, g190, g191, g192, g193, g194⟩ := rdo_Timpl_Node hd171
    obtain rfl := g185
    obtain rfl := g186
    obtain ⟨a195, c196, rfl⟩ := rd_sl1 g187
    obtain rfl := g188
    obtain ⟨c197, c198, rfl, g199, g200⟩ := rdo_Timpl_Stats g189
    obtain ⟨a201, c202, rfl⟩ := rd_sl1 g199
    obtain ⟨a203, c204, rfl⟩ := rd_sl1 g200
    obtain rfl := g190
    obtain ⟨a205, c206, rfl⟩ := rd_sl1 g191
    obtain rfl := g192
    obtain rfl := g193
    obtain rfl := g194
    refine o1 rfl (ry_load (cs := [.bool e169.Leaf_, .int .i64 e169.Fork_.Attr_, .int .i64 e169.Fork_.At_, .slice a195 e169.Kids_.length c196, .int .i64 e169.Miss_, .slice a201 e169.Stats_.Totals_.length c202, .slice a203 e169.Stats_.Cells_.length c204, .int .i64 e169.Since_, .slice a205 e169.Attrs_.length c206, .int .i64 e169.Depth_, .int .i64 e169.Up_, .int .i64 e169.Born_]) rfl rfl ty169 (at_bor bor hA172) rfl) <| oPP rfl <| bE H fun e207 h208 H => ow_ixB rfl rfl rfl rfl rfl sl91 ty169 rfl g1 h208 fun q211 c212 hd209 hA210 => ?_
    obtain ⟨c213, c214, c215, c216, c217, c218, c219, c220, c221, c222, rfl, g223, g224, g225, g226, g227, g228, g229, g230, g231, g232⟩ := rdo_Timpl_Node hd209
    obtain rfl := g223
    obtain rfl := g224
    obtain ⟨a233, c234, rfl⟩ := rd_sl1 g225
    obtain rfl := g226
    obtain ⟨c235, c236, rfl, g237, g238⟩ := rdo_Timpl_Stats g227
    obtain ⟨a239, c240, rfl⟩ := rd_sl1 g237
    obtain ⟨a241, c242, rfl⟩ := rd_sl1 g238
    obtain rfl := g228
    obtain ⟨a243, c244, rfl⟩ := rd_sl1 g229
    obtain rfl := g230
    obtain rfl := g231
    obtain rfl := g232
    refine o1 rfl (ry_load (cs := [.bool e207.Leaf_, .int .i64 e207.Fork_.Attr_, .int .i64 e207.Fork_.At_, .slice a233 e207.Kids_.length c234, .int .i64 e207.Miss_, .slice a239 e207.Stats_.Totals_.length c240, .slice a241 e207.Stats_.Cells_.length c242, .int .i64 e207.Since_, .slice a243 e207.Attrs_.length c244, .int .i64 e207.Depth_, .int .i64 e207.Up_, .int .i64 e207.Born_]) rfl rfl ty169 (at_bor bor hA210) rfl) <| bE H fun y245 h246 H => oq rfl (qc rfl fn176 (fun w1 hw1 => laws_eqNode_ok w1 h246 (rdm_Timpl_Node rfl rfl (rds_bor g187 w1 hw1) rfl (rdm_Timpl_Stats (rds_bor g199 w1 hw1) (rds_bor g200 w1 hw1)) rfl (rds_bor g191 w1 hw1) rfl rfl rfl) (rdm_Timpl_Node rfl rfl (rds_bor g225 w1 hw1) rfl (rdm_Timpl_Stats (rds_bor g237 w1 hw1) (rds_bor g238 w1 hw1)) rfl (rds_bor g229 w1 hw1) rfl rfl rfl))) tt2 <| oP rfl <| ow_nilQ <| x_qs <| cI H rfl (fun H => ?_) (fun H => ?_)
    ·exact sR <| oP rfl <| nT <| x_qb_ret <| x_qs_ret <| x_ql_ret <| x_qb_ret <| x_qs_ret <| xr 4 rfl (by cases H; exact q1)
    ·exact c_skip <| x_qb <| x_qs <| c_reg <| ow_batch [.p, .p, .p] rfl <| ow_nil <| x_ql (RW.at (ihk1 (IntKind.i64.wrap (i89 + 1)) (H)) (fun _ h => St.sel [] rfl rfl h) ⟨rfl, rfl, rfl, trivial⟩)
   ·exact c_exit <| x_qs_exit <| x_ql_exit <| x_qb_here <| x_qs <| sR <| oP rfl <| nT <| xr 4 rfl (by cases H; exact q1)
theorem laws_eqTree_ok (w : World) {p0 : Timpl_Tree} {p1 : Timpl_Tree} {cs0 : List Value} {cs1 : List Value} {r : Bool} (H : laws_eqTree p0 p1 = some r)  (g0 : (eTimpl_Tree).rd w [] p0 cs0) (g1 : (eTimpl_Tree).rd w [] p1 cs1) :
    Calls Tryz.prog 130 #[.agg cs0.toArray, .agg cs1.toArray] w (fun en w' => en = .returned (.bool r) ∧ Ext [] w w') := by
 obtain ⟨c10, c11, rfl, g12, g13⟩ := rdo_Timpl_Tree g0
 obtain ⟨a14, c15, rfl⟩ := rd_sl1 g12
 obtain rfl := g13
 obtain ⟨c16, c17, rfl, g18, g19⟩ := rdo_Timpl_Tree g1
 obtain ⟨a20, c21, rfl⟩ := rd_sl1 g18
 obtain rfl := g19
 unfold laws_eqTree at H
 refine f_enter Tryz.func130 rfl Tryz.ntmps130 rfl (St.init w []) <| sR <| ob _ rfl fun b22 => ob _ rfl fun b23 => oP rfl <| nQ <| c_seq <| sR <| ow_batch [.fa 93 0 0 fa93_0] rfl <| o1 rfl (r1 0 0 rfl ty91 rfl) <| ow_batch [.fa 93 0 0 fa93_0] rfl <| o1 rfl (r1 0 1 rfl ty91 rfl) <| bE H fun y24 h25 H => oq rfl (qc rfl fn155 (fun w1 hw1 => laws_eqNodeS_ok w1  h25 (rds_bor g12 w1 hw1) (rds_bor g18 w1 hw1))) tt2 <| oP rfl <| nQ <| cI H rfl (fun H => ?_) (fun H => ?_)
 ·exact sR <| oP rfl <| nT <| x_qs_ret <| xr 4 rfl (by cases H; exact q1)
 ·refine c_skip <| x_qs <| c_seq <| sR <| ow_batch [.fa 93 1 1 fa93_1] rfl <| o1 rfl (r1 1 0 rfl ty3 rfl) <| ow_batch [.fa 93 1 1 fa93_1] rfl <| o1 rfl (r1 1 1 rfl ty3 rfl) <| oP rfl <| nQ <| cI H rfl (fun H => ?_) (fun H => ?_)
  ·exact sR <| oP rfl <| nT <| x_qs_ret <| xr 4 rfl (by cases H; exact q1)
  ·exact c_skip <| x_qs <| sR <| oP rfl <| nT <| xr 4 rfl (by cases H; exact q1)
theorem laws_eqWindow_ok (w : World) {p0 : Timpl_Window} {p1 : Timpl_Window} {cs0 : List Value} {cs1 : List Value} {r : Bool} (H : laws_eqWindow p0 p1 = some r)  (g0 : (eTimpl_Window).rd w [] p0 cs0) (g1 : (eTimpl_Window).rd w [] p1 cs1) :
    Calls Tryz.prog 156 #[.agg cs0.toArray, .agg cs1.toArray] w (fun en w' => en = .returned (.bool r) ∧ Ext [] w w') := by
 obtain ⟨c10, rfl, g11⟩ := rdo_Timpl_Window g0
 obtain ⟨a12, c13, rfl⟩ := rd_sl1 g11
 obtain ⟨c14, rfl, g15⟩ := rdo_Timpl_Window g1
 obtain ⟨a16, c17, rfl⟩ := rd_sl1 g15
 unfold laws_eqWindow at H
 refine f_enter Tryz.func156 rfl Tryz.ntmps156 rfl (St.init w []) <| sR <| ob _ rfl fun b18 => ob _ rfl fun b19 => oP rfl <| nQ <| c_seq <| sR <| ow_batch [.fa 95 0 0 fa95_0] rfl <| o1 rfl (r1 0 0 rfl ty33 rfl) <| ow_batch [.fa 95 0 0 fa95_0] rfl <| o1 rfl (r1 0 1 rfl ty33 rfl) <| bE H fun y20 h21 H => oq rfl (qc rfl fn57 (fun w1 hw1 => laws_eqIntSS_ok w1  h21 (rds_bor g11 w1 hw1) (rds_bor g15 w1 hw1))) tt2 <| oP rfl <| nQ <| cI H rfl (fun H => ?_) (fun H => ?_)
 ·exact sR <| oP rfl <| nT <| x_qs_ret <| xr 4 rfl (by cases H; exact q1)
 ·exact c_skip <| x_qs <| sR <| oP rfl <| nT <| xr 4 rfl (by cases H; exact q1)
theorem laws_eqDet_ok (w : World) {p0 : Timpl_Det} {p1 : Timpl_Det} {cs0 : List Value} {cs1 : List Value} {r : Bool} (H : laws_eqDet p0 p1 = some r)  (g0 : (eTimpl_Det).rd w [] p0 cs0) (g1 : (eTimpl_Det).rd w [] p1 cs1) :
    Calls Tryz.prog 131 #[.agg cs0.toArray, .agg cs1.toArray] w (fun en w' => en = .returned (.bool r) ∧ Ext [] w w') := by
 obtain ⟨c10, c11, rfl, g12, g13⟩ := rdo_Timpl_Det g0
 obtain ⟨c14, rfl, g15⟩ := rdo_Timpl_Window g12
 obtain ⟨a16, c17, rfl⟩ := rd_sl1 g15
 obtain ⟨c18, rfl, g19⟩ := rdo_Timpl_Window g13
 obtain ⟨a20, c21, rfl⟩ := rd_sl1 g19
 obtain ⟨c22, c23, rfl, g24, g25⟩ := rdo_Timpl_Det g1
 obtain ⟨c26, rfl, g27⟩ := rdo_Timpl_Window g24
 obtain ⟨a28, c29, rfl⟩ := rd_sl1 g27
 obtain ⟨c30, rfl, g31⟩ := rdo_Timpl_Window g25
 obtain ⟨a32, c33, rfl⟩ := rd_sl1 g31
 unfold laws_eqDet at H
 refine f_enter Tryz.func131 rfl Tryz.ntmps131 rfl (St.init w []) <| sR <| ob _ rfl fun b34 => ob _ rfl fun b35 => oP rfl <| nQ <| c_seq <| sR <| ow_batch [.fa 97 0 0 fa97_0] rfl <| o1 rfl (rx 0 0 _ rfl ty95 rfl) <| ow_batch [.fa 97 0 0 fa97_0] rfl <| o1 rfl (rx 0 1 _ rfl ty95 rfl) <| bE H fun y36 h37 H => oq rfl (qc rfl fn156 (fun w1 hw1 => laws_eqWindow_ok w1 h37 (rdm_Timpl_Window (rds_bor g15 w1 hw1)) (rdm_Timpl_Window (rds_bor g27 w1 hw1)))) tt2 <| oP rfl <| nQ <| cI H rfl (fun H => ?_) (fun H => ?_)
 ·exact sR <| oP rfl <| nT <| x_qs_ret <| xr 4 rfl (by cases H; exact q1)
 ·refine c_skip <| x_qs <| c_seq <| sR <| ow_batch [.fa 97 1 1 fa97_1] rfl <| o1 rfl (rx 1 0 _ rfl ty95 rfl) <| ow_batch [.fa 97 1 1 fa97_1] rfl <| o1 rfl (rx 1 1 _ rfl ty95 rfl) <| bE H fun y38 h39 H => oq rfl (qc rfl fn156 (fun w1 hw1 => laws_eqWindow_ok w1 h39 (rdm_Timpl_Window (rds_bor g19 w1 hw1)) (rdm_Timpl_Window (rds_bor g31 w1 hw1)))) tt2 <| oP rfl <| nQ <| cI H rfl (fun H => ?_) (fun H => ?_)
  ·exact sR <| oP rfl <| nT <| x_qs_ret <| xr 4 rfl (by cases H; exact q1)
  ·exact c_skip <| x_qs <| sR <| oP rfl <| nT <| xr 4 rfl (by cases H; exact q1)
end Go.Vk
