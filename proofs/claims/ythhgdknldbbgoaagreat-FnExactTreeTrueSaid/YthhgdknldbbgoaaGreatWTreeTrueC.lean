/- The code does what the functions of data say. Printed by program. -/
import Derived.Test.YthhgdknldbbgoaaGreatWTreeTrueB
namespace Go.Vk
open Go.Proofs Go.RowKit
set_option maxHeartbeats 4000000
set_option maxRecDepth 100000
theorem impl_ForkOk_ok (w : World) {p0 : Timpl_Schema} {p1 : Timpl_Fork} {cs0 : List Value} {r : Bool} (H : impl_ForkOk p0 p1 = some r)  (g0 : (eTimpl_Schema).rd w [] p0 cs0) :
    Calls Tryz.prog 117 #[.agg cs0.toArray, .agg #[.int .i64 p1.Attr_, .int .i64 p1.At_]] w (fun en w' => en = .returned (.bool r) ∧ Ext [] w w') := by
 obtain ⟨c10, c11, rfl, g12, g13⟩ := rdo_Timpl_Schema g0
 obtain ⟨a14, c15, rfl⟩ := rd_sl1 g12
 obtain ⟨a16, c17, rfl⟩ := rd_sl1 g13
 unfold impl_ForkOk at H
 refine f_enter Tryz.func117 rfl Tryz.ntmps117 rfl (St.init w []) <| sR <| ob _ rfl fun b18 => ob _ rfl fun b19 => oP rfl <| nQ <| c_seq <| sR <| o1 rfl (rx 0 0 _ rfl ty38 rfl) <| bE H fun y20 h21 H => oq rfl (qc rfl fn59 (fun w1 hw1 => impl_SchemaOk_ok w1 h21 (rdm_Timpl_Schema (rds_bor g12 w1 hw1) (rds_bor g13 w1 hw1)))) tt2 <| oPP rfl <| bE H fun u22 hu26 H => ow_cut [(19, .bool u22), (2, .pointer (some ⟨b18, 0, none⟩)), (3, .pointer (some ⟨b19, 0, none⟩))] 9 ?_ (fun key => OW.sub (R := [(2, .pointer (some ⟨b18, 0, none⟩)), (3, .pointer (some ⟨b19, 0, none⟩)), (10, .bool (!y20))]) ?_ (sb rfl))
 ·refine nQ <| cI H rfl (fun H => ?_) (fun H => ?_)
  ·exact sR <| oP rfl <| nT <| x_qs_ret <| xr 4 rfl (by cases H; exact q1)
  ·refine c_skip <| x_qs <| sR <| ow_batch [.fa 38 0 0 fa38_0] rfl <| o1 rfl (r1 0 0 rfl ty36 rfl) <| ow_batch [.fa 65 0 0 fa65_0] rfl <| o1 rfl (r1 0 1 rfl ty3 rfl) <| bE H fun e27 h28 H => ow_ixB rfl rfl rfl rfl rfl sl36 ty113 rfl g12 h28 fun q31 c32 hd29 hA30 => ?_
   obtain ⟨c33, c34, c35, rfl, g36, g37, g38⟩ := rdo_Timpl_Attr hd29
   obtain rfl := g36
   obtain ⟨a39, c40, rfl⟩ := rd_sl1 g37
   obtain ⟨a41, c42, rfl⟩ := rd_sl1 g38
   refine o1 rfl (ry_load (cs := [vS e27.Name_, .slice a39 e27.Cuts_.length c40, .slice a41 e27.Values_.length c42]) rfl rfl ty113 (at_bor bor hA30) rfl) <| ow_alloc rfl rfl rfl rfl ty113 (fun _ => kp) fun b43 => sC 0 [vS e27.Name_, .slice a39 e27.Cuts_.length c40, .slice a41 e27.Values_.length c42] [_, _, _] 2 rfl ty113 rfl <| nR <| o1 rfl (rx 0 2 _ rfl ty113 rfl) <| bE H fun y44 h45 H => oq rfl (qc rfl fn100 (fun w1 hw1 => impl_bins_ok w1 h45 (rdm_Timpl_Attr rfl (rds_bor g37 w1 hw1) (rds_bor g38 w1 hw1)))) tt2 <| oPP rfl <| nQ <| c_seq <| sR <| ow_batch [.fa 113 1 1 fa113_1] rfl <| o1 rfl (r1 1 2 rfl ty56 rfl) <| ow_batch [.lenS 56 3 sl56, .p] rfl <| nQ <| cI H rfl (fun H => ?_) (fun H => ?_)
   ·exact c_reg <| ow_batch [.p, .p, .p] rfl <| nR <| ow_batch [.fa 65 1 1 fa65_1] rfl <| o1 rfl (r1 1 1 rfl ty3 rfl) <| oP rfl <| bE H fun y46 h47 H => oq rfl (qc rfl fn60 (fun w1 hw1 => impl_within_ok w1  h47)) tt2 <| oP rfl <| nT <| xr 4 rfl (by cases H; exact q1)
   ·exact c_skip <| x_qs <| sR <| ow_batch [.fa 65 1 1 fa65_1] rfl <| o1 rfl (r1 1 1 rfl ty3 rfl) <| oP rfl <| bE H fun y48 h49 H => oq rfl (qc rfl fn60 (fun w1 hw1 => impl_within_ok w1  h49)) tt2 <| oP rfl <| nT <| xr 4 rfl (by cases H; exact q1)
 ·clear H
  have H := hu26
  clear hu26
  generalize (!y20) = t25 at H key ⊢
  cases t25
  ·have H := of_if_f rfl H
   refine ow_batch [.fa 65 0 0 fa65_0] rfl <| o1 rfl (r1 0 1 rfl ty3 rfl) <| ow_batch [.fa 38 0 0 fa38_0] rfl <| o1 rfl (r1 0 0 rfl ty36 rfl) <| ow_batch [.lenS 36 113 sl36, .p] rfl <| bE H fun y23 h24 H => oq rfl (qc rfl fn60 (fun w1 hw1 => impl_within_ok w1  h24)) tt2 <| oP rfl <| oP rfl <| ?_
   obtain rfl := of_some H
   exact OW.sub key (sb rfl)
  ·have H := of_if_t rfl H
   refine ow_batch [.p, .p, .p, .p, .p, .p, .p, .p, .p] rfl ?_
   obtain rfl := of_some H
   exact OW.sub key (sb rfl)
theorem impl_Branches_ok (w : World) {p0 : Timpl_Schema} {p1 : Timpl_Fork} {cs0 : List Value} {r : Int} (H : impl_Branches p0 p1 = some r)  (g0 : (eTimpl_Schema).rd w [] p0 cs0) :
    Calls Tryz.prog 94 #[.agg cs0.toArray, .agg #[.int .i64 p1.Attr_, .int .i64 p1.At_]] w (fun en w' => en = .returned (.int .i64 r) ∧ Ext [] w w') := by
 obtain ⟨c10, c11, rfl, g12, g13⟩ := rdo_Timpl_Schema g0
 obtain ⟨a14, c15, rfl⟩ := rd_sl1 g12
 obtain ⟨a16, c17, rfl⟩ := rd_sl1 g13
 unfold impl_Branches at H
 refine f_enter Tryz.func94 rfl Tryz.ntmps94 rfl (St.init w []) <| sR <| ob _ rfl fun b18 => ob _ rfl fun b19 => oP rfl <| nQ <| c_seq <| c_block <| sR <| o1 rfl (rx 0 0 _ rfl ty38 rfl) <| o1 rfl (rx 0 1 _ rfl ty65 rfl) <| bE H fun y20 h21 H => oq rfl (qc rfl fn117 (fun w1 hw1 => impl_ForkOk_ok w1 (p1 := p1) h21 (rdm_Timpl_Schema (rds_bor g12 w1 hw1) (rds_bor g13 w1 hw1)))) tt2 <| oPP rfl <| nQ <| cI H rfl (fun H => ?_) (fun H => ?_)
 ·exact sR <| oP rfl <| nT <| x_qb_ret <| x_qs_ret <| xr 4 rfl (by cases H; exact q1)
 ·refine sR <| ow_batch [.fa 65 1 1 fa65_1] rfl <| o1 rfl (r1 1 1 rfl ty3 rfl) <| oPP rfl <| nQ <| cI H rfl (fun H => ?_) (fun H => ?_)
  ·refine sR <| ow_batch [.fa 38 0 0 fa38_0] rfl <| o1 rfl (r1 0 0 rfl ty36 rfl) <| ow_batch [.fa 65 0 0 fa65_0] rfl <| o1 rfl (r1 0 1 rfl ty3 rfl) <| bE H fun e22 h23 H => ow_ixB rfl rfl rfl rfl rfl sl36 ty113 rfl g12 h23 fun q26 c27 hd24 hA25 => ?_
   obtain ⟨c28, c29, c30, rfl, g31, g32, g33⟩ := rdo_Timpl_Attr hd24
   obtain rfl := g31
   obtain ⟨a34, c35, rfl⟩ := rd_sl1 g32
   obtain ⟨a36, c37, rfl⟩ := rd_sl1 g33
   exact o1 rfl (ry_load (cs := [vS e22.Name_, .slice a34 e22.Cuts_.length c35, .slice a36 e22.Values_.length c37]) rfl rfl ty113 (at_bor bor hA25) rfl) <| bE H fun y38 h39 H => oq rfl (qc rfl fn100 (fun w1 hw1 => impl_bins_ok w1 h39 (rdm_Timpl_Attr rfl (rds_bor g32 w1 hw1) (rds_bor g33 w1 hw1)))) tt2 <| oP rfl <| nT <| x_qb_ret <| x_qs_ret <| xr 4 rfl (by cases H; exact q1)
  ·exact c_skip <| x_qb <| x_qs <| sR <| oP rfl <| nT <| xr 4 rfl (by cases H; exact q1)
theorem impl_nodeOk_1_ok (w : World) {p0 : Int} {p1 : Int} {p2 : Timpl_Tree} {q_1 : Addr} {cs_1 : List Value} {q_2 : Addr} {cs_2 : List Value} {r : Bool} (H : impl_nodeOk_1 p0 p1 p2 = some r)  (g_1 : eI.rd w [] p1 cs_1) (hA_1 : At w [] q_1 cs_1) (g_2 : (eTimpl_Tree).rd w [] p2 cs_2) (hA_2 : At w [] q_2 cs_2) :
    Calls Tryz.prog 97 #[.int .i64 p0, .pointer (some q_1), .pointer (some q_2)] w (fun en w' => en = .returned (.bool r) ∧ Ext [] w w') := by
 obtain rfl := g_1
 obtain ⟨c10, c11, rfl, g12, g13⟩ := rdo_Timpl_Tree g_2
 obtain ⟨a14, c15, rfl⟩ := rd_sl1 g12
 obtain rfl := g13
 unfold impl_nodeOk_1 at H
 refine f_enter Tryz.func97 rfl Tryz.ntmps97 rfl (St.init w []) <| sR <| oP rfl <| nQ <| c_seq <| c_regQ mixed (by kernel_rfl) <| oP rfl <| o1 rfl (ry_load1 rfl rfl ty3 (at_bor bor hA_1)) <| ow_batch [.p, .fa 44 0 0 fa44_0] rfl <| o1 rfl (ry_load1 rfl rfl ty42 (at_bor bor (at_K hA_2 0 1))) <| ow_batch [.lenS 42 70 sl42, .p] rfl <| bE H fun y16 h17 H => oq rfl (qc rfl fn60 (fun w1 hw1 => impl_within_ok w1  h17)) tt2 <| oPP rfl <| bE H fun u18 hu58 H => ow_cut [(23, .bool u18), (4, .bool false)] 9 ?_ (fun key => OW.sub (R := [(0, .int .i64 p0), (1, .pointer (some q_1)), (2, .pointer (some q_2)), (4, .bool false), (14, .bool (!y16))]) ?_ (sb rfl))
 ·exact oP rfl <| ow_nilQ <| x_qs <| c_ret <| xr 4 rfl (by cases H; exact q1)
 ·clear H
  have H := hu58
  clear hu58
  generalize (!y16) = t57 at H key ⊢
  cases t57
  ·have H := of_if_f rfl H
   refine ow_batch [.fa 44 0 0 fa44_0] rfl <| o1 rfl (ry_load1 rfl rfl ty42 (at_bor bor (at_K hA_2 0 1))) <| oP rfl <| bE H fun e19 h20 H => ow_ixB rfl rfl rfl rfl rfl sl42 ty70 rfl g12 h20 fun q23 c24 hd21 hA22 => ?_
   obtain ⟨c25, c26, c27, c28, c29, c30, c31, c32, c33, c34, rfl, g35, g36, g37, g38, g39, g40, g41, g42, g43, g44⟩ := rdo_Timpl_Node hd21
   obtain rfl := g35
   obtain rfl := g36
   obtain ⟨a45, c46, rfl⟩ := rd_sl1 g37
   obtain rfl := g38
   obtain ⟨c47, c48, rfl, g49, g50⟩ := rdo_Timpl_Stats g39
   obtain ⟨a51, c52, rfl⟩ := rd_sl1 g49
   obtain ⟨a53, c54, rfl⟩ := rd_sl1 g50
   obtain rfl := g40
   obtain ⟨a55, c56, rfl⟩ := rd_sl1 g41
   obtain rfl := g42
   obtain rfl := g43
   obtain rfl := g44
   refine ow_batch [.fa 70 8 10 fa70_8] rfl <| o1 rfl (ry_load1 rfl rfl ty3 (at_bor bor (at_K hA22 10 1))) <| o1 rfl (ry_load1 rfl rfl ty3 (at_bor bor hA_1)) <| oP rfl <| oP rfl <| ?_
   obtain rfl := of_some H
   exact OW.sub key (sb rfl)
  ·have H := of_if_t rfl H
   refine ow_batch [.p, .p, .p, .p, .p, .p, .p, .p, .p] rfl ?_
   obtain rfl := of_some H
   exact OW.sub key (sb rfl)
theorem lib_slices_IndexFunc___int_int___impl_nodeOk_1_ok (w : World) {p0 : List Int} {p1_0 : Int} {p1_1 : Timpl_Tree} {a_0 : Option Addr} {n_0 c_0 : Nat} {q_1_0 : Addr} {cs_1_0 : List Value} {q_1_1 : Addr} {cs_1_1 : List Value} {r : Int} (H : lib_slices_IndexFunc___int_int___impl_nodeOk_1 p0 p1_0 p1_1 = some r)  (g0 : (eList eI 3).rd w [] p0 [.slice a_0 n_0 c_0]) (g_1_0 : eI.rd w [] p1_0 cs_1_0) (hA_1_0 : At w [] q_1_0 cs_1_0) (g_1_1 : (eTimpl_Tree).rd w [] p1_1 cs_1_1) (hA_1_1 : At w [] q_1_1 cs_1_1) :
    Calls Tryz.prog 118 #[.slice a_0 n_0 c_0, .func (.func 97) #[] #[.pointer (some q_1_0), .pointer (some q_1_1)]] w (fun en w' => en = .returned (.int .i64 r) ∧ Ext [] w w') := by
 obtain rfl := rd_n g0
 obtain rfl := g_1_0
 obtain ⟨c10, c11, rfl, g12, g13⟩ := rdo_Timpl_Tree g_1_1
 obtain ⟨a14, c15, rfl⟩ := rd_sl1 g12
 obtain rfl := g13
 unfold lib_slices_IndexFunc___int_int___impl_nodeOk_1 at H
 refine f_enter Tryz.func118 rfl Tryz.ntmps118 rfl (St.init w []) <| sR <| oP rfl <| nQ <| c_seq <| sR <| ow_batch [.p, .lenS 56 3 sl56, .p] rfl <| nQ <| c_block <| CW.at (loopI1 (fun (i21 : Int) => St w [] []) (fun i21 => [(0, .slice a_0 p0.length c_0), (1, .func (.func 97) #[] #[.pointer (some q_1_0), .pointer (some q_1_1)]), (7, .int .i64 (p0.length : Int)), (8, .int .i64 i21)]) (fun kk => fun i21 => lib_slices_IndexFunc___int_int___impl_nodeOk_1_L1 p0 p1_0 p1_1 kk i21 = some r) (fun _ H => ?_) (fun k1 ihk1 i21 H => ?_) Fuel (0) (H)) (fun _ h => St.sel [] rfl rfl h) ⟨rfl, rfl, rfl, rfl, trivial⟩
 ·unfold lib_slices_IndexFunc___int_int___impl_nodeOk_1_L1 at H
  exact absurd H (by simp)
 ·unfold lib_slices_IndexFunc___int_int___impl_nodeOk_1_L1 at H
  refine sR <| oP rfl <| nQ <| c_seq <| cI H rfl (fun H => ?_) (fun H => ?_)
  ·refine c_skip <| x_qs <| c_seq <| c_block <| sR <| oPP rfl <| nR <| ow_batch [.p, .p, .p] rfl <| bE H fun e27 h28 H => ow_ixE (e := eI) (xs := p0) (j := i21) rfl rfl rfl rfl rfl sl56 ty3 rfl (fun w1 hw1 => rds_bor g0 w1 hw1) h28 (by rw [Nat.mul_one]) <| o1 rfl (ry_load1 rfl rfl ty3 (at_elV (fun w1 hw1 => rds_bor g0 w1 hw1) h28)) <| bE H fun y29 h30 H => ow_q rfl rfl (dstOk_lt rfl) (qy_callV (cap := [.pointer (some q_1_0), .pointer (some q_1_1)]) rfl fn97 rfl rfl (fun w1 hw1 => impl_nodeOk_1_ok w1 (cs_1 := [.int .i64 p1_0]) (cs_2 := [.slice a14 p1_1.Nodes_.length c15, .int .i64 p1_1.Seen_]) h30 rfl (at_bor bor hA_1_0 w1 hw1) (rdm_Timpl_Tree (rds_bor g12 w1 hw1) rfl) (at_bor bor hA_1_1 w1 hw1))) (fun _ _ => trivial) <| nQ <| cI H rfl (fun H => ?_) (fun H => ?_)
   ·exact sR <| oPP rfl <| nT <| x_qb_ret <| x_qs_ret <| x_ql_ret <| x_qb_ret <| x_qs_ret <| xr 4 rfl (by cases H; exact q1)
   ·exact c_skip <| x_qb <| x_qs <| c_reg <| oPP rfl <| ow_nil <| x_ql (RW.at (ihk1 (IntKind.i64.wrap (i21 + 1)) (H)) (fun _ h => St.sel [] rfl rfl h) ⟨rfl, rfl, rfl, rfl, trivial⟩)
  ·exact c_exit <| x_qs_exit <| x_ql_exit <| x_qb_here <| x_qs <| sR <| oP rfl <| nT <| xr 4 rfl (by cases H; exact q1)
theorem lib_slices_ContainsFunc___int_int___impl_nodeOk_1_ok (w : World) {p0 : List Int} {p1_0 : Int} {p1_1 : Timpl_Tree} {a_0 : Option Addr} {n_0 c_0 : Nat} {q_1_0 : Addr} {cs_1_0 : List Value} {q_1_1 : Addr} {cs_1_1 : List Value} {r : Bool} (H : lib_slices_ContainsFunc___int_int___impl_nodeOk_1 p0 p1_0 p1_1 = some r)  (g0 : (eList eI 3).rd w [] p0 [.slice a_0 n_0 c_0]) (g_1_0 : eI.rd w [] p1_0 cs_1_0) (hA_1_0 : At w [] q_1_0 cs_1_0) (g_1_1 : (eTimpl_Tree).rd w [] p1_1 cs_1_1) (hA_1_1 : At w [] q_1_1 cs_1_1) :
    Calls Tryz.prog 96 #[.slice a_0 n_0 c_0, .func (.func 97) #[] #[.pointer (some q_1_0), .pointer (some q_1_1)]] w (fun en w' => en = .returned (.bool r) ∧ Ext [] w w') := by
 obtain rfl := rd_n g0
 obtain rfl := g_1_0
 obtain ⟨c10, c11, rfl, g12, g13⟩ := rdo_Timpl_Tree g_1_1
 obtain ⟨a14, c15, rfl⟩ := rd_sl1 g12
 obtain rfl := g13
 unfold lib_slices_ContainsFunc___int_int___impl_nodeOk_1 at H
 exact f_enter Tryz.func96 rfl Tryz.ntmps96 rfl (St.init w []) <| sR <| oP rfl <| nR <| oPP rfl <| bE H fun y16 h17 H => oq rfl (qc rfl fn118 (fun w1 hw1 => lib_slices_IndexFunc___int_int___impl_nodeOk_1_ok w1 (cs_1_0 := [.int .i64 p1_0]) (cs_1_1 := [.slice a14 p1_1.Nodes_.length c15, .int .i64 p1_1.Seen_]) h17 (rds_bor g0 w1 hw1) rfl (at_bor bor hA_1_0 w1 hw1) (rdm_Timpl_Tree (rds_bor g12 w1 hw1) rfl) (at_bor bor hA_1_1 w1 hw1))) tt2 <| oPP rfl <| nT <| xr 4 rfl (by cases H; exact q1)
theorem impl_nodeOk_ok (w : World) {p0 : Timpl_Schema} {p1 : Timpl_Tree} {p2 : Int} {cs0 : List Value} {cs1 : List Value} {r : Bool} (H : impl_nodeOk p0 p1 p2 = some r)  (g0 : (eTimpl_Schema).rd w [] p0 cs0) (g1 : (eTimpl_Tree).rd w [] p1 cs1) :
    Calls Tryz.prog 61 #[.agg cs0.toArray, .agg cs1.toArray, .int .i64 p2] w (fun en w' => en = .returned (.bool r) ∧ Ext [] w w') := by
 obtain ⟨c10, c11, rfl, g12, g13⟩ := rdo_Timpl_Schema g0
 obtain ⟨a14, c15, rfl⟩ := rd_sl1 g12
 obtain ⟨a16, c17, rfl⟩ := rd_sl1 g13
 obtain ⟨c18, c19, rfl, g20, g21⟩ := rdo_Timpl_Tree g1
 obtain ⟨a22, c23, rfl⟩ := rd_sl1 g20
 obtain rfl := g21
 unfold impl_nodeOk at H
 refine f_enter Tryz.func61 rfl Tryz.ntmps61 rfl (St.init w []) <| sR <| ob _ rfl fun b24 => ob _ rfl fun b25 => ob _ rfl fun b26 => oP rfl <| nR <| ow_batch [.fa 44 0 0 fa44_0] rfl <| o1 rfl (r1 0 1 rfl ty42 rfl) <| o1 rfl (r1 0 2 rfl ty3 rfl) <| bE H fun e27 h28 H => ow_ixB rfl rfl rfl rfl rfl sl42 ty70 rfl g20 h28 fun q31 c32 hd29 hA30 => ?_
 obtain ⟨c33, c34, c35, c36, c37, c38, c39, c40, c41, c42, rfl, g43, g44, g45, g46, g47, g48, g49, g50, g51, g52⟩ := rdo_Timpl_Node hd29
 obtain rfl := g43
 obtain rfl := g44
 obtain ⟨a53, c54, rfl⟩ := rd_sl1 g45
 obtain rfl := g46
 obtain ⟨c55, c56, rfl, g57, g58⟩ := rdo_Timpl_Stats g47
 obtain ⟨a59, c60, rfl⟩ := rd_sl1 g57
 obtain ⟨a61, c62, rfl⟩ := rd_sl1 g58
 obtain rfl := g48
 obtain ⟨a63, c64, rfl⟩ := rd_sl1 g49
 obtain rfl := g50
 obtain rfl := g51
 obtain rfl := g52
 refine o1 rfl (ry_load (cs := [.bool e27.Leaf_, .int .i64 e27.Fork_.Attr_, .int .i64 e27.Fork_.At_, .slice a53 e27.Kids_.length c54, .int .i64 e27.Miss_, .slice a59 e27.Stats_.Totals_.length c60, .slice a61 e27.Stats_.Cells_.length c62, .int .i64 e27.Since_, .slice a63 e27.Attrs_.length c64, .int .i64 e27.Depth_, .int .i64 e27.Up_, .int .i64 e27.Born_]) rfl rfl ty70 (at_bor bor hA30) rfl) <| ow_alloc rfl rfl rfl rfl ty70 (fun _ => kp) fun b65 => sC 0 [.bool e27.Leaf_, .int .i64 e27.Fork_.Attr_, .int .i64 e27.Fork_.At_, .slice a53 e27.Kids_.length c54, .int .i64 e27.Miss_, .slice a59 e27.Stats_.Totals_.length c60, .slice a61 e27.Stats_.Cells_.length c62, .int .i64 e27.Since_, .slice a63 e27.Attrs_.length c64, .int .i64 e27.Depth_, .int .i64 e27.Up_, .int .i64 e27.Born_] [_, _, _, _, _, _, _, _, _, _, _, _] 3 rfl ty70 rfl <| nQ <| c_seq <| sR <| ow_batch [.fa 70 7 9 fa70_7] rfl <| o1 rfl (r1 9 3 rfl ty3 rfl) <| bE H fun y66 h67 H => oq rfl (qc rfl fn60 (fun w1 hw1 => impl_within_ok w1  h67)) tt2 <| oPP rfl <| bE H fun u68 hu72 H => ow_cut [(26, .bool u68), (3, .pointer (some ⟨b24, 0, none⟩)), (4, .pointer (some ⟨b25, 0, none⟩)), (5, .pointer (some ⟨b26, 0, none⟩)), (7, .pointer (some ⟨b65, 0, none⟩))] 7 ?_ (fun key => OW.sub (R := [(3, .pointer (some ⟨b24, 0, none⟩)), (4, .pointer (some ⟨b25, 0, none⟩)), (5, .pointer (some ⟨b26, 0, none⟩)), (7, .pointer (some ⟨b65, 0, none⟩)), (19, .bool (!y66))]) ?_ (sb rfl))
 ·refine oP rfl <| bE H fun u73 hu77 H => ow_cut [(33, .bool u73), (3, .pointer (some ⟨b24, 0, none⟩)), (4, .pointer (some ⟨b25, 0, none⟩)), (5, .pointer (some ⟨b26, 0, none⟩)), (7, .pointer (some ⟨b65, 0, none⟩))] 6 ?_ (fun key => OW.sub (R := [(3, .pointer (some ⟨b24, 0, none⟩)), (4, .pointer (some ⟨b25, 0, none⟩)), (5, .pointer (some ⟨b26, 0, none⟩)), (7, .pointer (some ⟨b65, 0, none⟩)), (27, .bool u68)]) ?_ (sb rfl))
  ·refine oP rfl <| bE H fun u78 hu82 H => ow_cut [(40, .bool u78), (3, .pointer (some ⟨b24, 0, none⟩)), (4, .pointer (some ⟨b25, 0, none⟩)), (5, .pointer (some ⟨b26, 0, none⟩)), (7, .pointer (some ⟨b65, 0, none⟩))] 6 ?_ (fun key => OW.sub (R := [(3, .pointer (some ⟨b24, 0, none⟩)), (4, .pointer (some ⟨b25, 0, none⟩)), (5, .pointer (some ⟨b26, 0, none⟩)), (7, .pointer (some ⟨b65, 0, none⟩)), (34, .bool u73)]) ?_ (sb rfl))
   ·refine nQ <| cI H rfl (fun H => ?_) (fun H => ?_)
    ·exact sR <| oP rfl <| nT <| x_qs_ret <| xr 6 rfl (by cases H; exact q1)
    ·refine c_skip <| x_qs <| c_seq <| sR <| ow_batch [.fa 70 0 0 fa70_0] rfl <| o1 rfl (r1 0 3 rfl ty4 rfl) <| nQ <| cI H rfl (fun H => ?_) (fun H => ?_)
     ·refine sR <| ow_batch [.fa 70 4 5 fa70_4, .fa 68 0 0 fa68_0] rfl <| o1 rfl (r1 5 3 rfl ty56 rfl) <| bE H fun y83 h84 H => oq rfl (qc rfl fn93 (fun w1 hw1 => impl_total_ok w1  h84 (rds_bor g57 w1 hw1))) tt2 <| oP rfl <| nQ <| c_join1 (fun (i85 : Int) => St w [] [Res.box b65 70 [.bool e27.Leaf_, .int .i64 e27.Fork_.Attr_, .int .i64 e27.Fork_.At_, .slice a53 e27.Kids_.length c54, .int .i64 e27.Miss_, .slice a59 e27.Stats_.Totals_.length c60, .slice a61 e27.Stats_.Cells_.length c62, .int .i64 e27.Since_, .slice a63 e27.Attrs_.length c64, .int .i64 e27.Depth_, .int .i64 e27.Up_, .int .i64 e27.Born_]]) (fun (i85 : Int) => [(7, .pointer (some ⟨b65, 0, none⟩)), (8, .int .i64 i85)]) (fun (i85 : Int) => impl_nodeOk_J1 e27 i85 = some r) (fun i85 H => ?_) (fun J1 => ?_)
      ·unfold impl_nodeOk_J1 at H
       refine sR <| ow_batch [.fa 70 1 1 fa70_1] rfl <| o1 rfl (rx 1 0 _ rfl ty65 rfl) <| o1 rfl (ry_build2 [] [.int .i64 0, .int .i64 0] rfl rfl ty65 fs65 rfl trivial rfl) <| o1 rfl (ry_seql (xs := [.int .i64 e27.Fork_.Attr_, .int .i64 e27.Fork_.At_]) (ys := [.int .i64 0, .int .i64 0]) rfl rfl rfl (se65 e27.Fork_.Attr_ 0 e27.Fork_.At_ 0)) <| oP rfl <| ow_cut [(61, .bool ((e27.Fork_.Attr_ == 0 && (e27.Fork_.At_ == 0 && true)) && ((e27.Kids_.length : Int) == 0))), (7, .pointer (some ⟨b65, 0, none⟩)), (8, .int .i64 i85)] 5 ?_ (fun key => OW.sub (R := [(7, .pointer (some ⟨b65, 0, none⟩)), (8, .int .i64 i85), (56, .bool (e27.Fork_.Attr_ == 0 && (e27.Fork_.At_ == 0 && true)))]) ?_ (sb rfl))
       ·refine oP rfl <| ow_cut [(66, .bool (((e27.Fork_.Attr_ == 0 && (e27.Fork_.At_ == 0 && true)) && ((e27.Kids_.length : Int) == 0)) && (e27.Miss_ == 0))), (7, .pointer (some ⟨b65, 0, none⟩)), (8, .int .i64 i85)] 4 ?_ (fun key => OW.sub (R := [(7, .pointer (some ⟨b65, 0, none⟩)), (8, .int .i64 i85), (62, .bool ((e27.Fork_.Attr_ == 0 && (e27.Fork_.At_ == 0 && true)) && ((e27.Kids_.length : Int) == 0)))]) ?_ (sb rfl))
        ·refine oP rfl <| bE H fun u90 hu94 H => ow_cut [(72, .bool u90)] 5 ?_ (fun key => OW.sub (R := [(7, .pointer (some ⟨b65, 0, none⟩)), (8, .int .i64 i85), (67, .bool (((e27.Fork_.Attr_ == 0 && (e27.Fork_.At_ == 0 && true)) && ((e27.Kids_.length : Int) == 0)) && (e27.Miss_ == 0)))]) ?_ (sb rfl))
         ·exact oP rfl <| nT <| x_qs_ret <| xr 6 rfl (by cases H; exact q1)
         ·clear H
          have H := hu94
          clear hu94
          generalize (((e27.Fork_.Attr_ == 0 && (e27.Fork_.At_ == 0 && true)) && ((e27.Kids_.length : Int) == 0)) && (e27.Miss_ == 0)) = t93 at H key ⊢
          cases t93
          ·have H := of_if_f rfl H
           refine ow_batch [.p, .p, .p, .p, .p] rfl ?_
           obtain rfl := of_some H
           exact OW.sub key ⟨rfl, trivial⟩
          ·have H := of_if_t rfl H
           refine ow_batch [.fa 70 5 7 fa70_5] rfl <| o1 rfl (r1 7 0 rfl ty3 rfl) <| oP rfl <| bE H fun y91 h92 H => oq rfl (qc rfl fn60 (fun w1 hw1 => impl_within_ok w1  h92)) tt2 <| oP rfl <| ?_
           obtain rfl := of_some H
           exact OW.sub key ⟨rfl, trivial⟩
        ·generalize ((e27.Fork_.Attr_ == 0 && (e27.Fork_.At_ == 0 && true)) && ((e27.Kids_.length : Int) == 0)) = t89 at key ⊢
         cases t89
         ·exact ow_batch [.p, .p, .p, .p] rfl <| OW.sub key (sb rfl)
         ·exact ow_batch [.fa 70 3 4 fa70_3] rfl <| o1 rfl (r1 4 0 rfl ty3 rfl) <| oP rfl <| oP rfl <| OW.sub key (sb rfl)
       ·generalize (e27.Fork_.Attr_ == 0 && (e27.Fork_.At_ == 0 && true)) = t87 at key ⊢
        cases t87
        ·exact ow_batch [.p, .p, .p, .p, .p] rfl <| OW.sub key (sb rfl)
        ·exact ow_batch [.fa 70 2 3 fa70_2] rfl <| o1 rfl (r1 3 0 rfl ty56 rfl) <| ow_batch [.lenS 56 3 sl56, .p] rfl <| oP rfl <| OW.sub key (sb rfl)
      ·refine sR <| ow_batch [.fa 70 4 5 fa70_4, .fa 68 1 1 fa68_1] rfl <| o1 rfl (r1 6 3 rfl ty66 rfl) <| ow_batch [.lenS 66 56 sl66, .p] rfl <| nQ <| cI H rfl (fun H => ?_) (fun H => ?_)
       ·exact c_reg <| oP rfl <| ow_nil <| XW.at (J1 (0) (H)) (fun _ h => St.sel [3] rfl rfl h) ⟨rfl, rfl, trivial⟩
       ·exact c_skip <| XW.at (J1 (y83) (H)) (fun _ h => St.sel [3] rfl rfl h) ⟨rfl, rfl, trivial⟩
     ·refine c_skip <| x_qs <| sR <| o1 rfl (rx 0 0 _ rfl ty38 rfl) <| ow_batch [.fa 70 1 1 fa70_1] rfl <| o1 rfl (rx 1 3 _ rfl ty65 rfl) <| bE H fun y95 h96 H => oq rfl (qc rfl fn94 (fun w1 hw1 => impl_Branches_ok w1 (p1 := e27.Fork_) h96 (rdm_Timpl_Schema (rds_bor g12 w1 hw1) (rds_bor g13 w1 hw1)))) tt2 <| oP rfl <| nQ <| c_seq <| sR <| ow_batch [.p, .p, .p] rfl <| ow_cut [(85, .bool ((y95 == 0) || ((e27.Kids_.length : Int) != y95))), (4, .pointer (some ⟨b25, 0, none⟩)), (5, .pointer (some ⟨b26, 0, none⟩)), (7, .pointer (some ⟨b65, 0, none⟩)), (9, .int .i64 y95)] 6 ?_ (fun key => OW.sub (R := [(4, .pointer (some ⟨b25, 0, none⟩)), (5, .pointer (some ⟨b26, 0, none⟩)), (7, .pointer (some ⟨b65, 0, none⟩)), (9, .int .i64 y95), (79, .bool (y95 == 0))]) ?_ (sb rfl))
      ·refine oP rfl <| bE H fun u99 hu103 H => ow_cut [(91, .bool u99), (4, .pointer (some ⟨b25, 0, none⟩)), (5, .pointer (some ⟨b26, 0, none⟩)), (7, .pointer (some ⟨b65, 0, none⟩)), (9, .int .i64 y95)] 5 ?_ (fun key => OW.sub (R := [(4, .pointer (some ⟨b25, 0, none⟩)), (5, .pointer (some ⟨b26, 0, none⟩)), (7, .pointer (some ⟨b65, 0, none⟩)), (9, .int .i64 y95), (86, .bool ((y95 == 0) || ((e27.Kids_.length : Int) != y95)))]) ?_ (sb rfl))
       ·refine oP rfl <| bE H fun u104 hu108 H => ow_cut [(99, .bool u104), (4, .pointer (some ⟨b25, 0, none⟩)), (5, .pointer (some ⟨b26, 0, none⟩)), (7, .pointer (some ⟨b65, 0, none⟩))] 7 ?_ (fun key => OW.sub (R := [(4, .pointer (some ⟨b25, 0, none⟩)), (5, .pointer (some ⟨b26, 0, none⟩)), (7, .pointer (some ⟨b65, 0, none⟩)), (9, .int .i64 y95), (92, .bool u99)]) ?_ (sb rfl))
        ·refine oP rfl <| ow_cut [(106, .bool (u104 || ((e27.Stats_.Cells_.length : Int) != 0))), (4, .pointer (some ⟨b25, 0, none⟩)), (5, .pointer (some ⟨b26, 0, none⟩)), (7, .pointer (some ⟨b65, 0, none⟩))] 6 ?_ (fun key => OW.sub (R := [(4, .pointer (some ⟨b25, 0, none⟩)), (5, .pointer (some ⟨b26, 0, none⟩)), (7, .pointer (some ⟨b65, 0, none⟩)), (100, .bool u104)]) ?_ (sb rfl))
         ·refine oP rfl <| ow_cut [(111, .bool ((u104 || ((e27.Stats_.Cells_.length : Int) != 0)) || (e27.Since_ != 0))), (4, .pointer (some ⟨b25, 0, none⟩)), (5, .pointer (some ⟨b26, 0, none⟩)), (7, .pointer (some ⟨b65, 0, none⟩))] 4 ?_ (fun key => OW.sub (R := [(4, .pointer (some ⟨b25, 0, none⟩)), (5, .pointer (some ⟨b26, 0, none⟩)), (7, .pointer (some ⟨b65, 0, none⟩)), (107, .bool (u104 || ((e27.Stats_.Cells_.length : Int) != 0)))]) ?_ (sb rfl))
          ·refine nQ <| cI H rfl (fun H => ?_) (fun H => ?_)
           ·exact sR <| oP rfl <| nT <| x_qs_ret <| xr 6 rfl (by cases H; exact q1)
           ·exact c_skip <| x_qs <| sR <| ow_batch [.fa 70 2 3 fa70_2] rfl <| o1 rfl (r1 3 3 rfl ty56 rfl) <| o1 rfl (ry_makeFunc rfl rfl) <| bE H fun y113 h114 H => oq rfl (qc rfl fn96 (fun w1 hw1 => lib_slices_ContainsFunc___int_int___impl_nodeOk_1_ok w1 (cs_1_0 := [.int .i64 p2]) (cs_1_1 := [.slice a22 p1.Nodes_.length c23, .int .i64 p1.Seen_]) h114 (rds_bor g45 w1 hw1) rfl (at_box (T := 3) 0 (boxIn (i := 2) rfl) rfl w1 hw1) (rdm_Timpl_Tree (rds_bor g20 w1 hw1) rfl) (at_box (T := 44) 0 (boxIn (i := 1) rfl) rfl w1 hw1))) tt2 <| oPP rfl <| nT <| xr 6 rfl (by cases H; exact q1)
          ·generalize (u104 || ((e27.Stats_.Cells_.length : Int) != 0)) = t112 at key ⊢
           cases t112
           ·exact ow_batch [.fa 70 5 7 fa70_5] rfl <| o1 rfl (r1 7 3 rfl ty3 rfl) <| oP rfl <| oP rfl <| OW.sub key (sb rfl)
           ·exact ow_batch [.p, .p, .p, .p] rfl <| OW.sub key (sb rfl)
         ·generalize u104 = t110 at key ⊢
          cases t110
          ·exact ow_batch [.fa 70 4 5 fa70_4, .fa 68 1 1 fa68_1] rfl <| o1 rfl (r1 6 3 rfl ty66 rfl) <| ow_batch [.lenS 66 56 sl66, .p] rfl <| oP rfl <| OW.sub key (sb rfl)
          ·exact ow_batch [.p, .p, .p, .p, .p, .p] rfl <| OW.sub key (sb rfl)
        ·clear H
         have H := hu108
         clear hu108
         generalize u99 = t107 at H key ⊢
         cases t107
         ·have H := of_if_f rfl H
          refine ow_batch [.fa 70 3 4 fa70_3] rfl <| o1 rfl (r1 4 3 rfl ty3 rfl) <| oPP rfl <| bE H fun y105 h106 H => oq rfl (qc rfl fn60 (fun w1 hw1 => impl_within_ok w1  h106)) tt2 <| oP rfl <| oP rfl <| ?_
          obtain rfl := of_some H
          exact OW.sub key (sb rfl)
         ·have H := of_if_t rfl H
          refine ow_batch [.p, .p, .p, .p, .p, .p, .p] rfl ?_
          obtain rfl := of_some H
          exact OW.sub key (sb rfl)
       ·clear H
        have H := hu103
        clear hu103
        generalize ((y95 == 0) || ((e27.Kids_.length : Int) != y95)) = t102 at H key ⊢
        cases t102
        ·have H := of_if_f rfl H
         refine ow_batch [.fa 70 2 3 fa70_2] rfl <| o1 rfl (r1 3 3 rfl ty56 rfl) <| bE H fun y100 h101 H => oq rfl (qc rfl fn95 (fun w1 hw1 => impl_ascending_ok w1  h101 (rds_bor g45 w1 hw1))) tt2 <| oP rfl <| oP rfl <| ?_
         obtain rfl := of_some H
         exact OW.sub key (sb rfl)
        ·have H := of_if_t rfl H
         refine ow_batch [.p, .p, .p, .p, .p] rfl ?_
         obtain rfl := of_some H
         exact OW.sub key (sb rfl)
      ·generalize (y95 == 0) = t98 at key ⊢
       cases t98
       ·exact ow_batch [.fa 70 2 3 fa70_2] rfl <| o1 rfl (r1 3 3 rfl ty56 rfl) <| ow_batch [.lenS 56 3 sl56, .p, .p] rfl <| oP rfl <| OW.sub key (sb rfl)
       ·exact ow_batch [.p, .p, .p, .p, .p, .p] rfl <| OW.sub key (sb rfl)
   ·clear H
    have H := hu82
    clear hu82
    generalize u73 = t81 at H key ⊢
    cases t81
    ·have H := of_if_f rfl H
     refine o1 rfl (rx 0 0 _ rfl ty38 rfl) <| ow_batch [.fa 70 6 8 fa70_6] rfl <| o1 rfl (r1 8 3 rfl ty56 rfl) <| bE H fun y79 h80 H => oq rfl (qc rfl fn92 (fun w1 hw1 => impl_AttrsOk_ok w1 h80 (rdm_Timpl_Schema (rds_bor g12 w1 hw1) (rds_bor g13 w1 hw1)) (rds_bor g49 w1 hw1))) tt2 <| oP rfl <| oP rfl <| ?_
     obtain rfl := of_some H
     exact OW.sub key (sb rfl)
    ·have H := of_if_t rfl H
     refine ow_batch [.p, .p, .p, .p, .p, .p] rfl ?_
     obtain rfl := of_some H
     exact OW.sub key (sb rfl)
  ·clear H
   have H := hu77
   clear hu77
   generalize u68 = t76 at H key ⊢
   cases t76
   ·have H := of_if_f rfl H
    refine o1 rfl (rx 0 0 _ rfl ty38 rfl) <| ow_batch [.fa 70 4 5 fa70_4] rfl <| o1 rfl (rx 5 3 _ rfl ty68 rfl) <| bE H fun y74 h75 H => oq rfl (qc rfl fn91 (fun w1 hw1 => impl_StatsOk_ok w1 h75 (rdm_Timpl_Schema (rds_bor g12 w1 hw1) (rds_bor g13 w1 hw1)) (rdm_Timpl_Stats (rds_bor g57 w1 hw1) (rds_bor g58 w1 hw1)))) tt2 <| oP rfl <| oP rfl <| ?_
    obtain rfl := of_some H
    exact OW.sub key (sb rfl)
   ·have H := of_if_t rfl H
    refine ow_batch [.p, .p, .p, .p, .p, .p] rfl ?_
    obtain rfl := of_some H
    exact OW.sub key (sb rfl)
 ·clear H
  have H := hu72
  clear hu72
  generalize (!y66) = t71 at H key ⊢
  cases t71
  ·have H := of_if_f rfl H
   refine ow_batch [.fa 70 9 11 fa70_9] rfl <| o1 rfl (r1 11 3 rfl ty3 rfl) <| ow_batch [.fa 44 1 1 fa44_1] rfl <| o1 rfl (r1 1 1 rfl ty3 rfl) <| bE H fun y69 h70 H => oq rfl (qc rfl fn60 (fun w1 hw1 => impl_within_ok w1  h70)) tt2 <| oP rfl <| oP rfl <| ?_
   obtain rfl := of_some H
   exact OW.sub key (sb rfl)
  ·have H := of_if_t rfl H
   refine ow_batch [.p, .p, .p, .p, .p, .p, .p] rfl ?_
   obtain rfl := of_some H
   exact OW.sub key (sb rfl)
theorem lib_slices_Index___int_int__ok (w : World) {p0 : List Int} {p1 : Int} {a_0 : Option Addr} {n_0 c_0 : Nat} {r : Int} (H : lib_slices_Index___int_int_ p0 p1 = some r)  (g0 : (eList eI 3).rd w [] p0 [.slice a_0 n_0 c_0]) :
    Calls Tryz.prog 98 #[.slice a_0 n_0 c_0, .int .i64 p1] w (fun en w' => en = .returned (.int .i64 r) ∧ Ext [] w w') := by
 obtain rfl := rd_n g0
 unfold lib_slices_Index___int_int_ at H
 refine f_enter Tryz.func98 rfl Tryz.ntmps98 rfl (St.init w []) <| sR <| oP rfl <| nQ <| c_seq <| sR <| ow_batch [.p, .lenS 56 3 sl56, .p] rfl <| nQ <| c_block <| CW.at (loopI1 (fun (i13 : Int) => St w [] []) (fun i13 => [(0, .slice a_0 p0.length c_0), (1, .int .i64 p1), (7, .int .i64 (p0.length : Int)), (8, .int .i64 i13)]) (fun kk => fun i13 => lib_slices_Index___int_int__L1 p0 p1 kk i13 = some r) (fun _ H => ?_) (fun k1 ihk1 i13 H => ?_) Fuel (0) (H)) (fun _ h => St.sel [] rfl rfl h) ⟨rfl, rfl, rfl, rfl, trivial⟩
 ·unfold lib_slices_Index___int_int__L1 at H
  exact absurd H (by simp)
 ·unfold lib_slices_Index___int_int__L1 at H
  refine sR <| oP rfl <| nQ <| c_seq <| cI H rfl (fun H => ?_) (fun H => ?_)
  ·refine c_skip <| x_qs <| c_seq <| c_block <| sR <| oPP rfl <| nR <| ow_batch [.p, .p, .p] rfl <| bE H fun e18 h19 H => ow_ixE (e := eI) (xs := p0) (j := i13) rfl rfl rfl rfl rfl sl56 ty3 rfl (fun w1 hw1 => rds_bor g0 w1 hw1) h19 (by rw [Nat.mul_one]) <| o1 rfl (ry_load1 rfl rfl ty3 (at_elV (fun w1 hw1 => rds_bor g0 w1 hw1) h19)) <| oP rfl <| nQ <| cI H rfl (fun H => ?_) (fun H => ?_)
   ·exact sR <| oPP rfl <| nT <| x_qb_ret <| x_qs_ret <| x_ql_ret <| x_qb_ret <| x_qs_ret <| xr 4 rfl (by cases H; exact q1)
   ·exact c_skip <| x_qb <| x_qs <| c_reg <| oPP rfl <| ow_nil <| x_ql (RW.at (ihk1 (IntKind.i64.wrap (i13 + 1)) (H)) (fun _ h => St.sel [] rfl rfl h) ⟨rfl, rfl, rfl, rfl, trivial⟩)
  ·exact c_exit <| x_qs_exit <| x_ql_exit <| x_qb_here <| x_qs <| sR <| oP rfl <| nT <| xr 4 rfl (by cases H; exact q1)
theorem lib_slices_Contains___int_int__ok (w : World) {p0 : List Int} {p1 : Int} {a_0 : Option Addr} {n_0 c_0 : Nat} {r : Bool} (H : lib_slices_Contains___int_int_ p0 p1 = some r)  (g0 : (eList eI 3).rd w [] p0 [.slice a_0 n_0 c_0]) :
    Calls Tryz.prog 62 #[.slice a_0 n_0 c_0, .int .i64 p1] w (fun en w' => en = .returned (.bool r) ∧ Ext [] w w') := by
 obtain rfl := rd_n g0
 unfold lib_slices_Contains___int_int_ at H
 exact f_enter Tryz.func62 rfl Tryz.ntmps62 rfl (St.init w []) <| sR <| oP rfl <| nR <| oPP rfl <| bE H fun y10 h11 H => oq rfl (qc rfl fn98 (fun w1 hw1 => lib_slices_Index___int_int__ok w1  h11 (rds_bor g0 w1 hw1))) tt2 <| oPP rfl <| nT <| xr 4 rfl (by cases H; exact q1)
theorem impl_TreeOk_ok (w : World) {p0 : Timpl_Schema} {p1 : Timpl_Tree} {cs0 : List Value} {cs1 : List Value} {r : Bool} (H : impl_TreeOk p0 p1 = some r)  (g0 : (eTimpl_Schema).rd w [] p0 cs0) (g1 : (eTimpl_Tree).rd w [] p1 cs1) :
    Calls Tryz.prog 32 #[.agg cs0.toArray, .agg cs1.toArray] w (fun en w' => en = .returned (.bool r) ∧ Ext [] w w') := by
 obtain ⟨c10, c11, rfl, g12, g13⟩ := rdo_Timpl_Schema g0
 obtain ⟨a14, c15, rfl⟩ := rd_sl1 g12
 obtain ⟨a16, c17, rfl⟩ := rd_sl1 g13
 obtain ⟨c18, c19, rfl, g20, g21⟩ := rdo_Timpl_Tree g1
 obtain ⟨a22, c23, rfl⟩ := rd_sl1 g20
 obtain rfl := g21
 unfold impl_TreeOk at H
 refine f_enter Tryz.func32 rfl Tryz.ntmps32 rfl (St.init w []) <| sR <| ob _ rfl fun b24 => ob _ rfl fun b25 => oP rfl <| nQ <| c_seq <| sR <| o1 rfl (rx 0 0 _ rfl ty38 rfl) <| bE H fun y26 h27 H => oq rfl (qc rfl fn59 (fun w1 hw1 => impl_SchemaOk_ok w1 h27 (rdm_Timpl_Schema (rds_bor g12 w1 hw1) (rds_bor g13 w1 hw1)))) tt2 <| oPP rfl <| bE H fun u28 hu32 H => ow_cut [(17, .bool u28), (2, .pointer (some ⟨b24, 0, none⟩)), (3, .pointer (some ⟨b25, 0, none⟩))] 6 ?_ (fun key => OW.sub (R := [(2, .pointer (some ⟨b24, 0, none⟩)), (3, .pointer (some ⟨b25, 0, none⟩)), (11, .bool (!y26))]) ?_ (sb rfl))
 ·refine oP rfl <| bE H fun u33 hu37 H => ow_cut [(23, .bool u33), (2, .pointer (some ⟨b24, 0, none⟩)), (3, .pointer (some ⟨b25, 0, none⟩))] 5 ?_ (fun key => OW.sub (R := [(2, .pointer (some ⟨b24, 0, none⟩)), (3, .pointer (some ⟨b25, 0, none⟩)), (18, .bool u28)]) ?_ (sb rfl))
  ·refine nQ <| cI H rfl (fun H => ?_) (fun H => ?_)
   ·exact sR <| oP rfl <| nT <| x_qs_ret <| xr 4 rfl (by cases H; exact q1)
   ·refine c_skip <| x_qs <| c_seq <| sR <| ow_batch [.fa 44 0 0 fa44_0] rfl <| o1 rfl (r1 0 1 rfl ty42 rfl) <| ow_batch [.lenS 42 70 sl42, .p] rfl <| nQ <| c_block <| CW.at (loopI1 (fun (i134 : Int) => St w [] [Res.box b24 38 [.slice a14 p0.Attrs_.length c15, .slice a16 p0.Classes_.length c17], Res.box b25 44 [.slice a22 p1.Nodes_.length c23, .int .i64 p1.Seen_]]) (fun i134 => [(2, .pointer (some ⟨b24, 0, none⟩)), (3, .pointer (some ⟨b25, 0, none⟩)), (25, .slice a22 p1.Nodes_.length c23), (26, .int .i64 (p1.Nodes_.length : Int)), (27, .int .i64 i134)]) (fun kk => fun i134 => impl_TreeOk_L1 p1 p0 kk i134 = some r) (fun _ H => ?_) (fun k1 ihk1 i134 H => ?_) Fuel (0) (H)) (fun _ h => St.sel [0, 1] rfl rfl h) ⟨rfl, rfl, rfl, rfl, rfl, trivial⟩
    ·unfold impl_TreeOk_L1 at H
     exact absurd H (by simp)
    ·unfold impl_TreeOk_L1 at H
     refine sR <| oP rfl <| nQ <| c_seq <| cI H rfl (fun H => ?_) (fun H => ?_)
     ·refine c_skip <| x_qs <| c_seq <| c_block <| sR <| oP rfl <| bE H fun e231 h232 H => ow_ixB rfl rfl rfl rfl rfl sl42 ty70 rfl g20 h232 fun q235 c236 hd233 hA234 => ?_
      obtain ⟨c237, c238, c239, c240, c241, c242, c243, c244, c245, c246, rfl, g247, g248, g249, g250, g251, g252, g253, g254, g255, g256⟩ := rdo_Timpl_Node hd233
      obtain rfl := g247
      obtain rfl := g248
      obtain ⟨a257, c258, rfl⟩ := rd_sl1 g249
      obtain rfl := g250
      obtain ⟨c259, c260, rfl, g261, g262⟩ := rdo_Timpl_Stats g251
      obtain ⟨a263, c264, rfl⟩ := rd_sl1 g261
      obtain ⟨a265, c266, rfl⟩ := rd_sl1 g262
      obtain rfl := g252
      obtain ⟨a267, c268, rfl⟩ := rd_sl1 g253
      obtain rfl := g254
      obtain rfl := g255
      obtain rfl := g256
      refine o1 rfl (ry_load (cs := [.bool e231.Leaf_, .int .i64 e231.Fork_.Attr_, .int .i64 e231.Fork_.At_, .slice a257 e231.Kids_.length c258, .int .i64 e231.Miss_, .slice a263 e231.Stats_.Totals_.length c264, .slice a265 e231.Stats_.Cells_.length c266, .int .i64 e231.Since_, .slice a267 e231.Attrs_.length c268, .int .i64 e231.Depth_, .int .i64 e231.Up_, .int .i64 e231.Born_]) rfl rfl ty70 (at_bor bor hA234) rfl) <| ow_alloc rfl rfl rfl rfl ty70 (fun _ => kp) fun b269 => oP rfl <| sC 0 [.bool e231.Leaf_, .int .i64 e231.Fork_.Attr_, .int .i64 e231.Fork_.At_, .slice a257 e231.Kids_.length c258, .int .i64 e231.Miss_, .slice a263 e231.Stats_.Totals_.length c264, .slice a265 e231.Stats_.Cells_.length c266, .int .i64 e231.Since_, .slice a267 e231.Attrs_.length c268, .int .i64 e231.Depth_, .int .i64 e231.Up_, .int .i64 e231.Born_] [_, _, _, _, _, _, _, _, _, _, _, _] 2 rfl ty70 rfl <| nQ <| c_seq <| sR <| o1 rfl (rx 0 0 _ rfl ty38 rfl) <| o1 rfl (rx 0 1 _ rfl ty44 rfl) <| oP rfl <| bE H fun y270 h271 H => oq rfl (qc rfl fn61 (fun w1 hw1 => impl_nodeOk_ok w1 h271 (rdm_Timpl_Schema (rds_bor g12 w1 hw1) (rds_bor g13 w1 hw1)) (rdm_Timpl_Tree (rds_bor g20 w1 hw1) rfl))) tt2 <| oP rfl <| nQ <| cI H rfl (fun H => ?_) (fun H => ?_)
      ·exact sR <| oP rfl <| nT <| x_qs_ret <| x_qb_ret <| x_qs_ret <| x_ql_ret <| x_qb_ret <| x_qs_ret <| xr 4 rfl (by cases H; exact q1)
      ·refine c_skip <| x_qs <| c_seq <| sR <| oPP rfl <| nQ <| cI H rfl (fun H => ?_) (fun H => ?_)
       ·refine c_seq <| sR <| ow_batch [.fa 70 8 10 fa70_8] rfl <| o1 rfl (r1 10 2 rfl ty3 rfl) <| oPP rfl <| ow_cut [(46, .bool ((e231.Up_ != (-1)) || (e231.Depth_ != 0))), (2, .pointer (some ⟨b24, 0, none⟩)), (3, .pointer (some ⟨b25, 0, none⟩)), (6, .pointer (some ⟨b269, 0, none⟩)), (25, .slice a22 p1.Nodes_.length c23), (26, .int .i64 (p1.Nodes_.length : Int)), (27, .int .i64 i134)] 4 ?_ (fun key => OW.sub (R := [(2, .pointer (some ⟨b24, 0, none⟩)), (3, .pointer (some ⟨b25, 0, none⟩)), (6, .pointer (some ⟨b269, 0, none⟩)), (25, .slice a22 p1.Nodes_.length c23), (26, .int .i64 (p1.Nodes_.length : Int)), (27, .int .i64 i134), (42, .bool (e231.Up_ != (-1)))]) ?_ (sb rfl))
        ·refine oP rfl <| ow_cut [(51, .bool (((e231.Up_ != (-1)) || (e231.Depth_ != 0)) || (e231.Born_ != 0))), (2, .pointer (some ⟨b24, 0, none⟩)), (3, .pointer (some ⟨b25, 0, none⟩)), (25, .slice a22 p1.Nodes_.length c23), (26, .int .i64 (p1.Nodes_.length : Int)), (27, .int .i64 i134)] 4 ?_ (fun key => OW.sub (R := [(2, .pointer (some ⟨b24, 0, none⟩)), (3, .pointer (some ⟨b25, 0, none⟩)), (6, .pointer (some ⟨b269, 0, none⟩)), (25, .slice a22 p1.Nodes_.length c23), (26, .int .i64 (p1.Nodes_.length : Int)), (27, .int .i64 i134), (47, .bool ((e231.Up_ != (-1)) || (e231.Depth_ != 0)))]) ?_ (sb rfl))
         ·refine nQ <| cI H rfl (fun H => ?_) (fun H => ?_)
          ·exact sR <| oP rfl <| nT <| x_qs_ret <| x_qs_ret <| x_qb_ret <| x_qs_ret <| x_ql_ret <| x_qb_ret <| x_qs_ret <| xr 4 rfl (by cases H; exact q1)
          ·exact c_skip <| x_qs <| c_exit <| x_qs_exit <| x_qb_here <| x_qs <| c_reg <| oPP rfl <| ow_nil <| x_ql (RW.at (ihk1 (IntKind.i64.wrap (i134 + 1)) (H)) (fun _ h => St.sel [0, 1] rfl rfl h) ⟨rfl, rfl, rfl, rfl, rfl, trivial⟩)
         ·generalize ((e231.Up_ != (-1)) || (e231.Depth_ != 0)) = t275 at key ⊢
          cases t275
          ·exact ow_batch [.fa 70 9 11 fa70_9] rfl <| o1 rfl (r1 11 2 rfl ty3 rfl) <| oP rfl <| oP rfl <| OW.sub key (sb rfl)
          ·exact ow_batch [.p, .p, .p, .p] rfl <| OW.sub key (sb rfl)
        ·generalize (e231.Up_ != (-1)) = t273 at key ⊢
         cases t273
         ·exact ow_batch [.fa 70 7 9 fa70_7] rfl <| o1 rfl (r1 9 2 rfl ty3 rfl) <| oP rfl <| oP rfl <| OW.sub key (sb rfl)
         ·exact ow_batch [.p, .p, .p, .p] rfl <| OW.sub key (sb rfl)
       ·refine c_skip <| x_qs <| c_seq <| sR <| ow_batch [.fa 70 8 10 fa70_8] rfl <| o1 rfl (r1 10 2 rfl ty3 rfl) <| oPP rfl <| bE H fun y276 h277 H => oq rfl (qc rfl fn60 (fun w1 hw1 => impl_within_ok w1  h277)) tt2 <| oP rfl <| nQ <| cI H rfl (fun H => ?_) (fun H => ?_)
        ·exact sR <| oP rfl <| nT <| x_qs_ret <| x_qb_ret <| x_qs_ret <| x_ql_ret <| x_qb_ret <| x_qs_ret <| xr 4 rfl (by cases H; exact q1)
        ·refine c_skip <| x_qs <| sR <| ow_batch [.fa 44 0 0 fa44_0] rfl <| o1 rfl (r1 0 1 rfl ty42 rfl) <| ow_batch [.fa 70 8 10 fa70_8] rfl <| o1 rfl (r1 10 2 rfl ty3 rfl) <| bE H fun e278 h279 H => ow_ixB rfl rfl rfl rfl rfl sl42 ty70 rfl g20 h279 fun q282 c283 hd280 hA281 => ?_
         obtain ⟨c284, c285, c286, c287, c288, c289, c290, c291, c292, c293, rfl, g294, g295, g296, g297, g298, g299, g300, g301, g302, g303⟩ := rdo_Timpl_Node hd280
         obtain rfl := g294
         obtain rfl := g295
         obtain ⟨a304, c305, rfl⟩ := rd_sl1 g296
         obtain rfl := g297
         obtain ⟨c306, c307, rfl, g308, g309⟩ := rdo_Timpl_Stats g298
         obtain ⟨a310, c311, rfl⟩ := rd_sl1 g308
         obtain ⟨a312, c313, rfl⟩ := rd_sl1 g309
         obtain rfl := g299
         obtain ⟨a314, c315, rfl⟩ := rd_sl1 g300
         obtain rfl := g301
         obtain rfl := g302
         obtain rfl := g303
         refine o1 rfl (ry_load (cs := [.bool e278.Leaf_, .int .i64 e278.Fork_.Attr_, .int .i64 e278.Fork_.At_, .slice a304 e278.Kids_.length c305, .int .i64 e278.Miss_, .slice a310 e278.Stats_.Totals_.length c311, .slice a312 e278.Stats_.Cells_.length c313, .int .i64 e278.Since_, .slice a314 e278.Attrs_.length c315, .int .i64 e278.Depth_, .int .i64 e278.Up_, .int .i64 e278.Born_]) rfl rfl ty70 (at_bor bor hA281) rfl) <| ow_alloc rfl rfl rfl rfl ty70 (fun _ => kp) fun b316 => sC 0 [.bool e278.Leaf_, .int .i64 e278.Fork_.Attr_, .int .i64 e278.Fork_.At_, .slice a304 e278.Kids_.length c305, .int .i64 e278.Miss_, .slice a310 e278.Stats_.Totals_.length c311, .slice a312 e278.Stats_.Cells_.length c313, .int .i64 e278.Since_, .slice a314 e278.Attrs_.length c315, .int .i64 e278.Depth_, .int .i64 e278.Up_, .int .i64 e278.Born_] [_, _, _, _, _, _, _, _, _, _, _, _] 3 rfl ty70 rfl <| nR <| ow_batch [.fa 70 0 0 fa70_0] rfl <| o1 rfl (r1 0 3 rfl ty4 rfl) <| oP rfl <| bE H fun u317 hu321 H => ow_cut [(72, .bool u317), (2, .pointer (some ⟨b24, 0, none⟩)), (3, .pointer (some ⟨b25, 0, none⟩)), (6, .pointer (some ⟨b269, 0, none⟩)), (7, .pointer (some ⟨b316, 0, none⟩)), (25, .slice a22 p1.Nodes_.length c23), (26, .int .i64 (p1.Nodes_.length : Int)), (27, .int .i64 i134)] 6 ?_ (fun key => OW.sub (R := [(2, .pointer (some ⟨b24, 0, none⟩)), (3, .pointer (some ⟨b25, 0, none⟩)), (5, .int .i64 i134), (6, .pointer (some ⟨b269, 0, none⟩)), (7, .pointer (some ⟨b316, 0, none⟩)), (25, .slice a22 p1.Nodes_.length c23), (26, .int .i64 (p1.Nodes_.length : Int)), (27, .int .i64 i134), (66, .bool e278.Leaf_)]) ?_ (sb rfl))
         ·refine oP rfl <| ow_cut [(80, .bool (u317 || (e278.Depth_ != (IntKind.i64.wrap (e231.Depth_ - 1))))), (2, .pointer (some ⟨b24, 0, none⟩)), (3, .pointer (some ⟨b25, 0, none⟩)), (6, .pointer (some ⟨b269, 0, none⟩)), (7, .pointer (some ⟨b316, 0, none⟩)), (25, .slice a22 p1.Nodes_.length c23), (26, .int .i64 (p1.Nodes_.length : Int)), (27, .int .i64 i134)] 7 ?_ (fun key => OW.sub (R := [(2, .pointer (some ⟨b24, 0, none⟩)), (3, .pointer (some ⟨b25, 0, none⟩)), (6, .pointer (some ⟨b269, 0, none⟩)), (7, .pointer (some ⟨b316, 0, none⟩)), (25, .slice a22 p1.Nodes_.length c23), (26, .int .i64 (p1.Nodes_.length : Int)), (27, .int .i64 i134), (73, .bool u317)]) ?_ (sb rfl))
          ·refine oP rfl <| ow_cut [(87, .bool ((u317 || (e278.Depth_ != (IntKind.i64.wrap (e231.Depth_ - 1)))) || (decide (e278.Born_ > e231.Born_)))), (2, .pointer (some ⟨b24, 0, none⟩)), (3, .pointer (some ⟨b25, 0, none⟩)), (25, .slice a22 p1.Nodes_.length c23), (26, .int .i64 (p1.Nodes_.length : Int)), (27, .int .i64 i134)] 6 ?_ (fun key => OW.sub (R := [(2, .pointer (some ⟨b24, 0, none⟩)), (3, .pointer (some ⟨b25, 0, none⟩)), (6, .pointer (some ⟨b269, 0, none⟩)), (7, .pointer (some ⟨b316, 0, none⟩)), (25, .slice a22 p1.Nodes_.length c23), (26, .int .i64 (p1.Nodes_.length : Int)), (27, .int .i64 i134), (81, .bool (u317 || (e278.Depth_ != (IntKind.i64.wrap (e231.Depth_ - 1)))))]) ?_ (sb rfl))
           ·refine nQ <| cI H rfl (fun H => ?_) (fun H => ?_)
            ·exact sR <| oP rfl <| nT <| x_qb_ret <| x_qs_ret <| x_ql_ret <| x_qb_ret <| x_qs_ret <| xr 4 rfl (by cases H; exact q1)
            ·exact c_skip <| x_qb <| x_qs <| c_reg <| oPP rfl <| ow_nil <| x_ql (RW.at (ihk1 (IntKind.i64.wrap (i134 + 1)) (H)) (fun _ h => St.sel [0, 1] rfl rfl h) ⟨rfl, rfl, rfl, rfl, rfl, trivial⟩)
           ·generalize (u317 || (e278.Depth_ != (IntKind.i64.wrap (e231.Depth_ - 1)))) = t325 at key ⊢
            cases t325
            ·exact ow_batch [.fa 70 9 11 fa70_9] rfl <| o1 rfl (r1 11 3 rfl ty3 rfl) <| ow_batch [.fa 70 9 11 fa70_9] rfl <| o1 rfl (r1 11 2 rfl ty3 rfl) <| oP rfl <| oP rfl <| OW.sub key (sb rfl)
            ·exact ow_batch [.p, .p, .p, .p, .p, .p] rfl <| OW.sub key (sb rfl)
          ·generalize u317 = t323 at key ⊢
           cases t323
           ·exact ow_batch [.fa 70 7 9 fa70_7] rfl <| o1 rfl (r1 9 3 rfl ty3 rfl) <| ow_batch [.fa 70 7 9 fa70_7] rfl <| o1 rfl (r1 9 2 rfl ty3 rfl) <| oPP rfl <| oP rfl <| OW.sub key (sb rfl)
           ·exact ow_batch [.p, .p, .p, .p, .p, .p, .p] rfl <| OW.sub key (sb rfl)
         ·clear H
          have H := hu321
          clear hu321
          generalize e278.Leaf_ = t320 at H key ⊢
          cases t320
          ·have H := of_if_f rfl H
           refine ow_batch [.fa 70 2 3 fa70_2] rfl <| o1 rfl (r1 3 3 rfl ty56 rfl) <| oP rfl <| bE H fun y318 h319 H => oq rfl (qc rfl fn62 (fun w1 hw1 => lib_slices_Contains___int_int__ok w1  h319 (rds_bor g296 w1 hw1))) tt2 <| oP rfl <| oP rfl <| ?_
           obtain rfl := of_some H
           exact OW.sub key (sb rfl)
          ·have H := of_if_t rfl H
           refine ow_batch [.p, .p, .p, .p, .p, .p] rfl ?_
           obtain rfl := of_some H
           exact OW.sub key (sb rfl)
     ·exact c_exit <| x_qs_exit <| x_ql_exit <| x_qb_here <| x_qs <| sR <| oP rfl <| nT <| xr 4 rfl (by cases H; exact q1)
  ·clear H
   have H := hu37
   clear hu37
   generalize u28 = t36 at H key ⊢
   cases t36
   ·have H := of_if_f rfl H
    refine ow_batch [.fa 44 1 1 fa44_1] rfl <| o1 rfl (r1 1 1 rfl ty3 rfl) <| bE H fun y34 h35 H => oq rfl (qc rfl fn60 (fun w1 hw1 => impl_within_ok w1  h35)) tt2 <| oP rfl <| oP rfl <| ?_
    obtain rfl := of_some H
    exact OW.sub key (sb rfl)
   ·have H := of_if_t rfl H
    refine ow_batch [.p, .p, .p, .p, .p] rfl ?_
    obtain rfl := of_some H
    exact OW.sub key (sb rfl)
 ·clear H
  have H := hu32
  clear hu32
  generalize (!y26) = t31 at H key ⊢
  cases t31
  ·have H := of_if_f rfl H
   refine ow_batch [.fa 44 0 0 fa44_0] rfl <| o1 rfl (r1 0 1 rfl ty42 rfl) <| ow_batch [.lenS 42 70 sl42] rfl <| bE H fun y29 h30 H => oq rfl (qc rfl fn60 (fun w1 hw1 => impl_within_ok w1  h30)) tt2 <| oP rfl <| oP rfl <| ?_
   obtain rfl := of_some H
   exact OW.sub key (sb rfl)
  ·have H := of_if_t rfl H
   refine ow_batch [.p, .p, .p, .p, .p, .p] rfl ?_
   obtain rfl := of_some H
   exact OW.sub key (sb rfl)
theorem impl_RuleOk_ok (w : World) {p0 : Timpl_Rule}  {r : Bool} (H : impl_RuleOk p0 = some r)   :
    Calls Tryz.prog 33 #[.agg #[.int .i64 p0.Sure_, .int .i64 p0.Tie_, .int .i64 p0.Grace_, .int .i64 p0.Depth_, .int .i64 p0.Nodes_, .int .i64 p0.Units_, .bool p0.Two_]] w (fun en w' => en = .returned (.bool r) ∧ Ext [] w w') := by
 unfold impl_RuleOk at H
 refine f_enter Tryz.func33 rfl Tryz.ntmps33 rfl (St.init w []) <| sR <| ob _ rfl fun b10 => oP rfl <| nR <| ow_batch [.fa 40 0 0 fa40_0] rfl <| o1 rfl (r1 0 0 rfl ty3 rfl) <| bE H fun y11 h12 H => oq rfl (qc rfl fn60 (fun w1 hw1 => impl_within_ok w1  h12)) tt2 <| oP rfl <| bE H fun u13 hu17 H => ow_cut [(10, .bool u13), (1, .pointer (some ⟨b10, 0, none⟩)), (2, .bool false)] 4 ?_ (fun key => OW.sub (R := [(1, .pointer (some ⟨b10, 0, none⟩)), (2, .bool false), (6, .bool y11)]) ?_ (sb rfl))
 ·refine oP rfl <| bE H fun u18 hu22 H => ow_cut [(15, .bool u18), (1, .pointer (some ⟨b10, 0, none⟩)), (2, .bool false)] 4 ?_ (fun key => OW.sub (R := [(1, .pointer (some ⟨b10, 0, none⟩)), (2, .bool false), (11, .bool u13)]) ?_ (sb rfl))
  ·refine oP rfl <| bE H fun u23 hu27 H => ow_cut [(20, .bool u23), (1, .pointer (some ⟨b10, 0, none⟩)), (2, .bool false)] 4 ?_ (fun key => OW.sub (R := [(1, .pointer (some ⟨b10, 0, none⟩)), (2, .bool false), (16, .bool u18)]) ?_ (sb rfl))
   ·refine oP rfl <| bE H fun u28 hu32 H => ow_cut [(25, .bool u28), (1, .pointer (some ⟨b10, 0, none⟩)), (2, .bool false)] 4 ?_ (fun key => OW.sub (R := [(1, .pointer (some ⟨b10, 0, none⟩)), (2, .bool false), (21, .bool u23)]) ?_ (sb rfl))
    ·refine oP rfl <| bE H fun u33 hu37 H => ow_cut [(30, .bool u33), (2, .bool false)] 4 ?_ (fun key => OW.sub (R := [(1, .pointer (some ⟨b10, 0, none⟩)), (2, .bool false), (26, .bool u28)]) ?_ (sb rfl))
     ·exact oP rfl <| nT <| xr 2 rfl (by cases H; exact q1)
     ·clear H
      have H := hu37
      clear hu37
      generalize u28 = t36 at H key ⊢
      cases t36
      ·have H := of_if_f rfl H
       refine ow_batch [.p, .p, .p, .p] rfl ?_
       obtain rfl := of_some H
       exact OW.sub key (sb rfl)
      ·have H := of_if_t rfl H
       refine ow_batch [.fa 40 5 5 fa40_5] rfl <| o1 rfl (r1 5 0 rfl ty3 rfl) <| bE H fun y34 h35 H => oq rfl (qc rfl fn60 (fun w1 hw1 => impl_within_ok w1  h35)) tt2 <| oP rfl <| ?_
       obtain rfl := of_some H
       exact OW.sub key (sb rfl)
    ·clear H
     have H := hu32
     clear hu32
     generalize u23 = t31 at H key ⊢
     cases t31
     ·have H := of_if_f rfl H
      refine ow_batch [.p, .p, .p, .p] rfl ?_
      obtain rfl := of_some H
      exact OW.sub key (sb rfl)
     ·have H := of_if_t rfl H
      refine ow_batch [.fa 40 4 4 fa40_4] rfl <| o1 rfl (r1 4 0 rfl ty3 rfl) <| bE H fun y29 h30 H => oq rfl (qc rfl fn60 (fun w1 hw1 => impl_within_ok w1  h30)) tt2 <| oP rfl <| ?_
      obtain rfl := of_some H
      exact OW.sub key (sb rfl)
   ·clear H
    have H := hu27
    clear hu27
    generalize u18 = t26 at H key ⊢
    cases t26
    ·have H := of_if_f rfl H
     refine ow_batch [.p, .p, .p, .p] rfl ?_
     obtain rfl := of_some H
     exact OW.sub key (sb rfl)
    ·have H := of_if_t rfl H
     refine ow_batch [.fa 40 3 3 fa40_3] rfl <| o1 rfl (r1 3 0 rfl ty3 rfl) <| bE H fun y24 h25 H => oq rfl (qc rfl fn60 (fun w1 hw1 => impl_within_ok w1  h25)) tt2 <| oP rfl <| ?_
     obtain rfl := of_some H
     exact OW.sub key (sb rfl)
  ·clear H
   have H := hu22
   clear hu22
   generalize u13 = t21 at H key ⊢
   cases t21
   ·have H := of_if_f rfl H
    refine ow_batch [.p, .p, .p, .p] rfl ?_
    obtain rfl := of_some H
    exact OW.sub key (sb rfl)
   ·have H := of_if_t rfl H
    refine ow_batch [.fa 40 2 2 fa40_2] rfl <| o1 rfl (r1 2 0 rfl ty3 rfl) <| bE H fun y19 h20 H => oq rfl (qc rfl fn60 (fun w1 hw1 => impl_within_ok w1  h20)) tt2 <| oP rfl <| ?_
    obtain rfl := of_some H
    exact OW.sub key (sb rfl)
 ·clear H
  have H := hu17
  clear hu17
  generalize y11 = t16 at H key ⊢
  cases t16
  ·have H := of_if_f rfl H
   refine ow_batch [.p, .p, .p, .p] rfl ?_
   obtain rfl := of_some H
   exact OW.sub key (sb rfl)
  ·have H := of_if_t rfl H
   refine ow_batch [.fa 40 1 1 fa40_1] rfl <| o1 rfl (r1 1 0 rfl ty3 rfl) <| bE H fun y14 h15 H => oq rfl (qc rfl fn60 (fun w1 hw1 => impl_within_ok w1  h15)) tt2 <| oP rfl <| ?_
   obtain rfl := of_some H
   exact OW.sub key (sb rfl)
theorem impl_ExOk_ok (w : World) {p0 : Timpl_Schema} {p1 : Timpl_Ex} {cs0 : List Value} {cs1 : List Value} {r : Bool} (H : impl_ExOk p0 p1 = some r)  (g0 : (eTimpl_Schema).rd w [] p0 cs0) (g1 : (eTimpl_Ex).rd w [] p1 cs1) :
    Calls Tryz.prog 65 #[.agg cs0.toArray, .agg cs1.toArray] w (fun en w' => en = .returned (.bool r) ∧ Ext [] w w') := by
 obtain ⟨c10, c11, rfl, g12, g13⟩ := rdo_Timpl_Schema g0
 obtain ⟨a14, c15, rfl⟩ := rd_sl1 g12
 obtain ⟨a16, c17, rfl⟩ := rd_sl1 g13
 obtain ⟨c18, c19, rfl, g20, g21⟩ := rdo_Timpl_Ex g1
 obtain ⟨a22, c23, rfl⟩ := rd_sl1 g20
 obtain rfl := g21
 unfold impl_ExOk at H
 refine f_enter Tryz.func65 rfl Tryz.ntmps65 rfl (St.init w []) <| sR <| ob _ rfl fun b24 => ob _ rfl fun b25 => oP rfl <| nQ <| c_seq <| sR <| o1 rfl (rx 0 0 _ rfl ty38 rfl) <| bE H fun y26 h27 H => oq rfl (qc rfl fn59 (fun w1 hw1 => impl_SchemaOk_ok w1 h27 (rdm_Timpl_Schema (rds_bor g12 w1 hw1) (rds_bor g13 w1 hw1)))) tt2 <| oPP rfl <| ow_cut [(18, .bool ((!y26) || ((p1.Bins_.length : Int) != (p0.Attrs_.length : Int)))), (2, .pointer (some ⟨b24, 0, none⟩)), (3, .pointer (some ⟨b25, 0, none⟩))] 8 ?_ (fun key => OW.sub (R := [(2, .pointer (some ⟨b24, 0, none⟩)), (3, .pointer (some ⟨b25, 0, none⟩)), (10, .bool (!y26))]) ?_ (sb rfl))
 ·refine oP rfl <| bE H fun u30 hu34 H => ow_cut [(28, .bool u30), (2, .pointer (some ⟨b24, 0, none⟩)), (3, .pointer (some ⟨b25, 0, none⟩))] 9 ?_ (fun key => OW.sub (R := [(2, .pointer (some ⟨b24, 0, none⟩)), (3, .pointer (some ⟨b25, 0, none⟩)), (19, .bool ((!y26) || ((p1.Bins_.length : Int) != (p0.Attrs_.length : Int))))]) ?_ (sb rfl))
  ·refine nQ <| cI H rfl (fun H => ?_) (fun H => ?_)
   ·exact sR <| oP rfl <| nT <| x_qs_ret <| xr 4 rfl (by cases H; exact q1)
   ·refine c_skip <| x_qs <| c_seq <| sR <| ow_batch [.fa 81 0 0 fa81_0] rfl <| o1 rfl (r1 0 1 rfl ty56 rfl) <| ow_batch [.lenS 56 3 sl56, .p] rfl <| nQ <| c_block <| CW.at (loopI1 (fun (i58 : Int) => St w [] [Res.box b24 38 [.slice a14 p0.Attrs_.length c15, .slice a16 p0.Classes_.length c17]]) (fun i58 => [(2, .pointer (some ⟨b24, 0, none⟩)), (30, .slice a22 p1.Bins_.length c23), (31, .int .i64 (p1.Bins_.length : Int)), (32, .int .i64 i58)]) (fun kk => fun i58 => impl_ExOk_L1 p1 p0 kk i58 = some r) (fun _ H => ?_) (fun k1 ihk1 i58 H => ?_) Fuel (0) (H)) (fun _ h => St.sel [0] rfl rfl h) ⟨rfl, rfl, rfl, rfl, trivial⟩
    ·unfold impl_ExOk_L1 at H
     exact absurd H (by simp)
    ·unfold impl_ExOk_L1 at H
     refine sR <| oP rfl <| nQ <| c_seq <| cI H rfl (fun H => ?_) (fun H => ?_)
     ·refine c_skip <| x_qs <| c_seq <| c_block <| sR <| oP rfl <| bE H fun e82 h83 H => ow_ixE (e := eI) (xs := p1.Bins_) (j := i58) rfl rfl rfl rfl rfl sl56 ty3 rfl (fun w1 hw1 => rds_bor g20 w1 hw1) h83 (by rw [Nat.mul_one]) <| o1 rfl (ry_load1 rfl rfl ty3 (at_elV (fun w1 hw1 => rds_bor g20 w1 hw1) h83)) <| oPP rfl <| nR <| ow_batch [.p, .fa 38 0 0 fa38_0] rfl <| o1 rfl (r1 0 0 rfl ty36 rfl) <| oP rfl <| bE H fun e84 h85 H => ow_ixB rfl rfl rfl rfl rfl sl36 ty113 rfl g12 h85 fun q88 c89 hd86 hA87 => ?_
      obtain ⟨c90, c91, c92, rfl, g93, g94, g95⟩ := rdo_Timpl_Attr hd86
      obtain rfl := g93
      obtain ⟨a96, c97, rfl⟩ := rd_sl1 g94
      obtain ⟨a98, c99, rfl⟩ := rd_sl1 g95
      refine o1 rfl (ry_load (cs := [vS e84.Name_, .slice a96 e84.Cuts_.length c97, .slice a98 e84.Values_.length c99]) rfl rfl ty113 (at_bor bor hA87) rfl) <| bE H fun y100 h101 H => oq rfl (qc rfl fn100 (fun w1 hw1 => impl_bins_ok w1 h101 (rdm_Timpl_Attr rfl (rds_bor g94 w1 hw1) (rds_bor g95 w1 hw1)))) tt2 <| oP rfl <| bE H fun y102 h103 H => oq rfl (qc rfl fn60 (fun w1 hw1 => impl_within_ok w1  h103)) tt2 <| oP rfl <| nQ <| cI H rfl (fun H => ?_) (fun H => ?_)
      ·exact sR <| oP rfl <| nT <| x_qb_ret <| x_qs_ret <| x_ql_ret <| x_qb_ret <| x_qs_ret <| xr 4 rfl (by cases H; exact q1)
      ·exact c_skip <| x_qb <| x_qs <| c_reg <| oPP rfl <| ow_nil <| x_ql (RW.at (ihk1 (IntKind.i64.wrap (i58 + 1)) (H)) (fun _ h => St.sel [0] rfl rfl h) ⟨rfl, rfl, rfl, rfl, trivial⟩)
     ·exact c_exit <| x_qs_exit <| x_ql_exit <| x_qb_here <| x_qs <| sR <| oP rfl <| nT <| xr 4 rfl (by cases H; exact q1)
  ·clear H
   have H := hu34
   clear hu34
   generalize ((!y26) || ((p1.Bins_.length : Int) != (p0.Attrs_.length : Int))) = t33 at H key ⊢
   cases t33
   ·have H := of_if_f rfl H
    refine ow_batch [.fa 81 1 1 fa81_1] rfl <| o1 rfl (r1 1 1 rfl ty3 rfl) <| ow_batch [.fa 38 1 1 fa38_1] rfl <| o1 rfl (r1 1 0 rfl ty23 rfl) <| ow_batch [.lenS 23 9 sl23, .p] rfl <| bE H fun y31 h32 H => oq rfl (qc rfl fn60 (fun w1 hw1 => impl_within_ok w1  h32)) tt2 <| oP rfl <| oP rfl <| ?_
    obtain rfl := of_some H
    exact OW.sub key (sb rfl)
   ·have H := of_if_t rfl H
    refine ow_batch [.p, .p, .p, .p, .p, .p, .p, .p, .p] rfl ?_
    obtain rfl := of_some H
    exact OW.sub key (sb rfl)
 ·generalize (!y26) = t29 at key ⊢
  cases t29
  ·exact ow_batch [.fa 81 0 0 fa81_0] rfl <| o1 rfl (r1 0 1 rfl ty56 rfl) <| ow_batch [.lenS 56 3 sl56, .fa 38 0 0 fa38_0] rfl <| o1 rfl (r1 0 0 rfl ty36 rfl) <| ow_batch [.lenS 36 113 sl36, .p] rfl <| oP rfl <| OW.sub key (sb rfl)
  ·exact ow_batch [.p, .p, .p, .p, .p, .p, .p, .p] rfl <| OW.sub key (sb rfl)
theorem impl_EntriesOk_1_ok (w : World) {p0 : Timpl_Entry} {p1 : Timpl_Schema} {cs0 : List Value} {q_1 : Addr} {cs_1 : List Value} {r : Bool} (H : impl_EntriesOk_1 p0 p1 = some r)  (g0 : (eTimpl_Entry).rd w [] p0 cs0) (g_1 : (eTimpl_Schema).rd w [] p1 cs_1) (hA_1 : At w [] q_1 cs_1) :
    Calls Tryz.prog 64 #[.agg cs0.toArray, .pointer (some q_1)] w (fun en w' => en = .returned (.bool r) ∧ Ext [] w w') := by
 obtain ⟨c10, c11, rfl, g12, g13⟩ := rdo_Timpl_Entry g0
 obtain ⟨c14, c15, rfl, g16, g17⟩ := rdo_Timpl_Ex g12
 obtain ⟨a18, c19, rfl⟩ := rd_sl1 g16
 obtain rfl := g17
 obtain rfl := g13
 obtain ⟨c20, c21, rfl, g22, g23⟩ := rdo_Timpl_Schema g_1
 obtain ⟨a24, c25, rfl⟩ := rd_sl1 g22
 obtain ⟨a26, c27, rfl⟩ := rd_sl1 g23
 unfold impl_EntriesOk_1 at H
 refine f_enter Tryz.func64 rfl Tryz.ntmps64 rfl (St.init w []) <| sR <| ob _ rfl fun b28 => oP rfl <| nR <| o1 rfl (ry_load (cs := [.slice a24 p1.Attrs_.length c25, .slice a26 p1.Classes_.length c27]) rfl rfl ty38 (at_bor bor hA_1) rfl) <| ow_batch [.fa 83 0 0 fa83_0] rfl <| o1 rfl (rx 0 0 _ rfl ty81 rfl) <| bE H fun y29 h30 H => oq rfl (qc rfl fn65 (fun w1 hw1 => impl_ExOk_ok w1 h30 (rdm_Timpl_Schema (rds_bor g22 w1 hw1) (rds_bor g23 w1 hw1)) (rdm_Timpl_Ex (rds_bor g16 w1 hw1) rfl))) tt2 <| oPP rfl <| ow_cut [(14, .bool ((!y29) || (decide (p0.Ex_.Class_ < 0)))), (2, .pointer (some ⟨b28, 0, none⟩)), (3, .bool false)] 5 ?_ (fun key => OW.sub (R := [(2, .pointer (some ⟨b28, 0, none⟩)), (3, .bool false), (9, .bool (!y29))]) ?_ (sb rfl))
 ·refine oP rfl <| bE H fun u33 hu37 H => ow_cut [(20, .bool u33), (3, .bool false)] 5 ?_ (fun key => OW.sub (R := [(2, .pointer (some ⟨b28, 0, none⟩)), (3, .bool false), (15, .bool ((!y29) || (decide (p0.Ex_.Class_ < 0))))]) ?_ (sb rfl))
  ·exact oP rfl <| nT <| xr 3 rfl (by cases H; exact q1)
  ·clear H
   have H := hu37
   clear hu37
   generalize ((!y29) || (decide (p0.Ex_.Class_ < 0))) = t36 at H key ⊢
   cases t36
   ·have H := of_if_f rfl H
    refine ow_batch [.fa 83 1 2 fa83_1] rfl <| o1 rfl (r1 2 0 rfl ty3 rfl) <| bE H fun y34 h35 H => oq rfl (qc rfl fn60 (fun w1 hw1 => impl_within_ok w1  h35)) tt2 <| oP rfl <| oP rfl <| ?_
    obtain rfl := of_some H
    exact OW.sub key (sb rfl)
   ·have H := of_if_t rfl H
    refine ow_batch [.p, .p, .p, .p, .p] rfl ?_
    obtain rfl := of_some H
    exact OW.sub key (sb rfl)
 ·generalize (!y29) = t32 at key ⊢
  cases t32
  ·exact ow_batch [.fa 83 0 0 fa83_0, .fa 81 1 1 fa81_1] rfl <| o1 rfl (r1 1 0 rfl ty3 rfl) <| oP rfl <| oP rfl <| OW.sub key (sb rfl)
  ·exact ow_batch [.p, .p, .p, .p, .p] rfl <| OW.sub key (sb rfl)
theorem lib_slices_IndexFunc___impl_Entry_impl_Entry___impl_EntriesOk_1_ok (w : World) {p0 : List Timpl_Entry} {p1_0 : Timpl_Schema} {a_0 : Option Addr} {n_0 c_0 : Nat} {q_1_0 : Addr} {cs_1_0 : List Value} {r : Int} (H : lib_slices_IndexFunc___impl_Entry_impl_Entry___impl_EntriesOk_1 p0 p1_0 = some r)  (g0 : (eList (eTimpl_Entry) 83).rd w [] p0 [.slice a_0 n_0 c_0]) (g_1_0 : (eTimpl_Schema).rd w [] p1_0 cs_1_0) (hA_1_0 : At w [] q_1_0 cs_1_0) :
    Calls Tryz.prog 99 #[.slice a_0 n_0 c_0, .func (.func 64) #[] #[.pointer (some q_1_0)]] w (fun en w' => en = .returned (.int .i64 r) ∧ Ext [] w w') := by
 obtain rfl := rd_n g0
 obtain ⟨c10, c11, rfl, g12, g13⟩ := rdo_Timpl_Schema g_1_0
 obtain ⟨a14, c15, rfl⟩ := rd_sl1 g12
 obtain ⟨a16, c17, rfl⟩ := rd_sl1 g13
 unfold lib_slices_IndexFunc___impl_Entry_impl_Entry___impl_EntriesOk_1 at H
 refine f_enter Tryz.func99 rfl Tryz.ntmps99 rfl (St.init w []) <| sR <| oP rfl <| nQ <| c_seq <| sR <| ow_batch [.p, .lenS 46 83 sl46, .p] rfl <| nQ <| c_block <| CW.at (loopI1 (fun (i37 : Int) => St w [] []) (fun i37 => [(0, .slice a_0 p0.length c_0), (1, .func (.func 64) #[] #[.pointer (some q_1_0)]), (7, .int .i64 (p0.length : Int)), (8, .int .i64 i37)]) (fun kk => fun i37 => lib_slices_IndexFunc___impl_Entry_impl_Entry___impl_EntriesOk_1_L1 p0 p1_0 kk i37 = some r) (fun _ H => ?_) (fun k1 ihk1 i37 H => ?_) Fuel (0) (H)) (fun _ h => St.sel [] rfl rfl h) ⟨rfl, rfl, rfl, rfl, trivial⟩
 ·unfold lib_slices_IndexFunc___impl_Entry_impl_Entry___impl_EntriesOk_1_L1 at H
  exact absurd H (by simp)
 ·unfold lib_slices_IndexFunc___impl_Entry_impl_Entry___impl_EntriesOk_1_L1 at H
  refine sR <| oP rfl <| nQ <| c_seq <| cI H rfl (fun H => ?_) (fun H => ?_)
  ·refine c_skip <| x_qs <| c_seq <| c_block <| sR <| oPP rfl <| nR <| ow_batch [.p, .p, .p] rfl <| bE H fun e57 h58 H => ow_ixB rfl rfl rfl rfl rfl sl46 ty83 rfl g0 h58 fun q61 c62 hd59 hA60 => ?_
   obtain ⟨c63, c64, rfl, g65, g66⟩ := rdo_Timpl_Entry hd59
   obtain ⟨c67, c68, rfl, g69, g70⟩ := rdo_Timpl_Ex g65
   obtain ⟨a71, c72, rfl⟩ := rd_sl1 g69
   obtain rfl := g70
   obtain rfl := g66
   refine o1 rfl (ry_load (cs := [.slice a71 e57.Ex_.Bins_.length c72, .int .i64 e57.Ex_.Class_, .int .i64 e57.Weight_]) rfl rfl ty83 (at_bor bor hA60) rfl) <| bE H fun y73 h74 H => ow_q rfl rfl (dstOk_lt rfl) (qy_callV (cap := [.pointer (some q_1_0)]) rfl fn64 rfl rfl (fun w1 hw1 => impl_EntriesOk_1_ok w1 (cs_1 := [.slice a14 p1_0.Attrs_.length c15, .slice a16 p1_0.Classes_.length c17]) h74 (rdm_Timpl_Entry (rdm_Timpl_Ex (rds_bor g69 w1 hw1) rfl) rfl) (rdm_Timpl_Schema (rds_bor g12 w1 hw1) (rds_bor g13 w1 hw1)) (at_bor bor hA_1_0 w1 hw1))) (fun _ _ => trivial) <| nQ <| cI H rfl (fun H => ?_) (fun H => ?_)
   ·exact sR <| oPP rfl <| nT <| x_qb_ret <| x_qs_ret <| x_ql_ret <| x_qb_ret <| x_qs_ret <| xr 4 rfl (by cases H; exact q1)
   ·exact c_skip <| x_qb <| x_qs <| c_reg <| oPP rfl <| ow_nil <| x_ql (RW.at (ihk1 (IntKind.i64.wrap (i37 + 1)) (H)) (fun _ h => St.sel [] rfl rfl h) ⟨rfl, rfl, rfl, rfl, trivial⟩)
  ·exact c_exit <| x_qs_exit <| x_ql_exit <| x_qb_here <| x_qs <| sR <| oP rfl <| nT <| xr 4 rfl (by cases H; exact q1)
theorem lib_slices_ContainsFunc___impl_Entry_impl_Entry___impl_EntriesOk_1_ok (w : World) {p0 : List Timpl_Entry} {p1_0 : Timpl_Schema} {a_0 : Option Addr} {n_0 c_0 : Nat} {q_1_0 : Addr} {cs_1_0 : List Value} {r : Bool} (H : lib_slices_ContainsFunc___impl_Entry_impl_Entry___impl_EntriesOk_1 p0 p1_0 = some r)  (g0 : (eList (eTimpl_Entry) 83).rd w [] p0 [.slice a_0 n_0 c_0]) (g_1_0 : (eTimpl_Schema).rd w [] p1_0 cs_1_0) (hA_1_0 : At w [] q_1_0 cs_1_0) :
    Calls Tryz.prog 63 #[.slice a_0 n_0 c_0, .func (.func 64) #[] #[.pointer (some q_1_0)]] w (fun en w' => en = .returned (.bool r) ∧ Ext [] w w') := by
 obtain rfl := rd_n g0
 obtain ⟨c10, c11, rfl, g12, g13⟩ := rdo_Timpl_Schema g_1_0
 obtain ⟨a14, c15, rfl⟩ := rd_sl1 g12
 obtain ⟨a16, c17, rfl⟩ := rd_sl1 g13
 unfold lib_slices_ContainsFunc___impl_Entry_impl_Entry___impl_EntriesOk_1 at H
 exact f_enter Tryz.func63 rfl Tryz.ntmps63 rfl (St.init w []) <| sR <| oP rfl <| nR <| oPP rfl <| bE H fun y18 h19 H => oq rfl (qc rfl fn99 (fun w1 hw1 => lib_slices_IndexFunc___impl_Entry_impl_Entry___impl_EntriesOk_1_ok w1 (cs_1_0 := [.slice a14 p1_0.Attrs_.length c15, .slice a16 p1_0.Classes_.length c17]) h19 (rds_bor g0 w1 hw1) (rdm_Timpl_Schema (rds_bor g12 w1 hw1) (rds_bor g13 w1 hw1)) (at_bor bor hA_1_0 w1 hw1))) tt2 <| oPP rfl <| nT <| xr 4 rfl (by cases H; exact q1)
theorem impl_EntriesOk_ok (w : World) {p0 : Timpl_Schema} {p1 : List Timpl_Entry} {cs0 : List Value} {a_1 : Option Addr} {n_1 c_1 : Nat} {r : Bool} (H : impl_EntriesOk p0 p1 = some r)  (g0 : (eTimpl_Schema).rd w [] p0 cs0) (g1 : (eList (eTimpl_Entry) 83).rd w [] p1 [.slice a_1 n_1 c_1]) :
    Calls Tryz.prog 34 #[.agg cs0.toArray, .slice a_1 n_1 c_1] w (fun en w' => en = .returned (.bool r) ∧ Ext [] w w') := by
 obtain ⟨c10, c11, rfl, g12, g13⟩ := rdo_Timpl_Schema g0
 obtain ⟨a14, c15, rfl⟩ := rd_sl1 g12
 obtain ⟨a16, c17, rfl⟩ := rd_sl1 g13
 obtain rfl := rd_n g1
 unfold impl_EntriesOk at H
 refine f_enter Tryz.func34 rfl Tryz.ntmps34 rfl (St.init w []) <| sR <| ob _ rfl fun b18 => oP rfl <| nR <| o1 rfl (rx 0 0 _ rfl ty38 rfl) <| bE H fun y19 h20 H => oq rfl (qc rfl fn59 (fun w1 hw1 => impl_SchemaOk_ok w1 h20 (rdm_Timpl_Schema (rds_bor g12 w1 hw1) (rds_bor g13 w1 hw1)))) tt2 <| oP rfl <| bE H fun u21 hu25 H => ow_cut [(12, .bool u21), (4, .bool false)] 5 ?_ (fun key => OW.sub (R := [(1, .slice a_1 p1.length c_1), (2, .pointer (some ⟨b18, 0, none⟩)), (4, .bool false), (7, .bool y19)]) ?_ (sb rfl))
 ·exact oP rfl <| nT <| xr 4 rfl (by cases H; exact q1)
 ·clear H
  have H := hu25
  clear hu25
  generalize y19 = t24 at H key ⊢
  cases t24
  ·have H := of_if_f rfl H
   refine ow_batch [.p, .p, .p, .p, .p] rfl ?_
   obtain rfl := of_some H
   exact OW.sub key (sb rfl)
  ·have H := of_if_t rfl H
   refine oP rfl <| o1 rfl (ry_makeFunc rfl rfl) <| bE H fun y22 h23 H => oq rfl (qc rfl fn63 (fun w1 hw1 => lib_slices_ContainsFunc___impl_Entry_impl_Entry___impl_EntriesOk_1_ok w1 (cs_1_0 := [.slice a14 p0.Attrs_.length c15, .slice a16 p0.Classes_.length c17]) h23 (rds_bor g1 w1 hw1) (rdm_Timpl_Schema (rds_bor g12 w1 hw1) (rds_bor g13 w1 hw1)) (at_box (T := 38) 0 (boxIn (i := 0) rfl) rfl w1 hw1))) tt2 <| oP rfl <| oP rfl <| ?_
   obtain rfl := of_some H
   exact OW.sub key (sb rfl)
theorem impl_StatsNew_ok (w : World) {M0 : List Nat} {p0 : Timpl_Schema} {cs0 : List Value} {r : Timpl_Stats} (H : impl_StatsNew p0 = some r) (HS : St w M0 [] w) (g0 : (eTimpl_Schema).rd w M0 p0 cs0) :
    Calls Tryz.prog 66 #[.agg cs0.toArray] w (fun en w' => ∃ v, en = .returned v ∧ ∃ (a0 : Option Addr), ∃ (n0 : Nat), ∃ (c0 : Nat), ∃ (F0 : List Nat), ∃ (a1 : Option Addr), ∃ (n1 : Nat), ∃ (c1 : Nat), ∃ (F1 : List Nat), v = .agg #[.slice a0 n0 c0, .slice a1 n1 c1] ∧ St w M0 [Res.own (eList eI 3) F0 r.Totals_ [.slice a0 n0 c0], Res.own (eList (eList eI 3) 56) F1 r.Cells_ [.slice a1 n1 c1]] w') := by
 obtain ⟨c10, c11, rfl, g12, g13⟩ := rdo_Timpl_Schema g0
 obtain ⟨a14, c15, rfl⟩ := rd_sl1 g12
 obtain ⟨a16, c17, rfl⟩ := rd_sl1 g13
 unfold impl_StatsNew at H
 refine f_enter Tryz.func66 rfl Tryz.ntmps66 rfl (HS) <| sR <| ob _ rfl fun b18 => ow_alloc rfl rfl rfl rfl ty68 (fun _ => kp) fun b19 => nQ <| c_seq <| sR <| o1 rfl (rx 0 0 _ rfl ty38 rfl) <| bE H fun y20 h21 H => oq rfl (qc rfl fn59 (fun w1 hw1 => impl_SchemaOk_ok w1 h21 (rdm_Timpl_Schema (rds_bor g12 w1 hw1) (rds_bor g13 w1 hw1)))) tt2 <| oP rfl <| nQ <| cI H rfl (fun H => ?_) (fun H => ?_)
 ·exact sR <| o1 rfl (ry_build2 [] [.slice none 0 0, .slice none 0 0] rfl rfl ty68 fs68 rfl trivial rfl) <| sC 0 [.slice none 0 0, .slice none 0 0] [_, _] 1 rfl ty68 rfl <| nT <| x_qs_ret <| xw_st (fun _ h => St.pushNil (e := eI) (T := 3) h) <| xw_st (fun _ h => St.pushNil (e := eList eI 3) (T := 56) h) <| x_retR (rs := [.cell 2 68]) (vs := [.agg #[.slice none 0 0, .slice none 0 0]]) rfl ⟨⟨_, [.slice none 0 0, .slice none 0 0], _, _, _, rfl, ty68, (at_box (T := 68) 0 (boxIn (i := 1) rfl) rfl), rfl, rfl⟩, trivial⟩ (fun w' hw' => by
   obtain rfl := of_some H
   exact ⟨_, rfl, none, 0, 0, [], none, 0, 0, [], rfl, hw'.sel [2, 3] rfl rfl⟩)
 ·refine c_skip <| x_qs <| sR <| ow_batch [.fa 38 1 1 fa38_1] rfl <| o1 rfl (r1 1 0 rfl ty23 rfl) <| ow_batch [.lenS 23 9 sl23] rfl <| bE H fun y22 h23 H => ow_callS rfl fn101 rfl rfl rfl rfl (fun w1 hw1 => impl_zeros_ok w1  h23 (hw1.carve [] rfl rfl)) fun v24 w1 w2 hw1 hR26 => ?_
  obtain ⟨a27, n28, c29, F30, rfl, hS25⟩ := hR26
  obtain rfl := own_nS (i := 0) hS25 rfl
  refine ⟨St w M0 [_, _, _], hw1.comp [] rfl rfl hS25, fun _ _ => trivial, ?_⟩
  refine o1 rfl (ry_build2 [(0, [.slice a27 y22.length c29])] [.slice a27 y22.length c29, .slice none 0 0] rfl rfl ty68 fs68 rfl ⟨rfl, rfl, Nat.le_of_ble_eq_true rfl,  trivial⟩ rfl) <| ow_alloc rfl rfl rfl rfl ty68 (fun _ => kp) fun b31 => sC 0 [.slice a27 y22.length c29, .slice none 0 0] [_, _] 3 rfl ty68 rfl <| nQ <| c_seq <| sR <| ow_batch [.fa 38 0 0 fa38_0] rfl <| o1 rfl (r1 0 0 rfl ty36 rfl) <| ow_batch [.lenS 36 113 sl36, .p] rfl <| nQ <| c_block <| CW.weak ?_ (fun _ h => St.pushNil (e := eList eI 3) (T := 56) h)
  refine CW.at (loopI5 (fun (i85 : Int) (l86 : List (List Int)) (a87 : Option Addr) (c88 : Nat) (F89 : List Nat) => St w M0 [Res.box b18 38 [.slice a14 p0.Attrs_.length c15, .slice a16 p0.Classes_.length c17], Res.box b19 68 [.slice none 0 0, .slice none 0 0], Res.box b31 68 [.slice a27 y22.length c29, .slice a87 l86.length c88], Res.own (eList eI 3) F30 y22 [.slice a27 y22.length c29], Res.own (eList (eList eI 3) 56) F89 l86 [.slice a87 l86.length c88]]) (fun i85 l86 a87 c88 F89 => [(1, .pointer (some ⟨b18, 0, none⟩)), (2, .pointer (some ⟨b19, 0, none⟩)), (3, .pointer (some ⟨b31, 0, none⟩)), (16, .slice a14 p0.Attrs_.length c15), (17, .int .i64 (p0.Attrs_.length : Int)), (18, .int .i64 i85)]) (fun kk => fun i85 l86 a87 c88 F89 => impl_StatsNew_L1 p0 y22 kk i85 l86 = some r) (fun _ _ _ _ _ H => ?_) (fun k1 ihk1 i85 l86 a87 c88 F89 H => ?_) Fuel (0) (([] : List (List Int))) (none) (0) ([]) (H)) (fun _ h => by have h2 : St w M0 [Res.box b18 38 [.slice a14 p0.Attrs_.length c15, .slice a16 p0.Classes_.length c17], Res.box b19 68 [.slice none 0 0, .slice none 0 0], Res.box b31 68 [.slice a27 y22.length c29, .slice none 0 0], Res.own (eList eI 3) F30 y22 [.slice a27 y22.length c29], Res.own (eList (eList eI 3) 56) [] ([] : List (List Int)) [.slice none 0 0]] _ := St.sel [0, 1, 3, 2, 4] rfl rfl h; simpa only [List.length_set, List.length_cons, List.length_nil] using h2) (by simp only [Sub, List.length_set, List.length_cons, List.length_nil]; exact ⟨rfl, rfl, rfl, rfl, rfl, rfl,  trivial⟩)
  ·unfold impl_StatsNew_L1 at H
   exact absurd H (by simp)
  ·unfold impl_StatsNew_L1 at H
   refine sR <| oP rfl <| nQ <| c_seq <| cI H rfl (fun H => ?_) (fun H => ?_)
   ·refine c_skip <| x_qs <| c_seq <| c_block <| sR <| bE H fun e141 h142 H => ow_ixB rfl rfl rfl rfl rfl sl36 ty113 rfl g12 h142 fun q145 c146 hd143 hA144 => ?_
    obtain ⟨c147, c148, c149, rfl, g150, g151, g152⟩ := rdo_Timpl_Attr hd143
    obtain rfl := g150
    obtain ⟨a153, c154, rfl⟩ := rd_sl1 g151
    obtain ⟨a155, c156, rfl⟩ := rd_sl1 g152
    refine o1 rfl (ry_load (cs := [vS e141.Name_, .slice a153 e141.Cuts_.length c154, .slice a155 e141.Values_.length c156]) rfl rfl ty113 (at_bor bor hA144) rfl) <| ow_alloc rfl rfl rfl rfl ty113 (fun _ => kp) fun b157 => sC 0 [vS e141.Name_, .slice a153 e141.Cuts_.length c154, .slice a155 e141.Values_.length c156] [_, _, _] 5 rfl ty113 rfl <| nQ <| c_regHT 10 [(0, true), (1, true), (2, true), (4, true), (5, true), (6, true), (3, false), (7, true), (8, false), (9, false)] (St w M0 [Res.box b18 38 [.slice a14 p0.Attrs_.length c15, .slice a16 p0.Classes_.length c17], Res.box b19 68 [.slice none 0 0, .slice none 0 0], Res.box b31 68 [.slice a27 y22.length c29, .slice a87 l86.length c88], Res.own (eList eI 3) F30 y22 [.slice a27 y22.length c29], Res.own (eList (eList eI 3) 56) F89 l86 [.slice a87 l86.length c88], Res.box b157 113 [vS e141.Name_, .slice a153 e141.Cuts_.length c154, .slice a155 e141.Values_.length c156]]) mixed (by kernel_rfl) (panicOk_qb (panicOk_qs (panicOk_ql (panicOk_qb (panicOk_qs panicOk_body))))) (fun _ h => St.mask [true, true, true, true, true, true] rfl h) <| ow_batch [.fa 68 1 1 fa68_1] rfl <| ow_rH rfl (dstOk_lt rfl) (r1 1 2 rfl ty66 rfl) <| ow_rH rfl (dstOk_lt rfl) (rx 0 5 _ rfl ty113 rfl) <| ow_batch [.fa 38 1 1 fa38_1] rfl <| ow_rH rfl (dstOk_lt rfl) (r1 1 0 rfl ty23 rfl) <| ow_batch [.lenS 23 9 sl23] rfl <| bE H fun y170 h171 H => oq rfl (qc rfl fn100 (fun w1 hw1 => impl_bins_ok w1 h171 (rdm_Timpl_Attr rfl (rds_bor g151 w1 hw1) (rds_bor g152 w1 hw1)))) (fun _ h => St.mask [true, true, true, true, true, true] rfl h) <| oP rfl <| bE H fun y172 h173 H => ow_callS rfl fn101 rfl rfl rfl rfl (fun w1 hw1 => impl_zeros_ok w1  h173 (hw1.carve [] rfl rfl)) fun v174 w1 w2 hw1 hR176 => ?_
    obtain ⟨a177, n178, c179, F180, rfl, hS175⟩ := hR176
    obtain rfl := own_nS (i := 0) hS175 rfl
    refine ⟨St w M0 [_, _, _, _, _, _, _], hw1.comp [] rfl rfl hS175, (fun _ h => St.mask [true, true, true, true, true, true] rfl h), ?_⟩
    refine ow_bslice [(0, [.slice a177 y172.length c179])] rfl rfl rfl rfl rfl sl66 ty56 rfl rfl ⟨rfl, rfl, Nat.le_of_ble_eq_true rfl,  trivial⟩ [.slice a177 y172.length c179] rfl (fun _ => (fun _ h => St.mask [true, true, true, true, true, true] rfl h)) fun b181 => ow_st rfl (fun _ h => lit1 (p := 7) (q := 6) h rfl rfl rfl) <| ow_nilH <| x_qt <| bE H fun l182 h183 H => ow_appM (r := 4) (j := 8) rfl rfl rfl rfl rfl rfl sl66 ty56 rfl rfl rfl rfl rfl rfl rfl h183 (fun _ _ _ => kp) fun a184 c185 F186 => ow_batch [.fa 68 1 1 fa68_1] rfl <| sC 1 [.slice a184 l182.length c185] [_, _] 2 rfl ty66 rfl <| ow_nil <| x_qb <| x_qs <| CW.weak (C' := St w M0 [_, _, _, _, _, _]) ?_ (fun _ h => St.sel [0, 1, 2, 3, 5, 9] rfl rfl h)
    exact c_reg <| oPP rfl <| ow_nil <| x_ql (RW.at (ihk1 (IntKind.i64.wrap (i85 + 1)) (l182) (a184) (c185) (F186) (H)) (fun _ h => St.sel [0, 1, 2, 3, 5] rfl rfl h) ⟨rfl, rfl, rfl, rfl, rfl, rfl, trivial⟩)
   ·exact c_exit <| x_qs_exit <| x_ql_exit <| x_qb_here <| x_qs <| sR <| o1 rfl (rx 0 2 _ rfl ty68 rfl) <| sC 0 [.slice a27 y22.length c29, .slice a87 l86.length c88] [_, _] 1 rfl ty68 rfl <| nT <| x_retR (rs := [.cell 2 68]) (vs := [.agg #[.slice a27 y22.length c29, .slice a87 l86.length c88]]) rfl ⟨⟨_, [.slice a27 y22.length c29, .slice a87 l86.length c88], _, _, _, rfl, ty68, (at_box (T := 68) 0 (boxIn (i := 1) rfl) rfl), rfl, rfl⟩, trivial⟩ (fun w' hw' => by
     obtain rfl := of_some H
     exact ⟨_, rfl, a27, y22.length, c29, F30, a87, l86.length, c88, F89, rfl, hw'.sel [3, 4] rfl rfl⟩)
theorem impl_BranchOf_ok (w : World) {p0 : Timpl_Schema} {p1 : Timpl_Fork} {p2 : Int} {cs0 : List Value} {r : Int} (H : impl_BranchOf p0 p1 p2 = some r)  (g0 : (eTimpl_Schema).rd w [] p0 cs0) :
    Calls Tryz.prog 119 #[.agg cs0.toArray, .agg #[.int .i64 p1.Attr_, .int .i64 p1.At_], .int .i64 p2] w (fun en w' => en = .returned (.int .i64 r) ∧ Ext [] w w') := by
 obtain ⟨c10, c11, rfl, g12, g13⟩ := rdo_Timpl_Schema g0
 obtain ⟨a14, c15, rfl⟩ := rd_sl1 g12
 obtain ⟨a16, c17, rfl⟩ := rd_sl1 g13
 unfold impl_BranchOf at H
 refine f_enter Tryz.func119 rfl Tryz.ntmps119 rfl (St.init w []) <| sR <| ob _ rfl fun b18 => ob _ rfl fun b19 => oP rfl <| nQ <| c_seq <| sR <| o1 rfl (rx 0 0 _ rfl ty38 rfl) <| o1 rfl (rx 0 1 _ rfl ty65 rfl) <| bE H fun y20 h21 H => oq rfl (qc rfl fn117 (fun w1 hw1 => impl_ForkOk_ok w1 (p1 := p1) h21 (rdm_Timpl_Schema (rds_bor g12 w1 hw1) (rds_bor g13 w1 hw1)))) tt2 <| oPP rfl <| bE H fun u22 hu44 H => ow_cut [(23, .bool u22), (2, .int .i64 p2), (3, .pointer (some ⟨b18, 0, none⟩)), (4, .pointer (some ⟨b19, 0, none⟩))] 12 ?_ (fun key => OW.sub (R := [(2, .int .i64 p2), (3, .pointer (some ⟨b18, 0, none⟩)), (4, .pointer (some ⟨b19, 0, none⟩)), (11, .bool (!y20))]) ?_ (sb rfl))
 ·refine nQ <| cI H rfl (fun H => ?_) (fun H => ?_)
  ·exact sR <| oP rfl <| nT <| x_qs_ret <| xr 6 rfl (by cases H; exact q1)
  ·refine c_skip <| x_qs <| c_seq <| c_block <| sR <| ow_batch [.fa 65 1 1 fa65_1] rfl <| o1 rfl (r1 1 1 rfl ty3 rfl) <| oPP rfl <| nQ <| cI H rfl (fun H => ?_) (fun H => ?_)
   ·exact sR <| oPP rfl <| nT <| x_qb_ret <| x_qs_ret <| xr 6 rfl (by cases H; exact q1)
   ·refine sR <| ow_batch [.p, .fa 65 1 1 fa65_1] rfl <| o1 rfl (r1 1 1 rfl ty3 rfl) <| oPP rfl <| bE H fun u45 hu65 H => ow_cut [(50, .bool u45)] 16 ?_ (fun key => OW.sub (R := [(2, .int .i64 p2), (3, .pointer (some ⟨b18, 0, none⟩)), (4, .pointer (some ⟨b19, 0, none⟩)), (34, .bool (p2 == p1.At_))]) ?_ (sb rfl))
    ·refine oP rfl <| nQ <| cI H rfl (fun H => ?_) (fun H => ?_)
     ·exact sR <| oP rfl <| nT <| x_qb_ret <| x_qs_ret <| xr 6 rfl (by cases H; exact q1)
     ·exact c_skip <| x_qb <| x_qs <| sR <| oP rfl <| nT <| xr 6 rfl (by cases H; exact q1)
    ·clear H
     have H := hu65
     clear hu65
     generalize (p2 == p1.At_) = t64 at H key ⊢
     cases t64
     ·have H := of_if_f rfl H
      refine ow_batch [.fa 38 0 0 fa38_0] rfl <| o1 rfl (r1 0 0 rfl ty36 rfl) <| ow_batch [.fa 65 0 0 fa65_0] rfl <| o1 rfl (r1 0 1 rfl ty3 rfl) <| bE H fun e46 h47 H => ow_ixB rfl rfl rfl rfl rfl sl36 ty113 rfl g12 h47 fun q50 c51 hd48 hA49 => ?_
      obtain ⟨c52, c53, c54, rfl, g55, g56, g57⟩ := rdo_Timpl_Attr hd48
      obtain rfl := g55
      obtain ⟨a58, c59, rfl⟩ := rd_sl1 g56
      obtain ⟨a60, c61, rfl⟩ := rd_sl1 g57
      refine ow_batch [.fa 113 1 1 fa113_1] rfl <| o1 rfl (ry_load1 rfl rfl ty56 (at_bor bor (at_K hA49 1 1))) <| ow_batch [.lenS 56 3 sl56, .p, .p] rfl <| ow_cut [(49, .bool ((decide ((e46.Cuts_.length : Int) > 0)) && (decide (p2 < p1.At_)))), (34, .bool false)] 5 ?_ (fun key => OW.sub (R := [(2, .int .i64 p2), (4, .pointer (some ⟨b19, 0, none⟩)), (34, .bool false), (44, .bool (decide ((e46.Cuts_.length : Int) > 0)))]) ?_ (sb rfl))
      ·refine ow_batch [.p] rfl ?_
       obtain rfl := of_some H
       exact OW.sub key ⟨rfl, trivial⟩
      ·generalize (decide ((e46.Cuts_.length : Int) > 0)) = t63 at key ⊢
       cases t63
       ·exact ow_batch [.p, .p, .p, .p, .p] rfl <| OW.sub key (sb rfl)
       ·exact ow_batch [.p, .fa 65 1 1 fa65_1] rfl <| o1 rfl (r1 1 1 rfl ty3 rfl) <| oP rfl <| oP rfl <| OW.sub key (sb rfl)
     ·have H := of_if_t rfl H
      refine ow_batch [.p, .p, .p, .p, .p, .p, .p, .p, .p, .p, .p, .p, .p, .p, .p, .p] rfl ?_
      obtain rfl := of_some H
      exact OW.sub key ⟨rfl, trivial⟩
 ·clear H
  have H := hu44
  clear hu44
  generalize (!y20) = t43 at H key ⊢
  cases t43
  ·have H := of_if_f rfl H
   refine ow_batch [.p, .fa 38 0 0 fa38_0] rfl <| o1 rfl (r1 0 0 rfl ty36 rfl) <| ow_batch [.fa 65 0 0 fa65_0] rfl <| o1 rfl (r1 0 1 rfl ty3 rfl) <| bE H fun e23 h24 H => ow_ixB rfl rfl rfl rfl rfl sl36 ty113 rfl g12 h24 fun q27 c28 hd25 hA26 => ?_
   obtain ⟨c29, c30, c31, rfl, g32, g33, g34⟩ := rdo_Timpl_Attr hd25
   obtain rfl := g32
   obtain ⟨a35, c36, rfl⟩ := rd_sl1 g33
   obtain ⟨a37, c38, rfl⟩ := rd_sl1 g34
   refine o1 rfl (ry_load (cs := [vS e23.Name_, .slice a35 e23.Cuts_.length c36, .slice a37 e23.Values_.length c38]) rfl rfl ty113 (at_bor bor hA26) rfl) <| bE H fun y39 h40 H => oq rfl (qc rfl fn100 (fun w1 hw1 => impl_bins_ok w1 h40 (rdm_Timpl_Attr rfl (rds_bor g33 w1 hw1) (rds_bor g34 w1 hw1)))) tt2 <| oP rfl <| bE H fun y41 h42 H => oq rfl (qc rfl fn60 (fun w1 hw1 => impl_within_ok w1  h42)) tt2 <| oP rfl <| oP rfl <| ?_
   obtain rfl := of_some H
   exact OW.sub key (sb rfl)
  ·have H := of_if_t rfl H
   refine ow_batch [.p, .p, .p, .p, .p, .p, .p, .p, .p, .p, .p, .p] rfl ?_
   obtain rfl := of_some H
   exact OW.sub key (sb rfl)
theorem impl_pathTo_ok (w : World) {M0 : List Nat} {p0 : Timpl_Schema} {p1 : Timpl_Tree} {p2 : Timpl_Ex} {cs0 : List Value} {cs1 : List Value} {cs2 : List Value} {r : (List Int) × Bool} (H : impl_pathTo p0 p1 p2 = some r) (HS : St w M0 [] w) (g0 : (eTimpl_Schema).rd w M0 p0 cs0) (g1 : (eTimpl_Tree).rd w M0 p1 cs1) (g2 : (eTimpl_Ex).rd w M0 p2 cs2) :
    Calls Tryz.prog 102 #[.agg cs0.toArray, .agg cs1.toArray, .agg cs2.toArray] w (fun en w' => ∃ v, en = .returned v ∧ ∃ (a0 : Option Addr), ∃ (n0 : Nat), ∃ (c0 : Nat), ∃ (F0 : List Nat), v = .slice a0 n0 c0 ∧ a0.isNone = r.2 ∧ St w M0 [Res.own (eList eI 3) F0 r.1 [.slice a0 n0 c0]] w') := by
 obtain ⟨c10, c11, rfl, g12, g13⟩ := rdo_Timpl_Schema g0
 obtain ⟨a14, c15, rfl⟩ := rd_sl1 g12
 obtain ⟨a16, c17, rfl⟩ := rd_sl1 g13
 obtain ⟨c18, c19, rfl, g20, g21⟩ := rdo_Timpl_Tree g1
 obtain ⟨a22, c23, rfl⟩ := rd_sl1 g20
 obtain rfl := g21
 obtain ⟨c24, c25, rfl, g26, g27⟩ := rdo_Timpl_Ex g2
 obtain ⟨a28, c29, rfl⟩ := rd_sl1 g26
 obtain rfl := g27
 unfold impl_pathTo at H
 refine f_enter Tryz.func102 rfl Tryz.ntmps102 rfl (HS) <| sR <| ob _ rfl fun b30 => ob _ rfl fun b31 => ob _ rfl fun b32 => oP rfl <| nR <| ow_blit (val := Value.int .i64) (h1 := fun _ => rfl) [0] [(0, [.int .i64 0])] rfl rfl rfl rfl rfl sl56 ty3 rfl rfl rfl ⟨rfl, rfl, Nat.le_of_ble_eq_true rfl,  trivial⟩ rfl rfl (fun _ => kp) fun b33 => oP rfl <| nQ <| c_block <| CW.at (loopI4 (fun (l139 : List Int) (a140 : Option Addr) (c141 : Nat) (F142 : List Nat) => St w M0 [Res.box b30 38 [.slice a14 p0.Attrs_.length c15, .slice a16 p0.Classes_.length c17], Res.box b31 44 [.slice a22 p1.Nodes_.length c23, .int .i64 p1.Seen_], Res.box b32 81 [.slice a28 p2.Bins_.length c29, .int .i64 p2.Class_], Res.own (eList eI 3) F142 l139 [.slice a140 l139.length c141]]) (fun l139 a140 c141 F142 => [(3, .pointer (some ⟨b30, 0, none⟩)), (4, .pointer (some ⟨b31, 0, none⟩)), (5, .pointer (some ⟨b32, 0, none⟩)), (7, .slice a140 l139.length c141)]) (fun kk => fun l139 a140 c141 F142 => a140.isNone = false ∧ impl_pathTo_L1 p1 p2 p0 kk l139 = some r) (fun _ _ _ _ H => ?_) (fun k1 ihk1 l139 a140 c141 F142 ⟨hz143, H⟩ => ?_) Fuel (([0] : List Int)) ((some ⟨b33, 0, none⟩)) (1) ([b33]) (⟨rfl, H⟩)) (fun _ h => St.sel [0, 1, 2, 3] rfl rfl h) ⟨rfl, rfl, rfl, rfl, trivial⟩
 ·unfold impl_pathTo_L1 at H
  exact absurd H (by simp)
 ·unfold impl_pathTo_L1 at H
  refine c_block <| c_seq <| c_regHT 11 [(0, true), (1, true), (2, true), (3, true), (4, true), (5, true), (6, true), (7, true), (8, true), (9, true), (10, false)] (St w M0 [Res.box b30 38 [.slice a14 p0.Attrs_.length c15, .slice a16 p0.Classes_.length c17], Res.box b31 44 [.slice a22 p1.Nodes_.length c23, .int .i64 p1.Seen_], Res.box b32 81 [.slice a28 p2.Bins_.length c29, .int .i64 p2.Class_], Res.own (eList eI 3) F142 l139 [.slice a140 l139.length c141]]) mixed (by kernel_rfl) (panicOk_qs (panicOk_qb (panicOk_ql (panicOk_qb panicOk_body)))) (fun _ h => St.mask [true, true, true, true] rfl h) <| ow_batch [.fa 44 0 0 fa44_0] rfl <| ow_rH rfl (dstOk_lt rfl) (r1 0 1 rfl ty42 rfl) <| ow_batch [.p, .p, .lenS 56 3 sl56, .p] rfl <| bE H fun e290 h291 H => ow_ixE (e := eI) (xs := l139) (j := IntKind.i64.wrap ((l139.length : Int) - 1)) rfl rfl rfl rfl rfl sl56 ty3 rfl (fun w1 hw1 => rds_own (e := eList eI 3) (r := 3) rfl w1 hw1) h291 (by rw [Nat.mul_one]) <| ow_rH rfl (dstOk_lt rfl) (ry_load1 rfl rfl ty3 (at_elV (fun w1 hw1 => rds_own (e := eList eI 3) (r := 3) rfl w1 hw1) h291)) <| bE H fun e292 h293 H => ow_ixB rfl rfl rfl rfl rfl sl42 ty70 rfl g20 h293 fun q296 c297 hd294 hA295 => ?_
  obtain ⟨c298, c299, c300, c301, c302, c303, c304, c305, c306, c307, rfl, g308, g309, g310, g311, g312, g313, g314, g315, g316, g317⟩ := rdo_Timpl_Node hd294
  obtain rfl := g308
  obtain rfl := g309
  obtain ⟨a318, c319, rfl⟩ := rd_sl1 g310
  obtain rfl := g311
  obtain ⟨c320, c321, rfl, g322, g323⟩ := rdo_Timpl_Stats g312
  obtain ⟨a324, c325, rfl⟩ := rd_sl1 g322
  obtain ⟨a326, c327, rfl⟩ := rd_sl1 g323
  obtain rfl := g313
  obtain ⟨a328, c329, rfl⟩ := rd_sl1 g314
  obtain rfl := g315
  obtain rfl := g316
  obtain rfl := g317
  refine ow_rH rfl (dstOk_lt rfl) (ry_load (cs := [.bool e292.Leaf_, .int .i64 e292.Fork_.Attr_, .int .i64 e292.Fork_.At_, .slice a318 e292.Kids_.length c319, .int .i64 e292.Miss_, .slice a324 e292.Stats_.Totals_.length c325, .slice a326 e292.Stats_.Cells_.length c327, .int .i64 e292.Since_, .slice a328 e292.Attrs_.length c329, .int .i64 e292.Depth_, .int .i64 e292.Up_, .int .i64 e292.Born_]) rfl rfl ty70 (at_bor (fun _ h => h.ext) hA295) rfl) <| ow_alloc rfl rfl rfl rfl ty70 (fun _ => (fun _ h => St.mask [true, true, true, true] rfl h)) fun b330 => ow_nilH <| x_qt <| sC 0 [.bool e292.Leaf_, .int .i64 e292.Fork_.Attr_, .int .i64 e292.Fork_.At_, .slice a318 e292.Kids_.length c319, .int .i64 e292.Miss_, .slice a324 e292.Stats_.Totals_.length c325, .slice a326 e292.Stats_.Cells_.length c327, .int .i64 e292.Since_, .slice a328 e292.Attrs_.length c329, .int .i64 e292.Depth_, .int .i64 e292.Up_, .int .i64 e292.Born_] [_, _, _, _, _, _, _, _, _, _, _, _] 4 rfl ty70 rfl <| nQ <| c_seq <| sR <| ow_batch [.fa 70 0 0 fa70_0] rfl <| o1 rfl (r1 0 4 rfl ty4 rfl) <| nQ <| cI H rfl (fun H => ?_) (fun H => ?_)
  ·exact sR <| oPP rfl <| nT <| x_qs_ret <| x_qb_ret <| x_ql_ret <| x_qb_ret <| x_retR (rs := [.tmp 6]) (vs := [.slice a140 l139.length c141]) rfl ⟨rfl, trivial⟩ (fun w' hw' => by
    obtain rfl := of_some H
    exact ⟨_, rfl, a140, l139.length, c141, F142, rfl, hz143, hw'.sel [3] rfl rfl⟩)
  ·refine c_skip <| x_qs <| sR <| ow_batch [.fa 70 3 4 fa70_3] rfl <| o1 rfl (r1 4 4 rfl ty3 rfl) <| oP rfl <| nQ <| c_join1 (fun (i335 : Int) => St w M0 [Res.box b30 38 [.slice a14 p0.Attrs_.length c15, .slice a16 p0.Classes_.length c17], Res.box b31 44 [.slice a22 p1.Nodes_.length c23, .int .i64 p1.Seen_], Res.box b32 81 [.slice a28 p2.Bins_.length c29, .int .i64 p2.Class_], Res.own (eList eI 3) F142 l139 [.slice a140 l139.length c141], Res.box b330 70 [.bool e292.Leaf_, .int .i64 e292.Fork_.Attr_, .int .i64 e292.Fork_.At_, .slice a318 e292.Kids_.length c319, .int .i64 e292.Miss_, .slice a324 e292.Stats_.Totals_.length c325, .slice a326 e292.Stats_.Cells_.length c327, .int .i64 e292.Since_, .slice a328 e292.Attrs_.length c329, .int .i64 e292.Depth_, .int .i64 e292.Up_, .int .i64 e292.Born_]]) (fun (i335 : Int) => [(3, .pointer (some ⟨b30, 0, none⟩)), (4, .pointer (some ⟨b31, 0, none⟩)), (5, .pointer (some ⟨b32, 0, none⟩)), (7, .slice a140 l139.length c141), (8, .pointer (some ⟨b330, 0, none⟩)), (9, .int .i64 i335)]) (fun (i335 : Int) => impl_pathTo_J1 e292 l139 (impl_pathTo_L1 p1 p2 p0 k1) i335 = some r) (fun i335 H => ?_) (fun J1 => ?_)
   ·unfold impl_pathTo_J1 at H
    exact c_reg <| ow_batch [.p, .fa 70 2 3 fa70_2] rfl <| o1 rfl (r1 3 4 rfl ty56 rfl) <| oP rfl <| bE H fun e336 h337 H => ow_ixE (e := eI) (xs := e292.Kids_) (j := i335) rfl rfl rfl rfl rfl sl56 ty3 rfl (fun w1 hw1 => rds_bor g310 w1 hw1) h337 (by rw [Nat.mul_one]) <| o1 rfl (ry_load1 rfl rfl ty3 (at_elV (fun w1 hw1 => rds_bor g310 w1 hw1) h337)) <| ow_blit (val := Value.int .i64) (h1 := fun _ => rfl) [e336] [(0, [.int .i64 e336])] rfl rfl rfl rfl rfl sl56 ty3 rfl rfl rfl ⟨rfl, rfl, Nat.le_of_ble_eq_true rfl,  trivial⟩ rfl rfl (fun _ => kp) fun b338 => bE H fun l339 h340 H => ow_appR (r := 3) (ys := ([e336] : List Int)) rfl rfl rfl rfl rfl rfl sl56 ty3 rfl rfl rfl (fun w1 hw1 => rds_own (e := eList eI 3) (r := 5) rfl w1 hw1) h340 (fun _ _ _ => kp) fun a341 c342 F343 => ow_fact rfl (fun w1 hw1 => own_nn (i := 3) hw1 rfl (app_ne h340)) fun hz344 => oP rfl <| ow_nil <| x_qb <| x_ql (RW.at (ihk1 (l339) (a341) (c342) (F343) (⟨hz344, H⟩)) (fun _ h => St.sel [0, 1, 2, 3] rfl rfl h) ⟨rfl, rfl, rfl, rfl, trivial⟩)
   ·refine sR <| ow_batch [.fa 81 0 0 fa81_0] rfl <| o1 rfl (r1 0 2 rfl ty56 rfl) <| ow_batch [.fa 70 1 1 fa70_1, .fa 65 0 0 fa65_0] rfl <| o1 rfl (r1 1 4 rfl ty3 rfl) <| bE H fun e345 h346 H => ow_ixE (e := eI) (xs := p2.Bins_) (j := e292.Fork_.Attr_) rfl rfl rfl rfl rfl sl56 ty3 rfl (fun w1 hw1 => rds_bor g26 w1 hw1) h346 (by rw [Nat.mul_one]) <| o1 rfl (ry_load1 rfl rfl ty3 (at_elV (fun w1 hw1 => rds_bor g26 w1 hw1) h346)) <| oP rfl <| nR <| oPP rfl <| nQ <| cI H rfl (fun H => ?_) (fun H => ?_)
    ·exact c_reg <| o1 rfl (rx 0 0 _ rfl ty38 rfl) <| ow_batch [.fa 70 1 1 fa70_1] rfl <| o1 rfl (rx 1 4 _ rfl ty65 rfl) <| oP rfl <| bE H fun y347 h348 H => oq rfl (qc rfl fn119 (fun w1 hw1 => impl_BranchOf_ok w1 (p1 := e292.Fork_) h348 (rdm_Timpl_Schema (rds_bor g12 w1 hw1) (rds_bor g13 w1 hw1)))) tt2 <| oP rfl <| ow_nil <| XW.at (J1 (y347) (H)) (fun _ h => St.sel [0, 1, 2, 3, 4] rfl rfl h) ⟨rfl, rfl, rfl, rfl, rfl, rfl, trivial⟩
    ·exact c_skip <| XW.at (J1 (e292.Miss_) (H)) (fun _ h => St.sel [0, 1, 2, 3, 4] rfl rfl h) ⟨rfl, rfl, rfl, rfl, rfl, rfl, trivial⟩
theorem impl_ownEntries_ok (w : World) {M0 : List Nat} {p0 : Timpl_Schema} {p1 : Timpl_Tree} {p2 : List Timpl_Entry} {p3 : Int} {cs0 : List Value} {cs1 : List Value} {a_2 : Option Addr} {n_2 c_2 : Nat} {r : List Int} (H : impl_ownEntries p0 p1 p2 p3 = some r) (HS : St w M0 [] w) (g0 : (eTimpl_Schema).rd w M0 p0 cs0) (g1 : (eTimpl_Tree).rd w M0 p1 cs1) (g2 : (eList (eTimpl_Entry) 83).rd w M0 p2 [.slice a_2 n_2 c_2]) :
    Calls Tryz.prog 67 #[.agg cs0.toArray, .agg cs1.toArray, .slice a_2 n_2 c_2, .int .i64 p3] w (fun en w' => ∃ v, en = .returned v ∧ ∃ (a0 : Option Addr), ∃ (n0 : Nat), ∃ (c0 : Nat), ∃ (F0 : List Nat), v = .slice a0 n0 c0 ∧ St w M0 [Res.own (eList eI 3) F0 r [.slice a0 n0 c0]] w') := by
 obtain ⟨c10, c11, rfl, g12, g13⟩ := rdo_Timpl_Schema g0
 obtain ⟨a14, c15, rfl⟩ := rd_sl1 g12
 obtain ⟨a16, c17, rfl⟩ := rd_sl1 g13
 obtain ⟨c18, c19, rfl, g20, g21⟩ := rdo_Timpl_Tree g1
 obtain ⟨a22, c23, rfl⟩ := rd_sl1 g20
 obtain rfl := g21
 obtain rfl := rd_n g2
 unfold impl_ownEntries at H
 refine f_enter Tryz.func67 rfl Tryz.ntmps67 rfl (HS) <| sR <| ob _ rfl fun b24 => ob _ rfl fun b25 => oP rfl <| nR <| ow_batch [.fa 44 0 0 fa44_0] rfl <| o1 rfl (r1 0 1 rfl ty42 rfl) <| oP rfl <| bE H fun e26 h27 H => ow_ixB rfl rfl rfl rfl rfl sl42 ty70 rfl g20 h27 fun q30 c31 hd28 hA29 => ?_
 obtain ⟨c32, c33, c34, c35, c36, c37, c38, c39, c40, c41, rfl, g42, g43, g44, g45, g46, g47, g48, g49, g50, g51⟩ := rdo_Timpl_Node hd28
 obtain rfl := g42
 obtain rfl := g43
 obtain ⟨a52, c53, rfl⟩ := rd_sl1 g44
 obtain rfl := g45
 obtain ⟨c54, c55, rfl, g56, g57⟩ := rdo_Timpl_Stats g46
 obtain ⟨a58, c59, rfl⟩ := rd_sl1 g56
 obtain ⟨a60, c61, rfl⟩ := rd_sl1 g57
 obtain rfl := g47
 obtain ⟨a62, c63, rfl⟩ := rd_sl1 g48
 obtain rfl := g49
 obtain rfl := g50
 obtain rfl := g51
 refine o1 rfl (ry_load (cs := [.bool e26.Leaf_, .int .i64 e26.Fork_.Attr_, .int .i64 e26.Fork_.At_, .slice a52 e26.Kids_.length c53, .int .i64 e26.Miss_, .slice a58 e26.Stats_.Totals_.length c59, .slice a60 e26.Stats_.Cells_.length c61, .int .i64 e26.Since_, .slice a62 e26.Attrs_.length c63, .int .i64 e26.Depth_, .int .i64 e26.Up_, .int .i64 e26.Born_]) rfl rfl ty70 (at_bor bor hA29) rfl) <| ow_alloc rfl rfl rfl rfl ty70 (fun _ => kp) fun b64 => sC 0 [.bool e26.Leaf_, .int .i64 e26.Fork_.Attr_, .int .i64 e26.Fork_.At_, .slice a52 e26.Kids_.length c53, .int .i64 e26.Miss_, .slice a58 e26.Stats_.Totals_.length c59, .slice a60 e26.Stats_.Cells_.length c61, .int .i64 e26.Since_, .slice a62 e26.Attrs_.length c63, .int .i64 e26.Depth_, .int .i64 e26.Up_, .int .i64 e26.Born_] [_, _, _, _, _, _, _, _, _, _, _, _] 2 rfl ty70 rfl <| nR <| ow_batch [.p, .lenS 46 83 sl46, .p] rfl <| nQ <| c_join1 (fun (i105 : Int) => St w M0 [Res.box b24 38 [.slice a14 p0.Attrs_.length c15, .slice a16 p0.Classes_.length c17], Res.box b25 44 [.slice a22 p1.Nodes_.length c23, .int .i64 p1.Seen_], Res.box b64 70 [.bool e26.Leaf_, .int .i64 e26.Fork_.Attr_, .int .i64 e26.Fork_.At_, .slice a52 e26.Kids_.length c53, .int .i64 e26.Miss_, .slice a58 e26.Stats_.Totals_.length c59, .slice a60 e26.Stats_.Cells_.length c61, .int .i64 e26.Since_, .slice a62 e26.Attrs_.length c63, .int .i64 e26.Depth_, .int .i64 e26.Up_, .int .i64 e26.Born_]]) (fun (i105 : Int) => [(2, .slice a_2 p2.length c_2), (3, .int .i64 p3), (4, .pointer (some ⟨b24, 0, none⟩)), (5, .pointer (some ⟨b25, 0, none⟩)), (9, .pointer (some ⟨b64, 0, none⟩)), (10, .int .i64 i105)]) (fun (i105 : Int) => impl_ownEntries_J1 p2 p0 p1 p3 e26 i105 = some r) (fun i105 H => ?_) (fun J1 => ?_)
 ·unfold impl_ownEntries_J1 at H
  refine sR <| ow_blit0 (e := eI) rfl rfl rfl rfl sl56 ty3 (fun _ => kp) fun b106 => oP rfl <| nQ <| c_seq <| sR <| ow_batch [.fa 70 9 11 fa70_9] rfl <| o1 rfl (r1 11 2 rfl ty3 rfl) <| oP rfl <| nQ <| c_block <| CW.at (loopI5 (fun (l174 : List Int) (a175 : Option Addr) (c176 : Nat) (F177 : List Nat) (i179 : Int) => St w M0 [Res.own (eList eI 3) F177 l174 [.slice a175 l174.length c176], Res.box b24 38 [.slice a14 p0.Attrs_.length c15, .slice a16 p0.Classes_.length c17], Res.box b25 44 [.slice a22 p1.Nodes_.length c23, .int .i64 p1.Seen_]]) (fun l174 a175 c176 F177 i179 => [(2, .slice a_2 p2.length c_2), (3, .int .i64 p3), (4, .pointer (some ⟨b24, 0, none⟩)), (5, .pointer (some ⟨b25, 0, none⟩)), (10, .int .i64 i105), (11, .slice a175 l174.length c176), (12, .int .i64 i179)]) (fun kk => fun l174 a175 c176 F177 i179 => a175.isNone = false ∧ impl_ownEntries_L1 i105 p2 p0 p1 p3 kk l174 i179 = some r) (fun _ _ _ _ _ H => ?_) (fun k1 ihk1 l174 a175 c176 F177 i179 ⟨hz178, H⟩ => ?_) Fuel (([] : List Int)) ((some ⟨b106, 0, none⟩)) (0) ([b106]) (e26.Born_) (⟨rfl, H⟩)) (fun _ h => by have h2 : St w M0 [Res.own (eList eI 3) [b106] ([] : List Int) [.slice (some ⟨b106, 0, none⟩) 0 0], Res.box b24 38 [.slice a14 p0.Attrs_.length c15, .slice a16 p0.Classes_.length c17], Res.box b25 44 [.slice a22 p1.Nodes_.length c23, .int .i64 p1.Seen_]] _ := St.sel [3, 0, 1] rfl rfl h; simpa only [List.length_set, List.length_cons, List.length_nil] using h2) (by simp only [Sub, List.length_set, List.length_cons, List.length_nil]; exact ⟨rfl, rfl, rfl, rfl, rfl, rfl, rfl,  trivial⟩)
  ·unfold impl_ownEntries_L1 at H
   exact absurd H (by simp)
  ·unfold impl_ownEntries_L1 at H
   refine c_seq <| sR <| ow_batch [.p, .p, .p] rfl <| nQ <| cI H rfl (fun H => ?_) (fun H => ?_)
   ·refine c_skip <| x_qs <| c_seq <| c_block <| c_seq <| c_regHT 9 [(0, true), (1, true), (2, true), (3, true), (4, true), (5, true), (6, true), (8, true), (7, false)] (St w M0 [Res.own (eList eI 3) F177 l174 [.slice a175 l174.length c176], Res.box b24 38 [.slice a14 p0.Attrs_.length c15, .slice a16 p0.Classes_.length c17], Res.box b25 44 [.slice a22 p1.Nodes_.length c23, .int .i64 p1.Seen_]]) mixed (by kernel_rfl) (panicOk_qs (panicOk_qb (panicOk_qs (panicOk_ql (panicOk_qb (panicOk_qs panicOk_body)))))) (fun _ h => St.mask [true, true, true] rfl h) <| ow_rH rfl (dstOk_lt rfl) (rx 0 1 _ rfl ty38 rfl) <| ow_rH rfl (dstOk_lt rfl) (rx 0 2 _ rfl ty44 rfl) <| oPP rfl <| bE H fun e273 h274 H => ow_ixB rfl rfl rfl rfl rfl sl46 ty83 rfl g2 h274 fun q277 c278 hd275 hA276 => ?_
    obtain ⟨c279, c280, rfl, g281, g282⟩ := rdo_Timpl_Entry hd275
    obtain ⟨c283, c284, rfl, g285, g286⟩ := rdo_Timpl_Ex g281
    obtain ⟨a287, c288, rfl⟩ := rd_sl1 g285
    obtain rfl := g286
    obtain rfl := g282
    refine ow_batch [.fa 83 0 0 fa83_0] rfl <| ow_rH rfl (dstOk_lt rfl) (ry_load (cs := [.slice a287 e273.Ex_.Bins_.length c288, .int .i64 e273.Ex_.Class_]) rfl rfl ty81 (at_bor (fun _ h => h.ext) (at_K hA276 0 2)) rfl) <| oP rfl <| bE H fun y289 h290 H => ow_callS rfl fn102 rfl rfl rfl rfl (fun w1 hw1 => impl_pathTo_ok w1 h290 (hw1.carve [] rfl rfl) (rdm_Timpl_Schema (rds_bor g12 w1 hw1) (rds_bor g13 w1 hw1)) (rdm_Timpl_Tree (rds_bor g20 w1 hw1) rfl) (rdm_Timpl_Ex (rds_bor g285 w1 hw1) rfl)) fun v291 w1 w2 hw1 hR293 => ?_
    obtain ⟨a294, n295, c296, F297, rfl, hz298, hS292⟩ := hR293
    obtain rfl := own_nS (i := 0) hS292 rfl
    refine ⟨St w M0 [_, _, _, _], hw1.comp [] rfl rfl hS292, (fun _ h => St.mask [true, true, true] rfl h), ?_⟩
    refine ow_nilH <| x_qt <| bE H fun y299 h300 H => oq rfl (qc rfl fn62 (fun w1 hw1 => lib_slices_Contains___int_int__ok w1  h300 (rds_own (e := eList eI 3) (r := 3) rfl w1 hw1))) tt2 <| nQ <| cI H rfl (fun H => ?_) (fun H => ?_)
    ·exact c_reg <| oPP rfl <| ow_blit (val := Value.int .i64) (h1 := fun _ => rfl) [i179] [(0, [.int .i64 i179])] rfl rfl rfl rfl rfl sl56 ty3 rfl rfl rfl ⟨rfl, rfl, Nat.le_of_ble_eq_true rfl,  trivial⟩ rfl rfl (fun _ => kp) fun b301 => bE H fun l302 h303 H => ow_appR (r := 0) (ys := ([i179] : List Int)) rfl rfl rfl rfl rfl rfl sl56 ty3 rfl rfl rfl (fun w1 hw1 => rds_own (e := eList eI 3) (r := 4) rfl w1 hw1) h303 (fun _ _ _ => kp) fun a304 c305 F306 => ow_fact rfl (fun w1 hw1 => own_nn (i := 0) hw1 rfl (app_ne h303)) fun hz307 => oP rfl <| ow_nil <| x_qb <| x_qs <| c_reg <| ow_batch [.p, .p, .p] rfl <| ow_nil <| x_ql (RW.at (ihk1 (l302) (a304) (c305) (F306) (IntKind.i64.wrap (i179 + 1)) (⟨hz307, H⟩)) (fun _ h => St.sel [0, 1, 2] rfl rfl h) ⟨rfl, rfl, rfl, rfl, rfl, rfl, rfl, trivial⟩)
    ·exact c_skip <| x_qb <| x_qs <| c_reg <| ow_batch [.p, .p, .p] rfl <| ow_nil <| x_ql (RW.at (ihk1 (l174) (a175) (c176) (F177) (IntKind.i64.wrap (i179 + 1)) (⟨hz178, H⟩)) (fun _ h => St.sel [0, 1, 2] rfl rfl h) ⟨rfl, rfl, rfl, rfl, rfl, rfl, rfl, trivial⟩)
   ·exact c_exit <| x_qs_exit <| x_ql_exit <| x_qb_here <| x_qs <| sR <| oPP rfl <| nT <| x_retR (rs := [.tmp 8]) (vs := [.slice a175 l174.length c176]) rfl ⟨rfl, trivial⟩ (fun w' hw' => by
     obtain rfl := of_some H
     exact ⟨_, rfl, a175, l174.length, c176, F177, rfl, hw'.sel [0] rfl rfl⟩)
 ·refine sR <| ow_batch [.fa 70 0 0 fa70_0] rfl <| o1 rfl (r1 0 2 rfl ty4 rfl) <| oP rfl <| nQ <| cI H rfl (fun H => ?_) (fun H => ?_)
  ·refine c_regQ mixed (by kernel_rfl) <| ow_batch [.p, .fa 44 0 0 fa44_0] rfl <| o1 rfl (r1 0 1 rfl ty42 rfl) <| ow_batch [.fa 70 2 3 fa70_2] rfl <| o1 rfl (r1 3 2 rfl ty56 rfl) <| bE H fun e308 h309 H => ow_ixE (e := eI) (xs := e26.Kids_) (j := 0) rfl rfl rfl rfl rfl sl56 ty3 rfl (fun w1 hw1 => rds_bor g44 w1 hw1) h309 (by rw [Nat.mul_one]) <| o1 rfl (ry_load1 rfl rfl ty3 (at_elV (fun w1 hw1 => rds_bor g44 w1 hw1) h309)) <| bE H fun e310 h311 H => ow_ixB rfl rfl rfl rfl rfl sl42 ty70 rfl g20 h311 fun q314 c315 hd312 hA313 => ?_
   obtain ⟨c316, c317, c318, c319, c320, c321, c322, c323, c324, c325, rfl, g326, g327, g328, g329, g330, g331, g332, g333, g334, g335⟩ := rdo_Timpl_Node hd312
   obtain rfl := g326
   obtain rfl := g327
   obtain ⟨a336, c337, rfl⟩ := rd_sl1 g328
   obtain rfl := g329
   obtain ⟨c338, c339, rfl, g340, g341⟩ := rdo_Timpl_Stats g330
   obtain ⟨a342, c343, rfl⟩ := rd_sl1 g340
   obtain ⟨a344, c345, rfl⟩ := rd_sl1 g341
   obtain rfl := g331
   obtain ⟨a346, c347, rfl⟩ := rd_sl1 g332
   obtain rfl := g333
   obtain rfl := g334
   obtain rfl := g335
   exact ow_batch [.fa 70 9 11 fa70_9] rfl <| o1 rfl (ry_load1 rfl rfl ty3 (at_bor bor (at_K hA313 11 1))) <| o1 rfl (ry_min rfl rfl rfl) <| oP rfl <| ow_nilQ <| XW.at (J1 ((if e310.Born_ < (p2.length : Int) then e310.Born_ else (p2.length : Int))) (H)) (fun _ h => St.sel [0, 1, 2] rfl rfl h) ⟨rfl, rfl, rfl, rfl, rfl, rfl, trivial⟩
  ·exact c_skip <| XW.at (J1 ((p2.length : Int)) (H)) (fun _ h => St.sel [0, 1, 2] rfl rfl h) ⟨rfl, rfl, rfl, rfl, rfl, rfl, trivial⟩
theorem lib_slices_Clone___int_int__ok (w : World) {M0 : List Nat} {p0 : List Int} {a_0 : Option Addr} {n_0 c_0 : Nat} {r : List Int} (H : lib_slices_Clone___int_int_ p0 = some r) (HS : St w M0 [] w) (g0 : (eList eI 3).rd w M0 p0 [.slice a_0 n_0 c_0]) :
    Calls Tryz.prog 120 #[.slice a_0 n_0 c_0] w (fun en w' => ∃ v, en = .returned v ∧ ∃ (a0 : Option Addr), ∃ (n0 : Nat), ∃ (c0 : Nat), ∃ (F0 : List Nat), v = .slice a0 n0 c0 ∧ St w M0 [Res.own (eList eI 3) F0 r [.slice a0 n0 c0]] w') := by
 obtain rfl := rd_n g0
 unfold lib_slices_Clone___int_int_ at H
 refine f_enter Tryz.func120 rfl Tryz.ntmps120 rfl (HS) <| sR <| oP rfl <| nQ <| c_seq <| sR <| oP rfl <| o1 rfl (ry_nilB rfl rfl sl56 rfl) <| nQ <| c_if rfl (fun hb => ?_) (fun _ => ?_)
 ·obtain rfl : p0 = [] := rd_isNone g0 hb
  have H : some ([] : List Int) = some r := by simpa [app] using H
  exact sR <| oP rfl <| nT <| x_qs_ret <| xw_st (fun _ h => St.pushNil (e := eI) (T := 3) h) <| x_retR (rs := [.tmp 2]) (vs := [.slice none 0 0]) rfl ⟨rfl, trivial⟩ (fun w' hw' => by
   obtain rfl := of_some H
   exact ⟨_, rfl, none, 0, 0, [], rfl, hw'.sel [0] rfl rfl⟩)
 ·exact c_skip <| x_qs <| sR <| ow_blit0 (e := eI) rfl rfl rfl rfl sl56 ty3 (fun _ => kp) fun b10 => oP rfl <| bE H fun l11 h12 H => ow_appR (r := 0) (ys := p0) rfl rfl rfl rfl rfl rfl sl56 ty3 rfl rfl rfl (fun w1 hw1 => rds_bor g0 w1 hw1) h12 (fun _ _ _ => kp) fun a13 c14 F15 => oP rfl <| nT <| x_retR (rs := [.tmp 2]) (vs := [.slice a13 l11.length c14]) rfl ⟨rfl, trivial⟩ (fun w' hw' => by
   obtain rfl := of_some H
   exact ⟨_, rfl, a13, l11.length, c14, F15, rfl, hw'.sel [0] rfl rfl⟩)
theorem impl_cloneLists_ok (w : World) {M0 : List Nat} {p0 : List (List Int)} {a_0 : Option Addr} {n_0 c_0 : Nat} {r : List (List Int)} (H : impl_cloneLists p0 = some r) (HS : St w M0 [] w) (g0 : (eList (eList eI 3) 56).rd w M0 p0 [.slice a_0 n_0 c_0]) :
    Calls Tryz.prog 121 #[.slice a_0 n_0 c_0] w (fun en w' => ∃ v, en = .returned v ∧ ∃ (a0 : Option Addr), ∃ (n0 : Nat), ∃ (c0 : Nat), ∃ (F0 : List Nat), v = .slice a0 n0 c0 ∧ St w M0 [Res.own (eList (eList eI 3) 56) F0 r [.slice a0 n0 c0]] w') := by
 obtain rfl := rd_n g0
 unfold impl_cloneLists at H
 refine f_enter Tryz.func121 rfl Tryz.ntmps121 rfl (HS) <| sR <| oP rfl <| nR <| oP rfl <| nQ <| c_seq <| sR <| ow_batch [.p, .lenS 66 56 sl66, .p] rfl <| nQ <| c_block <| CW.weak ?_ (fun _ h => St.pushNil (e := eList eI 3) (T := 56) h)
 refine CW.at (loopI5 (fun (l38 : List (List Int)) (a39 : Option Addr) (c40 : Nat) (F41 : List Nat) (i42 : Int) => St w M0 [Res.own (eList (eList eI 3) 56) F41 l38 [.slice a39 l38.length c40]]) (fun l38 a39 c40 F41 i42 => [(3, .slice a39 l38.length c40), (6, .slice a_0 p0.length c_0), (7, .int .i64 (p0.length : Int)), (8, .int .i64 i42)]) (fun kk => fun l38 a39 c40 F41 i42 => impl_cloneLists_L1 p0 kk l38 i42 = some r) (fun _ _ _ _ _ H => ?_) (fun k1 ihk1 l38 a39 c40 F41 i42 H => ?_) Fuel (([] : List (List Int))) (none) (0) ([]) (0) (H)) (fun _ h => by have h2 : St w M0 [Res.own (eList (eList eI 3) 56) [] ([] : List (List Int)) [.slice none 0 0]] _ := St.sel [0] rfl rfl h; simpa only [List.length_set, List.length_cons, List.length_nil] using h2) (by simp only [Sub, List.length_set, List.length_cons, List.length_nil]; exact ⟨rfl, rfl, rfl, rfl,  trivial⟩)
 ·unfold impl_cloneLists_L1 at H
  exact absurd H (by simp)
 ·unfold impl_cloneLists_L1 at H
  refine sR <| oP rfl <| nQ <| c_seq <| cI H rfl (fun H => ?_) (fun H => ?_)
  ·refine c_skip <| x_qs <| c_seq <| c_block <| sR <| bE H fun e71 h72 H => ow_ixB rfl rfl rfl rfl rfl sl66 ty56 rfl g0 h72 fun q75 c76 hd73 hA74 => ?_
   obtain ⟨a77, c78, rfl⟩ := rd_sl1 hd73
   refine o1 rfl (ry_load1 rfl rfl ty56 (at_bor bor hA74)) <| oP rfl <| nQ <| c_reg <| oPP rfl <| bE H fun y79 h80 H => ow_callS rfl fn120 rfl rfl rfl rfl (fun w1 hw1 => lib_slices_Clone___int_int__ok w1  h80 (hw1.carve [] rfl rfl) (rds_bor hd73 w1 hw1)) fun v81 w1 w2 hw1 hR83 => ?_
   obtain ⟨a84, n85, c86, F87, rfl, hS82⟩ := hR83
   obtain rfl := own_nS (i := 0) hS82 rfl
   refine ⟨St w M0 [_, _], hw1.comp [] rfl rfl hS82, fun _ _ => trivial, ?_⟩
   refine ow_bslice [(0, [.slice a84 y79.length c86])] rfl rfl rfl rfl rfl sl66 ty56 rfl rfl ⟨rfl, rfl, Nat.le_of_ble_eq_true rfl,  trivial⟩ [.slice a84 y79.length c86] rfl (fun _ => kp) fun b88 => ow_st rfl (fun _ h => lit1 (p := 2) (q := 1) h rfl rfl rfl) <| bE H fun l89 h90 H => ow_appM (r := 0) (j := 3) rfl rfl rfl rfl rfl rfl sl66 ty56 rfl rfl rfl rfl rfl rfl rfl h90 (fun _ _ _ => kp) fun a91 c92 F93 => oP rfl <| ow_nil <| x_qb <| x_qs <| CW.weak (C' := St w M0 [_]) ?_ (fun _ h => St.sel [4] rfl rfl h)
   exact c_reg <| oPP rfl <| ow_nil <| x_ql (RW.at (ihk1 (l89) (a91) (c92) (F93) (IntKind.i64.wrap (i42 + 1)) (H)) (fun _ h => St.sel [0] rfl rfl h) ⟨rfl, rfl, rfl, rfl, trivial⟩)
  ·exact c_exit <| x_qs_exit <| x_ql_exit <| x_qb_here <| x_qs <| sR <| oPP rfl <| nT <| x_retR (rs := [.tmp 2]) (vs := [.slice a39 l38.length c40]) rfl ⟨rfl, trivial⟩ (fun w' hw' => by
    obtain rfl := of_some H
    exact ⟨_, rfl, a39, l38.length, c40, F41, rfl, hw'.sel [0] rfl rfl⟩)
theorem impl_cloneStats_ok (w : World) {M0 : List Nat} {p0 : Timpl_Stats} {cs0 : List Value} {r : Timpl_Stats} (H : impl_cloneStats p0 = some r) (HS : St w M0 [] w) (g0 : (eTimpl_Stats).rd w M0 p0 cs0) :
    Calls Tryz.prog 103 #[.agg cs0.toArray] w (fun en w' => ∃ v, en = .returned v ∧ ∃ (a0 : Option Addr), ∃ (n0 : Nat), ∃ (c0 : Nat), ∃ (F0 : List Nat), ∃ (a1 : Option Addr), ∃ (n1 : Nat), ∃ (c1 : Nat), ∃ (F1 : List Nat), v = .agg #[.slice a0 n0 c0, .slice a1 n1 c1] ∧ St w M0 [Res.own (eList eI 3) F0 r.Totals_ [.slice a0 n0 c0], Res.own (eList (eList eI 3) 56) F1 r.Cells_ [.slice a1 n1 c1]] w') := by
 obtain ⟨c10, c11, rfl, g12, g13⟩ := rdo_Timpl_Stats g0
 obtain ⟨a14, c15, rfl⟩ := rd_sl1 g12
 obtain ⟨a16, c17, rfl⟩ := rd_sl1 g13
 unfold impl_cloneStats at H
 refine f_enter Tryz.func103 rfl Tryz.ntmps103 rfl (HS) <| sR <| ob _ rfl fun b18 => ow_alloc rfl rfl rfl rfl ty68 (fun _ => kp) fun b19 => nQ <| c_seq <| c_regHT 5 [(0, true), (1, true), (3, true), (4, true), (2, false)] (St w M0 [Res.box b18 68 [.slice a14 p0.Totals_.length c15, .slice a16 p0.Cells_.length c17], Res.box b19 68 [.slice none 0 0, .slice none 0 0]]) mixed (by kernel_rfl) (panicOk_qs panicOk_body) (fun _ h => St.mask [true, true] rfl h) <| ow_batch [.fa 68 0 0 fa68_0] rfl <| ow_rH rfl (dstOk_lt rfl) (r1 0 0 rfl ty56 rfl) <| ow_batch [.fa 68 1 1 fa68_1] rfl <| ow_rH rfl (dstOk_lt rfl) (r1 1 0 rfl ty66 rfl) <| bE H fun y29 h30 H => ow_callS rfl fn120 rfl rfl rfl rfl (fun w1 hw1 => lib_slices_Clone___int_int__ok w1  h30 (hw1.carve [] rfl rfl) (rds_bor g12 w1 hw1)) fun v31 w1 w2 hw1 hR33 => ?_
 obtain ⟨a34, n35, c36, F37, rfl, hS32⟩ := hR33
 obtain rfl := own_nS (i := 0) hS32 rfl
 refine ⟨St w M0 [_, _, _], hw1.comp [] rfl rfl hS32, (fun _ h => St.mask [true, true] rfl h), ?_⟩
 refine ow_nilH <| x_qt <| bE H fun y38 h39 H => ow_callS rfl fn121 rfl rfl rfl rfl (fun w1 hw1 => impl_cloneLists_ok w1  h39 (hw1.carve [] rfl rfl) (rds_bor g13 w1 hw1)) fun v40 w1 w2 hw1 hR42 => ?_
 obtain ⟨a43, n44, c45, F46, rfl, hS41⟩ := hR42
 obtain rfl := own_nS (i := 0) hS41 rfl
 refine ⟨St w M0 [_, _, _, _], hw1.comp [] rfl rfl hS41, fun _ _ => trivial, ?_⟩
 exact o1 rfl (ry_build2 [(0, [.slice a34 y29.length c36]), (1, [.slice a43 y38.length c45])] [.slice a34 y29.length c36, .slice a43 y38.length c45] rfl rfl ty68 fs68 rfl ⟨rfl, rfl, Nat.le_of_ble_eq_true rfl, rfl, rfl, Nat.le_of_ble_eq_true rfl,  trivial⟩ rfl) <| sC 0 [.slice a34 y29.length c36, .slice a43 y38.length c45] [_, _] 1 rfl ty68 rfl <| nT <| x_retR (rs := [.cell 2 68]) (vs := [.agg #[.slice a34 y29.length c36, .slice a43 y38.length c45]]) rfl ⟨⟨_, [.slice a34 y29.length c36, .slice a43 y38.length c45], _, _, _, rfl, ty68, (at_box (T := 68) 0 (boxIn (i := 1) rfl) rfl), rfl, rfl⟩, trivial⟩ (fun w' hw' => by
  obtain rfl := of_some H
  exact ⟨_, rfl, a34, y29.length, c36, F37, a43, y38.length, c45, F46, rfl, hw'.sel [2, 3] rfl rfl⟩)
theorem impl_StatsAdd_ok (w : World) {M0 : List Nat} {p0 : Timpl_Schema} {p1 : Timpl_Stats} {p2 : Timpl_Ex} {p3 : Int} {cs0 : List Value} {cs1 : List Value} {cs2 : List Value} {r : Timpl_Stats × Bool} (H : impl_StatsAdd p0 p1 p2 p3 = some r) (HS : St w M0 [] w) (g0 : (eTimpl_Schema).rd w M0 p0 cs0) (g1 : (eTimpl_Stats).rd w M0 p1 cs1) (g2 : (eTimpl_Ex).rd w M0 p2 cs2) :
    Calls Tryz.prog 68 #[.agg cs0.toArray, .agg cs1.toArray, .agg cs2.toArray, .int .i64 p3] w (fun en w' => ∃ v, en = .returned v ∧ ∃ (a0 : Option Addr), ∃ (n0 : Nat), ∃ (c0 : Nat), ∃ (F0 : List Nat), ∃ (a1 : Option Addr), ∃ (n1 : Nat), ∃ (c1 : Nat), ∃ (F1 : List Nat), v = .tuple #[.agg #[.slice a0 n0 c0, .slice a1 n1 c1], .bool r.2] ∧ St w M0 [Res.own (eList eI 3) F0 r.1.Totals_ [.slice a0 n0 c0], Res.own (eList (eList eI 3) 56) F1 r.1.Cells_ [.slice a1 n1 c1]] w') := by
 obtain ⟨c10, c11, rfl, g12, g13⟩ := rdo_Timpl_Schema g0
 obtain ⟨a14, c15, rfl⟩ := rd_sl1 g12
 obtain ⟨a16, c17, rfl⟩ := rd_sl1 g13
 obtain ⟨c18, c19, rfl, g20, g21⟩ := rdo_Timpl_Stats g1
 obtain ⟨a22, c23, rfl⟩ := rd_sl1 g20
 obtain ⟨a24, c25, rfl⟩ := rd_sl1 g21
 obtain ⟨c26, c27, rfl, g28, g29⟩ := rdo_Timpl_Ex g2
 obtain ⟨a30, c31, rfl⟩ := rd_sl1 g28
 obtain rfl := g29
 unfold impl_StatsAdd at H
 refine f_enter Tryz.func68 rfl Tryz.ntmps68 rfl (HS) <| sR <| ob _ rfl fun b32 => ob _ rfl fun b33 => ob _ rfl fun b34 => ow_alloc rfl rfl rfl rfl ty68 (fun _ => kp) fun b35 => oP rfl <| nR <| o1 rfl (rx 0 1 _ rfl ty68 rfl) <| bE H fun y36 h37 H => ow_callS rfl fn103 rfl rfl rfl rfl (fun w1 hw1 => impl_cloneStats_ok w1 h37 (hw1.carve [] rfl rfl) (rdm_Timpl_Stats (rds_bor g20 w1 hw1) (rds_bor g21 w1 hw1))) fun v38 w1 w2 hw1 hR40 => ?_
 obtain ⟨a41, n42, c43, F44, a45, n46, c47, F48, rfl, hS39⟩ := hR40
 obtain rfl := own_nS (i := 0) hS39 rfl
 obtain rfl := own_nS (i := 1) hS39 rfl
 refine ⟨St w M0 [_, _, _, _, _, _], hw1.comp [] rfl rfl hS39, fun _ _ => trivial, ?_⟩
 refine ow_alloc rfl rfl rfl rfl ty68 (fun _ => kp) fun b49 => sC 0 [.slice a41 y36.Totals_.length c43, .slice a45 y36.Cells_.length c47] [_, _] 6 rfl ty68 rfl <| nQ <| c_seq <| sR <| o1 rfl (rx 0 0 _ rfl ty38 rfl) <| o1 rfl (rx 0 1 _ rfl ty68 rfl) <| bE H fun y50 h51 H => oq rfl (qc rfl fn91 (fun w1 hw1 => impl_StatsOk_ok w1 h51 (rdm_Timpl_Schema (rds_bor g12 w1 hw1) (rds_bor g13 w1 hw1)) (rdm_Timpl_Stats (rds_bor g20 w1 hw1) (rds_bor g21 w1 hw1)))) tt2 <| oPP rfl <| bE H fun u52 hu56 H => ow_cut [(24, .bool u52), (3, .int .i64 p3), (4, .pointer (some ⟨b32, 0, none⟩)), (5, .pointer (some ⟨b33, 0, none⟩)), (6, .pointer (some ⟨b34, 0, none⟩)), (8, .pointer (some ⟨b35, 0, none⟩)), (10, .pointer (some ⟨b49, 0, none⟩))] 5 ?_ (fun key => OW.sub (R := [(3, .int .i64 p3), (4, .pointer (some ⟨b32, 0, none⟩)), (5, .pointer (some ⟨b33, 0, none⟩)), (6, .pointer (some ⟨b34, 0, none⟩)), (8, .pointer (some ⟨b35, 0, none⟩)), (10, .pointer (some ⟨b49, 0, none⟩)), (19, .bool (!y50))]) ?_ (sb rfl))
 ·refine oP rfl <| ow_cut [(29, .bool (u52 || (p2.Class_ == (-1)))), (3, .int .i64 p3), (4, .pointer (some ⟨b32, 0, none⟩)), (5, .pointer (some ⟨b33, 0, none⟩)), (6, .pointer (some ⟨b34, 0, none⟩)), (8, .pointer (some ⟨b35, 0, none⟩)), (10, .pointer (some ⟨b49, 0, none⟩))] 4 ?_ (fun key => OW.sub (R := [(3, .int .i64 p3), (4, .pointer (some ⟨b32, 0, none⟩)), (5, .pointer (some ⟨b33, 0, none⟩)), (6, .pointer (some ⟨b34, 0, none⟩)), (8, .pointer (some ⟨b35, 0, none⟩)), (10, .pointer (some ⟨b49, 0, none⟩)), (25, .bool u52)]) ?_ (sb rfl))
  ·refine oP rfl <| bE H fun u59 hu63 H => ow_cut [(34, .bool u59), (3, .int .i64 p3), (4, .pointer (some ⟨b32, 0, none⟩)), (5, .pointer (some ⟨b33, 0, none⟩)), (6, .pointer (some ⟨b34, 0, none⟩)), (8, .pointer (some ⟨b35, 0, none⟩)), (10, .pointer (some ⟨b49, 0, none⟩))] 4 ?_ (fun key => OW.sub (R := [(3, .int .i64 p3), (4, .pointer (some ⟨b32, 0, none⟩)), (5, .pointer (some ⟨b33, 0, none⟩)), (6, .pointer (some ⟨b34, 0, none⟩)), (8, .pointer (some ⟨b35, 0, none⟩)), (10, .pointer (some ⟨b49, 0, none⟩)), (30, .bool (u52 || (p2.Class_ == (-1))))]) ?_ (sb rfl))
   ·refine oP rfl <| bE H fun u65 hu69 H => ow_cut [(42, .bool u65), (3, .int .i64 p3), (4, .pointer (some ⟨b32, 0, none⟩)), (6, .pointer (some ⟨b34, 0, none⟩)), (8, .pointer (some ⟨b35, 0, none⟩)), (10, .pointer (some ⟨b49, 0, none⟩))] 7 ?_ (fun key => OW.sub (R := [(3, .int .i64 p3), (4, .pointer (some ⟨b32, 0, none⟩)), (5, .pointer (some ⟨b33, 0, none⟩)), (6, .pointer (some ⟨b34, 0, none⟩)), (8, .pointer (some ⟨b35, 0, none⟩)), (10, .pointer (some ⟨b49, 0, none⟩)), (35, .bool u59)]) ?_ (sb rfl))
    ·refine nQ <| cI H rfl (fun H => ?_) (fun H => ?_)
     ·exact sR <| o1 rfl (rx 0 6 _ rfl ty68 rfl) <| sC 0 [.slice a41 y36.Totals_.length c43, .slice a45 y36.Cells_.length c47] [_, _] 3 rfl ty68 rfl <| oP rfl <| nT <| x_qs_ret <| x_retR (rs := [.cell 8 68, .tmp 9]) (vs := [.agg #[.slice a41 y36.Totals_.length c43, .slice a45 y36.Cells_.length c47], .bool false]) rfl ⟨⟨_, [.slice a41 y36.Totals_.length c43, .slice a45 y36.Cells_.length c47], _, _, _, rfl, ty68, (at_box (T := 68) 0 (boxIn (i := 3) rfl) rfl), rfl, rfl⟩, rfl, trivial⟩ (fun w' hw' => by
       obtain rfl := of_some H
       exact ⟨_, rfl, a41, y36.Totals_.length, c43, F44, a45, y36.Cells_.length, c47, F48, rfl, hw'.sel [4, 5] rfl rfl⟩)
     ·refine c_skip <| x_qs <| sR <| ow_batch [.fa 68 0 0 fa68_0] rfl <| o1 rfl (r1 0 6 rfl ty56 rfl) <| ow_batch [.fa 81 1 1 fa81_1] rfl <| o1 rfl (r1 1 2 rfl ty3 rfl) <| bE H fun e70 h71 H => ow_ixE (e := eI) (xs := y36.Totals_) (j := p2.Class_) rfl rfl rfl rfl rfl sl56 ty3 rfl (fun w1 hw1 => rds_own (e := eList eI 3) (r := 4) rfl w1 hw1) h71 (by rw [Nat.mul_one]) <| o1 rfl (ry_load1 rfl rfl ty3 (at_elV (fun w1 hw1 => rds_own (e := eList eI 3) (r := 4) rfl w1 hw1) h71)) <| oPP rfl <| bE H fun e72 h73 H => ow_ixE (e := eI) (xs := y36.Totals_) (j := p2.Class_) rfl rfl rfl rfl rfl sl56 ty3 rfl (fun w1 hw1 => rds_own (e := eList eI 3) (r := 4) rfl w1 hw1) h73 (by rw [Nat.mul_one]) <| ow_storeV (i := 4) (j := p2.Class_) rfl rfl rfl rfl rfl rfl ty3 rfl h73 (fun _ => rfl) kp <| nQ <| c_seq <| sR <| ow_batch [.fa 68 1 1 fa68_1] rfl <| o1 rfl (r1 1 6 rfl ty66 rfl) <| ow_batch [.lenS 66 56 sl66, .p] rfl <| nQ <| c_block <| CW.at (loopI3 (fun (l99 : List (List Int)) (F100 : List Nat) (i101 : Int) => St w M0 [Res.box b49 68 [.slice a41 y36.Totals_.length c43, .slice a45 y36.Cells_.length c47], Res.own (eList eI 3) F44 (y36.Totals_.set p2.Class_.toNat (IntKind.i64.wrap (e70 + p3))) [.slice a41 y36.Totals_.length c43], Res.own (eList (eList eI 3) 56) F100 l99 [.slice a45 y36.Cells_.length c47], Res.box b32 38 [.slice a14 p0.Attrs_.length c15, .slice a16 p0.Classes_.length c17], Res.box b34 81 [.slice a30 p2.Bins_.length c31, .int .i64 p2.Class_], Res.box b35 68 [.slice none 0 0, .slice none 0 0]]) (fun l99 F100 i101 => [(3, .int .i64 p3), (4, .pointer (some ⟨b32, 0, none⟩)), (6, .pointer (some ⟨b34, 0, none⟩)), (8, .pointer (some ⟨b35, 0, none⟩)), (10, .pointer (some ⟨b49, 0, none⟩)), (54, .slice a45 y36.Cells_.length c47), (55, .int .i64 (y36.Cells_.length : Int)), (56, .int .i64 i101)]) (fun kk => fun l99 F100 i101 => impl_StatsAdd_L1 y36 p2 p0 p3 e70 kk l99 i101 = some r) (fun _ _ _ H => ?_) (fun k1 ihk1 l99 F100 i101 H => ?_) Fuel (y36.Cells_) (F48) (0) (H)) (fun _ h => St.sel [6, 4, 5, 0, 2, 3] rfl rfl h) ⟨rfl, rfl, rfl, rfl, rfl, rfl, rfl, rfl, trivial⟩
      ·unfold impl_StatsAdd_L1 at H
       exact absurd H (by simp)
      ·unfold impl_StatsAdd_L1 at H
       refine sR <| oP rfl <| nQ <| c_seq <| cI H rfl (fun H => ?_) (fun H => ?_)
       ·refine c_skip <| x_qs <| c_seq <| c_block <| sR <| oP rfl <| bE H fun e127 h128 H => ow_ex4 rfl (fun w1 hw1 => foc (r := 2) hw1 rfl h128) fun b130 G131 F132 c133 => ow_fact rfl (fun w1 hw1 => hw1.1) fun q129 => ?_
        obtain ⟨ha134, hn135⟩ := q129
        refine ow_st (C' := St w M0 [_, _, _, _, _, _, _, _]) rfl (fun w1 hw1 => hw1.2) <| ow_ex2 rfl (fun w1 hw1 => opn_sl (i := 7) hw1 rfl) fun a136 c137 => ow_fact rfl (fun w1 hw1 => hw1.1) fun q138 => ?_
        subst q138
        refine ow_st (C' := St w M0 [_, _, _, _, _, _, _, _]) rfl (fun w1 hw1 => hw1.2) <| ow_ixH rfl rfl rfl rfl rfl sl66 ty56 rfl (holeIn (p := 6) rfl) hn135 ha134 (idx_some h128).1 <| o1 rfl (ry_hole1 6 0 rfl rfl rfl ty56 (by first | rfl | simp only [add_lit, add_add, add_zero]) rfl) <| oPP rfl <| nR <| ow_batch [.fa 81 0 0 fa81_0] rfl <| o1 rfl (r1 0 4 rfl ty56 rfl) <| oP rfl <| bE H fun e139 h140 H => ow_ixE (e := eI) (xs := p2.Bins_) (j := i101) rfl rfl rfl rfl rfl sl56 ty3 rfl (fun w1 hw1 => rds_bor g28 w1 hw1) h140 (by rw [Nat.mul_one]) <| o1 rfl (ry_load1 rfl rfl ty3 (at_elV (fun w1 hw1 => rds_bor g28 w1 hw1) h140)) <| oP rfl <| nQ <| cI H rfl (fun H => ?_) (fun H => ?_)
        ·exact c_regT 18 mixed (by kernel_rfl) <| ow_batch [.p, .fa 81 0 0 fa81_0] rfl <| o1 rfl (r1 0 4 rfl ty56 rfl) <| oP rfl <| bE H fun e141 h142 H => ow_ixE (e := eI) (xs := p2.Bins_) (j := i101) rfl rfl rfl rfl rfl sl56 ty3 rfl (fun w1 hw1 => rds_bor g28 w1 hw1) h142 (by rw [Nat.mul_one]) <| o1 rfl (ry_load1 rfl rfl ty3 (at_elV (fun w1 hw1 => rds_bor g28 w1 hw1) h142)) <| ow_batch [.fa 38 1 1 fa38_1] rfl <| o1 rfl (r1 1 3 rfl ty23 rfl) <| ow_batch [.lenS 23 9 sl23, .p, .fa 81 1 1 fa81_1] rfl <| o1 rfl (r1 1 4 rfl ty3 rfl) <| oP rfl <| bE H fun e143 h144 H => ow_ixE (e := eI) (xs := e127) (j := IntKind.i64.wrap ((IntKind.i64.wrap (e141 * (p0.Classes_.length : Int))) + p2.Class_)) rfl rfl rfl rfl rfl sl56 ty3 rfl (fun w1 hw1 => rds_own (e := eList eI 3) (r := 7) rfl w1 hw1) h144 (by rw [Nat.mul_one]) <| o1 rfl (ry_load1 rfl rfl ty3 (at_elV (fun w1 hw1 => rds_own (e := eList eI 3) (r := 7) rfl w1 hw1) h144)) <| oPP rfl <| bE H fun e145 h146 H => ow_ixE (e := eI) (xs := e127) (j := IntKind.i64.wrap ((IntKind.i64.wrap (e141 * (p0.Classes_.length : Int))) + p2.Class_)) rfl rfl rfl rfl rfl sl56 ty3 rfl (fun w1 hw1 => rds_own (e := eList eI 3) (r := 7) rfl w1 hw1) h146 (by rw [Nat.mul_one]) <| ow_nilQ <| ow_storeV (i := 7) (j := IntKind.i64.wrap ((IntKind.i64.wrap (e141 * (p0.Classes_.length : Int))) + p2.Class_)) rfl rfl rfl rfl rfl rfl ty3 rfl h146 (fun _ => rfl) kp <| ow_nil <| x_qb <| x_qs <| c_reg <| oPP rfl <| ow_nil <| xw_ex (fun w1 hw1 => unf (p := 6) (q := 7) hw1 rfl rfl rfl hn135 ha134) fun F147 => xw_st (C' := St w M0 [_, _, _, _, _, _, _, _, _]) (fun _ h => h) <| x_ql (RW.at (ihk1 ((l99.set i101.toNat (e127.set (IntKind.i64.wrap ((IntKind.i64.wrap (e141 * (p0.Classes_.length : Int))) + p2.Class_)).toNat (IntKind.i64.wrap (e143 + p3))))) (F147) (IntKind.i64.wrap (i101 + 1)) (H)) (fun _ h => St.sel [0, 1, 8, 3, 4, 5] rfl rfl h) ⟨rfl, rfl, rfl, rfl, rfl, rfl, rfl, rfl, trivial⟩)
        ·exact c_skip <| x_qb <| x_qs <| c_reg <| oPP rfl <| ow_nil <| xw_ex (fun w1 hw1 => unf0 (p := 6) (q := 7) hw1 rfl rfl rfl hn135 ha134 h128) fun F148 => xw_st (C' := St w M0 [_, _, _, _, _, _, _, _, _]) (fun _ h => h) <| x_ql (RW.at (ihk1 (l99) (F148) (IntKind.i64.wrap (i101 + 1)) (H)) (fun _ h => St.sel [0, 1, 8, 3, 4, 5] rfl rfl h) ⟨rfl, rfl, rfl, rfl, rfl, rfl, rfl, rfl, trivial⟩)
       ·exact c_exit <| x_qs_exit <| x_ql_exit <| x_qb_here <| x_qs <| sR <| o1 rfl (rx 0 0 _ rfl ty68 rfl) <| sC 0 [.slice a41 y36.Totals_.length c43, .slice a45 y36.Cells_.length c47] [_, _] 5 rfl ty68 rfl <| oP rfl <| nT <| x_retR (rs := [.cell 8 68, .tmp 9]) (vs := [.agg #[.slice a41 y36.Totals_.length c43, .slice a45 y36.Cells_.length c47], .bool true]) rfl ⟨⟨_, [.slice a41 y36.Totals_.length c43, .slice a45 y36.Cells_.length c47], _, _, _, rfl, ty68, (at_box (T := 68) 0 (boxIn (i := 5) rfl) rfl), rfl, rfl⟩, rfl, trivial⟩ (fun w' hw' => by
         obtain rfl := of_some H
         exact ⟨_, rfl, a41, y36.Totals_.length, c43, F44, a45, y36.Cells_.length, c47, F100, rfl, hw'.sel [1, 2] rfl rfl⟩)
    ·clear H
     have H := hu69
     clear hu69
     generalize u59 = t68 at H key ⊢
     cases t68
     ·have H := of_if_f rfl H
      refine ow_batch [.fa 68 0 0 fa68_0] rfl <| o1 rfl (r1 0 1 rfl ty56 rfl) <| bE H fun y66 h67 H => oq rfl (qc rfl fn93 (fun w1 hw1 => impl_total_ok w1  h67 (rds_bor g20 w1 hw1))) tt2 <| ow_batch [.p, .p, .p] rfl <| oP rfl <| ?_
      obtain rfl := of_some H
      exact OW.sub key (sb rfl)
     ·have H := of_if_t rfl H
      refine ow_batch [.p, .p, .p, .p, .p, .p, .p] rfl ?_
      obtain rfl := of_some H
      exact OW.sub key (sb rfl)
   ·clear H
    have H := hu63
    clear hu63
    generalize (u52 || (p2.Class_ == (-1))) = t62 at H key ⊢
    cases t62
    ·have H := of_if_f rfl H
     refine oP rfl <| bE H fun y60 h61 H => oq rfl (qc rfl fn60 (fun w1 hw1 => impl_within_ok w1  h61)) tt2 <| oP rfl <| oP rfl <| ?_
     obtain rfl := of_some H
     exact OW.sub key (sb rfl)
    ·have H := of_if_t rfl H
     refine ow_batch [.p, .p, .p, .p] rfl ?_
     obtain rfl := of_some H
     exact OW.sub key (sb rfl)
  ·generalize u52 = t58 at key ⊢
   cases t58
   ·exact ow_batch [.fa 81 1 1 fa81_1] rfl <| o1 rfl (r1 1 2 rfl ty3 rfl) <| oP rfl <| oP rfl <| OW.sub key (sb rfl)
   ·exact ow_batch [.p, .p, .p, .p] rfl <| OW.sub key (sb rfl)
 ·clear H
  have H := hu56
  clear hu56
  generalize (!y50) = t55 at H key ⊢
  cases t55
  ·have H := of_if_f rfl H
   refine o1 rfl (rx 0 0 _ rfl ty38 rfl) <| o1 rfl (rx 0 2 _ rfl ty81 rfl) <| bE H fun y53 h54 H => oq rfl (qc rfl fn65 (fun w1 hw1 => impl_ExOk_ok w1 h54 (rdm_Timpl_Schema (rds_bor g12 w1 hw1) (rds_bor g13 w1 hw1)) (rdm_Timpl_Ex (rds_bor g28 w1 hw1) rfl))) tt2 <| oP rfl <| oP rfl <| ?_
   obtain rfl := of_some H
   exact OW.sub key (sb rfl)
  ·have H := of_if_t rfl H
   refine ow_batch [.p, .p, .p, .p, .p] rfl ?_
   obtain rfl := of_some H
   exact OW.sub key (sb rfl)
theorem impl_history_ok (w : World) {M0 : List Nat} {p0 : Timpl_Schema} {p1 : Timpl_Rule} {p2 : Timpl_Tree} {p3 : List Timpl_Entry} {p4 : Int} {cs0 : List Value} {cs2 : List Value} {a_3 : Option Addr} {n_3 c_3 : Nat} {r : Timpl_Stats × Int × (List Timpl_checkpoint)} (H : impl_history p0 p1 p2 p3 p4 = some r) (HS : St w M0 [] w) (g0 : (eTimpl_Schema).rd w M0 p0 cs0) (g2 : (eTimpl_Tree).rd w M0 p2 cs2) (g3 : (eList (eTimpl_Entry) 83).rd w M0 p3 [.slice a_3 n_3 c_3]) :
    Calls Tryz.prog 35 #[.agg cs0.toArray, .agg #[.int .i64 p1.Sure_, .int .i64 p1.Tie_, .int .i64 p1.Grace_, .int .i64 p1.Depth_, .int .i64 p1.Nodes_, .int .i64 p1.Units_, .bool p1.Two_], .agg cs2.toArray, .slice a_3 n_3 c_3, .int .i64 p4] w (fun en w' => ∃ v, en = .returned v ∧ ∃ (a0 : Option Addr), ∃ (n0 : Nat), ∃ (c0 : Nat), ∃ (F0 : List Nat), ∃ (a1 : Option Addr), ∃ (n1 : Nat), ∃ (c1 : Nat), ∃ (F1 : List Nat), ∃ (a2 : Option Addr), ∃ (n2 : Nat), ∃ (c2 : Nat), ∃ (F2 : List Nat), v = .tuple #[.agg #[.slice a0 n0 c0, .slice a1 n1 c1], .int .i64 r.2.1, .slice a2 n2 c2] ∧ St w M0 [Res.own (eList eI 3) F0 r.1.Totals_ [.slice a0 n0 c0], Res.own (eList (eList eI 3) 56) F1 r.1.Cells_ [.slice a1 n1 c1], Res.own (eList (eTimpl_checkpoint) 120) F2 r.2.2 [.slice a2 n2 c2]] w') := by
 obtain ⟨c10, c11, rfl, g12, g13⟩ := rdo_Timpl_Schema g0
 obtain ⟨a14, c15, rfl⟩ := rd_sl1 g12
 obtain ⟨a16, c17, rfl⟩ := rd_sl1 g13
 obtain ⟨c18, c19, rfl, g20, g21⟩ := rdo_Timpl_Tree g2
 obtain ⟨a22, c23, rfl⟩ := rd_sl1 g20
 obtain rfl := g21
 obtain rfl := rd_n g3
 unfold impl_history at H
 refine f_enter Tryz.func35 rfl Tryz.ntmps35 rfl (HS) <| sR <| ob _ rfl fun b24 => ob _ rfl fun b25 => ob _ rfl fun b26 => ow_alloc rfl rfl rfl rfl ty68 (fun _ => kp) fun b27 => oPP rfl <| nR <| o1 rfl (rx 0 0 _ rfl ty38 rfl) <| bE H fun y28 h29 H => ow_callS rfl fn66 rfl rfl rfl rfl (fun w1 hw1 => impl_StatsNew_ok w1 h29 (hw1.carve [] rfl rfl) (rdm_Timpl_Schema (rds_bor g12 w1 hw1) (rds_bor g13 w1 hw1))) fun v30 w1 w2 hw1 hR32 => ?_
 obtain ⟨a33, n34, c35, F36, a37, n38, c39, F40, rfl, hS31⟩ := hR32
 obtain rfl := own_nS (i := 0) hS31 rfl
 obtain rfl := own_nS (i := 1) hS31 rfl
 refine ⟨St w M0 [_, _, _, _, _, _], hw1.comp [] rfl rfl hS31, fun _ _ => trivial, ?_⟩
 refine ow_alloc rfl rfl rfl rfl ty68 (fun _ => kp) fun b41 => sC 0 [.slice a33 y28.Totals_.length c35, .slice a37 y28.Cells_.length c39] [_, _] 6 rfl ty68 rfl <| nR <| oP rfl <| nR <| ow_blit0 (e := eTimpl_checkpoint) rfl rfl rfl rfl sl85 ty120 (fun _ => kp) fun b42 => oP rfl <| nQ <| c_seq <| sR <| o1 rfl (rx 0 0 _ rfl ty38 rfl) <| o1 rfl (rx 0 2 _ rfl ty44 rfl) <| oPP rfl <| bE H fun y43 h44 H => ow_callS rfl fn67 rfl rfl rfl rfl (fun w1 hw1 => impl_ownEntries_ok w1 h44 (hw1.carve [] rfl rfl) (rdm_Timpl_Schema (rds_bor g12 w1 hw1) (rds_bor g13 w1 hw1)) (rdm_Timpl_Tree (rds_bor g20 w1 hw1) rfl) (rds_bor g3 w1 hw1)) fun v45 w1 w2 hw1 hR47 => ?_
 obtain ⟨a48, n49, c50, F51, rfl, hS46⟩ := hR47
 obtain rfl := own_nS (i := 0) hS46 rfl
 refine ⟨St w M0 [_, _, _, _, _, _, _, _, _], hw1.comp [] rfl rfl hS46, fun _ _ => trivial, ?_⟩
 refine ow_batch [.lenS 56 3 sl56, .p] rfl <| nQ <| c_block <| CW.at (loopI14 (fun (l180 : List Int) (a181 : Option Addr) (c182 : Nat) (F183 : List Nat) (l184 : List (List Int)) (a185 : Option Addr) (c186 : Nat) (F187 : List Nat) (i188 : Int) (l189 : List Timpl_checkpoint) (a190 : Option Addr) (c191 : Nat) (F192 : List Nat) (i193 : Int) => St w M0 [Res.box b27 68 [.slice none 0 0, .slice none 0 0], Res.box b41 68 [.slice a181 l180.length c182, .slice a185 l184.length c186], Res.own (eList eI 3) F183 l180 [.slice a181 l180.length c182], Res.own (eList (eList eI 3) 56) F187 l184 [.slice a185 l184.length c186], Res.own (eList (eTimpl_checkpoint) 120) F192 l189 [.slice a190 l189.length c191], Res.own (eList eI 3) F51 y43 [.slice a48 y43.length c50], Res.box b24 38 [.slice a14 p0.Attrs_.length c15, .slice a16 p0.Classes_.length c17], Res.box b25 40 [.int .i64 p1.Sure_, .int .i64 p1.Tie_, .int .i64 p1.Grace_, .int .i64 p1.Depth_, .int .i64 p1.Nodes_, .int .i64 p1.Units_, .bool p1.Two_]]) (fun l180 a181 c182 F183 l184 a185 c186 F187 i188 l189 a190 c191 F192 i193 => [(3, .slice a_3 p3.length c_3), (5, .pointer (some ⟨b24, 0, none⟩)), (6, .pointer (some ⟨b25, 0, none⟩)), (10, .pointer (some ⟨b27, 0, none⟩)), (13, .pointer (some ⟨b41, 0, none⟩)), (14, .int .i64 i188), (15, .slice a190 l189.length c191), (25, .slice a48 y43.length c50), (26, .int .i64 (y43.length : Int)), (27, .int .i64 i193)]) (fun kk => fun l180 a181 c182 F183 l184 a185 c186 F187 i188 l189 a190 c191 F192 i193 => impl_history_L1 y43 p3 p0 p1 kk l180 l184 i188 l189 i193 = some r) (fun _ _ _ _ _ _ _ _ _ _ _ _ _ _ H => ?_) (fun k1 ihk1 l180 a181 c182 F183 l184 a185 c186 F187 i188 l189 a190 c191 F192 i193 H => ?_) Fuel (y28.Totals_) (a33) (c35) (F36) (y28.Cells_) (a37) (c39) (F40) (0) (([] : List Timpl_checkpoint)) ((some ⟨b42, 0, none⟩)) (0) ([b42]) (0) (H)) (fun _ h => by have h2 : St w M0 [Res.box b27 68 [.slice none 0 0, .slice none 0 0], Res.box b41 68 [.slice a33 y28.Totals_.length c35, .slice a37 y28.Cells_.length c39], Res.own (eList eI 3) F36 y28.Totals_ [.slice a33 y28.Totals_.length c35], Res.own (eList (eList eI 3) 56) F40 y28.Cells_ [.slice a37 y28.Cells_.length c39], Res.own (eList (eTimpl_checkpoint) 120) [b42] ([] : List Timpl_checkpoint) [.slice (some ⟨b42, 0, none⟩) 0 0], Res.own (eList eI 3) F51 y43 [.slice a48 y43.length c50], Res.box b24 38 [.slice a14 p0.Attrs_.length c15, .slice a16 p0.Classes_.length c17], Res.box b25 40 [.int .i64 p1.Sure_, .int .i64 p1.Tie_, .int .i64 p1.Grace_, .int .i64 p1.Depth_, .int .i64 p1.Nodes_, .int .i64 p1.Units_, .bool p1.Two_]] _ := St.sel [3, 6, 4, 5, 7, 8, 0, 1] rfl rfl h; simpa only [List.length_set, List.length_cons, List.length_nil] using h2) (by simp only [Sub, List.length_set, List.length_cons, List.length_nil]; exact ⟨rfl, rfl, rfl, rfl, rfl, rfl, rfl, rfl, rfl, rfl,  trivial⟩)
 ·unfold impl_history_L1 at H
  exact absurd H (by simp)
 ·unfold impl_history_L1 at H
  refine sR <| oP rfl <| nQ <| c_seq <| cI H rfl (fun H => ?_) (fun H => ?_)
  ·refine c_skip <| x_qs <| c_seq <| c_block <| sR <| bE H fun e322 h323 H => ow_ixE (e := eI) (xs := y43) (j := i193) rfl rfl rfl rfl rfl sl56 ty3 rfl (fun w1 hw1 => rds_own (e := eList eI 3) (r := 5) rfl w1 hw1) h323 (by rw [Nat.mul_one]) <| o1 rfl (ry_load1 rfl rfl ty3 (at_elV (fun w1 hw1 => rds_own (e := eList eI 3) (r := 5) rfl w1 hw1) h323)) <| oP rfl <| nQ <| c_seq <| bE H fun e369 h370 H => bE H fun e385 h386 H => bE H fun y401 h402 H => c_regB0 [(0, true), (2, true), (3, true), (4, true), (5, true), (6, true), (7, true), (8, true), (9, true), (10, true), (11, true), (1, false), (12, false), (13, true), (14, true), (15, true), (16, false)] Br.done (St w M0 [Res.box b27 68 [.slice none 0 0, .slice none 0 0], Res.nil, Res.own (eList eI 3) F183 l180 [.slice a181 l180.length c182], Res.own (eList (eList eI 3) 56) F187 l184 [.slice a185 l184.length c186], Res.own (eList (eTimpl_checkpoint) 120) F192 l189 [.slice a190 l189.length c191], Res.own (eList eI 3) F51 y43 [.slice a48 y43.length c50], Res.box b24 38 [.slice a14 p0.Attrs_.length c15, .slice a16 p0.Classes_.length c17], Res.box b25 40 [.int .i64 p1.Sure_, .int .i64 p1.Tie_, .int .i64 p1.Grace_, .int .i64 p1.Depth_, .int .i64 p1.Nodes_, .int .i64 p1.Units_, .bool p1.Two_]]) mixed (by kernel_rfl) (panicOk_qs (panicOk_qb (panicOk_qs (panicOk_ql (panicOk_qb (panicOk_qs panicOk_body)))))) (fun _ h => St.mask [true, false, true, true, true, true, true, true] rfl h) <| ow_rH rfl (dstOk_lt rfl) (rx 0 6 _ rfl ty38 rfl) <| oPP rfl <| ow_ixB rfl rfl rfl rfl rfl sl46 ty83 rfl g3 h370 fun q373 c374 hd371 hA372 => ?_
   obtain ⟨c375, c376, rfl, g377, g378⟩ := rdo_Timpl_Entry hd371
   obtain ⟨c379, c380, rfl, g381, g382⟩ := rdo_Timpl_Ex g377
   obtain ⟨a383, c384, rfl⟩ := rd_sl1 g381
   obtain rfl := g382
   obtain rfl := g378
   refine ow_batch [.fa 83 0 0 fa83_0] rfl <| ow_rH rfl (dstOk_lt rfl) (ry_load (cs := [.slice a383 e369.Ex_.Bins_.length c384, .int .i64 e369.Ex_.Class_]) rfl rfl ty81 (at_bor (fun _ h => h.ext) (at_K hA372 0 2)) rfl) <| oPP rfl <| ow_ixB rfl rfl rfl rfl rfl sl46 ty83 rfl g3 h386 fun q389 c390 hd387 hA388 => ?_
   obtain ⟨c391, c392, rfl, g393, g394⟩ := rdo_Timpl_Entry hd387
   obtain ⟨c395, c396, rfl, g397, g398⟩ := rdo_Timpl_Ex g393
   obtain ⟨a399, c400, rfl⟩ := rd_sl1 g397
   obtain rfl := g398
   obtain rfl := g394
   refine ow_batch [.fa 83 1 2 fa83_1] rfl <| ow_rH rfl (dstOk_lt rfl) (ry_load1 rfl rfl ty3 (at_bor (fun _ h => h.ext) (at_K hA388 2 1))) <| ow_rL rfl rfl (dstOk_lt rfl) (rx 0 1 _ rfl ty68 rfl) <| ow_callS rfl fn68 rfl rfl rfl rfl (fun w1 hw1 => impl_StatsAdd_ok w1 h402 (hw1.carve [] rfl rfl) (rdm_Timpl_Schema (x := p0) (c0 := [.slice a14 p0.Attrs_.length c15]) (c1 := [.slice a16 p0.Classes_.length c17]) (rds_bor g12 w1 hw1) (rds_bor g13 w1 hw1)) (rdm_Timpl_Stats (x := (Timpl_Stats.mk l180 l184)) (c0 := [.slice a181 l180.length c182]) (c1 := [.slice a185 l184.length c186]) (rds_own (e := eList eI 3) (r := 2) rfl w1 hw1) (rds_own (e := eList (eList eI 3) 56) (r := 3) rfl w1 hw1)) (rdm_Timpl_Ex (x := e369.Ex_) (c0 := [.slice a383 e369.Ex_.Bins_.length c384]) (c1 := [.int .i64 e369.Ex_.Class_]) (rds_bor g381 w1 hw1) rfl)) fun v403 w1 w2 hw1 hR405 => ?_
   obtain ⟨a406, n407, c408, F409, a410, n411, c412, F413, rfl, hS404⟩ := hR405
   obtain rfl := own_nS (i := 0) hS404 rfl
   obtain rfl := own_nS (i := 1) hS404 rfl
   refine ⟨St w M0 [_, _, _, _, _, _, _, _, _, _], hw1.comp [] rfl rfl hS404, (fun _ h => St.mask [true, false, true, true, true, true, true, true] rfl h), ?_⟩
   refine ow_batch [.p, .p, .p] rfl <| ow_storeC (off := 0) [.slice a406 y401.1.Totals_.length c408, .slice a410 y401.1.Cells_.length c412] [_, _] (i := 1) rfl rfl rfl rfl rfl rfl ty68 rfl rfl (by intro u hu; simp only [List.mem_cons, List.not_mem_nil, or_false] at hu; rcases hu with rfl | rfl <;> rfl) rfl rfl rfl (fun _ h => St.mask [true, false, true, true, true, true, true, true] rfl h) <| ow_nilH <| x_done0 <| x_qs <| sR <| ow_batch [.p, .p, .p] rfl <| bE H fun e414 h415 H => ow_ixB rfl rfl rfl rfl rfl sl46 ty83 rfl g3 h415 fun q418 c419 hd416 hA417 => ?_
   obtain ⟨c420, c421, rfl, g422, g423⟩ := rdo_Timpl_Entry hd416
   obtain ⟨c424, c425, rfl, g426, g427⟩ := rdo_Timpl_Ex g422
   obtain ⟨a428, c429, rfl⟩ := rd_sl1 g426
   obtain rfl := g427
   obtain rfl := g423
   refine ow_batch [.fa 83 1 2 fa83_1] rfl <| o1 rfl (ry_load1 rfl rfl ty3 (at_bor bor (at_K hA417 2 1))) <| oPP rfl <| nR <| ow_batch [.p, .fa 40 2 2 fa40_2] rfl <| o1 rfl (r1 2 7 rfl ty3 rfl) <| oP rfl <| nQ <| cI H rfl (fun H => ?_) (fun H => ?_)
   ·refine sR <| oP rfl <| nQ <| c_reg <| oPP rfl <| o1 rfl (rx 0 1 _ rfl ty68 rfl) <| o1 rfl (ry_build2 [(0, [.int .i64 e322]), (1, [.slice a406 y401.1.Totals_.length c408, .slice a410 y401.1.Cells_.length c412])] [.int .i64 e322, .slice a406 y401.1.Totals_.length c408, .slice a410 y401.1.Cells_.length c412] rfl rfl ty120 fs120 rfl ⟨rfl, rfl, Nat.le_of_ble_eq_true rfl, rfl, rfl, Nat.le_of_ble_eq_true rfl,  trivial⟩ rfl) <| ow_st rfl (fun _ h => St.push0 h (Res.own (eTimpl_checkpoint) [] (Timpl_checkpoint.mk e322) [.int .i64 e322, .slice a406 y401.1.Totals_.length c408, .slice a410 y401.1.Cells_.length c412]) rfl ⟨rfl, [.slice a406 y401.1.Totals_.length c408, .slice a410 y401.1.Cells_.length c412], rfl, rfl, (by intro u hu; simp only [List.mem_cons, List.not_mem_nil, or_false] at hu; rcases hu with rfl | rfl <;> rfl)⟩) <| ow_bslice [(0, [.int .i64 e322, .slice a406 y401.1.Totals_.length c408, .slice a410 y401.1.Cells_.length c412])] rfl rfl rfl rfl rfl sl85 ty120 rfl rfl ⟨rfl, rfl, Nat.le_of_ble_eq_true rfl,  trivial⟩ [.int .i64 e322, .slice a406 y401.1.Totals_.length c408, .slice a410 y401.1.Cells_.length c412] rfl (fun _ => kp) fun b430 => ow_st rfl (fun _ h => lit1 (p := 11) (q := 10) h rfl rfl rfl) <| bE H fun l431 h432 H => ow_appM (r := 4) (j := 12) rfl rfl rfl rfl rfl rfl sl85 ty120 rfl rfl rfl rfl rfl rfl rfl h432 (fun _ _ _ => kp) fun a433 c434 F435 => oP rfl <| ow_nil <| x_qb <| x_qs <| CW.weak (C' := St w M0 [_, _, _, _, _, _, _, _, _, _]) ?_ (fun _ h => St.sel [0, 1, 2, 3, 5, 6, 7, 8, 9, 13] rfl rfl h)
    exact c_reg <| oPP rfl <| ow_nil <| x_ql (RW.at (ihk1 (y401.1.Totals_) (a406) (c408) (F409) (y401.1.Cells_) (a410) (c412) (F413) (0) (l431) (a433) (c434) (F435) (IntKind.i64.wrap (i193 + 1)) (H)) (fun _ h => St.sel [0, 1, 7, 8, 9, 4, 5, 6] rfl rfl h) ⟨rfl, rfl, rfl, rfl, rfl, rfl, rfl, rfl, rfl, rfl, trivial⟩)
   ·exact c_skip <| x_qb <| x_qs <| c_reg <| oPP rfl <| ow_nil <| x_ql (RW.at (ihk1 (y401.1.Totals_) (a406) (c408) (F409) (y401.1.Cells_) (a410) (c412) (F413) (IntKind.i64.wrap (i188 + e414.Weight_)) (l189) (a190) (c191) (F192) (IntKind.i64.wrap (i193 + 1)) (H)) (fun _ h => St.sel [0, 1, 8, 9, 4, 5, 6, 7] rfl rfl h) ⟨rfl, rfl, rfl, rfl, rfl, rfl, rfl, rfl, rfl, rfl, trivial⟩)
  ·exact c_exit <| x_qs_exit <| x_ql_exit <| x_qb_here <| x_qs <| sR <| o1 rfl (rx 0 1 _ rfl ty68 rfl) <| oPP rfl <| sC 0 [.slice a181 l180.length c182, .slice a185 l184.length c186] [_, _] 0 rfl ty68 rfl <| oPP rfl <| nT <| x_retR (rs := [.cell 10 68, .tmp 11, .tmp 12]) (vs := [.agg #[.slice a181 l180.length c182, .slice a185 l184.length c186], .int .i64 i188, .slice a190 l189.length c191]) rfl ⟨⟨_, [.slice a181 l180.length c182, .slice a185 l184.length c186], _, _, _, rfl, ty68, (at_box (T := 68) 0 (boxIn (i := 0) rfl) rfl), rfl, rfl⟩, rfl, rfl, trivial⟩ (fun w' hw' => by
    obtain rfl := of_some H
    exact ⟨_, rfl, a181, l180.length, c182, F183, a185, l184.length, c186, F187, a190, l189.length, c191, F192, rfl, hw'.sel [2, 3, 4] rfl rfl⟩)
theorem lib_slices_Equal___int_int__ok (w : World) {p0 : List Int} {p1 : List Int} {a_0 : Option Addr} {n_0 c_0 : Nat} {a_1 : Option Addr} {n_1 c_1 : Nat} {r : Bool} (H : lib_slices_Equal___int_int_ p0 p1 = some r)  (g0 : (eList eI 3).rd w [] p0 [.slice a_0 n_0 c_0]) (g1 : (eList eI 3).rd w [] p1 [.slice a_1 n_1 c_1]) :
    Calls Tryz.prog 36 #[.slice a_0 n_0 c_0, .slice a_1 n_1 c_1] w (fun en w' => en = .returned (.bool r) ∧ Ext [] w w') := by
 obtain rfl := rd_n g0
 obtain rfl := rd_n g1
 unfold lib_slices_Equal___int_int_ at H
 refine f_enter Tryz.func36 rfl Tryz.ntmps36 rfl (St.init w []) <| sR <| oP rfl <| nQ <| c_seq <| sR <| ow_batch [.p, .lenS 56 3 sl56, .p, .lenS 56 3 sl56, .p] rfl <| nQ <| cI H rfl (fun H => ?_) (fun H => ?_)
 ·exact sR <| oP rfl <| nT <| x_qs_ret <| xr 4 rfl (by cases H; exact q1)
 ·refine c_skip <| x_qs <| c_seq <| sR <| ow_batch [.p, .lenS 56 3 sl56, .p] rfl <| nQ <| c_block <| CW.at (loopI1 (fun (i15 : Int) => St w [] []) (fun i15 => [(0, .slice a_0 p0.length c_0), (1, .slice a_1 p1.length c_1), (12, .int .i64 (p0.length : Int)), (13, .int .i64 i15)]) (fun kk => fun i15 => lib_slices_Equal___int_int__L1 p0 p1 kk i15 = some r) (fun _ H => ?_) (fun k1 ihk1 i15 H => ?_) Fuel (0) (H)) (fun _ h => St.sel [] rfl rfl h) ⟨rfl, rfl, rfl, rfl, trivial⟩
  ·unfold lib_slices_Equal___int_int__L1 at H
   exact absurd H (by simp)
  ·unfold lib_slices_Equal___int_int__L1 at H
   refine sR <| oP rfl <| nQ <| c_seq <| cI H rfl (fun H => ?_) (fun H => ?_)
   ·refine c_skip <| x_qs <| c_seq <| c_block <| sR <| oPP rfl <| nQ <| c_seq <| c_regQ mixed (by kernel_rfl) <| oPP rfl <| bE H fun e21 h22 H => ow_ixE (e := eI) (xs := p0) (j := i15) rfl rfl rfl rfl rfl sl56 ty3 rfl (fun w1 hw1 => rds_bor g0 w1 hw1) h22 (by rw [Nat.mul_one]) <| o1 rfl (ry_load1 rfl rfl ty3 (at_elV (fun w1 hw1 => rds_bor g0 w1 hw1) h22)) <| oPP rfl <| bE H fun e23 h24 H => ow_ixE (e := eI) (xs := p1) (j := i15) rfl rfl rfl rfl rfl sl56 ty3 rfl (fun w1 hw1 => rds_bor g1 w1 hw1) h24 (by rw [Nat.mul_one]) <| o1 rfl (ry_load1 rfl rfl ty3 (at_elV (fun w1 hw1 => rds_bor g1 w1 hw1) h24)) <| oP rfl <| ow_nilQ <| x_qs <| cI H rfl (fun H => ?_) (fun H => ?_)
    ·exact sR <| oP rfl <| nT <| x_qb_ret <| x_qs_ret <| x_ql_ret <| x_qb_ret <| x_qs_ret <| xr 4 rfl (by cases H; exact q1)
    ·exact c_skip <| x_qb <| x_qs <| c_reg <| oPP rfl <| ow_nil <| x_ql (RW.at (ihk1 (IntKind.i64.wrap (i15 + 1)) (H)) (fun _ h => St.sel [] rfl rfl h) ⟨rfl, rfl, rfl, rfl, trivial⟩)
   ·exact c_exit <| x_qs_exit <| x_ql_exit <| x_qb_here <| x_qs <| sR <| oP rfl <| nT <| xr 4 rfl (by cases H; exact q1)
theorem impl_active_ok (w : World) {p0 : Timpl_Node} {cs0 : List Value} {r : Bool} (H : impl_active p0 = some r)  (g0 : (eTimpl_Node).rd w [] p0 cs0) :
    Calls Tryz.prog 37 #[.agg cs0.toArray] w (fun en w' => en = .returned (.bool r) ∧ Ext [] w w') := by
 obtain ⟨c10, c11, c12, c13, c14, c15, c16, c17, c18, c19, rfl, g20, g21, g22, g23, g24, g25, g26, g27, g28, g29⟩ := rdo_Timpl_Node g0
 obtain rfl := g20
 obtain rfl := g21
 obtain ⟨a30, c31, rfl⟩ := rd_sl1 g22
 obtain rfl := g23
 obtain ⟨c32, c33, rfl, g34, g35⟩ := rdo_Timpl_Stats g24
 obtain ⟨a36, c37, rfl⟩ := rd_sl1 g34
 obtain ⟨a38, c39, rfl⟩ := rd_sl1 g35
 obtain rfl := g25
 obtain ⟨a40, c41, rfl⟩ := rd_sl1 g26
 obtain rfl := g27
 obtain rfl := g28
 obtain rfl := g29
 unfold impl_active at H
 refine f_enter Tryz.func37 rfl Tryz.ntmps37 rfl (St.init w []) <| sR <| ob _ rfl fun b42 => oP rfl <| nR <| ow_batch [.fa 70 0 0 fa70_0] rfl <| o1 rfl (r1 0 0 rfl ty4 rfl) <| oP rfl <| ow_cut [(11, .bool (p0.Leaf_ && (decide ((p0.Stats_.Cells_.length : Int) > 0)))), (2, .bool false)] 6 ?_ (fun key => OW.sub (R := [(1, .pointer (some ⟨b42, 0, none⟩)), (2, .bool false), (5, .bool p0.Leaf_)]) ?_ (sb rfl))
 ·exact oP rfl <| nT <| xr 2 rfl (by cases H; exact q1)
 ·generalize p0.Leaf_ = t44 at key ⊢
  cases t44
  ·exact ow_batch [.p, .p, .p, .p, .p, .p] rfl <| OW.sub key (sb rfl)
  ·exact ow_batch [.fa 70 4 5 fa70_4, .fa 68 1 1 fa68_1] rfl <| o1 rfl (r1 6 0 rfl ty66 rfl) <| ow_batch [.lenS 66 56 sl66, .p] rfl <| oP rfl <| OW.sub key (sb rfl)
theorem impl_sameLists_1_ok (w : World) {p0 : List Int} {p1 : List Int} {a_0 : Option Addr} {n_0 c_0 : Nat} {a_1 : Option Addr} {n_1 c_1 : Nat} {r : Bool} (H : impl_sameLists_1 p0 p1 = some r)  (g0 : (eList eI 3).rd w [] p0 [.slice a_0 n_0 c_0]) (g1 : (eList eI 3).rd w [] p1 [.slice a_1 n_1 c_1]) :
    Calls Tryz.prog 105 #[.slice a_0 n_0 c_0, .slice a_1 n_1 c_1] w (fun en w' => en = .returned (.bool r) ∧ Ext [] w w') := by
 obtain rfl := rd_n g0
 obtain rfl := rd_n g1
 unfold impl_sameLists_1 at H
 exact f_enter Tryz.func105 rfl Tryz.ntmps105 rfl (St.init w []) <| sR <| oP rfl <| nR <| oPP rfl <| bE H fun y10 h11 H => oq rfl (qc rfl fn36 (fun w1 hw1 => lib_slices_Equal___int_int__ok w1  h11 (rds_bor g0 w1 hw1) (rds_bor g1 w1 hw1))) tt2 <| oP rfl <| nT <| xr 4 rfl (by cases H; exact q1)
theorem lib_slices_EqualFunc_____int_____int___int___int___impl_sameLists_1_ok (w : World) {p0 : List (List Int)} {p1 : List (List Int)} {a_0 : Option Addr} {n_0 c_0 : Nat} {a_1 : Option Addr} {n_1 c_1 : Nat} {r : Bool} (H : lib_slices_EqualFunc_____int_____int___int___int___impl_sameLists_1 p0 p1 = some r)  (g0 : (eList (eList eI 3) 56).rd w [] p0 [.slice a_0 n_0 c_0]) (g1 : (eList (eList eI 3) 56).rd w [] p1 [.slice a_1 n_1 c_1]) :
    Calls Tryz.prog 104 #[.slice a_0 n_0 c_0, .slice a_1 n_1 c_1, .func (.func 105) #[] #[]] w (fun en w' => en = .returned (.bool r) ∧ Ext [] w w') := by
 obtain rfl := rd_n g0
 obtain rfl := rd_n g1
 unfold lib_slices_EqualFunc_____int_____int___int___int___impl_sameLists_1 at H
 refine f_enter Tryz.func104 rfl Tryz.ntmps104 rfl (St.init w []) <| sR <| oP rfl <| nQ <| c_seq <| sR <| ow_batch [.p, .lenS 66 56 sl66, .p, .lenS 66 56 sl66, .p] rfl <| nQ <| cI H rfl (fun H => ?_) (fun H => ?_)
 ·exact sR <| oP rfl <| nT <| x_qs_ret <| xr 6 rfl (by cases H; exact q1)
 ·refine c_skip <| x_qs <| c_seq <| sR <| ow_batch [.p, .lenS 66 56 sl66, .p] rfl <| nQ <| c_block <| CW.at (loopI1 (fun (i29 : Int) => St w [] []) (fun i29 => [(1, .slice a_1 p1.length c_1), (2, .func (.func 105) #[] #[]), (15, .slice a_0 p0.length c_0), (16, .int .i64 (p0.length : Int)), (17, .int .i64 i29)]) (fun kk => fun i29 => lib_slices_EqualFunc_____int_____int___int___int___impl_sameLists_1_L1 p0 p1 kk i29 = some r) (fun _ H => ?_) (fun k1 ihk1 i29 H => ?_) Fuel (0) (H)) (fun _ h => St.sel [] rfl rfl h) ⟨rfl, rfl, rfl, rfl, rfl, trivial⟩
  ·unfold lib_slices_EqualFunc_____int_____int___int___int___impl_sameLists_1_L1 at H
   exact absurd H (by simp)
  ·unfold lib_slices_EqualFunc_____int_____int___int___int___impl_sameLists_1_L1 at H
   refine sR <| oP rfl <| nQ <| c_seq <| cI H rfl (fun H => ?_) (fun H => ?_)
   ·refine c_skip <| x_qs <| c_seq <| c_block <| sR <| oP rfl <| bE H fun e49 h50 H => ow_ixB rfl rfl rfl rfl rfl sl66 ty56 rfl g0 h50 fun q53 c54 hd51 hA52 => ?_
    obtain ⟨a55, c56, rfl⟩ := rd_sl1 hd51
    refine o1 rfl (ry_load1 rfl rfl ty56 (at_bor bor hA52)) <| oPP rfl <| nR <| oPP rfl <| bE H fun e57 h58 H => ow_ixB rfl rfl rfl rfl rfl sl66 ty56 rfl g1 h58 fun q61 c62 hd59 hA60 => ?_
    obtain ⟨a63, c64, rfl⟩ := rd_sl1 hd59
    refine o1 rfl (ry_load1 rfl rfl ty56 (at_bor bor hA60)) <| oP rfl <| nR <| ow_batch [.p, .p, .p] rfl <| bE H fun y65 h66 H => ow_q rfl rfl (dstOk_lt rfl) (qy_callV (cap := []) rfl fn105 rfl rfl (fun w1 hw1 => impl_sameLists_1_ok w1  h66 (rds_bor hd51 w1 hw1) (rds_bor hd59 w1 hw1))) (fun _ _ => trivial) <| oP rfl <| nQ <| cI H rfl (fun H => ?_) (fun H => ?_)
    ·exact sR <| oP rfl <| nT <| x_qb_ret <| x_qs_ret <| x_ql_ret <| x_qb_ret <| x_qs_ret <| xr 6 rfl (by cases H; exact q1)
    ·exact c_skip <| x_qb <| x_qs <| c_reg <| oPP rfl <| ow_nil <| x_ql (RW.at (ihk1 (IntKind.i64.wrap (i29 + 1)) (H)) (fun _ h => St.sel [] rfl rfl h) ⟨rfl, rfl, rfl, rfl, rfl, trivial⟩)
   ·exact c_exit <| x_qs_exit <| x_ql_exit <| x_qb_here <| x_qs <| sR <| oP rfl <| nT <| xr 6 rfl (by cases H; exact q1)
theorem impl_sameLists_ok (w : World) {p0 : List (List Int)} {p1 : List (List Int)} {a_0 : Option Addr} {n_0 c_0 : Nat} {a_1 : Option Addr} {n_1 c_1 : Nat} {r : Bool} (H : impl_sameLists p0 p1 = some r)  (g0 : (eList (eList eI 3) 56).rd w [] p0 [.slice a_0 n_0 c_0]) (g1 : (eList (eList eI 3) 56).rd w [] p1 [.slice a_1 n_1 c_1]) :
    Calls Tryz.prog 69 #[.slice a_0 n_0 c_0, .slice a_1 n_1 c_1] w (fun en w' => en = .returned (.bool r) ∧ Ext [] w w') := by
 obtain rfl := rd_n g0
 obtain rfl := rd_n g1
 unfold impl_sameLists at H
 exact f_enter Tryz.func69 rfl Tryz.ntmps69 rfl (St.init w []) <| sR <| oP rfl <| nR <| oPP rfl <| bE H fun y10 h11 H => oq rfl (qc rfl fn104 (fun w1 hw1 => lib_slices_EqualFunc_____int_____int___int___int___impl_sameLists_1_ok w1  h11 (rds_bor g0 w1 hw1) (rds_bor g1 w1 hw1))) tt2 <| oP rfl <| nT <| xr 4 rfl (by cases H; exact q1)
theorem impl_StatsSame_ok (w : World) {p0 : Timpl_Stats} {p1 : Timpl_Stats} {cs0 : List Value} {cs1 : List Value} {r : Bool} (H : impl_StatsSame p0 p1 = some r)  (g0 : (eTimpl_Stats).rd w [] p0 cs0) (g1 : (eTimpl_Stats).rd w [] p1 cs1) :
    Calls Tryz.prog 38 #[.agg cs0.toArray, .agg cs1.toArray] w (fun en w' => en = .returned (.bool r) ∧ Ext [] w w') := by
 obtain ⟨c10, c11, rfl, g12, g13⟩ := rdo_Timpl_Stats g0
 obtain ⟨a14, c15, rfl⟩ := rd_sl1 g12
 obtain ⟨a16, c17, rfl⟩ := rd_sl1 g13
 obtain ⟨c18, c19, rfl, g20, g21⟩ := rdo_Timpl_Stats g1
 obtain ⟨a22, c23, rfl⟩ := rd_sl1 g20
 obtain ⟨a24, c25, rfl⟩ := rd_sl1 g21
 unfold impl_StatsSame at H
 refine f_enter Tryz.func38 rfl Tryz.ntmps38 rfl (St.init w []) <| sR <| ob _ rfl fun b26 => ob _ rfl fun b27 => oP rfl <| nR <| ow_batch [.fa 68 0 0 fa68_0] rfl <| o1 rfl (r1 0 0 rfl ty56 rfl) <| ow_batch [.fa 68 0 0 fa68_0] rfl <| o1 rfl (r1 0 1 rfl ty56 rfl) <| bE H fun y28 h29 H => oq rfl (qc rfl fn36 (fun w1 hw1 => lib_slices_Equal___int_int__ok w1  h29 (rds_bor g12 w1 hw1) (rds_bor g20 w1 hw1))) tt2 <| oP rfl <| bE H fun u30 hu34 H => ow_cut [(16, .bool u30), (4, .bool false)] 6 ?_ (fun key => OW.sub (R := [(2, .pointer (some ⟨b26, 0, none⟩)), (3, .pointer (some ⟨b27, 0, none⟩)), (4, .bool false), (10, .bool y28)]) ?_ (sb rfl))
 ·exact oP rfl <| nT <| xr 4 rfl (by cases H; exact q1)
 ·clear H
  have H := hu34
  clear hu34
  generalize y28 = t33 at H key ⊢
  cases t33
  ·have H := of_if_f rfl H
   refine ow_batch [.p, .p, .p, .p, .p, .p] rfl ?_
   obtain rfl := of_some H
   exact OW.sub key (sb rfl)
  ·have H := of_if_t rfl H
   refine ow_batch [.fa 68 1 1 fa68_1] rfl <| o1 rfl (r1 1 0 rfl ty66 rfl) <| ow_batch [.fa 68 1 1 fa68_1] rfl <| o1 rfl (r1 1 1 rfl ty66 rfl) <| bE H fun y31 h32 H => oq rfl (qc rfl fn69 (fun w1 hw1 => impl_sameLists_ok w1  h32 (rds_bor g13 w1 hw1) (rds_bor g21 w1 hw1))) tt2 <| oP rfl <| ?_
   obtain rfl := of_some H
   exact OW.sub key (sb rfl)
theorem impl_TreeTrue_ok (w : World) {p0 : Timpl_Schema} {p1 : Timpl_Rule} {p2 : Timpl_Tree} {p3 : List Timpl_Entry} {cs0 : List Value} {cs2 : List Value} {a_3 : Option Addr} {n_3 c_3 : Nat} {r : Bool} (H : impl_TreeTrue p0 p1 p2 p3 = some r)  (g0 : (eTimpl_Schema).rd w [] p0 cs0) (g2 : (eTimpl_Tree).rd w [] p2 cs2) (g3 : (eList (eTimpl_Entry) 83).rd w [] p3 [.slice a_3 n_3 c_3]) :
    Calls Tryz.prog 12 #[.agg cs0.toArray, .agg #[.int .i64 p1.Sure_, .int .i64 p1.Tie_, .int .i64 p1.Grace_, .int .i64 p1.Depth_, .int .i64 p1.Nodes_, .int .i64 p1.Units_, .bool p1.Two_], .agg cs2.toArray, .slice a_3 n_3 c_3] w (fun en w' => en = .returned (.bool r) ∧ Ext [] w w') := by
 obtain ⟨c10, c11, rfl, g12, g13⟩ := rdo_Timpl_Schema g0
 obtain ⟨a14, c15, rfl⟩ := rd_sl1 g12
 obtain ⟨a16, c17, rfl⟩ := rd_sl1 g13
 obtain ⟨c18, c19, rfl, g20, g21⟩ := rdo_Timpl_Tree g2
 obtain ⟨a22, c23, rfl⟩ := rd_sl1 g20
 obtain rfl := g21
 obtain rfl := rd_n g3
 unfold impl_TreeTrue at H
 refine f_enter Tryz.func12 rfl Tryz.ntmps12 rfl (St.init w []) <| sR <| ob _ rfl fun b24 => ob _ rfl fun b25 => ob _ rfl fun b26 => oP rfl <| nQ <| c_seq <| sR <| o1 rfl (rx 0 0 _ rfl ty38 rfl) <| o1 rfl (rx 0 2 _ rfl ty44 rfl) <| bE H fun y27 h28 H => oq rfl (qc rfl fn32 (fun w1 hw1 => impl_TreeOk_ok w1 h28 (rdm_Timpl_Schema (rds_bor g12 w1 hw1) (rds_bor g13 w1 hw1)) (rdm_Timpl_Tree (rds_bor g20 w1 hw1) rfl))) tt2 <| oPP rfl <| bE H fun u29 hu33 H => ow_cut [(22, .bool u29), (3, .slice a_3 p3.length c_3), (4, .pointer (some ⟨b24, 0, none⟩)), (5, .pointer (some ⟨b25, 0, none⟩)), (6, .pointer (some ⟨b26, 0, none⟩))] 4 ?_ (fun key => OW.sub (R := [(3, .slice a_3 p3.length c_3), (4, .pointer (some ⟨b24, 0, none⟩)), (5, .pointer (some ⟨b25, 0, none⟩)), (6, .pointer (some ⟨b26, 0, none⟩)), (18, .bool (!y27))]) ?_ (sb rfl))
 ·refine oP rfl <| bE H fun u34 hu38 H => ow_cut [(28, .bool u34), (3, .slice a_3 p3.length c_3), (4, .pointer (some ⟨b24, 0, none⟩)), (5, .pointer (some ⟨b25, 0, none⟩)), (6, .pointer (some ⟨b26, 0, none⟩))] 5 ?_ (fun key => OW.sub (R := [(3, .slice a_3 p3.length c_3), (4, .pointer (some ⟨b24, 0, none⟩)), (5, .pointer (some ⟨b25, 0, none⟩)), (6, .pointer (some ⟨b26, 0, none⟩)), (23, .bool u29)]) ?_ (sb rfl))
  ·refine oP rfl <| ow_cut [(35, .bool (u34 || (p2.Seen_ != (p3.length : Int)))), (3, .slice a_3 p3.length c_3), (4, .pointer (some ⟨b24, 0, none⟩)), (5, .pointer (some ⟨b25, 0, none⟩)), (6, .pointer (some ⟨b26, 0, none⟩))] 6 ?_ (fun key => OW.sub (R := [(3, .slice a_3 p3.length c_3), (4, .pointer (some ⟨b24, 0, none⟩)), (5, .pointer (some ⟨b25, 0, none⟩)), (6, .pointer (some ⟨b26, 0, none⟩)), (29, .bool u34)]) ?_ (sb rfl))
   ·refine nQ <| cI H rfl (fun H => ?_) (fun H => ?_)
    ·exact sR <| oP rfl <| nT <| x_qs_ret <| xr 8 rfl (by cases H; exact q1)
    ·refine c_skip <| x_qs <| c_seq <| sR <| ow_batch [.fa 44 0 0 fa44_0] rfl <| o1 rfl (r1 0 2 rfl ty42 rfl) <| ow_batch [.lenS 42 70 sl42, .p] rfl <| nQ <| c_block <| CW.at (loopI1 (fun (i110 : Int) => St w [] [Res.box b24 38 [.slice a14 p0.Attrs_.length c15, .slice a16 p0.Classes_.length c17], Res.box b25 40 [.int .i64 p1.Sure_, .int .i64 p1.Tie_, .int .i64 p1.Grace_, .int .i64 p1.Depth_, .int .i64 p1.Nodes_, .int .i64 p1.Units_, .bool p1.Two_], Res.box b26 44 [.slice a22 p2.Nodes_.length c23, .int .i64 p2.Seen_]]) (fun i110 => [(3, .slice a_3 p3.length c_3), (4, .pointer (some ⟨b24, 0, none⟩)), (5, .pointer (some ⟨b25, 0, none⟩)), (6, .pointer (some ⟨b26, 0, none⟩)), (37, .slice a22 p2.Nodes_.length c23), (38, .int .i64 (p2.Nodes_.length : Int)), (39, .int .i64 i110)]) (fun kk => fun i110 => impl_TreeTrue_L1 p2 p0 p1 p3 kk i110 = some r) (fun _ H => ?_) (fun k1 ihk1 i110 H => ?_) Fuel (0) (H)) (fun _ h => St.sel [0, 1, 2] rfl rfl h) ⟨rfl, rfl, rfl, rfl, rfl, rfl, rfl, trivial⟩
     ·unfold impl_TreeTrue_L1 at H
      exact absurd H (by simp)
     ·unfold impl_TreeTrue_L1 at H
      refine sR <| oP rfl <| nQ <| c_seq <| cI H rfl (fun H => ?_) (fun H => ?_)
      ·refine c_skip <| x_qs <| c_seq <| c_block <| sR <| oP rfl <| bE H fun e180 h181 H => ow_ixB rfl rfl rfl rfl rfl sl42 ty70 rfl g20 h181 fun q184 c185 hd182 hA183 => ?_
       obtain ⟨c186, c187, c188, c189, c190, c191, c192, c193, c194, c195, rfl, g196, g197, g198, g199, g200, g201, g202, g203, g204, g205⟩ := rdo_Timpl_Node hd182
       obtain rfl := g196
       obtain rfl := g197
       obtain ⟨a206, c207, rfl⟩ := rd_sl1 g198
       obtain rfl := g199
       obtain ⟨c208, c209, rfl, g210, g211⟩ := rdo_Timpl_Stats g200
       obtain ⟨a212, c213, rfl⟩ := rd_sl1 g210
       obtain ⟨a214, c215, rfl⟩ := rd_sl1 g211
       obtain rfl := g201
       obtain ⟨a216, c217, rfl⟩ := rd_sl1 g202
       obtain rfl := g203
       obtain rfl := g204
       obtain rfl := g205
       refine o1 rfl (ry_load (cs := [.bool e180.Leaf_, .int .i64 e180.Fork_.Attr_, .int .i64 e180.Fork_.At_, .slice a206 e180.Kids_.length c207, .int .i64 e180.Miss_, .slice a212 e180.Stats_.Totals_.length c213, .slice a214 e180.Stats_.Cells_.length c215, .int .i64 e180.Since_, .slice a216 e180.Attrs_.length c217, .int .i64 e180.Depth_, .int .i64 e180.Up_, .int .i64 e180.Born_]) rfl rfl ty70 (at_bor bor hA183) rfl) <| ow_alloc rfl rfl rfl rfl ty70 (fun _ => kp) fun b218 => oP rfl <| sC 0 [.bool e180.Leaf_, .int .i64 e180.Fork_.Attr_, .int .i64 e180.Fork_.At_, .slice a206 e180.Kids_.length c207, .int .i64 e180.Miss_, .slice a212 e180.Stats_.Totals_.length c213, .slice a214 e180.Stats_.Cells_.length c215, .int .i64 e180.Since_, .slice a216 e180.Attrs_.length c217, .int .i64 e180.Depth_, .int .i64 e180.Up_, .int .i64 e180.Born_] [_, _, _, _, _, _, _, _, _, _, _, _] 3 rfl ty70 rfl <| nR <| o1 rfl (rx 0 0 _ rfl ty38 rfl) <| o1 rfl (rx 0 1 _ rfl ty40 rfl) <| o1 rfl (rx 0 2 _ rfl ty44 rfl) <| oPP rfl <| bE H fun y219 h220 H => ow_callS rfl fn35 rfl rfl rfl rfl (fun w1 hw1 => impl_history_ok w1 (p1 := p1) h220 (hw1.carve [] rfl rfl) (rdm_Timpl_Schema (rds_bor g12 w1 hw1) (rds_bor g13 w1 hw1)) (rdm_Timpl_Tree (rds_bor g20 w1 hw1) rfl) (rds_bor g3 w1 hw1)) fun v221 w1 w2 hw1 hR223 => ?_
       obtain ⟨a224, n225, c226, F227, a228, n229, c230, F231, a232, n233, c234, F235, rfl, hS222⟩ := hR223
       obtain rfl := own_nS (i := 0) hS222 rfl
       obtain rfl := own_nS (i := 1) hS222 rfl
       obtain rfl := own_nS (i := 2) hS222 rfl
       refine ⟨St w [] [_, _, _, _, _, _, _], hw1.comp [] rfl rfl hS222, fun _ _ => trivial, ?_⟩
       refine ow_batch [.p, .p, .p, .p] rfl <| ow_alloc rfl rfl rfl rfl ty68 (fun _ => kp) fun b236 => sC 0 [.slice a224 y219.1.Totals_.length c226, .slice a228 y219.1.Cells_.length c230] [_, _] 7 rfl ty68 rfl <| oPP rfl <| nQ <| c_seq <| sR <| ow_batch [.fa 70 4 5 fa70_4, .fa 68 0 0 fa68_0] rfl <| o1 rfl (r1 5 3 rfl ty56 rfl) <| ow_batch [.fa 68 0 0 fa68_0] rfl <| o1 rfl (r1 0 7 rfl ty56 rfl) <| bE H fun y237 h238 H => oq rfl (qc rfl fn36 (fun w1 hw1 => lib_slices_Equal___int_int__ok w1  h238 (rds_bor g210 w1 hw1) (rds_own (e := eList eI 3) (r := 4) rfl w1 hw1))) tt2 <| oP rfl <| nQ <| cI H rfl (fun H => ?_) (fun H => ?_)
       ·exact sR <| oP rfl <| nT <| x_qs_ret <| x_qb_ret <| x_qs_ret <| x_ql_ret <| x_qb_ret <| x_qs_ret <| xr 8 rfl (by cases H; exact q1)
       ·refine c_skip <| x_qs <| sR <| o1 rfl (rx 0 3 _ rfl ty70 rfl) <| bE H fun y239 h240 H => oq rfl (qc rfl fn37 (fun w1 hw1 => impl_active_ok w1 h240 (rdm_Timpl_Node rfl rfl (rds_bor g198 w1 hw1) rfl (rdm_Timpl_Stats (rds_bor g210 w1 hw1) (rds_bor g211 w1 hw1)) rfl (rds_bor g202 w1 hw1) rfl rfl rfl))) tt2 <| oP rfl <| bE H fun u241 hu247 H => ow_cut [(75, .bool u241), (3, .slice a_3 p3.length c_3), (4, .pointer (some ⟨b24, 0, none⟩)), (5, .pointer (some ⟨b25, 0, none⟩)), (6, .pointer (some ⟨b26, 0, none⟩)), (37, .slice a22 p2.Nodes_.length c23), (38, .int .i64 (p2.Nodes_.length : Int)), (39, .int .i64 i110)] 12 ?_ (fun key => OW.sub (R := [(3, .slice a_3 p3.length c_3), (4, .pointer (some ⟨b24, 0, none⟩)), (5, .pointer (some ⟨b25, 0, none⟩)), (6, .pointer (some ⟨b26, 0, none⟩)), (10, .pointer (some ⟨b218, 0, none⟩)), (11, .pointer (some ⟨b236, 0, none⟩)), (12, .int .i64 y219.2.1), (37, .slice a22 p2.Nodes_.length c23), (38, .int .i64 (p2.Nodes_.length : Int)), (39, .int .i64 i110), (63, .bool y239)]) ?_ (sb rfl))
        ·refine nQ <| cI H rfl (fun H => ?_) (fun H => ?_)
         ·exact sR <| oP rfl <| nT <| x_qb_ret <| x_qs_ret <| x_ql_ret <| x_qb_ret <| x_qs_ret <| xr 8 rfl (by cases H; exact q1)
         ·exact c_skip <| x_qb <| x_qs <| c_reg <| oPP rfl <| ow_nil <| x_ql (RW.at (ihk1 (IntKind.i64.wrap (i110 + 1)) (H)) (fun _ h => St.sel [0, 1, 2] rfl rfl h) ⟨rfl, rfl, rfl, rfl, rfl, rfl, rfl, trivial⟩)
        ·clear H
         have H := hu247
         clear hu247
         generalize y239 = t246 at H key ⊢
         cases t246
         ·have H := of_if_f rfl H
          refine ow_batch [.p, .p, .p, .p, .p, .p, .p, .p, .p, .p, .p, .p] rfl ?_
          obtain rfl := of_some H
          exact OW.sub key (sb rfl)
         ·have H := of_if_t rfl H
          refine ow_batch [.fa 70 4 5 fa70_4] rfl <| o1 rfl (rx 5 3 _ rfl ty68 rfl) <| o1 rfl (rx 0 7 _ rfl ty68 rfl) <| bE H fun y242 h243 H => oq rfl (qc rfl fn38 (fun w1 hw1 => impl_StatsSame_ok w1 h243 (rdm_Timpl_Stats (x := e180.Stats_) (c0 := [.slice a212 e180.Stats_.Totals_.length c213]) (c1 := [.slice a214 e180.Stats_.Cells_.length c215]) (rds_bor g210 w1 hw1) (rds_bor g211 w1 hw1)) (rdm_Timpl_Stats (x := y219.1) (c0 := [.slice a224 y219.1.Totals_.length c226]) (c1 := [.slice a228 y219.1.Cells_.length c230]) (rds_own (e := eList eI 3) (r := 4) rfl w1 hw1) (rds_own (e := eList (eList eI 3) 56) (r := 5) rfl w1 hw1)))) tt2 <| oPP rfl <| ow_cut [(74, .bool ((!y242) || (e180.Since_ != y219.2.1))), (3, .slice a_3 p3.length c_3), (4, .pointer (some ⟨b24, 0, none⟩)), (5, .pointer (some ⟨b25, 0, none⟩)), (6, .pointer (some ⟨b26, 0, none⟩)), (37, .slice a22 p2.Nodes_.length c23), (38, .int .i64 (p2.Nodes_.length : Int)), (39, .int .i64 i110), (63, .bool true)] 5 ?_ (fun key => OW.sub (R := [(3, .slice a_3 p3.length c_3), (4, .pointer (some ⟨b24, 0, none⟩)), (5, .pointer (some ⟨b25, 0, none⟩)), (6, .pointer (some ⟨b26, 0, none⟩)), (10, .pointer (some ⟨b218, 0, none⟩)), (12, .int .i64 y219.2.1), (37, .slice a22 p2.Nodes_.length c23), (38, .int .i64 (p2.Nodes_.length : Int)), (39, .int .i64 i110), (63, .bool true), (69, .bool (!y242))]) ?_ (sb rfl))
          ·refine ow_batch [.p] rfl ?_
           obtain rfl := of_some H
           exact OW.sub key (sb rfl)
          ·generalize (!y242) = t245 at key ⊢
           cases t245
           ·exact ow_batch [.fa 70 5 7 fa70_5] rfl <| o1 rfl (r1 7 3 rfl ty3 rfl) <| oPP rfl <| oP rfl <| OW.sub key (sb rfl)
           ·exact ow_batch [.p, .p, .p, .p, .p] rfl <| OW.sub key (sb rfl)
      ·exact c_exit <| x_qs_exit <| x_ql_exit <| x_qb_here <| x_qs <| sR <| oP rfl <| nT <| xr 8 rfl (by cases H; exact q1)
   ·generalize u34 = t40 at key ⊢
    cases t40
    ·exact ow_batch [.fa 44 1 1 fa44_1] rfl <| o1 rfl (r1 1 2 rfl ty3 rfl) <| ow_batch [.p, .lenS 46 83 sl46, .p] rfl <| oP rfl <| OW.sub key (sb rfl)
    ·exact ow_batch [.p, .p, .p, .p, .p, .p] rfl <| OW.sub key (sb rfl)
  ·clear H
   have H := hu38
   clear hu38
   generalize u29 = t37 at H key ⊢
   cases t37
   ·have H := of_if_f rfl H
    refine o1 rfl (rx 0 0 _ rfl ty38 rfl) <| oP rfl <| bE H fun y35 h36 H => oq rfl (qc rfl fn34 (fun w1 hw1 => impl_EntriesOk_ok w1 h36 (rdm_Timpl_Schema (rds_bor g12 w1 hw1) (rds_bor g13 w1 hw1)) (rds_bor g3 w1 hw1))) tt2 <| oP rfl <| oP rfl <| ?_
    obtain rfl := of_some H
    exact OW.sub key (sb rfl)
   ·have H := of_if_t rfl H
    refine ow_batch [.p, .p, .p, .p, .p] rfl ?_
    obtain rfl := of_some H
    exact OW.sub key (sb rfl)
 ·clear H
  have H := hu33
  clear hu33
  generalize (!y27) = t32 at H key ⊢
  cases t32
  ·have H := of_if_f rfl H
   refine o1 rfl (rx 0 1 _ rfl ty40 rfl) <| bE H fun y30 h31 H => oq rfl (qc rfl fn33 (fun w1 hw1 => impl_RuleOk_ok w1 (p0 := p1) h31)) tt2 <| oP rfl <| oP rfl <| ?_
   obtain rfl := of_some H
   exact OW.sub key (sb rfl)
  ·have H := of_if_t rfl H
   refine ow_batch [.p, .p, .p, .p] rfl ?_
   obtain rfl := of_some H
   exact OW.sub key (sb rfl)
theorem laws_eqIntS_ok (w : World) {p0 : List Int} {p1 : List Int} {a_0 : Option Addr} {n_0 c_0 : Nat} {a_1 : Option Addr} {n_1 c_1 : Nat} {r : Bool} (H : laws_eqIntS p0 p1 = some r)  (g0 : (eList eI 3).rd w [] p0 [.slice a_0 n_0 c_0]) (g1 : (eList eI 3).rd w [] p1 [.slice a_1 n_1 c_1]) :
    Calls Tryz.prog 106 #[.slice a_0 n_0 c_0, .slice a_1 n_1 c_1] w (fun en w' => en = .returned (.bool r) ∧ Ext [] w w') := by
 obtain rfl := rd_n g0
 obtain rfl := rd_n g1
 unfold laws_eqIntS at H
 refine f_enter Tryz.func106 rfl Tryz.ntmps106 rfl (St.init w []) <| sR <| oP rfl <| nQ <| c_seq <| sR <| ow_batch [.p, .lenS 56 3 sl56, .p, .lenS 56 3 sl56, .p] rfl <| nQ <| cI H rfl (fun H => ?_) (fun H => ?_)
 ·exact sR <| oP rfl <| nT <| x_qs_ret <| xr 4 rfl (by cases H; exact q1)
 ·refine c_skip <| x_qs <| c_seq <| sR <| oP rfl <| nQ <| c_block <| CW.at (loopI1 (fun (i15 : Int) => St w [] []) (fun i15 => [(0, .slice a_0 p0.length c_0), (1, .slice a_1 p1.length c_1), (5, .int .i64 i15)]) (fun kk => fun i15 => laws_eqIntS_L1 p0 p1 kk i15 = some r) (fun _ H => ?_) (fun k1 ihk1 i15 H => ?_) Fuel (0) (H)) (fun _ h => St.sel [] rfl rfl h) ⟨rfl, rfl, rfl, trivial⟩
  ·unfold laws_eqIntS_L1 at H
   exact absurd H (by simp)
  ·unfold laws_eqIntS_L1 at H
   refine c_seq <| sR <| ow_batch [.p, .p, .lenS 56 3 sl56, .p] rfl <| nQ <| cI H rfl (fun H => ?_) (fun H => ?_)
   ·refine c_skip <| x_qs <| c_seq <| c_block <| c_seq <| c_regQ mixed (by kernel_rfl) <| oPP rfl <| bE H fun e21 h22 H => ow_ixE (e := eI) (xs := p0) (j := i15) rfl rfl rfl rfl rfl sl56 ty3 rfl (fun w1 hw1 => rds_bor g0 w1 hw1) h22 (by rw [Nat.mul_one]) <| o1 rfl (ry_load1 rfl rfl ty3 (at_elV (fun w1 hw1 => rds_bor g0 w1 hw1) h22)) <| oPP rfl <| bE H fun e23 h24 H => ow_ixE (e := eI) (xs := p1) (j := i15) rfl rfl rfl rfl rfl sl56 ty3 rfl (fun w1 hw1 => rds_bor g1 w1 hw1) h24 (by rw [Nat.mul_one]) <| o1 rfl (ry_load1 rfl rfl ty3 (at_elV (fun w1 hw1 => rds_bor g1 w1 hw1) h24)) <| oP rfl <| ow_nilQ <| x_qs <| cI H rfl (fun H => ?_) (fun H => ?_)
    ·exact sR <| oP rfl <| nT <| x_qb_ret <| x_qs_ret <| x_ql_ret <| x_qb_ret <| x_qs_ret <| xr 4 rfl (by cases H; exact q1)
    ·exact c_skip <| x_qb <| x_qs <| c_reg <| ow_batch [.p, .p, .p] rfl <| ow_nil <| x_ql (RW.at (ihk1 (IntKind.i64.wrap (i15 + 1)) (H)) (fun _ h => St.sel [] rfl rfl h) ⟨rfl, rfl, rfl, trivial⟩)
   ·exact c_exit <| x_qs_exit <| x_ql_exit <| x_qb_here <| x_qs <| sR <| oP rfl <| nT <| xr 4 rfl (by cases H; exact q1)
theorem laws_eqStringS_ok (w : World) {p0 : List (List UInt8)} {p1 : List (List UInt8)} {a_0 : Option Addr} {n_0 c_0 : Nat} {a_1 : Option Addr} {n_1 c_1 : Nat} {r : Bool} (H : laws_eqStringS p0 p1 = some r)  (g0 : (eList (eStr) 9).rd w [] p0 [.slice a_0 n_0 c_0]) (g1 : (eList (eStr) 9).rd w [] p1 [.slice a_1 n_1 c_1]) :
    Calls Tryz.prog 40 #[.slice a_0 n_0 c_0, .slice a_1 n_1 c_1] w (fun en w' => en = .returned (.bool r) ∧ Ext [] w w') := by
 obtain rfl := rd_n g0
 obtain rfl := rd_n g1
 unfold laws_eqStringS at H
 refine f_enter Tryz.func40 rfl Tryz.ntmps40 rfl (St.init w []) <| sR <| oP rfl <| nQ <| c_seq <| sR <| ow_batch [.p, .lenS 23 9 sl23, .p, .lenS 23 9 sl23, .p] rfl <| nQ <| cI H rfl (fun H => ?_) (fun H => ?_)
 ·exact sR <| oP rfl <| nT <| x_qs_ret <| xr 4 rfl (by cases H; exact q1)
 ·refine c_skip <| x_qs <| c_seq <| sR <| oP rfl <| nQ <| c_block <| CW.at (loopI1 (fun (i15 : Int) => St w [] []) (fun i15 => [(0, .slice a_0 p0.length c_0), (1, .slice a_1 p1.length c_1), (5, .int .i64 i15)]) (fun kk => fun i15 => laws_eqStringS_L1 p0 p1 kk i15 = some r) (fun _ H => ?_) (fun k1 ihk1 i15 H => ?_) Fuel (0) (H)) (fun _ h => St.sel [] rfl rfl h) ⟨rfl, rfl, rfl, trivial⟩
  ·unfold laws_eqStringS_L1 at H
   exact absurd H (by simp)
  ·unfold laws_eqStringS_L1 at H
   refine c_seq <| sR <| ow_batch [.p, .p, .lenS 23 9 sl23, .p] rfl <| nQ <| cI H rfl (fun H => ?_) (fun H => ?_)
   ·refine c_skip <| x_qs <| c_seq <| c_block <| c_seq <| c_regQ mixed (by kernel_rfl) <| oPP rfl <| bE H fun e21 h22 H => ow_ixE (e := eStr) (xs := p0) (j := i15) rfl rfl rfl rfl rfl sl23 ty9 rfl (fun w1 hw1 => rds_bor g0 w1 hw1) h22 (by rw [Nat.mul_one]) <| o1 rfl (ry_load1 rfl rfl ty9 (at_elV (fun w1 hw1 => rds_bor g0 w1 hw1) h22)) <| oPP rfl <| bE H fun e23 h24 H => ow_ixE (e := eStr) (xs := p1) (j := i15) rfl rfl rfl rfl rfl sl23 ty9 rfl (fun w1 hw1 => rds_bor g1 w1 hw1) h24 (by rw [Nat.mul_one]) <| o1 rfl (ry_load1 rfl rfl ty9 (at_elV (fun w1 hw1 => rds_bor g1 w1 hw1) h24)) <| oP rfl <| ow_nilQ <| x_qs <| cI H rfl (fun H => ?_) (fun H => ?_)
    ·exact sR <| oP rfl <| nT <| x_qb_ret <| x_qs_ret <| x_ql_ret <| x_qb_ret <| x_qs_ret <| xr 4 rfl (by cases H; exact q1)
    ·exact c_skip <| x_qb <| x_qs <| c_reg <| ow_batch [.p, .p, .p] rfl <| ow_nil <| x_ql (RW.at (ihk1 (IntKind.i64.wrap (i15 + 1)) (H)) (fun _ h => St.sel [] rfl rfl h) ⟨rfl, rfl, rfl, trivial⟩)
   ·exact c_exit <| x_qs_exit <| x_ql_exit <| x_qb_here <| x_qs <| sR <| oP rfl <| nT <| xr 4 rfl (by cases H; exact q1)
theorem laws_eqAttr_ok (w : World) {p0 : Timpl_Attr} {p1 : Timpl_Attr} {cs0 : List Value} {cs1 : List Value} {r : Bool} (H : laws_eqAttr p0 p1 = some r)  (g0 : (eTimpl_Attr).rd w [] p0 cs0) (g1 : (eTimpl_Attr).rd w [] p1 cs1) :
    Calls Tryz.prog 70 #[.agg cs0.toArray, .agg cs1.toArray] w (fun en w' => en = .returned (.bool r) ∧ Ext [] w w') := by
 obtain ⟨c10, c11, c12, rfl, g13, g14, g15⟩ := rdo_Timpl_Attr g0
 obtain rfl := g13
 obtain ⟨a16, c17, rfl⟩ := rd_sl1 g14
 obtain ⟨a18, c19, rfl⟩ := rd_sl1 g15
 obtain ⟨c20, c21, c22, rfl, g23, g24, g25⟩ := rdo_Timpl_Attr g1
 obtain rfl := g23
 obtain ⟨a26, c27, rfl⟩ := rd_sl1 g24
 obtain ⟨a28, c29, rfl⟩ := rd_sl1 g25
 unfold laws_eqAttr at H
 refine f_enter Tryz.func70 rfl Tryz.ntmps70 rfl (St.init w []) <| sR <| ob _ rfl fun b30 => ob _ rfl fun b31 => oP rfl <| nQ <| c_seq <| sR <| ow_batch [.fa 113 0 0 fa113_0] rfl <| o1 rfl (r1 0 0 rfl ty9 rfl) <| ow_batch [.fa 113 0 0 fa113_0] rfl <| o1 rfl (r1 0 1 rfl ty9 rfl) <| oP rfl <| nQ <| cI H rfl (fun H => ?_) (fun H => ?_)
 ·exact sR <| oP rfl <| nT <| x_qs_ret <| xr 4 rfl (by cases H; exact q1)
 ·refine c_skip <| x_qs <| c_seq <| sR <| ow_batch [.fa 113 1 1 fa113_1] rfl <| o1 rfl (r1 1 0 rfl ty56 rfl) <| ow_batch [.fa 113 1 1 fa113_1] rfl <| o1 rfl (r1 1 1 rfl ty56 rfl) <| bE H fun y32 h33 H => oq rfl (qc rfl fn106 (fun w1 hw1 => laws_eqIntS_ok w1  h33 (rds_bor g14 w1 hw1) (rds_bor g24 w1 hw1))) tt2 <| oP rfl <| nQ <| cI H rfl (fun H => ?_) (fun H => ?_)
  ·exact sR <| oP rfl <| nT <| x_qs_ret <| xr 4 rfl (by cases H; exact q1)
  ·refine c_skip <| x_qs <| c_seq <| sR <| ow_batch [.fa 113 2 2 fa113_2] rfl <| o1 rfl (r1 2 0 rfl ty23 rfl) <| ow_batch [.fa 113 2 2 fa113_2] rfl <| o1 rfl (r1 2 1 rfl ty23 rfl) <| bE H fun y34 h35 H => oq rfl (qc rfl fn40 (fun w1 hw1 => laws_eqStringS_ok w1  h35 (rds_bor g15 w1 hw1) (rds_bor g25 w1 hw1))) tt2 <| oP rfl <| nQ <| cI H rfl (fun H => ?_) (fun H => ?_)
   ·exact sR <| oP rfl <| nT <| x_qs_ret <| xr 4 rfl (by cases H; exact q1)
   ·exact c_skip <| x_qs <| sR <| oP rfl <| nT <| xr 4 rfl (by cases H; exact q1)
theorem laws_eqAttrS_ok (w : World) {p0 : List Timpl_Attr} {p1 : List Timpl_Attr} {a_0 : Option Addr} {n_0 c_0 : Nat} {a_1 : Option Addr} {n_1 c_1 : Nat} {r : Bool} (H : laws_eqAttrS p0 p1 = some r)  (g0 : (eList (eTimpl_Attr) 113).rd w [] p0 [.slice a_0 n_0 c_0]) (g1 : (eList (eTimpl_Attr) 113).rd w [] p1 [.slice a_1 n_1 c_1]) :
    Calls Tryz.prog 39 #[.slice a_0 n_0 c_0, .slice a_1 n_1 c_1] w (fun en w' => en = .returned (.bool r) ∧ Ext [] w w') := by
 obtain rfl := rd_n g0
 obtain rfl := rd_n g1
 unfold laws_eqAttrS at H
 refine f_enter Tryz.func39 rfl Tryz.ntmps39 rfl (St.init w []) <| sR <| oP rfl <| nQ <| c_seq <| sR <| ow_batch [.p, .lenS 36 113 sl36, .p, .lenS 36 113 sl36, .p] rfl <| nQ <| cI H rfl (fun H => ?_) (fun H => ?_)
 ·exact sR <| oP rfl <| nT <| x_qs_ret <| xr 4 rfl (by cases H; exact q1)
 ·refine c_skip <| x_qs <| c_seq <| sR <| oP rfl <| nQ <| c_block <| CW.at (loopI1 (fun (i45 : Int) => St w [] []) (fun i45 => [(0, .slice a_0 p0.length c_0), (1, .slice a_1 p1.length c_1), (5, .int .i64 i45)]) (fun kk => fun i45 => laws_eqAttrS_L1 p0 p1 kk i45 = some r) (fun _ H => ?_) (fun k1 ihk1 i45 H => ?_) Fuel (0) (H)) (fun _ h => St.sel [] rfl rfl h) ⟨rfl, rfl, rfl, trivial⟩
  ·unfold laws_eqAttrS_L1 at H
   exact absurd H (by simp)
  ·unfold laws_eqAttrS_L1 at H
   refine c_seq <| sR <| ow_batch [.p, .p, .lenS 36 113 sl36, .p] rfl <| nQ <| cI H rfl (fun H => ?_) (fun H => ?_)
   ·refine c_skip <| x_qs <| c_seq <| c_block <| c_seq <| c_regQ mixed (by kernel_rfl) <| oPP rfl <| bE H fun e81 h82 H => ow_ixB rfl rfl rfl rfl rfl sl36 ty113 rfl g0 h82 fun q85 c86 hd83 hA84 => ?_
    obtain ⟨c87, c88, c89, rfl, g90, g91, g92⟩ := rdo_Timpl_Attr hd83
    obtain rfl := g90
    obtain ⟨a93, c94, rfl⟩ := rd_sl1 g91
    obtain ⟨a95, c96, rfl⟩ := rd_sl1 g92
    refine o1 rfl (ry_load (cs := [vS e81.Name_, .slice a93 e81.Cuts_.length c94, .slice a95 e81.Values_.length c96]) rfl rfl ty113 (at_bor bor hA84) rfl) <| oPP rfl <| bE H fun e97 h98 H => ow_ixB rfl rfl rfl rfl rfl sl36 ty113 rfl g1 h98 fun q101 c102 hd99 hA100 => ?_
    obtain ⟨c103, c104, c105, rfl, g106, g107, g108⟩ := rdo_Timpl_Attr hd99
    obtain rfl := g106
    obtain ⟨a109, c110, rfl⟩ := rd_sl1 g107
    obtain ⟨a111, c112, rfl⟩ := rd_sl1 g108
    refine o1 rfl (ry_load (cs := [vS e97.Name_, .slice a109 e97.Cuts_.length c110, .slice a111 e97.Values_.length c112]) rfl rfl ty113 (at_bor bor hA100) rfl) <| bE H fun y113 h114 H => oq rfl (qc rfl fn70 (fun w1 hw1 => laws_eqAttr_ok w1 h114 (rdm_Timpl_Attr rfl (rds_bor g91 w1 hw1) (rds_bor g92 w1 hw1)) (rdm_Timpl_Attr rfl (rds_bor g107 w1 hw1) (rds_bor g108 w1 hw1)))) tt2 <| oP rfl <| ow_nilQ <| x_qs <| cI H rfl (fun H => ?_) (fun H => ?_)
    ·exact sR <| oP rfl <| nT <| x_qb_ret <| x_qs_ret <| x_ql_ret <| x_qb_ret <| x_qs_ret <| xr 4 rfl (by cases H; exact q1)
    ·exact c_skip <| x_qb <| x_qs <| c_reg <| ow_batch [.p, .p, .p] rfl <| ow_nil <| x_ql (RW.at (ihk1 (IntKind.i64.wrap (i45 + 1)) (H)) (fun _ h => St.sel [] rfl rfl h) ⟨rfl, rfl, rfl, trivial⟩)
   ·exact c_exit <| x_qs_exit <| x_ql_exit <| x_qb_here <| x_qs <| sR <| oP rfl <| nT <| xr 4 rfl (by cases H; exact q1)
theorem laws_eqSchema_ok (w : World) {p0 : Timpl_Schema} {p1 : Timpl_Schema} {cs0 : List Value} {cs1 : List Value} {r : Bool} (H : laws_eqSchema p0 p1 = some r)  (g0 : (eTimpl_Schema).rd w [] p0 cs0) (g1 : (eTimpl_Schema).rd w [] p1 cs1) :
    Calls Tryz.prog 13 #[.agg cs0.toArray, .agg cs1.toArray] w (fun en w' => en = .returned (.bool r) ∧ Ext [] w w') := by
 obtain ⟨c10, c11, rfl, g12, g13⟩ := rdo_Timpl_Schema g0
 obtain ⟨a14, c15, rfl⟩ := rd_sl1 g12
 obtain ⟨a16, c17, rfl⟩ := rd_sl1 g13
 obtain ⟨c18, c19, rfl, g20, g21⟩ := rdo_Timpl_Schema g1
 obtain ⟨a22, c23, rfl⟩ := rd_sl1 g20
 obtain ⟨a24, c25, rfl⟩ := rd_sl1 g21
 unfold laws_eqSchema at H
 refine f_enter Tryz.func13 rfl Tryz.ntmps13 rfl (St.init w []) <| sR <| ob _ rfl fun b26 => ob _ rfl fun b27 => oP rfl <| nQ <| c_seq <| sR <| ow_batch [.fa 38 0 0 fa38_0] rfl <| o1 rfl (r1 0 0 rfl ty36 rfl) <| ow_batch [.fa 38 0 0 fa38_0] rfl <| o1 rfl (r1 0 1 rfl ty36 rfl) <| bE H fun y28 h29 H => oq rfl (qc rfl fn39 (fun w1 hw1 => laws_eqAttrS_ok w1  h29 (rds_bor g12 w1 hw1) (rds_bor g20 w1 hw1))) tt2 <| oP rfl <| nQ <| cI H rfl (fun H => ?_) (fun H => ?_)
 ·exact sR <| oP rfl <| nT <| x_qs_ret <| xr 4 rfl (by cases H; exact q1)
 ·refine c_skip <| x_qs <| c_seq <| sR <| ow_batch [.fa 38 1 1 fa38_1] rfl <| o1 rfl (r1 1 0 rfl ty23 rfl) <| ow_batch [.fa 38 1 1 fa38_1] rfl <| o1 rfl (r1 1 1 rfl ty23 rfl) <| bE H fun y30 h31 H => oq rfl (qc rfl fn40 (fun w1 hw1 => laws_eqStringS_ok w1  h31 (rds_bor g13 w1 hw1) (rds_bor g21 w1 hw1))) tt2 <| oP rfl <| nQ <| cI H rfl (fun H => ?_) (fun H => ?_)
  ·exact sR <| oP rfl <| nT <| x_qs_ret <| xr 4 rfl (by cases H; exact q1)
  ·exact c_skip <| x_qs <| sR <| oP rfl <| nT <| xr 4 rfl (by cases H; exact q1)
theorem laws_eqFork_ok (w : World) {p0 : Timpl_Fork} {p1 : Timpl_Fork}  {r : Bool} (H : laws_eqFork p0 p1 = some r)   :
    Calls Tryz.prog 107 #[.agg #[.int .i64 p0.Attr_, .int .i64 p0.At_], .agg #[.int .i64 p1.Attr_, .int .i64 p1.At_]] w (fun en w' => en = .returned (.bool r) ∧ Ext [] w w') := by
 unfold laws_eqFork at H
 refine f_enter Tryz.func107 rfl Tryz.ntmps107 rfl (St.init w []) <| sR <| ob _ rfl fun b10 => ob _ rfl fun b11 => oP rfl <| nQ <| c_seq <| sR <| ow_batch [.fa 65 0 0 fa65_0] rfl <| o1 rfl (r1 0 0 rfl ty3 rfl) <| ow_batch [.fa 65 0 0 fa65_0] rfl <| o1 rfl (r1 0 1 rfl ty3 rfl) <| oP rfl <| nQ <| cI H rfl (fun H => ?_) (fun H => ?_)
 ·exact sR <| oP rfl <| nT <| x_qs_ret <| xr 4 rfl (by cases H; exact q1)
 ·refine c_skip <| x_qs <| c_seq <| sR <| ow_batch [.fa 65 1 1 fa65_1] rfl <| o1 rfl (r1 1 0 rfl ty3 rfl) <| ow_batch [.fa 65 1 1 fa65_1] rfl <| o1 rfl (r1 1 1 rfl ty3 rfl) <| oP rfl <| nQ <| cI H rfl (fun H => ?_) (fun H => ?_)
  ·exact sR <| oP rfl <| nT <| x_qs_ret <| xr 4 rfl (by cases H; exact q1)
  ·exact c_skip <| x_qs <| sR <| oP rfl <| nT <| xr 4 rfl (by cases H; exact q1)
theorem laws_eqIntSS_ok (w : World) {p0 : List (List Int)} {p1 : List (List Int)} {a_0 : Option Addr} {n_0 c_0 : Nat} {a_1 : Option Addr} {n_1 c_1 : Nat} {r : Bool} (H : laws_eqIntSS p0 p1 = some r)  (g0 : (eList (eList eI 3) 56).rd w [] p0 [.slice a_0 n_0 c_0]) (g1 : (eList (eList eI 3) 56).rd w [] p1 [.slice a_1 n_1 c_1]) :
    Calls Tryz.prog 122 #[.slice a_0 n_0 c_0, .slice a_1 n_1 c_1] w (fun en w' => en = .returned (.bool r) ∧ Ext [] w w') := by
 obtain rfl := rd_n g0
 obtain rfl := rd_n g1
 unfold laws_eqIntSS at H
 refine f_enter Tryz.func122 rfl Tryz.ntmps122 rfl (St.init w []) <| sR <| oP rfl <| nQ <| c_seq <| sR <| ow_batch [.p, .lenS 66 56 sl66, .p, .lenS 66 56 sl66, .p] rfl <| nQ <| cI H rfl (fun H => ?_) (fun H => ?_)
 ·exact sR <| oP rfl <| nT <| x_qs_ret <| xr 4 rfl (by cases H; exact q1)
 ·refine c_skip <| x_qs <| c_seq <| sR <| oP rfl <| nQ <| c_block <| CW.at (loopI1 (fun (i29 : Int) => St w [] []) (fun i29 => [(0, .slice a_0 p0.length c_0), (1, .slice a_1 p1.length c_1), (5, .int .i64 i29)]) (fun kk => fun i29 => laws_eqIntSS_L1 p0 p1 kk i29 = some r) (fun _ H => ?_) (fun k1 ihk1 i29 H => ?_) Fuel (0) (H)) (fun _ h => St.sel [] rfl rfl h) ⟨rfl, rfl, rfl, trivial⟩
  ·unfold laws_eqIntSS_L1 at H
   exact absurd H (by simp)
  ·unfold laws_eqIntSS_L1 at H
   refine c_seq <| sR <| ow_batch [.p, .p, .lenS 66 56 sl66, .p] rfl <| nQ <| cI H rfl (fun H => ?_) (fun H => ?_)
   ·refine c_skip <| x_qs <| c_seq <| c_block <| c_seq <| c_regQ mixed (by kernel_rfl) <| oPP rfl <| bE H fun e49 h50 H => ow_ixB rfl rfl rfl rfl rfl sl66 ty56 rfl g0 h50 fun q53 c54 hd51 hA52 => ?_
    obtain ⟨a55, c56, rfl⟩ := rd_sl1 hd51
    refine o1 rfl (ry_load1 rfl rfl ty56 (at_bor bor hA52)) <| oPP rfl <| bE H fun e57 h58 H => ow_ixB rfl rfl rfl rfl rfl sl66 ty56 rfl g1 h58 fun q61 c62 hd59 hA60 => ?_
    obtain ⟨a63, c64, rfl⟩ := rd_sl1 hd59
    refine o1 rfl (ry_load1 rfl rfl ty56 (at_bor bor hA60)) <| bE H fun y65 h66 H => oq rfl (qc rfl fn106 (fun w1 hw1 => laws_eqIntS_ok w1  h66 (rds_bor hd51 w1 hw1) (rds_bor hd59 w1 hw1))) tt2 <| oP rfl <| ow_nilQ <| x_qs <| cI H rfl (fun H => ?_) (fun H => ?_)
    ·exact sR <| oP rfl <| nT <| x_qb_ret <| x_qs_ret <| x_ql_ret <| x_qb_ret <| x_qs_ret <| xr 4 rfl (by cases H; exact q1)
    ·exact c_skip <| x_qb <| x_qs <| c_reg <| ow_batch [.p, .p, .p] rfl <| ow_nil <| x_ql (RW.at (ihk1 (IntKind.i64.wrap (i29 + 1)) (H)) (fun _ h => St.sel [] rfl rfl h) ⟨rfl, rfl, rfl, trivial⟩)
   ·exact c_exit <| x_qs_exit <| x_ql_exit <| x_qb_here <| x_qs <| sR <| oP rfl <| nT <| xr 4 rfl (by cases H; exact q1)
theorem laws_eqStats_ok (w : World) {p0 : Timpl_Stats} {p1 : Timpl_Stats} {cs0 : List Value} {cs1 : List Value} {r : Bool} (H : laws_eqStats p0 p1 = some r)  (g0 : (eTimpl_Stats).rd w [] p0 cs0) (g1 : (eTimpl_Stats).rd w [] p1 cs1) :
    Calls Tryz.prog 108 #[.agg cs0.toArray, .agg cs1.toArray] w (fun en w' => en = .returned (.bool r) ∧ Ext [] w w') := by
 obtain ⟨c10, c11, rfl, g12, g13⟩ := rdo_Timpl_Stats g0
 obtain ⟨a14, c15, rfl⟩ := rd_sl1 g12
 obtain ⟨a16, c17, rfl⟩ := rd_sl1 g13
 obtain ⟨c18, c19, rfl, g20, g21⟩ := rdo_Timpl_Stats g1
 obtain ⟨a22, c23, rfl⟩ := rd_sl1 g20
 obtain ⟨a24, c25, rfl⟩ := rd_sl1 g21
 unfold laws_eqStats at H
 refine f_enter Tryz.func108 rfl Tryz.ntmps108 rfl (St.init w []) <| sR <| ob _ rfl fun b26 => ob _ rfl fun b27 => oP rfl <| nQ <| c_seq <| sR <| ow_batch [.fa 68 0 0 fa68_0] rfl <| o1 rfl (r1 0 0 rfl ty56 rfl) <| ow_batch [.fa 68 0 0 fa68_0] rfl <| o1 rfl (r1 0 1 rfl ty56 rfl) <| bE H fun y28 h29 H => oq rfl (qc rfl fn106 (fun w1 hw1 => laws_eqIntS_ok w1  h29 (rds_bor g12 w1 hw1) (rds_bor g20 w1 hw1))) tt2 <| oP rfl <| nQ <| cI H rfl (fun H => ?_) (fun H => ?_)
 ·exact sR <| oP rfl <| nT <| x_qs_ret <| xr 4 rfl (by cases H; exact q1)
 ·refine c_skip <| x_qs <| c_seq <| sR <| ow_batch [.fa 68 1 1 fa68_1] rfl <| o1 rfl (r1 1 0 rfl ty66 rfl) <| ow_batch [.fa 68 1 1 fa68_1] rfl <| o1 rfl (r1 1 1 rfl ty66 rfl) <| bE H fun y30 h31 H => oq rfl (qc rfl fn122 (fun w1 hw1 => laws_eqIntSS_ok w1  h31 (rds_bor g13 w1 hw1) (rds_bor g21 w1 hw1))) tt2 <| oP rfl <| nQ <| cI H rfl (fun H => ?_) (fun H => ?_)
  ·exact sR <| oP rfl <| nT <| x_qs_ret <| xr 4 rfl (by cases H; exact q1)
  ·exact c_skip <| x_qs <| sR <| oP rfl <| nT <| xr 4 rfl (by cases H; exact q1)
theorem laws_eqNode_ok (w : World) {p0 : Timpl_Node} {p1 : Timpl_Node} {cs0 : List Value} {cs1 : List Value} {r : Bool} (H : laws_eqNode p0 p1 = some r)  (g0 : (eTimpl_Node).rd w [] p0 cs0) (g1 : (eTimpl_Node).rd w [] p1 cs1) :
    Calls Tryz.prog 71 #[.agg cs0.toArray, .agg cs1.toArray] w (fun en w' => en = .returned (.bool r) ∧ Ext [] w w') := by
 obtain ⟨c10, c11, c12, c13, c14, c15, c16, c17, c18, c19, rfl, g20, g21, g22, g23, g24, g25, g26, g27, g28, g29⟩ := rdo_Timpl_Node g0
 obtain rfl := g20
 obtain rfl := g21
 obtain ⟨a30, c31, rfl⟩ := rd_sl1 g22
 obtain rfl := g23
 obtain ⟨c32, c33, rfl, g34, g35⟩ := rdo_Timpl_Stats g24
 obtain ⟨a36, c37, rfl⟩ := rd_sl1 g34
 obtain ⟨a38, c39, rfl⟩ := rd_sl1 g35
 obtain rfl := g25
 obtain ⟨a40, c41, rfl⟩ := rd_sl1 g26
 obtain rfl := g27
 obtain rfl := g28
 obtain rfl := g29
 obtain ⟨c42, c43, c44, c45, c46, c47, c48, c49, c50, c51, rfl, g52, g53, g54, g55, g56, g57, g58, g59, g60, g61⟩ := rdo_Timpl_Node g1
 obtain rfl := g52
 obtain rfl := g53
 obtain ⟨a62, c63, rfl⟩ := rd_sl1 g54
 obtain rfl := g55
 obtain ⟨c64, c65, rfl, g66, g67⟩ := rdo_Timpl_Stats g56
 obtain ⟨a68, c69, rfl⟩ := rd_sl1 g66
 obtain ⟨a70, c71, rfl⟩ := rd_sl1 g67
 obtain rfl := g57
 obtain ⟨a72, c73, rfl⟩ := rd_sl1 g58
 obtain rfl := g59
 obtain rfl := g60
 obtain rfl := g61
 unfold laws_eqNode at H
 refine f_enter Tryz.func71 rfl Tryz.ntmps71 rfl (St.init w []) <| sR <| ob _ rfl fun b74 => ob _ rfl fun b75 => oP rfl <| nQ <| c_seq <| sR <| ow_batch [.fa 70 0 0 fa70_0] rfl <| o1 rfl (r1 0 0 rfl ty4 rfl) <| ow_batch [.fa 70 0 0 fa70_0] rfl <| o1 rfl (r1 0 1 rfl ty4 rfl) <| o1 rfl (ry_bneq rfl rfl rfl bl4) <| nQ <| cI H rfl (fun H => ?_) (fun H => ?_)
 ·exact sR <| oP rfl <| nT <| x_qs_ret <| xr 4 rfl (by cases H; exact q1)
 ·refine c_skip <| x_qs <| c_seq <| sR <| ow_batch [.fa 70 1 1 fa70_1] rfl <| o1 rfl (rx 1 0 _ rfl ty65 rfl) <| ow_batch [.fa 70 1 1 fa70_1] rfl <| o1 rfl (rx 1 1 _ rfl ty65 rfl) <| bE H fun y76 h77 H => oq rfl (qc rfl fn107 (fun w1 hw1 => laws_eqFork_ok w1 (p0 := p0.Fork_) (p1 := p1.Fork_) h77)) tt2 <| oP rfl <| nQ <| cI H rfl (fun H => ?_) (fun H => ?_)
  ·exact sR <| oP rfl <| nT <| x_qs_ret <| xr 4 rfl (by cases H; exact q1)
  ·refine c_skip <| x_qs <| c_seq <| sR <| ow_batch [.fa 70 2 3 fa70_2] rfl <| o1 rfl (r1 3 0 rfl ty56 rfl) <| ow_batch [.fa 70 2 3 fa70_2] rfl <| o1 rfl (r1 3 1 rfl ty56 rfl) <| bE H fun y78 h79 H => oq rfl (qc rfl fn106 (fun w1 hw1 => laws_eqIntS_ok w1  h79 (rds_bor g22 w1 hw1) (rds_bor g54 w1 hw1))) tt2 <| oP rfl <| nQ <| cI H rfl (fun H => ?_) (fun H => ?_)
   ·exact sR <| oP rfl <| nT <| x_qs_ret <| xr 4 rfl (by cases H; exact q1)
   ·refine c_skip <| x_qs <| c_seq <| sR <| ow_batch [.fa 70 3 4 fa70_3] rfl <| o1 rfl (r1 4 0 rfl ty3 rfl) <| ow_batch [.fa 70 3 4 fa70_3] rfl <| o1 rfl (r1 4 1 rfl ty3 rfl) <| oP rfl <| nQ <| cI H rfl (fun H => ?_) (fun H => ?_)
    ·exact sR <| oP rfl <| nT <| x_qs_ret <| xr 4 rfl (by cases H; exact q1)
    ·refine c_skip <| x_qs <| c_seq <| sR <| ow_batch [.fa 70 4 5 fa70_4] rfl <| o1 rfl (rx 5 0 _ rfl ty68 rfl) <| ow_batch [.fa 70 4 5 fa70_4] rfl <| o1 rfl (rx 5 1 _ rfl ty68 rfl) <| bE H fun y80 h81 H => oq rfl (qc rfl fn108 (fun w1 hw1 => laws_eqStats_ok w1 h81 (rdm_Timpl_Stats (rds_bor g34 w1 hw1) (rds_bor g35 w1 hw1)) (rdm_Timpl_Stats (rds_bor g66 w1 hw1) (rds_bor g67 w1 hw1)))) tt2 <| oP rfl <| nQ <| cI H rfl (fun H => ?_) (fun H => ?_)
     ·exact sR <| oP rfl <| nT <| x_qs_ret <| xr 4 rfl (by cases H; exact q1)
     ·refine c_skip <| x_qs <| c_seq <| sR <| ow_batch [.fa 70 5 7 fa70_5] rfl <| o1 rfl (r1 7 0 rfl ty3 rfl) <| ow_batch [.fa 70 5 7 fa70_5] rfl <| o1 rfl (r1 7 1 rfl ty3 rfl) <| oP rfl <| nQ <| cI H rfl (fun H => ?_) (fun H => ?_)
      ·exact sR <| oP rfl <| nT <| x_qs_ret <| xr 4 rfl (by cases H; exact q1)
      ·refine c_skip <| x_qs <| c_seq <| sR <| ow_batch [.fa 70 6 8 fa70_6] rfl <| o1 rfl (r1 8 0 rfl ty56 rfl) <| ow_batch [.fa 70 6 8 fa70_6] rfl <| o1 rfl (r1 8 1 rfl ty56 rfl) <| bE H fun y82 h83 H => oq rfl (qc rfl fn106 (fun w1 hw1 => laws_eqIntS_ok w1  h83 (rds_bor g26 w1 hw1) (rds_bor g58 w1 hw1))) tt2 <| oP rfl <| nQ <| cI H rfl (fun H => ?_) (fun H => ?_)
       ·exact sR <| oP rfl <| nT <| x_qs_ret <| xr 4 rfl (by cases H; exact q1)
       ·refine c_skip <| x_qs <| c_seq <| sR <| ow_batch [.fa 70 7 9 fa70_7] rfl <| o1 rfl (r1 9 0 rfl ty3 rfl) <| ow_batch [.fa 70 7 9 fa70_7] rfl <| o1 rfl (r1 9 1 rfl ty3 rfl) <| oP rfl <| nQ <| cI H rfl (fun H => ?_) (fun H => ?_)
        ·exact sR <| oP rfl <| nT <| x_qs_ret <| xr 4 rfl (by cases H; exact q1)
        ·refine c_skip <| x_qs <| c_seq <| sR <| ow_batch [.fa 70 8 10 fa70_8] rfl <| o1 rfl (r1 10 0 rfl ty3 rfl) <| ow_batch [.fa 70 8 10 fa70_8] rfl <| o1 rfl (r1 10 1 rfl ty3 rfl) <| oP rfl <| nQ <| cI H rfl (fun H => ?_) (fun H => ?_)
         ·exact sR <| oP rfl <| nT <| x_qs_ret <| xr 4 rfl (by cases H; exact q1)
         ·refine c_skip <| x_qs <| c_seq <| sR <| ow_batch [.fa 70 9 11 fa70_9] rfl <| o1 rfl (r1 11 0 rfl ty3 rfl) <| ow_batch [.fa 70 9 11 fa70_9] rfl <| o1 rfl (r1 11 1 rfl ty3 rfl) <| oP rfl <| nQ <| cI H rfl (fun H => ?_) (fun H => ?_)
          ·exact sR <| oP rfl <| nT <| x_qs_ret <| xr 4 rfl (by cases H; exact q1)
          ·exact c_skip <| x_qs <| sR <| oP rfl <| nT <| xr 4 rfl (by cases H; exact q1)
theorem laws_eqNodeS_ok (w : World) {p0 : List Timpl_Node} {p1 : List Timpl_Node} {a_0 : Option Addr} {n_0 c_0 : Nat} {a_1 : Option Addr} {n_1 c_1 : Nat} {r : Bool} (H : laws_eqNodeS p0 p1 = some r)  (g0 : (eList (eTimpl_Node) 70).rd w [] p0 [.slice a_0 n_0 c_0]) (g1 : (eList (eTimpl_Node) 70).rd w [] p1 [.slice a_1 n_1 c_1]) :
    Calls Tryz.prog 41 #[.slice a_0 n_0 c_0, .slice a_1 n_1 c_1] w (fun en w' => en = .returned (.bool r) ∧ Ext [] w w') := by
 obtain rfl := rd_n g0
 obtain rfl := rd_n g1
 unfold laws_eqNodeS at H
 refine f_enter Tryz.func41 rfl Tryz.ntmps41 rfl (St.init w []) <| sR <| oP rfl <| nQ <| c_seq <| sR <| ow_batch [.p, .lenS 42 70 sl42, .p, .lenS 42 70 sl42, .p] rfl <| nQ <| cI H rfl (fun H => ?_) (fun H => ?_)
 ·exact sR <| oP rfl <| nT <| x_qs_ret <| xr 4 rfl (by cases H; exact q1)
 ·refine c_skip <| x_qs <| c_seq <| sR <| oP rfl <| nQ <| c_block <| CW.at (loopI1 (fun (i89 : Int) => St w [] []) (fun i89 => [(0, .slice a_0 p0.length c_0), (1, .slice a_1 p1.length c_1), (5, .int .i64 i89)]) (fun kk => fun i89 => laws_eqNodeS_L1 p0 p1 kk i89 = some r) (fun _ H => ?_) (fun k1 ihk1 i89 H => ?_) Fuel (0) (H)) (fun _ h => St.sel [] rfl rfl h) ⟨rfl, rfl, rfl, trivial⟩
  ·unfold laws_eqNodeS_L1 at H
   exact absurd H (by simp)
  ·unfold laws_eqNodeS_L1 at H
   refine c_seq <| sR <| ow_batch [.p, .p, .lenS 42 70 sl42, .p] rfl <| nQ <| cI H rfl (fun H => ?_) (fun H => ?_)
   ·refine c_skip <| x_qs <| c_seq <| c_block <| c_seq <| c_regQ mixed (by kernel_rfl) <| oPP rfl <| bE H fun e169 h170 H => ow_ixB rfl rfl rfl rfl rfl sl42 ty70 rfl g0 h170 fun q173 c174 hd171 hA172 => ?_
    obtain ⟨c175, c176, c177, c178, c179, c180, c181, c182, c183, c184, rfl, g185, g186, g187, g188, g189, g190, g191, g192, g193, g194⟩ := rdo_Timpl_Node hd171
    obtain rfl := g185
    obtain rfl := g186
    obtain ⟨a195, c196, rfl⟩ := rd_sl1 g187
    obtain rfl := g188
    obtain ⟨c197, c198, rfl, g199, g200⟩ := rdo_Timpl_Stats g189
    obtain ⟨a201, c202, rfl⟩ := rd_sl1 g199
    obtain ⟨a203, c204, rfl⟩ := rd_sl1 g200
    obtain rfl := g190
    obtain ⟨a205, c206, rfl⟩ := rd_sl1 g191
    obtain rfl := g192
    obtain rfl := g193
    obtain rfl := g194
    refine o1 rfl (ry_load (cs := [.bool e169.Leaf_, .int .i64 e169.Fork_.Attr_, .int .i64 e169.Fork_.At_, .slice a195 e169.Kids_.length c196, .int .i64 e169.Miss_, .slice a201 e169.Stats_.Totals_.length c202, .slice a203 e169.Stats_.Cells_.length c204, .int .i64 e169.Since_, .slice a205 e169.Attrs_.length c206, .int .i64 e169.Depth_, .int .i64 e169.Up_, .int .i64 e169.Born_]) rfl rfl ty70 (at_bor bor hA172) rfl) <| oPP rfl <| bE H fun e207 h208 H => ow_ixB rfl rfl rfl rfl rfl sl42 ty70 rfl g1 h208 fun q211 c212 hd209 hA210 => ?_
    obtain ⟨c213, c214, c215, c216, c217, c218, c219, c220, c221, c222, rfl, g223, g224, g225, g226, g227, g228, g229, g230, g231, g232⟩ := rdo_Timpl_Node hd209
    obtain rfl := g223
    obtain rfl := g224
    obtain ⟨a233, c234, rfl⟩ := rd_sl1 g225
    obtain rfl := g226
    obtain ⟨c235, c236, rfl, g237, g238⟩ := rdo_Timpl_Stats g227
    obtain ⟨a239, c240, rfl⟩ := rd_sl1 g237
    obtain ⟨a241, c242, rfl⟩ := rd_sl1 g238
    obtain rfl := g228
    obtain ⟨a243, c244, rfl⟩ := rd_sl1 g229
    obtain rfl := g230
    obtain rfl := g231
    obtain rfl := g232
    refine o1 rfl (ry_load (cs := [.bool e207.Leaf_, .int .i64 e207.Fork_.Attr_, .int .i64 e207.Fork_.At_, .slice a233 e207.Kids_.length c234, .int .i64 e207.Miss_, .slice a239 e207.Stats_.Totals_.length c240, .slice a241 e207.Stats_.Cells_.length c242, .int .i64 e207.Since_, .slice a243 e207.Attrs_.length c244, .int .i64 e207.Depth_, .int .i64 e207.Up_, .int .i64 e207.Born_]) rfl rfl ty70 (at_bor bor hA210) rfl) <| bE H fun y245 h246 H => oq rfl (qc rfl fn71 (fun w1 hw1 => laws_eqNode_ok w1 h246 (rdm_Timpl_Node rfl rfl (rds_bor g187 w1 hw1) rfl (rdm_Timpl_Stats (rds_bor g199 w1 hw1) (rds_bor g200 w1 hw1)) rfl (rds_bor g191 w1 hw1) rfl rfl rfl) (rdm_Timpl_Node rfl rfl (rds_bor g225 w1 hw1) rfl (rdm_Timpl_Stats (rds_bor g237 w1 hw1) (rds_bor g238 w1 hw1)) rfl (rds_bor g229 w1 hw1) rfl rfl rfl))) tt2 <| oP rfl <| ow_nilQ <| x_qs <| cI H rfl (fun H => ?_) (fun H => ?_)
    ·exact sR <| oP rfl <| nT <| x_qb_ret <| x_qs_ret <| x_ql_ret <| x_qb_ret <| x_qs_ret <| xr 4 rfl (by cases H; exact q1)
    ·exact c_skip <| x_qb <| x_qs <| c_reg <| ow_batch [.p, .p, .p] rfl <| ow_nil <| x_ql (RW.at (ihk1 (IntKind.i64.wrap (i89 + 1)) (H)) (fun _ h => St.sel [] rfl rfl h) ⟨rfl, rfl, rfl, trivial⟩)
   ·exact c_exit <| x_qs_exit <| x_ql_exit <| x_qb_here <| x_qs <| sR <| oP rfl <| nT <| xr 4 rfl (by cases H; exact q1)
theorem laws_eqTree_ok (w : World) {p0 : Timpl_Tree} {p1 : Timpl_Tree} {cs0 : List Value} {cs1 : List Value} {r : Bool} (H : laws_eqTree p0 p1 = some r)  (g0 : (eTimpl_Tree).rd w [] p0 cs0) (g1 : (eTimpl_Tree).rd w [] p1 cs1) :
    Calls Tryz.prog 14 #[.agg cs0.toArray, .agg cs1.toArray] w (fun en w' => en = .returned (.bool r) ∧ Ext [] w w') := by
 obtain ⟨c10, c11, rfl, g12, g13⟩ := rdo_Timpl_Tree g0
 obtain ⟨a14, c15, rfl⟩ := rd_sl1 g12
 obtain rfl := g13
 obtain ⟨c16, c17, rfl, g18, g19⟩ := rdo_Timpl_Tree g1
 obtain ⟨a20, c21, rfl⟩ := rd_sl1 g18
 obtain rfl := g19
 unfold laws_eqTree at H
 refine f_enter Tryz.func14 rfl Tryz.ntmps14 rfl (St.init w []) <| sR <| ob _ rfl fun b22 => ob _ rfl fun b23 => oP rfl <| nQ <| c_seq <| sR <| ow_batch [.fa 44 0 0 fa44_0] rfl <| o1 rfl (r1 0 0 rfl ty42 rfl) <| ow_batch [.fa 44 0 0 fa44_0] rfl <| o1 rfl (r1 0 1 rfl ty42 rfl) <| bE H fun y24 h25 H => oq rfl (qc rfl fn41 (fun w1 hw1 => laws_eqNodeS_ok w1  h25 (rds_bor g12 w1 hw1) (rds_bor g18 w1 hw1))) tt2 <| oP rfl <| nQ <| cI H rfl (fun H => ?_) (fun H => ?_)
 ·exact sR <| oP rfl <| nT <| x_qs_ret <| xr 4 rfl (by cases H; exact q1)
 ·refine c_skip <| x_qs <| c_seq <| sR <| ow_batch [.fa 44 1 1 fa44_1] rfl <| o1 rfl (r1 1 0 rfl ty3 rfl) <| ow_batch [.fa 44 1 1 fa44_1] rfl <| o1 rfl (r1 1 1 rfl ty3 rfl) <| oP rfl <| nQ <| cI H rfl (fun H => ?_) (fun H => ?_)
  ·exact sR <| oP rfl <| nT <| x_qs_ret <| xr 4 rfl (by cases H; exact q1)
  ·exact c_skip <| x_qs <| sR <| oP rfl <| nT <| xr 4 rfl (by cases H; exact q1)
theorem laws_eqEx_ok (w : World) {p0 : Timpl_Ex} {p1 : Timpl_Ex} {cs0 : List Value} {cs1 : List Value} {r : Bool} (H : laws_eqEx p0 p1 = some r)  (g0 : (eTimpl_Ex).rd w [] p0 cs0) (g1 : (eTimpl_Ex).rd w [] p1 cs1) :
    Calls Tryz.prog 72 #[.agg cs0.toArray, .agg cs1.toArray] w (fun en w' => en = .returned (.bool r) ∧ Ext [] w w') := by
 obtain ⟨c10, c11, rfl, g12, g13⟩ := rdo_Timpl_Ex g0
 obtain ⟨a14, c15, rfl⟩ := rd_sl1 g12
 obtain rfl := g13
 obtain ⟨c16, c17, rfl, g18, g19⟩ := rdo_Timpl_Ex g1
 obtain ⟨a20, c21, rfl⟩ := rd_sl1 g18
 obtain rfl := g19
 unfold laws_eqEx at H
 refine f_enter Tryz.func72 rfl Tryz.ntmps72 rfl (St.init w []) <| sR <| ob _ rfl fun b22 => ob _ rfl fun b23 => oP rfl <| nQ <| c_seq <| sR <| ow_batch [.fa 81 0 0 fa81_0] rfl <| o1 rfl (r1 0 0 rfl ty56 rfl) <| ow_batch [.fa 81 0 0 fa81_0] rfl <| o1 rfl (r1 0 1 rfl ty56 rfl) <| bE H fun y24 h25 H => oq rfl (qc rfl fn106 (fun w1 hw1 => laws_eqIntS_ok w1  h25 (rds_bor g12 w1 hw1) (rds_bor g18 w1 hw1))) tt2 <| oP rfl <| nQ <| cI H rfl (fun H => ?_) (fun H => ?_)
 ·exact sR <| oP rfl <| nT <| x_qs_ret <| xr 4 rfl (by cases H; exact q1)
 ·refine c_skip <| x_qs <| c_seq <| sR <| ow_batch [.fa 81 1 1 fa81_1] rfl <| o1 rfl (r1 1 0 rfl ty3 rfl) <| ow_batch [.fa 81 1 1 fa81_1] rfl <| o1 rfl (r1 1 1 rfl ty3 rfl) <| oP rfl <| nQ <| cI H rfl (fun H => ?_) (fun H => ?_)
  ·exact sR <| oP rfl <| nT <| x_qs_ret <| xr 4 rfl (by cases H; exact q1)
  ·exact c_skip <| x_qs <| sR <| oP rfl <| nT <| xr 4 rfl (by cases H; exact q1)
theorem laws_eqEntry_ok (w : World) {p0 : Timpl_Entry} {p1 : Timpl_Entry} {cs0 : List Value} {cs1 : List Value} {r : Bool} (H : laws_eqEntry p0 p1 = some r)  (g0 : (eTimpl_Entry).rd w [] p0 cs0) (g1 : (eTimpl_Entry).rd w [] p1 cs1) :
    Calls Tryz.prog 42 #[.agg cs0.toArray, .agg cs1.toArray] w (fun en w' => en = .returned (.bool r) ∧ Ext [] w w') := by
 obtain ⟨c10, c11, rfl, g12, g13⟩ := rdo_Timpl_Entry g0
 obtain ⟨c14, c15, rfl, g16, g17⟩ := rdo_Timpl_Ex g12
 obtain ⟨a18, c19, rfl⟩ := rd_sl1 g16
 obtain rfl := g17
 obtain rfl := g13
 obtain ⟨c20, c21, rfl, g22, g23⟩ := rdo_Timpl_Entry g1
 obtain ⟨c24, c25, rfl, g26, g27⟩ := rdo_Timpl_Ex g22
 obtain ⟨a28, c29, rfl⟩ := rd_sl1 g26
 obtain rfl := g27
 obtain rfl := g23
 unfold laws_eqEntry at H
 refine f_enter Tryz.func42 rfl Tryz.ntmps42 rfl (St.init w []) <| sR <| ob _ rfl fun b30 => ob _ rfl fun b31 => oP rfl <| nQ <| c_seq <| sR <| ow_batch [.fa 83 0 0 fa83_0] rfl <| o1 rfl (rx 0 0 _ rfl ty81 rfl) <| ow_batch [.fa 83 0 0 fa83_0] rfl <| o1 rfl (rx 0 1 _ rfl ty81 rfl) <| bE H fun y32 h33 H => oq rfl (qc rfl fn72 (fun w1 hw1 => laws_eqEx_ok w1 h33 (rdm_Timpl_Ex (rds_bor g16 w1 hw1) rfl) (rdm_Timpl_Ex (rds_bor g26 w1 hw1) rfl))) tt2 <| oP rfl <| nQ <| cI H rfl (fun H => ?_) (fun H => ?_)
 ·exact sR <| oP rfl <| nT <| x_qs_ret <| xr 4 rfl (by cases H; exact q1)
 ·refine c_skip <| x_qs <| c_seq <| sR <| ow_batch [.fa 83 1 2 fa83_1] rfl <| o1 rfl (r1 2 0 rfl ty3 rfl) <| ow_batch [.fa 83 1 2 fa83_1] rfl <| o1 rfl (r1 2 1 rfl ty3 rfl) <| oP rfl <| nQ <| cI H rfl (fun H => ?_) (fun H => ?_)
  ·exact sR <| oP rfl <| nT <| x_qs_ret <| xr 4 rfl (by cases H; exact q1)
  ·exact c_skip <| x_qs <| sR <| oP rfl <| nT <| xr 4 rfl (by cases H; exact q1)
end Go.Vk
