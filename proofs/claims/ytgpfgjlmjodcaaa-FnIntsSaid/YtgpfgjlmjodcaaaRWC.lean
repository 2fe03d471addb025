/- The code does what the functions of data say. Printed by program. -/

import Derived.Test.YtgpfgjlmjodcaaaRWB

namespace Go.Vk

open Go.Proofs Go.RowKit



set_option maxHeartbeats 4000000 in
set_option maxRecDepth 100000 in
theorem laws_heldNodeS_ok (w : World) {p0 : List Timpl_Node} {p1 : Int} {a_0 : Option Addr} {n_0 c_0 : Nat} {r : Int} (H : laws_heldNodeS p0 p1 = some r)  (g0 : (eList (eTimpl_Node) 91).rd w [] p0 [.slice a_0 n_0 c_0]) :
    Calls Try.prog 71 #[.slice a_0 n_0 c_0, .int .i64 p1] w (fun en w' => en = .returned (.int .i64 r) ∧ Ext [] w w') := by
  obtain rfl := rd_n g0
  unfold laws_heldNodeS at H
  refine f_enter (vs := [.slice a_0 p0.length c_0, .int .i64 p1]) Try.func71 rfl Try.ntmps71 rfl (St.init w []) ?_
  refine c_seq ?_
  refine c_reg ?_
  refine ow_batch [.p] rfl ?_
  refine ow_nil ?_
  refine x_qs ?_
  refine c_seq ?_
  refine c_seq ?_
  refine c_reg ?_
  refine ow_batch [.p] rfl ?_
  refine ow_nil ?_
  refine x_qs ?_
  refine c_block ?_
  refine CW.at (loopI2 (fun (i467 : Int) (i468 : Int) => St w [] []) (fun (i467 : Int) (i468 : Int) => [(0, .slice a_0 p0.length c_0), (1, .int .i64 i467), (5, .int .i64 i468)]) (fun kk => fun (i467 : Int) (i468 : Int) => laws_heldNodeS_L1 p0 kk i467 i468 = some r) (fun _ _ H => ?_) (fun k1 ihk1 i467 i468 H => ?_) Fuel (p1) (0) (H)) (fun _ h => St.sel [] rfl rfl h) ⟨rfl, rfl, rfl,  trivial⟩
  · unfold laws_heldNodeS_L1 at H
    exact absurd H (by simp)
  · unfold laws_heldNodeS_L1 at H
    refine c_seq ?_
    refine c_seq ?_
    refine c_reg ?_
    refine ow_batch [.p, .p, .lenS 52 91 sl52, .p] rfl ?_
    refine ow_nil ?_
    refine x_qs ?_
    refine c_if rfl (fun hb => ?_) (fun hb => ?_)
    · have H := of_if_t hb H
      refine c_skip ?_
      refine x_qs ?_
      refine c_seq ?_
      refine c_block ?_
      refine c_seq ?_
      refine c_seq ?_
      refine c_reg ?_
      refine ow_batch [.p, .p] rfl ?_
      obtain ⟨e935, h936, H⟩ := of_bind H
      refine ow_ixB rfl rfl rfl rfl rfl sl52 ty91 rfl g0 h936 (fun q939 c940 hd937 hA938 => ?_)
      obtain ⟨c941, c942, c943, c944, c945, c946, c947, c948, c949, c950, rfl, g951, g952, g953, g954, g955, g956, g957, g958, g959, g960⟩ := rdo_Timpl_Node hd937
      obtain rfl : c941 = [.bool e935.Leaf_] := g951
      obtain rfl : c942 = [.int .i64 e935.Fork_.Attr_, .int .i64 e935.Fork_.At_] := g952
      obtain ⟨a961, c962, rfl⟩ := rd_sl1 g953
      obtain rfl : c944 = [.int .i64 e935.Miss_] := g954
      obtain ⟨c963, c964, rfl, g965, g966⟩ := rdo_Timpl_Stats g955
      obtain ⟨a967, c968, rfl⟩ := rd_sl1 g965
      obtain ⟨a969, c970, rfl⟩ := rd_sl1 g966
      obtain rfl : c946 = [.int .i64 e935.Since_] := g956
      obtain ⟨a971, c972, rfl⟩ := rd_sl1 g957
      obtain rfl : c948 = [.int .i64 e935.Depth_] := g958
      obtain rfl : c949 = [.int .i64 e935.Up_] := g959
      obtain rfl : c950 = [.int .i64 e935.Born_] := g960
      refine ow_batch [.fa 91 0 0 fa91_0] rfl ?_
      refine ow_r rfl (dstOk_lt rfl) (ry_load1 rfl rfl ty4 (at_bor bor (at_K hA938 0 1))) ?_
      refine ow_batch [.p, .p, .p] rfl ?_
      refine ow_r rfl (dstOk_lt rfl) (ry_bneq rfl rfl rfl bl4) ?_
      refine ow_nil ?_
      refine x_qs ?_
      refine c_if rfl (fun hb => ?_) (fun hb => ?_)
      · have H := of_if_t hb H
        refine c_seq ?_
        refine c_reg ?_
        refine ow_batch [.p] rfl ?_
        refine ow_nil ?_
        refine x_qs ?_
        refine c_ret ?_
        refine x_qs_ret ?_
        refine x_qb_ret ?_
        refine x_qs_ret ?_
        refine x_ql_ret ?_
        refine x_qb_ret ?_
        refine x_qs_ret ?_
        exact x_retR (rs := [.tmp 4]) (vs := [.int .i64 (-1)]) rfl ⟨rfl, trivial⟩ (fun w' hw' => by
            obtain rfl := of_some H
            exact ⟨rfl, hw'.ext⟩)
      · have H := of_if_f hb H
        refine c_skip ?_
        refine x_qs ?_
        refine c_seq ?_
        refine c_reg ?_
        refine ow_batch [.p, .p, .p] rfl ?_
        refine ow_nil ?_
        refine x_qs ?_
        refine c_seq ?_
        refine c_seq ?_
        refine c_reg ?_
        refine ow_batch [.p, .p] rfl ?_
        obtain ⟨e973, h974, H⟩ := of_bind H
        refine ow_ixB rfl rfl rfl rfl rfl sl52 ty91 rfl g0 h974 (fun q977 c978 hd975 hA976 => ?_)
        obtain ⟨c979, c980, c981, c982, c983, c984, c985, c986, c987, c988, rfl, g989, g990, g991, g992, g993, g994, g995, g996, g997, g998⟩ := rdo_Timpl_Node hd975
        obtain rfl : c979 = [.bool e973.Leaf_] := g989
        obtain rfl : c980 = [.int .i64 e973.Fork_.Attr_, .int .i64 e973.Fork_.At_] := g990
        obtain ⟨a999, c1000, rfl⟩ := rd_sl1 g991
        obtain rfl : c982 = [.int .i64 e973.Miss_] := g992
        obtain ⟨c1001, c1002, rfl, g1003, g1004⟩ := rdo_Timpl_Stats g993
        obtain ⟨a1005, c1006, rfl⟩ := rd_sl1 g1003
        obtain ⟨a1007, c1008, rfl⟩ := rd_sl1 g1004
        obtain rfl : c984 = [.int .i64 e973.Since_] := g994
        obtain ⟨a1009, c1010, rfl⟩ := rd_sl1 g995
        obtain rfl : c986 = [.int .i64 e973.Depth_] := g996
        obtain rfl : c987 = [.int .i64 e973.Up_] := g997
        obtain rfl : c988 = [.int .i64 e973.Born_] := g998
        refine ow_batch [.fa 91 1 1 fa91_1, .fa 87 0 0 fa87_0] rfl ?_
        refine ow_r rfl (dstOk_lt rfl) (ry_load1 rfl rfl ty3 (at_bor bor (at_K (at_K hA976 1 2) 0 1))) ?_
        refine ow_batch [.p, .p] rfl ?_
        refine ow_nil ?_
        refine x_qs ?_
        refine c_if rfl (fun hb => ?_) (fun hb => ?_)
        · have H := of_if_t hb H
          refine c_seq ?_
          refine c_reg ?_
          refine ow_batch [.p] rfl ?_
          refine ow_nil ?_
          refine x_qs ?_
          refine c_ret ?_
          refine x_qs_ret ?_
          refine x_qb_ret ?_
          refine x_qs_ret ?_
          refine x_ql_ret ?_
          refine x_qb_ret ?_
          refine x_qs_ret ?_
          exact x_retR (rs := [.tmp 4]) (vs := [.int .i64 (-1)]) rfl ⟨rfl, trivial⟩ (fun w' hw' => by
              obtain rfl := of_some H
              exact ⟨rfl, hw'.ext⟩)
        · have H := of_if_f hb H
          refine c_skip ?_
          refine x_qs ?_
          refine c_seq ?_
          refine c_reg ?_
          refine ow_batch [.p, .p, .p] rfl ?_
          refine ow_nil ?_
          refine x_qs ?_
          refine c_seq ?_
          refine c_seq ?_
          refine c_reg ?_
          refine ow_batch [.p, .p] rfl ?_
          obtain ⟨e1011, h1012, H⟩ := of_bind H
          refine ow_ixB rfl rfl rfl rfl rfl sl52 ty91 rfl g0 h1012 (fun q1015 c1016 hd1013 hA1014 => ?_)
          obtain ⟨c1017, c1018, c1019, c1020, c1021, c1022, c1023, c1024, c1025, c1026, rfl, g1027, g1028, g1029, g1030, g1031, g1032, g1033, g1034, g1035, g1036⟩ := rdo_Timpl_Node hd1013
          obtain rfl : c1017 = [.bool e1011.Leaf_] := g1027
          obtain rfl : c1018 = [.int .i64 e1011.Fork_.Attr_, .int .i64 e1011.Fork_.At_] := g1028
          obtain ⟨a1037, c1038, rfl⟩ := rd_sl1 g1029
          obtain rfl : c1020 = [.int .i64 e1011.Miss_] := g1030
          obtain ⟨c1039, c1040, rfl, g1041, g1042⟩ := rdo_Timpl_Stats g1031
          obtain ⟨a1043, c1044, rfl⟩ := rd_sl1 g1041
          obtain ⟨a1045, c1046, rfl⟩ := rd_sl1 g1042
          obtain rfl : c1022 = [.int .i64 e1011.Since_] := g1032
          obtain ⟨a1047, c1048, rfl⟩ := rd_sl1 g1033
          obtain rfl : c1024 = [.int .i64 e1011.Depth_] := g1034
          obtain rfl : c1025 = [.int .i64 e1011.Up_] := g1035
          obtain rfl : c1026 = [.int .i64 e1011.Born_] := g1036
          refine ow_batch [.fa 91 1 1 fa91_1, .fa 87 1 1 fa87_1] rfl ?_
          refine ow_r rfl (dstOk_lt rfl) (ry_load1 rfl rfl ty3 (at_bor bor (at_K (at_K hA1014 1 2) 1 1))) ?_
          refine ow_batch [.p, .p] rfl ?_
          refine ow_nil ?_
          refine x_qs ?_
          refine c_if rfl (fun hb => ?_) (fun hb => ?_)
          · have H := of_if_t hb H
            refine c_seq ?_
            refine c_reg ?_
            refine ow_batch [.p] rfl ?_
            refine ow_nil ?_
            refine x_qs ?_
            refine c_ret ?_
            refine x_qs_ret ?_
            refine x_qb_ret ?_
            refine x_qs_ret ?_
            refine x_ql_ret ?_
            refine x_qb_ret ?_
            refine x_qs_ret ?_
            exact x_retR (rs := [.tmp 4]) (vs := [.int .i64 (-1)]) rfl ⟨rfl, trivial⟩ (fun w' hw' => by
                obtain rfl := of_some H
                exact ⟨rfl, hw'.ext⟩)
          · have H := of_if_f hb H
            refine c_skip ?_
            refine x_qs ?_
            refine c_seq ?_
            refine c_reg ?_
            refine ow_batch [.p, .p, .p] rfl ?_
            refine ow_nil ?_
            refine x_qs ?_
            refine c_seq ?_
            refine c_reg ?_
            refine ow_batch [.p, .p] rfl ?_
            obtain ⟨e1049, h1050, H⟩ := of_bind H
            refine ow_ixB rfl rfl rfl rfl rfl sl52 ty91 rfl g0 h1050 (fun q1053 c1054 hd1051 hA1052 => ?_)
            obtain ⟨c1055, c1056, c1057, c1058, c1059, c1060, c1061, c1062, c1063, c1064, rfl, g1065, g1066, g1067, g1068, g1069, g1070, g1071, g1072, g1073, g1074⟩ := rdo_Timpl_Node hd1051
            obtain rfl : c1055 = [.bool e1049.Leaf_] := g1065
            obtain rfl : c1056 = [.int .i64 e1049.Fork_.Attr_, .int .i64 e1049.Fork_.At_] := g1066
            obtain ⟨a1075, c1076, rfl⟩ := rd_sl1 g1067
            obtain rfl : c1058 = [.int .i64 e1049.Miss_] := g1068
            obtain ⟨c1077, c1078, rfl, g1079, g1080⟩ := rdo_Timpl_Stats g1069
            obtain ⟨a1081, c1082, rfl⟩ := rd_sl1 g1079
            obtain ⟨a1083, c1084, rfl⟩ := rd_sl1 g1080
            obtain rfl : c1060 = [.int .i64 e1049.Since_] := g1070
            obtain ⟨a1085, c1086, rfl⟩ := rd_sl1 g1071
            obtain rfl : c1062 = [.int .i64 e1049.Depth_] := g1072
            obtain rfl : c1063 = [.int .i64 e1049.Up_] := g1073
            obtain rfl : c1064 = [.int .i64 e1049.Born_] := g1074
            refine ow_batch [.fa 91 2 3 fa91_2] rfl ?_
            refine ow_r rfl (dstOk_lt rfl) (ry_load1 rfl rfl ty22 (at_bor bor (at_K hA1052 3 1))) ?_
            refine ow_batch [.p] rfl ?_
            obtain ⟨y1087, h1088, H⟩ := of_bind H
            refine ow_q rfl rfl (dstOk_lt rfl) (qy_call rfl fn21 rfl (fun w1 hw1 => laws_heldIntS_ok w1  h1088 (rds_bor g1067 w1 hw1))) (fun _ _ => trivial) ?_
            refine ow_batch [.p] rfl ?_
            refine ow_nil ?_
            refine x_qs ?_
            refine c_seq ?_
            refine c_seq ?_
            refine c_reg ?_
            refine ow_batch [.p, .p] rfl ?_
            refine ow_nil ?_
            refine x_qs ?_
            refine c_if rfl (fun hb => ?_) (fun hb => ?_)
            · have H := of_if_t hb H
              refine c_seq ?_
              refine c_reg ?_
              refine ow_batch [.p] rfl ?_
              refine ow_nil ?_
              refine x_qs ?_
              refine c_ret ?_
              refine x_qs_ret ?_
              refine x_qb_ret ?_
              refine x_qs_ret ?_
              refine x_ql_ret ?_
              refine x_qb_ret ?_
              refine x_qs_ret ?_
              exact x_retR (rs := [.tmp 4]) (vs := [.int .i64 (-1)]) rfl ⟨rfl, trivial⟩ (fun w' hw' => by
                  obtain rfl := of_some H
                  exact ⟨rfl, hw'.ext⟩)
            · have H := of_if_f hb H
              refine c_skip ?_
              refine x_qs ?_
              refine c_seq ?_
              refine c_seq ?_
              refine c_reg ?_
              refine ow_batch [.p, .p] rfl ?_
              obtain ⟨e1089, h1090, H⟩ := of_bind H
              refine ow_ixB rfl rfl rfl rfl rfl sl52 ty91 rfl g0 h1090 (fun q1093 c1094 hd1091 hA1092 => ?_)
              obtain ⟨c1095, c1096, c1097, c1098, c1099, c1100, c1101, c1102, c1103, c1104, rfl, g1105, g1106, g1107, g1108, g1109, g1110, g1111, g1112, g1113, g1114⟩ := rdo_Timpl_Node hd1091
              obtain rfl : c1095 = [.bool e1089.Leaf_] := g1105
              obtain rfl : c1096 = [.int .i64 e1089.Fork_.Attr_, .int .i64 e1089.Fork_.At_] := g1106
              obtain ⟨a1115, c1116, rfl⟩ := rd_sl1 g1107
              obtain rfl : c1098 = [.int .i64 e1089.Miss_] := g1108
              obtain ⟨c1117, c1118, rfl, g1119, g1120⟩ := rdo_Timpl_Stats g1109
              obtain ⟨a1121, c1122, rfl⟩ := rd_sl1 g1119
              obtain ⟨a1123, c1124, rfl⟩ := rd_sl1 g1120
              obtain rfl : c1100 = [.int .i64 e1089.Since_] := g1110
              obtain ⟨a1125, c1126, rfl⟩ := rd_sl1 g1111
              obtain rfl : c1102 = [.int .i64 e1089.Depth_] := g1112
              obtain rfl : c1103 = [.int .i64 e1089.Up_] := g1113
              obtain rfl : c1104 = [.int .i64 e1089.Born_] := g1114
              refine ow_batch [.fa 91 3 4 fa91_3] rfl ?_
              refine ow_r rfl (dstOk_lt rfl) (ry_load1 rfl rfl ty3 (at_bor bor (at_K hA1092 4 1))) ?_
              refine ow_batch [.p, .p] rfl ?_
              refine ow_nil ?_
              refine x_qs ?_
              refine c_if rfl (fun hb => ?_) (fun hb => ?_)
              · have H := of_if_t hb H
                refine c_seq ?_
                refine c_reg ?_
                refine ow_batch [.p] rfl ?_
                refine ow_nil ?_
                refine x_qs ?_
                refine c_ret ?_
                refine x_qs_ret ?_
                refine x_qb_ret ?_
                refine x_qs_ret ?_
                refine x_ql_ret ?_
                refine x_qb_ret ?_
                refine x_qs_ret ?_
                exact x_retR (rs := [.tmp 4]) (vs := [.int .i64 (-1)]) rfl ⟨rfl, trivial⟩ (fun w' hw' => by
                    obtain rfl := of_some H
                    exact ⟨rfl, hw'.ext⟩)
              · have H := of_if_f hb H
                refine c_skip ?_
                refine x_qs ?_
                refine c_seq ?_
                refine c_reg ?_
                refine ow_batch [.p, .p, .p] rfl ?_
                refine ow_nil ?_
                refine x_qs ?_
                refine c_seq ?_
                refine c_reg ?_
                refine ow_batch [.p, .p] rfl ?_
                obtain ⟨e1127, h1128, H⟩ := of_bind H
                refine ow_ixB rfl rfl rfl rfl rfl sl52 ty91 rfl g0 h1128 (fun q1131 c1132 hd1129 hA1130 => ?_)
                obtain ⟨c1133, c1134, c1135, c1136, c1137, c1138, c1139, c1140, c1141, c1142, rfl, g1143, g1144, g1145, g1146, g1147, g1148, g1149, g1150, g1151, g1152⟩ := rdo_Timpl_Node hd1129
                obtain rfl : c1133 = [.bool e1127.Leaf_] := g1143
                obtain rfl : c1134 = [.int .i64 e1127.Fork_.Attr_, .int .i64 e1127.Fork_.At_] := g1144
                obtain ⟨a1153, c1154, rfl⟩ := rd_sl1 g1145
                obtain rfl : c1136 = [.int .i64 e1127.Miss_] := g1146
                obtain ⟨c1155, c1156, rfl, g1157, g1158⟩ := rdo_Timpl_Stats g1147
                obtain ⟨a1159, c1160, rfl⟩ := rd_sl1 g1157
                obtain ⟨a1161, c1162, rfl⟩ := rd_sl1 g1158
                obtain rfl : c1138 = [.int .i64 e1127.Since_] := g1148
                obtain ⟨a1163, c1164, rfl⟩ := rd_sl1 g1149
                obtain rfl : c1140 = [.int .i64 e1127.Depth_] := g1150
                obtain rfl : c1141 = [.int .i64 e1127.Up_] := g1151
                obtain rfl : c1142 = [.int .i64 e1127.Born_] := g1152
                refine ow_batch [.fa 91 4 5 fa91_4, .fa 89 0 0 fa89_0] rfl ?_
                refine ow_r rfl (dstOk_lt rfl) (ry_load1 rfl rfl ty22 (at_bor bor (at_K (at_K hA1130 5 2) 0 1))) ?_
                refine ow_batch [.p] rfl ?_
                obtain ⟨y1165, h1166, H⟩ := of_bind H
                refine ow_q rfl rfl (dstOk_lt rfl) (qy_call rfl fn21 rfl (fun w1 hw1 => laws_heldIntS_ok w1  h1166 (rds_bor g1157 w1 hw1))) (fun _ _ => trivial) ?_
                refine ow_batch [.p] rfl ?_
                refine ow_nil ?_
                refine x_qs ?_
                refine c_seq ?_
                refine c_seq ?_
                refine c_reg ?_
                refine ow_batch [.p, .p] rfl ?_
                refine ow_nil ?_
                refine x_qs ?_
                refine c_if rfl (fun hb => ?_) (fun hb => ?_)
                · have H := of_if_t hb H
                  refine c_seq ?_
                  refine c_reg ?_
                  refine ow_batch [.p] rfl ?_
                  refine ow_nil ?_
                  refine x_qs ?_
                  refine c_ret ?_
                  refine x_qs_ret ?_
                  refine x_qb_ret ?_
                  refine x_qs_ret ?_
                  refine x_ql_ret ?_
                  refine x_qb_ret ?_
                  refine x_qs_ret ?_
                  exact x_retR (rs := [.tmp 4]) (vs := [.int .i64 (-1)]) rfl ⟨rfl, trivial⟩ (fun w' hw' => by
                      obtain rfl := of_some H
                      exact ⟨rfl, hw'.ext⟩)
                · have H := of_if_f hb H
                  refine c_skip ?_
                  refine x_qs ?_
                  refine c_seq ?_
                  refine c_reg ?_
                  refine ow_batch [.p, .p] rfl ?_
                  obtain ⟨e1167, h1168, H⟩ := of_bind H
                  refine ow_ixB rfl rfl rfl rfl rfl sl52 ty91 rfl g0 h1168 (fun q1171 c1172 hd1169 hA1170 => ?_)
                  obtain ⟨c1173, c1174, c1175, c1176, c1177, c1178, c1179, c1180, c1181, c1182, rfl, g1183, g1184, g1185, g1186, g1187, g1188, g1189, g1190, g1191, g1192⟩ := rdo_Timpl_Node hd1169
                  obtain rfl : c1173 = [.bool e1167.Leaf_] := g1183
                  obtain rfl : c1174 = [.int .i64 e1167.Fork_.Attr_, .int .i64 e1167.Fork_.At_] := g1184
                  obtain ⟨a1193, c1194, rfl⟩ := rd_sl1 g1185
                  obtain rfl : c1176 = [.int .i64 e1167.Miss_] := g1186
                  obtain ⟨c1195, c1196, rfl, g1197, g1198⟩ := rdo_Timpl_Stats g1187
                  obtain ⟨a1199, c1200, rfl⟩ := rd_sl1 g1197
                  obtain ⟨a1201, c1202, rfl⟩ := rd_sl1 g1198
                  obtain rfl : c1178 = [.int .i64 e1167.Since_] := g1188
                  obtain ⟨a1203, c1204, rfl⟩ := rd_sl1 g1189
                  obtain rfl : c1180 = [.int .i64 e1167.Depth_] := g1190
                  obtain rfl : c1181 = [.int .i64 e1167.Up_] := g1191
                  obtain rfl : c1182 = [.int .i64 e1167.Born_] := g1192
                  refine ow_batch [.fa 91 4 5 fa91_4, .fa 89 1 1 fa89_1] rfl ?_
                  refine ow_r rfl (dstOk_lt rfl) (ry_load1 rfl rfl ty35 (at_bor bor (at_K (at_K hA1170 5 2) 1 1))) ?_
                  refine ow_batch [.p] rfl ?_
                  obtain ⟨y1205, h1206, H⟩ := of_bind H
                  refine ow_q rfl rfl (dstOk_lt rfl) (qy_call rfl fn60 rfl (fun w1 hw1 => laws_heldIntSS_ok w1  h1206 (rds_bor g1198 w1 hw1))) (fun _ _ => trivial) ?_
                  refine ow_batch [.p] rfl ?_
                  refine ow_nil ?_
                  refine x_qs ?_
                  refine c_seq ?_
                  refine c_seq ?_
                  refine c_reg ?_
                  refine ow_batch [.p, .p] rfl ?_
                  refine ow_nil ?_
                  refine x_qs ?_
                  refine c_if rfl (fun hb => ?_) (fun hb => ?_)
                  · have H := of_if_t hb H
                    refine c_seq ?_
                    refine c_reg ?_
                    refine ow_batch [.p] rfl ?_
                    refine ow_nil ?_
                    refine x_qs ?_
                    refine c_ret ?_
                    refine x_qs_ret ?_
                    refine x_qb_ret ?_
                    refine x_qs_ret ?_
                    refine x_ql_ret ?_
                    refine x_qb_ret ?_
                    refine x_qs_ret ?_
                    exact x_retR (rs := [.tmp 4]) (vs := [.int .i64 (-1)]) rfl ⟨rfl, trivial⟩ (fun w' hw' => by
                        obtain rfl := of_some H
                        exact ⟨rfl, hw'.ext⟩)
                  · have H := of_if_f hb H
                    refine c_skip ?_
                    refine x_qs ?_
                    refine c_seq ?_
                    refine c_seq ?_
                    refine c_reg ?_
                    refine ow_batch [.p, .p] rfl ?_
                    obtain ⟨e1207, h1208, H⟩ := of_bind H
                    refine ow_ixB rfl rfl rfl rfl rfl sl52 ty91 rfl g0 h1208 (fun q1211 c1212 hd1209 hA1210 => ?_)
                    obtain ⟨c1213, c1214, c1215, c1216, c1217, c1218, c1219, c1220, c1221, c1222, rfl, g1223, g1224, g1225, g1226, g1227, g1228, g1229, g1230, g1231, g1232⟩ := rdo_Timpl_Node hd1209
                    obtain rfl : c1213 = [.bool e1207.Leaf_] := g1223
                    obtain rfl : c1214 = [.int .i64 e1207.Fork_.Attr_, .int .i64 e1207.Fork_.At_] := g1224
                    obtain ⟨a1233, c1234, rfl⟩ := rd_sl1 g1225
                    obtain rfl : c1216 = [.int .i64 e1207.Miss_] := g1226
                    obtain ⟨c1235, c1236, rfl, g1237, g1238⟩ := rdo_Timpl_Stats g1227
                    obtain ⟨a1239, c1240, rfl⟩ := rd_sl1 g1237
                    obtain ⟨a1241, c1242, rfl⟩ := rd_sl1 g1238
                    obtain rfl : c1218 = [.int .i64 e1207.Since_] := g1228
                    obtain ⟨a1243, c1244, rfl⟩ := rd_sl1 g1229
                    obtain rfl : c1220 = [.int .i64 e1207.Depth_] := g1230
                    obtain rfl : c1221 = [.int .i64 e1207.Up_] := g1231
                    obtain rfl : c1222 = [.int .i64 e1207.Born_] := g1232
                    refine ow_batch [.fa 91 5 7 fa91_5] rfl ?_
                    refine ow_r rfl (dstOk_lt rfl) (ry_load1 rfl rfl ty3 (at_bor bor (at_K hA1210 7 1))) ?_
                    refine ow_batch [.p, .p] rfl ?_
                    refine ow_nil ?_
                    refine x_qs ?_
                    refine c_if rfl (fun hb => ?_) (fun hb => ?_)
                    · have H := of_if_t hb H
                      refine c_seq ?_
                      refine c_reg ?_
                      refine ow_batch [.p] rfl ?_
                      refine ow_nil ?_
                      refine x_qs ?_
                      refine c_ret ?_
                      refine x_qs_ret ?_
                      refine x_qb_ret ?_
                      refine x_qs_ret ?_
                      refine x_ql_ret ?_
                      refine x_qb_ret ?_
                      refine x_qs_ret ?_
                      exact x_retR (rs := [.tmp 4]) (vs := [.int .i64 (-1)]) rfl ⟨rfl, trivial⟩ (fun w' hw' => by
                          obtain rfl := of_some H
                          exact ⟨rfl, hw'.ext⟩)
                    · have H := of_if_f hb H
                      refine c_skip ?_
                      refine x_qs ?_
                      refine c_seq ?_
                      refine c_reg ?_
                      refine ow_batch [.p, .p, .p] rfl ?_
                      refine ow_nil ?_
                      refine x_qs ?_
                      refine c_seq ?_
                      refine c_reg ?_
                      refine ow_batch [.p, .p] rfl ?_
                      obtain ⟨e1245, h1246, H⟩ := of_bind H
                      refine ow_ixB rfl rfl rfl rfl rfl sl52 ty91 rfl g0 h1246 (fun q1249 c1250 hd1247 hA1248 => ?_)
                      obtain ⟨c1251, c1252, c1253, c1254, c1255, c1256, c1257, c1258, c1259, c1260, rfl, g1261, g1262, g1263, g1264, g1265, g1266, g1267, g1268, g1269, g1270⟩ := rdo_Timpl_Node hd1247
                      obtain rfl : c1251 = [.bool e1245.Leaf_] := g1261
                      obtain rfl : c1252 = [.int .i64 e1245.Fork_.Attr_, .int .i64 e1245.Fork_.At_] := g1262
                      obtain ⟨a1271, c1272, rfl⟩ := rd_sl1 g1263
                      obtain rfl : c1254 = [.int .i64 e1245.Miss_] := g1264
                      obtain ⟨c1273, c1274, rfl, g1275, g1276⟩ := rdo_Timpl_Stats g1265
                      obtain ⟨a1277, c1278, rfl⟩ := rd_sl1 g1275
                      obtain ⟨a1279, c1280, rfl⟩ := rd_sl1 g1276
                      obtain rfl : c1256 = [.int .i64 e1245.Since_] := g1266
                      obtain ⟨a1281, c1282, rfl⟩ := rd_sl1 g1267
                      obtain rfl : c1258 = [.int .i64 e1245.Depth_] := g1268
                      obtain rfl : c1259 = [.int .i64 e1245.Up_] := g1269
                      obtain rfl : c1260 = [.int .i64 e1245.Born_] := g1270
                      refine ow_batch [.fa 91 6 8 fa91_6] rfl ?_
                      refine ow_r rfl (dstOk_lt rfl) (ry_load1 rfl rfl ty22 (at_bor bor (at_K hA1248 8 1))) ?_
                      refine ow_batch [.p] rfl ?_
                      obtain ⟨y1283, h1284, H⟩ := of_bind H
                      refine ow_q rfl rfl (dstOk_lt rfl) (qy_call rfl fn21 rfl (fun w1 hw1 => laws_heldIntS_ok w1  h1284 (rds_bor g1267 w1 hw1))) (fun _ _ => trivial) ?_
                      refine ow_batch [.p] rfl ?_
                      refine ow_nil ?_
                      refine x_qs ?_
                      refine c_seq ?_
                      refine c_seq ?_
                      refine c_reg ?_
                      refine ow_batch [.p, .p] rfl ?_
                      refine ow_nil ?_
                      refine x_qs ?_
                      refine c_if rfl (fun hb => ?_) (fun hb => ?_)
                      · have H := of_if_t hb H
                        refine c_seq ?_
                        refine c_reg ?_
                        refine ow_batch [.p] rfl ?_
                        refine ow_nil ?_
                        refine x_qs ?_
                        refine c_ret ?_
                        refine x_qs_ret ?_
                        refine x_qb_ret ?_
                        refine x_qs_ret ?_
                        refine x_ql_ret ?_
                        refine x_qb_ret ?_
                        refine x_qs_ret ?_
                        exact x_retR (rs := [.tmp 4]) (vs := [.int .i64 (-1)]) rfl ⟨rfl, trivial⟩ (fun w' hw' => by
                            obtain rfl := of_some H
                            exact ⟨rfl, hw'.ext⟩)
                      · have H := of_if_f hb H
                        refine c_skip ?_
                        refine x_qs ?_
                        refine c_seq ?_
                        refine c_seq ?_
                        refine c_reg ?_
                        refine ow_batch [.p, .p] rfl ?_
                        obtain ⟨e1285, h1286, H⟩ := of_bind H
                        refine ow_ixB rfl rfl rfl rfl rfl sl52 ty91 rfl g0 h1286 (fun q1289 c1290 hd1287 hA1288 => ?_)
                        obtain ⟨c1291, c1292, c1293, c1294, c1295, c1296, c1297, c1298, c1299, c1300, rfl, g1301, g1302, g1303, g1304, g1305, g1306, g1307, g1308, g1309, g1310⟩ := rdo_Timpl_Node hd1287
                        obtain rfl : c1291 = [.bool e1285.Leaf_] := g1301
                        obtain rfl : c1292 = [.int .i64 e1285.Fork_.Attr_, .int .i64 e1285.Fork_.At_] := g1302
                        obtain ⟨a1311, c1312, rfl⟩ := rd_sl1 g1303
                        obtain rfl : c1294 = [.int .i64 e1285.Miss_] := g1304
                        obtain ⟨c1313, c1314, rfl, g1315, g1316⟩ := rdo_Timpl_Stats g1305
                        obtain ⟨a1317, c1318, rfl⟩ := rd_sl1 g1315
                        obtain ⟨a1319, c1320, rfl⟩ := rd_sl1 g1316
                        obtain rfl : c1296 = [.int .i64 e1285.Since_] := g1306
                        obtain ⟨a1321, c1322, rfl⟩ := rd_sl1 g1307
                        obtain rfl : c1298 = [.int .i64 e1285.Depth_] := g1308
                        obtain rfl : c1299 = [.int .i64 e1285.Up_] := g1309
                        obtain rfl : c1300 = [.int .i64 e1285.Born_] := g1310
                        refine ow_batch [.fa 91 7 9 fa91_7] rfl ?_
                        refine ow_r rfl (dstOk_lt rfl) (ry_load1 rfl rfl ty3 (at_bor bor (at_K hA1288 9 1))) ?_
                        refine ow_batch [.p, .p] rfl ?_
                        refine ow_nil ?_
                        refine x_qs ?_
                        refine c_if rfl (fun hb => ?_) (fun hb => ?_)
                        · have H := of_if_t hb H
                          refine c_seq ?_
                          refine c_reg ?_
                          refine ow_batch [.p] rfl ?_
                          refine ow_nil ?_
                          refine x_qs ?_
                          refine c_ret ?_
                          refine x_qs_ret ?_
                          refine x_qb_ret ?_
                          refine x_qs_ret ?_
                          refine x_ql_ret ?_
                          refine x_qb_ret ?_
                          refine x_qs_ret ?_
                          exact x_retR (rs := [.tmp 4]) (vs := [.int .i64 (-1)]) rfl ⟨rfl, trivial⟩ (fun w' hw' => by
                              obtain rfl := of_some H
                              exact ⟨rfl, hw'.ext⟩)
                        · have H := of_if_f hb H
                          refine c_skip ?_
                          refine x_qs ?_
                          refine c_seq ?_
                          refine c_reg ?_
                          refine ow_batch [.p, .p, .p] rfl ?_
                          refine ow_nil ?_
                          refine x_qs ?_
                          refine c_seq ?_
                          refine c_seq ?_
                          refine c_reg ?_
                          refine ow_batch [.p, .p] rfl ?_
                          obtain ⟨e1323, h1324, H⟩ := of_bind H
                          refine ow_ixB rfl rfl rfl rfl rfl sl52 ty91 rfl g0 h1324 (fun q1327 c1328 hd1325 hA1326 => ?_)
                          obtain ⟨c1329, c1330, c1331, c1332, c1333, c1334, c1335, c1336, c1337, c1338, rfl, g1339, g1340, g1341, g1342, g1343, g1344, g1345, g1346, g1347, g1348⟩ := rdo_Timpl_Node hd1325
                          obtain rfl : c1329 = [.bool e1323.Leaf_] := g1339
                          obtain rfl : c1330 = [.int .i64 e1323.Fork_.Attr_, .int .i64 e1323.Fork_.At_] := g1340
                          obtain ⟨a1349, c1350, rfl⟩ := rd_sl1 g1341
                          obtain rfl : c1332 = [.int .i64 e1323.Miss_] := g1342
                          obtain ⟨c1351, c1352, rfl, g1353, g1354⟩ := rdo_Timpl_Stats g1343
                          obtain ⟨a1355, c1356, rfl⟩ := rd_sl1 g1353
                          obtain ⟨a1357, c1358, rfl⟩ := rd_sl1 g1354
                          obtain rfl : c1334 = [.int .i64 e1323.Since_] := g1344
                          obtain ⟨a1359, c1360, rfl⟩ := rd_sl1 g1345
                          obtain rfl : c1336 = [.int .i64 e1323.Depth_] := g1346
                          obtain rfl : c1337 = [.int .i64 e1323.Up_] := g1347
                          obtain rfl : c1338 = [.int .i64 e1323.Born_] := g1348
                          refine ow_batch [.fa 91 8 10 fa91_8] rfl ?_
                          refine ow_r rfl (dstOk_lt rfl) (ry_load1 rfl rfl ty3 (at_bor bor (at_K hA1326 10 1))) ?_
                          refine ow_batch [.p, .p] rfl ?_
                          refine ow_nil ?_
                          refine x_qs ?_
                          refine c_if rfl (fun hb => ?_) (fun hb => ?_)
                          · have H := of_if_t hb H
                            refine c_seq ?_
                            refine c_reg ?_
                            refine ow_batch [.p] rfl ?_
                            refine ow_nil ?_
                            refine x_qs ?_
                            refine c_ret ?_
                            refine x_qs_ret ?_
                            refine x_qb_ret ?_
                            refine x_qs_ret ?_
                            refine x_ql_ret ?_
                            refine x_qb_ret ?_
                            refine x_qs_ret ?_
                            exact x_retR (rs := [.tmp 4]) (vs := [.int .i64 (-1)]) rfl ⟨rfl, trivial⟩ (fun w' hw' => by
                                obtain rfl := of_some H
                                exact ⟨rfl, hw'.ext⟩)
                          · have H := of_if_f hb H
                            refine c_skip ?_
                            refine x_qs ?_
                            refine c_seq ?_
                            refine c_reg ?_
                            refine ow_batch [.p, .p, .p] rfl ?_
                            refine ow_nil ?_
                            refine x_qs ?_
                            refine c_seq ?_
                            refine c_seq ?_
                            refine c_reg ?_
                            refine ow_batch [.p, .p] rfl ?_
                            obtain ⟨e1361, h1362, H⟩ := of_bind H
                            refine ow_ixB rfl rfl rfl rfl rfl sl52 ty91 rfl g0 h1362 (fun q1365 c1366 hd1363 hA1364 => ?_)
                            obtain ⟨c1367, c1368, c1369, c1370, c1371, c1372, c1373, c1374, c1375, c1376, rfl, g1377, g1378, g1379, g1380, g1381, g1382, g1383, g1384, g1385, g1386⟩ := rdo_Timpl_Node hd1363
                            obtain rfl : c1367 = [.bool e1361.Leaf_] := g1377
                            obtain rfl : c1368 = [.int .i64 e1361.Fork_.Attr_, .int .i64 e1361.Fork_.At_] := g1378
                            obtain ⟨a1387, c1388, rfl⟩ := rd_sl1 g1379
                            obtain rfl : c1370 = [.int .i64 e1361.Miss_] := g1380
                            obtain ⟨c1389, c1390, rfl, g1391, g1392⟩ := rdo_Timpl_Stats g1381
                            obtain ⟨a1393, c1394, rfl⟩ := rd_sl1 g1391
                            obtain ⟨a1395, c1396, rfl⟩ := rd_sl1 g1392
                            obtain rfl : c1372 = [.int .i64 e1361.Since_] := g1382
                            obtain ⟨a1397, c1398, rfl⟩ := rd_sl1 g1383
                            obtain rfl : c1374 = [.int .i64 e1361.Depth_] := g1384
                            obtain rfl : c1375 = [.int .i64 e1361.Up_] := g1385
                            obtain rfl : c1376 = [.int .i64 e1361.Born_] := g1386
                            refine ow_batch [.fa 91 9 11 fa91_9] rfl ?_
                            refine ow_r rfl (dstOk_lt rfl) (ry_load1 rfl rfl ty3 (at_bor bor (at_K hA1364 11 1))) ?_
                            refine ow_batch [.p, .p] rfl ?_
                            refine ow_nil ?_
                            refine x_qs ?_
                            refine c_if rfl (fun hb => ?_) (fun hb => ?_)
                            · have H := of_if_t hb H
                              refine c_seq ?_
                              refine c_reg ?_
                              refine ow_batch [.p] rfl ?_
                              refine ow_nil ?_
                              refine x_qs ?_
                              refine c_ret ?_
                              refine x_qs_ret ?_
                              refine x_qb_ret ?_
                              refine x_qs_ret ?_
                              refine x_ql_ret ?_
                              refine x_qb_ret ?_
                              refine x_qs_ret ?_
                              exact x_retR (rs := [.tmp 4]) (vs := [.int .i64 (-1)]) rfl ⟨rfl, trivial⟩ (fun w' hw' => by
                                  obtain rfl := of_some H
                                  exact ⟨rfl, hw'.ext⟩)
                            · have H := of_if_f hb H
                              refine c_skip ?_
                              refine x_qs ?_
                              refine c_reg ?_
                              refine ow_batch [.p, .p, .p] rfl ?_
                              refine ow_nil ?_
                              refine x_qb ?_
                              refine x_qs ?_
                              refine c_reg ?_
                              refine ow_batch [.p, .p, .p] rfl ?_
                              refine ow_nil ?_
                              exact x_ql (RW.at (ihk1 (IntKind.i64.wrap ((IntKind.i64.wrap ((IntKind.i64.wrap (y1283 + 1)) + 1)) + 1)) (IntKind.i64.wrap (i468 + 1)) (H)) (fun _ h => St.sel [] rfl rfl h) ⟨rfl, rfl, rfl, trivial⟩)
    · have H := of_if_f hb H
      refine c_exit ?_
      refine x_qs_exit ?_
      refine x_ql_exit ?_
      refine x_qb_here ?_
      refine x_qs ?_
      refine c_seq ?_
      refine c_reg ?_
      refine ow_batch [.p, .p] rfl ?_
      refine ow_nil ?_
      refine x_qs ?_
      refine c_ret ?_
      exact x_retR (rs := [.tmp 4]) (vs := [.int .i64 i467]) rfl ⟨rfl, trivial⟩ (fun w' hw' => by
          obtain rfl := of_some H
          exact ⟨rfl, hw'.ext⟩)

set_option maxHeartbeats 4000000 in
set_option maxRecDepth 100000 in
theorem laws_heldTree_ok (w : World) {p0 : Timpl_Tree} {p1 : Int} {cs0 : List Value} {r : Int} (H : laws_heldTree p0 p1 = some r)  (g0 : (eTimpl_Tree).rd w [] p0 cs0) :
    Calls Try.prog 39 #[.agg cs0.toArray, .int .i64 p1] w (fun en w' => en = .returned (.int .i64 r) ∧ Ext [] w w') := by
  obtain ⟨c1, c2, rfl, g3, g4⟩ := rdo_Timpl_Tree g0
  obtain ⟨a5, c6, rfl⟩ := rd_sl1 g3
  obtain rfl : c2 = [.int .i64 p0.Seen_] := g4
  unfold laws_heldTree at H
  refine f_enter (vs := [.agg #[.slice a5 p0.Nodes_.length c6, .int .i64 p0.Seen_], .int .i64 p1]) Try.func39 rfl Try.ntmps39 rfl (St.init w []) ?_
  refine c_seq ?_
  refine c_reg ?_
  refine ow_box (cs := [.slice a5 p0.Nodes_.length c6, .int .i64 p0.Seen_]) rfl rfl rfl rfl rfl rfl (fun _ => kp) (fun b7 => ?_)
  refine ow_batch [.p] rfl ?_
  refine ow_nil ?_
  refine x_qs ?_
  refine c_seq ?_
  refine c_reg ?_
  refine ow_batch [.fa 54 0 0 fa54_0] rfl ?_
  refine ow_r rfl (dstOk_lt rfl) (ry_box1 (off := 0) rfl rfl ty52 (boxIn (i := 0) rfl) rfl) ?_
  refine ow_batch [.p] rfl ?_
  obtain ⟨y8, h9, H⟩ := of_bind H
  refine ow_q rfl rfl (dstOk_lt rfl) (qy_call rfl fn71 rfl (fun w1 hw1 => laws_heldNodeS_ok w1  h9 (rds_bor g3 w1 hw1))) (fun _ _ => trivial) ?_
  refine ow_batch [.p] rfl ?_
  refine ow_nil ?_
  refine x_qs ?_
  refine c_seq ?_
  refine c_seq ?_
  refine c_reg ?_
  refine ow_batch [.p, .p] rfl ?_
  refine ow_nil ?_
  refine x_qs ?_
  refine c_if rfl (fun hb => ?_) (fun hb => ?_)
  · have H := of_if_t hb H
    refine c_seq ?_
    refine c_reg ?_
    refine ow_batch [.p] rfl ?_
    refine ow_nil ?_
    refine x_qs ?_
    refine c_ret ?_
    refine x_qs_ret ?_
    exact x_retR (rs := [.tmp 4]) (vs := [.int .i64 (-1)]) rfl ⟨rfl, trivial⟩ (fun w' hw' => by
        obtain rfl := of_some H
        exact ⟨rfl, hw'.ext⟩)
  · have H := of_if_f hb H
    refine c_skip ?_
    refine x_qs ?_
    refine c_seq ?_
    refine c_reg ?_
    refine ow_batch [.p, .p] rfl ?_
    refine ow_nil ?_
    refine x_qs ?_
    refine c_ret ?_
    exact x_retR (rs := [.tmp 4]) (vs := [.int .i64 y8]) rfl ⟨rfl, trivial⟩ (fun w' hw' => by
        obtain rfl := of_some H
        exact ⟨rfl, hw'.ext⟩)

set_option maxHeartbeats 4000000 in
set_option maxRecDepth 100000 in
theorem laws_FnExactGetTree_ok (w : World) {p0 : List Int} {p1 : Int} {a_0 : Option Addr} {n_0 c_0 : Nat} {r : Bool} (H : laws_FnExactGetTree p0 p1 = some r)  (g0 : (eList (eVal (Value.int .u8) (fun _ => rfl)) 5).rd w [] p0 [.slice a_0 n_0 c_0]) :
    Calls Try.prog 8 #[.slice a_0 n_0 c_0, .int .i64 p1] w (fun en w' => en = .returned (.bool r) ∧ Ext [] w w') := by
  obtain rfl := rd_n g0
  unfold laws_FnExactGetTree at H
  refine f_enter (vs := [.slice a_0 p0.length c_0, .int .i64 p1]) Try.func8 rfl Try.ntmps8 rfl (St.init w []) ?_
  refine c_seq ?_
  refine c_reg ?_
  refine ow_batch [.p] rfl ?_
  refine ow_nil ?_
  refine x_qs ?_
  refine c_seq ?_
  refine c_seq ?_
  refine c_reg ?_
  refine ow_batch [.p, .lenS 23 5 sl23, .p] rfl ?_
  refine ow_nil ?_
  refine x_qs ?_
  refine c_if rfl (fun hb => ?_) (fun hb => ?_)
  · have H := of_if_t hb H
    refine c_seq ?_
    refine c_reg ?_
    refine ow_batch [.p] rfl ?_
    refine ow_nil ?_
    refine x_qs ?_
    refine c_ret ?_
    refine x_qs_ret ?_
    exact x_retR (rs := [.tmp 4]) (vs := [.bool true]) rfl ⟨rfl, trivial⟩ (fun w' hw' => by
        obtain rfl := of_some H
        exact ⟨rfl, hw'.ext⟩)
  · have H := of_if_f hb H
    refine c_skip ?_
    refine x_qs ?_
    refine c_seq ?_
    refine c_reg ?_
    refine ow_batch [.p] rfl ?_
    obtain ⟨y1, h2, H⟩ := of_bind H
    refine ow_callS rfl fn19 rfl rfl rfl rfl (fun w1 hw1 => laws_toByteS_ok w1  h2 (hw1.carve [] rfl rfl) (rds_bor g0 w1 hw1)) (fun v3 w1 w2 hw1 hR5 => ?_)
    obtain ⟨a6, n7, c8, F9, rfl, hS4⟩ := hR5
    obtain rfl := own_nS (i := 0) hS4 rfl
    refine ⟨St w [] [_], hw1.comp [] rfl rfl hS4, fun _ _ => trivial, ?_⟩
    refine ow_batch [.p] rfl ?_
    obtain ⟨y10, h11, H⟩ := of_bind H
    refine ow_callS rfl fn37 rfl rfl rfl rfl (fun w1 hw1 => spec_GetTree_ok w1  h11 (hw1.carve [] rfl rfl) (rds_own (r := 0) rfl w1 hw1)) (fun v12 w1 w2 hw1 hR14 => ?_)
    obtain ⟨a15, n16, c17, F18, rfl, hS13⟩ := hR14
    obtain rfl := own_nS (i := 0) hS13 rfl
    refine ⟨St w [] [_, _], hw1.comp [] rfl rfl hS13, fun _ _ => trivial, ?_⟩
    refine ow_batch [.p, .p, .p, .p] rfl ?_
    refine ow_alloc rfl rfl rfl rfl ty54 (fun _ => kp) (fun b19 => ?_)
    refine ow_storeC (off := 0) [.slice a15 y10.1.Nodes_.length c17, .int .i64 y10.1.Seen_] [_, _] (i := 2) rfl rfl rfl rfl rfl rfl ty54 rfl rfl (by intro u hu; simp only [List.mem_cons, List.not_mem_nil, or_false] at hu; rcases hu with rfl | rfl <;> rfl) rfl rfl rfl kp ?_
    refine ow_batch [.p, .p] rfl ?_
    refine ow_nil ?_
    refine x_qs ?_
    refine c_seq ?_
    refine c_reg ?_
    refine ow_batch [.p] rfl ?_
    obtain ⟨y20, h21, H⟩ := of_bind H
    refine ow_callS rfl fn19 rfl rfl rfl rfl (fun w1 hw1 => laws_toByteS_ok w1  h21 (hw1.carve [] rfl rfl) (rds_bor g0 w1 hw1)) (fun v22 w1 w2 hw1 hR24 => ?_)
    obtain ⟨a25, n26, c27, F28, rfl, hS23⟩ := hR24
    obtain rfl := own_nS (i := 0) hS23 rfl
    refine ⟨St w [] [_, _, _, _], hw1.comp [] rfl rfl hS23, fun _ _ => trivial, ?_⟩
    refine ow_batch [.p] rfl ?_
    refine ow_nil ?_
    refine x_qs ?_
    refine c_seq ?_
    refine c_reg ?_
    refine ow_batch [.p, .p] rfl ?_
    obtain ⟨y29, h30, H⟩ := of_bind H
    refine ow_callS rfl fn38 rfl rfl rfl rfl (fun w1 hw1 => impl_GetTree_ok w1  h30 (hw1.carve [] rfl rfl) (rds_own (r := 3) rfl w1 hw1)) (fun v31 w1 w2 hw1 hR33 => ?_)
    obtain ⟨a34, n35, c36, F37, rfl, hS32⟩ := hR33
    obtain rfl := own_nS (i := 0) hS32 rfl
    refine ⟨St w [] [_, _, _, _, _], hw1.comp [] rfl rfl hS32, fun _ _ => trivial, ?_⟩
    refine ow_batch [.p, .p, .p, .p] rfl ?_
    refine ow_alloc rfl rfl rfl rfl ty54 (fun _ => kp) (fun b38 => ?_)
    refine ow_storeC (off := 0) [.slice a34 y29.1.Nodes_.length c36, .int .i64 y29.1.Seen_] [_, _] (i := 5) rfl rfl rfl rfl rfl rfl ty54 rfl rfl (by intro u hu; simp only [List.mem_cons, List.not_mem_nil, or_false] at hu; rcases hu with rfl | rfl <;> rfl) rfl rfl rfl kp ?_
    refine ow_batch [.p, .p] rfl ?_
    refine ow_nil ?_
    refine x_qs ?_
    refine c_seq ?_
    refine c_seq ?_
    refine c_reg ?_
    refine ow_r rfl (dstOk_lt rfl) (ry_box (off := 0) (ds := [.slice a34 y29.1.Nodes_.length c36, .int .i64 y29.1.Seen_]) rfl rfl ty54 (boxIn (i := 5) rfl) rfl rfl) ?_
    refine ow_r rfl (dstOk_lt rfl) (ry_box (off := 0) (ds := [.slice a15 y10.1.Nodes_.length c17, .int .i64 y10.1.Seen_]) rfl rfl ty54 (boxIn (i := 2) rfl) rfl rfl) ?_
    obtain ⟨y39, h40, H⟩ := of_bind H
    refine ow_q rfl rfl (dstOk_lt rfl) (qy_call rfl fn35 rfl (fun w1 hw1 => laws_eqTree_ok w1 (cs0 := [.slice a34 y29.1.Nodes_.length c36, .int .i64 y29.1.Seen_]) (cs1 := [.slice a15 y10.1.Nodes_.length c17, .int .i64 y10.1.Seen_]) h40 (rdm_Timpl_Tree (x := y29.1) (c0 := [.slice a34 y29.1.Nodes_.length c36]) (c1 := [.int .i64 y29.1.Seen_]) (rds_own (r := 4) rfl w1 hw1) rfl) (rdm_Timpl_Tree (x := y10.1) (c0 := [.slice a15 y10.1.Nodes_.length c17]) (c1 := [.int .i64 y10.1.Seen_]) (rds_own (r := 1) rfl w1 hw1) rfl))) (fun _ _ => trivial) ?_
    refine ow_batch [.p, .p] rfl ?_
    refine ow_cut [(46, .bool ((!y39) || (y29.2.1 != y10.2.1))), (0, .slice a_0 p0.length c_0), (1, .int .i64 p1), (5, .pointer (some ⟨b19, 0, none⟩)), (6, .int .i64 y10.2.1), (7, .bool y10.2.2), (8, .slice a25 y20.length c27), (9, .pointer (some ⟨b38, 0, none⟩)), (10, .int .i64 y29.2.1), (11, .bool y29.2.2)] 4 ?_ (fun key => OW.sub (R := [(0, .slice a_0 p0.length c_0), (1, .int .i64 p1), (5, .pointer (some ⟨b19, 0, none⟩)), (6, .int .i64 y10.2.1), (7, .bool y10.2.2), (8, .slice a25 y20.length c27), (9, .pointer (some ⟨b38, 0, none⟩)), (10, .int .i64 y29.2.1), (11, .bool y29.2.2), (42, .bool (!y39))]) ?_ ⟨rfl, rfl, rfl, rfl, rfl, rfl, rfl, rfl, rfl, rfl, trivial⟩)
    · refine ow_batch [.p] rfl ?_
      refine ow_cut [(51, .bool (((!y39) || (y29.2.1 != y10.2.1)) || (y29.2.2 != y10.2.2))), (0, .slice a_0 p0.length c_0), (1, .int .i64 p1), (5, .pointer (some ⟨b19, 0, none⟩)), (6, .int .i64 y10.2.1), (7, .bool y10.2.2), (8, .slice a25 y20.length c27), (9, .pointer (some ⟨b38, 0, none⟩)), (10, .int .i64 y29.2.1), (11, .bool y29.2.2)] 4 ?_ (fun key => OW.sub (R := [(0, .slice a_0 p0.length c_0), (1, .int .i64 p1), (5, .pointer (some ⟨b19, 0, none⟩)), (6, .int .i64 y10.2.1), (7, .bool y10.2.2), (8, .slice a25 y20.length c27), (9, .pointer (some ⟨b38, 0, none⟩)), (10, .int .i64 y29.2.1), (11, .bool y29.2.2), (47, .bool ((!y39) || (y29.2.1 != y10.2.1)))]) ?_ ⟨rfl, rfl, rfl, rfl, rfl, rfl, rfl, rfl, rfl, rfl, trivial⟩)
      · refine ow_nil ?_
        refine x_qs ?_
        refine c_if rfl (fun hb => ?_) (fun hb => ?_)
        · have H := of_if_t hb H
          refine c_seq ?_
          refine c_reg ?_
          refine ow_batch [.p] rfl ?_
          refine ow_nil ?_
          refine x_qs ?_
          refine c_ret ?_
          refine x_qs_ret ?_
          exact x_retR (rs := [.tmp 4]) (vs := [.bool false]) rfl ⟨rfl, trivial⟩ (fun w' hw' => by
              obtain rfl := of_some H
              exact ⟨rfl, hw'.ext⟩)
        · have H := of_if_f hb H
          refine c_skip ?_
          refine x_qs ?_
          refine c_seq ?_
          refine c_seq ?_
          refine c_reg ?_
          refine ow_batch [.p, .p] rfl ?_
          obtain ⟨y45, h46, H⟩ := of_bind H
          refine ow_callS rfl fn19 rfl rfl rfl rfl (fun w1 hw1 => laws_toByteS_ok w1  h46 (hw1.carve [] rfl rfl) (rds_bor g0 w1 hw1)) (fun v47 w1 w2 hw1 hR49 => ?_)
          obtain ⟨a50, n51, c52, F53, rfl, hS48⟩ := hR49
          obtain rfl := own_nS (i := 0) hS48 rfl
          refine ⟨St w [] [_, _, _, _, _, _, _], hw1.comp [] rfl rfl hS48, fun _ _ => trivial, ?_⟩
          obtain ⟨y54, h55, H⟩ := of_bind H
          refine ow_q rfl rfl (dstOk_lt rfl) (qy_call rfl fn13 rfl (fun w1 hw1 => laws_eqByteS_ok w1  h55 (rds_own (r := 3) rfl w1 hw1) (rds_own (r := 6) rfl w1 hw1))) (fun _ _ => trivial) ?_
          refine ow_batch [.p] rfl ?_
          refine ow_nil ?_
          refine x_qs ?_
          refine c_if rfl (fun hb => ?_) (fun hb => ?_)
          · have H := of_if_t hb H
            refine c_seq ?_
            refine c_reg ?_
            refine ow_batch [.p] rfl ?_
            refine ow_nil ?_
            refine x_qs ?_
            refine c_ret ?_
            refine x_qs_ret ?_
            exact x_retR (rs := [.tmp 4]) (vs := [.bool false]) rfl ⟨rfl, trivial⟩ (fun w' hw' => by
                obtain rfl := of_some H
                exact ⟨rfl, hw'.ext⟩)
          · have H := of_if_f hb H
            refine c_skip ?_
            refine x_qs ?_
            refine c_seq ?_
            refine c_reg ?_
            refine ow_batch [.p] rfl ?_
            refine ow_nil ?_
            refine x_qs ?_
            refine c_seq ?_
            refine c_reg ?_
            refine ow_batch [.p, .p] rfl ?_
            obtain ⟨y56, h57, H⟩ := of_bind H
            refine ow_callS rfl fn16 rfl rfl rfl rfl (fun w1 hw1 => laws_markByteS_ok w1  h57 (hw1.carve [3] rfl rfl)) (fun v58 w1 w2 hw1 hR60 => ?_)
            obtain ⟨F61, rfl, hS59⟩ := hR60
            refine ⟨St w [] [_, _, _, _, _, _, _, _], hw1.comp [3] rfl rfl hS59, fun _ _ => trivial, ?_⟩
            refine ow_batch [.p] rfl ?_
            refine ow_nil ?_
            refine x_qs ?_
            refine c_seq ?_
            refine c_seq ?_
            refine c_reg ?_
            refine ow_batch [.p, .p, .p] rfl ?_
            obtain ⟨u62, hu66, H⟩ := of_bind H
            refine ow_cut [(67, .bool u62), (0, .slice a_0 p0.length c_0), (1, .int .i64 p1), (5, .pointer (some ⟨b19, 0, none⟩)), (6, .int .i64 y10.2.1), (7, .bool y10.2.2), (9, .pointer (some ⟨b38, 0, none⟩)), (10, .int .i64 y29.2.1), (11, .bool y29.2.2)] 5 ?_ (fun key => OW.sub (R := [(0, .slice a_0 p0.length c_0), (1, .int .i64 p1), (5, .pointer (some ⟨b19, 0, none⟩)), (6, .int .i64 y10.2.1), (7, .bool y10.2.2), (9, .pointer (some ⟨b38, 0, none⟩)), (10, .int .i64 y29.2.1), (11, .bool y29.2.2), (62, .bool (decide (y56.1 < 0)))]) ?_ ⟨rfl, rfl, rfl, rfl, rfl, rfl, rfl, rfl, rfl, trivial⟩)
            · refine ow_batch [.p] rfl ?_
              refine ow_cut [(72, .bool (u62 || (y29.2.1 != y10.2.1))), (0, .slice a_0 p0.length c_0), (1, .int .i64 p1), (5, .pointer (some ⟨b19, 0, none⟩)), (6, .int .i64 y10.2.1), (7, .bool y10.2.2), (9, .pointer (some ⟨b38, 0, none⟩)), (11, .bool y29.2.2)] 4 ?_ (fun key => OW.sub (R := [(0, .slice a_0 p0.length c_0), (1, .int .i64 p1), (5, .pointer (some ⟨b19, 0, none⟩)), (6, .int .i64 y10.2.1), (7, .bool y10.2.2), (9, .pointer (some ⟨b38, 0, none⟩)), (10, .int .i64 y29.2.1), (11, .bool y29.2.2), (68, .bool u62)]) ?_ ⟨rfl, rfl, rfl, rfl, rfl, rfl, rfl, rfl, rfl, trivial⟩)
              · refine ow_batch [.p] rfl ?_
                refine ow_cut [(77, .bool ((u62 || (y29.2.1 != y10.2.1)) || (y29.2.2 != y10.2.2))), (0, .slice a_0 p0.length c_0), (1, .int .i64 p1), (5, .pointer (some ⟨b19, 0, none⟩)), (6, .int .i64 y10.2.1), (7, .bool y10.2.2), (9, .pointer (some ⟨b38, 0, none⟩))] 4 ?_ (fun key => OW.sub (R := [(0, .slice a_0 p0.length c_0), (1, .int .i64 p1), (5, .pointer (some ⟨b19, 0, none⟩)), (6, .int .i64 y10.2.1), (7, .bool y10.2.2), (9, .pointer (some ⟨b38, 0, none⟩)), (11, .bool y29.2.2), (73, .bool (u62 || (y29.2.1 != y10.2.1)))]) ?_ ⟨rfl, rfl, rfl, rfl, rfl, rfl, rfl, rfl, trivial⟩)
                · refine ow_nil ?_
                  refine x_qs ?_
                  refine c_if rfl (fun hb => ?_) (fun hb => ?_)
                  · have H := of_if_t hb H
                    refine c_seq ?_
                    refine c_reg ?_
                    refine ow_batch [.p] rfl ?_
                    refine ow_nil ?_
                    refine x_qs ?_
                    refine c_ret ?_
                    refine x_qs_ret ?_
                    exact x_retR (rs := [.tmp 4]) (vs := [.bool false]) rfl ⟨rfl, trivial⟩ (fun w' hw' => by
                        obtain rfl := of_some H
                        exact ⟨rfl, hw'.ext⟩)
                  · have H := of_if_f hb H
                    refine c_skip ?_
                    refine x_qs ?_
                    refine c_seq ?_
                    refine c_reg ?_
                    refine ow_batch [.p] rfl ?_
                    refine ow_nil ?_
                    refine x_qs ?_
                    refine c_seq ?_
                    refine c_reg ?_
                    refine ow_r rfl (dstOk_lt rfl) (ry_box (off := 0) (ds := [.slice a34 y29.1.Nodes_.length c36, .int .i64 y29.1.Seen_]) rfl rfl ty54 (boxIn (i := 5) rfl) rfl rfl) ?_
                    refine ow_batch [.p] rfl ?_
                    obtain ⟨y71, h72, H⟩ := of_bind H
                    refine ow_callS rfl fn36 rfl rfl rfl rfl (fun w1 hw1 => laws_markTree_ok w1  h72 (hw1.carve [4] rfl rfl)) (fun v73 w1 w2 hw1 hR75 => ?_)
                    obtain ⟨F76, rfl, hS74⟩ := hR75
                    refine ⟨St w [] [_, _, _, _, _, _, _, _, _], hw1.comp [4] rfl rfl hS74, fun _ _ => trivial, ?_⟩
                    refine ow_batch [.p] rfl ?_
                    refine ow_nil ?_
                    refine x_qs ?_
                    refine c_seq ?_
                    refine CW.weak (C' := St w [] [_, _, _, _, _, _, _]) ?_ (fun _ h => St.sel [0, 1, 2, 5, 6, 7, 8] rfl rfl h)
                    refine c_reg ?_
                    refine ow_batch [.p] rfl ?_
                    refine ow_nil ?_
                    refine x_qs ?_
                    refine c_seq ?_
                    refine c_reg ?_
                    refine ow_r rfl (dstOk_lt rfl) (ry_box (off := 0) (ds := [.slice a34 y29.1.Nodes_.length c36, .int .i64 y29.1.Seen_]) rfl rfl ty54 (boxIn (i := 3) rfl) rfl rfl) ?_
                    refine ow_batch [.p] rfl ?_
                    obtain ⟨y77, h78, H⟩ := of_bind H
                    refine ow_q rfl rfl (dstOk_lt rfl) (qy_call rfl fn39 rfl (fun w1 hw1 => laws_heldTree_ok w1 (cs0 := [.slice a34 y29.1.Nodes_.length c36, .int .i64 y29.1.Seen_]) h78 (rdm_Timpl_Tree (x := (Timpl_Tree.mk y71.2.Nodes_ y29.1.Seen_)) (c0 := [.slice a34 y29.1.Nodes_.length c36]) (c1 := [.int .i64 y29.1.Seen_]) (rds_own (r := 6) rfl w1 hw1) rfl))) (fun _ _ => trivial) ?_
                    refine ow_batch [.p] rfl ?_
                    refine ow_nil ?_
                    refine x_qs ?_
                    refine c_seq ?_
                    refine c_seq ?_
                    refine c_reg ?_
                    refine ow_batch [.p, .p] rfl ?_
                    refine ow_nil ?_
                    refine x_qs ?_
                    refine c_if rfl (fun hb => ?_) (fun hb => ?_)
                    · have H := of_if_t hb H
                      refine c_seq ?_
                      refine c_reg ?_
                      refine ow_batch [.p] rfl ?_
                      refine ow_nil ?_
                      refine x_qs ?_
                      refine c_ret ?_
                      refine x_qs_ret ?_
                      exact x_retR (rs := [.tmp 4]) (vs := [.bool false]) rfl ⟨rfl, trivial⟩ (fun w' hw' => by
                          obtain rfl := of_some H
                          exact ⟨rfl, hw'.ext⟩)
                    · have H := of_if_f hb H
                      refine c_skip ?_
                      refine x_qs ?_
                      refine c_seq ?_
                      refine c_seq ?_
                      refine c_reg ?_
                      refine ow_batch [.p, .p, .p] rfl ?_
                      refine ow_nil ?_
                      refine x_qs ?_
                      refine c_if rfl (fun hb => ?_) (fun hb => ?_)
                      · have H := of_if_t hb H
                        refine c_seq ?_
                        refine c_reg ?_
                        refine ow_batch [.p] rfl ?_
                        refine ow_nil ?_
                        refine x_qs ?_
                        refine c_ret ?_
                        refine x_qs_ret ?_
                        exact x_retR (rs := [.tmp 4]) (vs := [.bool false]) rfl ⟨rfl, trivial⟩ (fun w' hw' => by
                            obtain rfl := of_some H
                            exact ⟨rfl, hw'.ext⟩)
                      · have H := of_if_f hb H
                        refine c_skip ?_
                        refine x_qs ?_
                        refine c_seq ?_
                        refine c_reg ?_
                        refine ow_batch [.p] rfl ?_
                        obtain ⟨y79, h80, H⟩ := of_bind H
                        refine ow_callS rfl fn19 rfl rfl rfl rfl (fun w1 hw1 => laws_toByteS_ok w1  h80 (hw1.carve [] rfl rfl) (rds_bor g0 w1 hw1)) (fun v81 w1 w2 hw1 hR83 => ?_)
                        obtain ⟨a84, n85, c86, F87, rfl, hS82⟩ := hR83
                        obtain rfl := own_nS (i := 0) hS82 rfl
                        refine ⟨St w [] [_, _, _, _, _, _, _, _], hw1.comp [] rfl rfl hS82, fun _ _ => trivial, ?_⟩
                        refine ow_batch [.p] rfl ?_
                        obtain ⟨y88, h89, H⟩ := of_bind H
                        refine ow_callS rfl fn38 rfl rfl rfl rfl (fun w1 hw1 => impl_GetTree_ok w1  h89 (hw1.carve [] rfl rfl) (rds_own (r := 7) rfl w1 hw1)) (fun v90 w1 w2 hw1 hR92 => ?_)
                        obtain ⟨a93, n94, c95, F96, rfl, hS91⟩ := hR92
                        obtain rfl := own_nS (i := 0) hS91 rfl
                        refine ⟨St w [] [_, _, _, _, _, _, _, _, _], hw1.comp [] rfl rfl hS91, fun _ _ => trivial, ?_⟩
                        refine ow_batch [.p, .p, .p, .p] rfl ?_
                        refine ow_alloc rfl rfl rfl rfl ty54 (fun _ => kp) (fun b97 => ?_)
                        refine ow_storeC (off := 0) [.slice a93 y88.1.Nodes_.length c95, .int .i64 y88.1.Seen_] [_, _] (i := 9) rfl rfl rfl rfl rfl rfl ty54 rfl rfl (by intro u hu; simp only [List.mem_cons, List.not_mem_nil, or_false] at hu; rcases hu with rfl | rfl <;> rfl) rfl rfl rfl kp ?_
                        refine ow_batch [.p, .p] rfl ?_
                        refine ow_nil ?_
                        refine x_qs ?_
                        refine c_seq ?_
                        refine c_seq ?_
                        refine c_reg ?_
                        refine ow_r rfl (dstOk_lt rfl) (ry_box (off := 0) (ds := [.slice a93 y88.1.Nodes_.length c95, .int .i64 y88.1.Seen_]) rfl rfl ty54 (boxIn (i := 9) rfl) rfl rfl) ?_
                        refine ow_r rfl (dstOk_lt rfl) (ry_box (off := 0) (ds := [.slice a15 y10.1.Nodes_.length c17, .int .i64 y10.1.Seen_]) rfl rfl ty54 (boxIn (i := 2) rfl) rfl rfl) ?_
                        obtain ⟨y98, h99, H⟩ := of_bind H
                        refine ow_q rfl rfl (dstOk_lt rfl) (qy_call rfl fn35 rfl (fun w1 hw1 => laws_eqTree_ok w1 (cs0 := [.slice a93 y88.1.Nodes_.length c95, .int .i64 y88.1.Seen_]) (cs1 := [.slice a15 y10.1.Nodes_.length c17, .int .i64 y10.1.Seen_]) h99 (rdm_Timpl_Tree (x := y88.1) (c0 := [.slice a93 y88.1.Nodes_.length c95]) (c1 := [.int .i64 y88.1.Seen_]) (rds_own (r := 8) rfl w1 hw1) rfl) (rdm_Timpl_Tree (x := y10.1) (c0 := [.slice a15 y10.1.Nodes_.length c17]) (c1 := [.int .i64 y10.1.Seen_]) (rds_own (r := 1) rfl w1 hw1) rfl))) (fun _ _ => trivial) ?_
                        refine ow_batch [.p, .p] rfl ?_
                        refine ow_cut [(105, .bool ((!y98) || (y88.2.1 != y10.2.1))), (7, .bool y10.2.2), (9, .pointer (some ⟨b38, 0, none⟩)), (13, .int .i64 y71.1), (17, .bool y88.2.2)] 4 ?_ (fun key => OW.sub (R := [(6, .int .i64 y10.2.1), (7, .bool y10.2.2), (9, .pointer (some ⟨b38, 0, none⟩)), (13, .int .i64 y71.1), (16, .int .i64 y88.2.1), (17, .bool y88.2.2), (101, .bool (!y98))]) ?_ ⟨rfl, rfl, rfl, rfl, rfl, rfl, rfl, trivial⟩)
                        · refine ow_batch [.p] rfl ?_
                          refine ow_cut [(110, .bool (((!y98) || (y88.2.1 != y10.2.1)) || (y88.2.2 != y10.2.2))), (9, .pointer (some ⟨b38, 0, none⟩)), (13, .int .i64 y71.1)] 4 ?_ (fun key => OW.sub (R := [(7, .bool y10.2.2), (9, .pointer (some ⟨b38, 0, none⟩)), (13, .int .i64 y71.1), (17, .bool y88.2.2), (106, .bool ((!y98) || (y88.2.1 != y10.2.1)))]) ?_ ⟨rfl, rfl, rfl, rfl, rfl, trivial⟩)
                          · refine ow_nil ?_
                            refine x_qs ?_
                            refine c_if rfl (fun hb => ?_) (fun hb => ?_)
                            · have H := of_if_t hb H
                              refine c_seq ?_
                              refine c_reg ?_
                              refine ow_batch [.p] rfl ?_
                              refine ow_nil ?_
                              refine x_qs ?_
                              refine c_ret ?_
                              refine x_qs_ret ?_
                              exact x_retR (rs := [.tmp 4]) (vs := [.bool false]) rfl ⟨rfl, trivial⟩ (fun w' hw' => by
                                  obtain rfl := of_some H
                                  exact ⟨rfl, hw'.ext⟩)
                            · have H := of_if_f hb H
                              refine c_skip ?_
                              refine x_qs ?_
                              refine c_seq ?_
                              refine c_reg ?_
                              refine ow_batch [.p] rfl ?_
                              refine ow_nil ?_
                              refine x_qs ?_
                              refine c_seq ?_
                              refine c_reg ?_
                              refine ow_r rfl (dstOk_lt rfl) (ry_box (off := 0) (ds := [.slice a34 y29.1.Nodes_.length c36, .int .i64 y29.1.Seen_]) rfl rfl ty54 (boxIn (i := 3) rfl) rfl rfl) ?_
                              refine ow_batch [.p] rfl ?_
                              obtain ⟨y104, h105, H⟩ := of_bind H
                              refine ow_q rfl rfl (dstOk_lt rfl) (qy_call rfl fn39 rfl (fun w1 hw1 => laws_heldTree_ok w1 (cs0 := [.slice a34 y29.1.Nodes_.length c36, .int .i64 y29.1.Seen_]) h105 (rdm_Timpl_Tree (x := (Timpl_Tree.mk y71.2.Nodes_ y29.1.Seen_)) (c0 := [.slice a34 y29.1.Nodes_.length c36]) (c1 := [.int .i64 y29.1.Seen_]) (rds_own (r := 6) rfl w1 hw1) rfl))) (fun _ _ => trivial) ?_
                              refine ow_batch [.p] rfl ?_
                              refine ow_nil ?_
                              refine x_qs ?_
                              refine c_seq ?_
                              refine c_seq ?_
                              refine c_reg ?_
                              refine ow_batch [.p, .p] rfl ?_
                              refine ow_nil ?_
                              refine x_qs ?_
                              refine c_if rfl (fun hb => ?_) (fun hb => ?_)
                              · have H := of_if_t hb H
                                refine c_seq ?_
                                refine c_reg ?_
                                refine ow_batch [.p] rfl ?_
                                refine ow_nil ?_
                                refine x_qs ?_
                                refine c_ret ?_
                                refine x_qs_ret ?_
                                exact x_retR (rs := [.tmp 4]) (vs := [.bool false]) rfl ⟨rfl, trivial⟩ (fun w' hw' => by
                                    obtain rfl := of_some H
                                    exact ⟨rfl, hw'.ext⟩)
                              · have H := of_if_f hb H
                                refine c_skip ?_
                                refine x_qs ?_
                                refine c_seq ?_
                                refine c_seq ?_
                                refine c_reg ?_
                                refine ow_batch [.p, .p, .p] rfl ?_
                                refine ow_nil ?_
                                refine x_qs ?_
                                refine c_if rfl (fun hb => ?_) (fun hb => ?_)
                                · have H := of_if_t hb H
                                  refine c_seq ?_
                                  refine c_reg ?_
                                  refine ow_batch [.p] rfl ?_
                                  refine ow_nil ?_
                                  refine x_qs ?_
                                  refine c_ret ?_
                                  refine x_qs_ret ?_
                                  exact x_retR (rs := [.tmp 4]) (vs := [.bool false]) rfl ⟨rfl, trivial⟩ (fun w' hw' => by
                                      obtain rfl := of_some H
                                      exact ⟨rfl, hw'.ext⟩)
                                · have H := of_if_f hb H
                                  refine c_skip ?_
                                  refine x_qs ?_
                                  refine c_seq ?_
                                  refine c_reg ?_
                                  refine ow_batch [.p] rfl ?_
                                  refine ow_nil ?_
                                  refine x_qs ?_
                                  refine c_ret ?_
                                  exact x_retR (rs := [.tmp 4]) (vs := [.bool true]) rfl ⟨rfl, trivial⟩ (fun w' hw' => by
                                      obtain rfl := of_some H
                                      exact ⟨rfl, hw'.ext⟩)
                          · generalize ((!y98) || (y88.2.1 != y10.2.1)) = t103 at key ⊢
                            cases t103
                            · refine ow_batch [.p, .p] rfl ?_
                              refine ow_r rfl (dstOk_lt rfl) (ry_bneq rfl rfl rfl bl4) ?_
                              refine ow_batch [.p] rfl ?_
                              exact OW.sub key ⟨rfl, rfl, rfl, trivial⟩
                            · refine ow_batch [.p, .p, .p, .p] rfl ?_
                              exact OW.sub key ⟨rfl, rfl, rfl, trivial⟩
                        · generalize (!y98) = t101 at key ⊢
                          cases t101
                          · refine ow_batch [.p, .p, .p] rfl ?_
                            refine ow_batch [.p] rfl ?_
                            exact OW.sub key ⟨rfl, rfl, rfl, rfl, rfl, trivial⟩
                          · refine ow_batch [.p, .p, .p, .p] rfl ?_
                            exact OW.sub key ⟨rfl, rfl, rfl, rfl, rfl, trivial⟩
                · generalize (u62 || (y29.2.1 != y10.2.1)) = t70 at key ⊢
                  cases t70
                  · refine ow_batch [.p, .p] rfl ?_
                    refine ow_r rfl (dstOk_lt rfl) (ry_bneq rfl rfl rfl bl4) ?_
                    refine ow_batch [.p] rfl ?_
                    exact OW.sub key ⟨rfl, rfl, rfl, rfl, rfl, rfl, rfl, trivial⟩
                  · refine ow_batch [.p, .p, .p, .p] rfl ?_
                    exact OW.sub key ⟨rfl, rfl, rfl, rfl, rfl, rfl, rfl, trivial⟩
              · generalize u62 = t68 at key ⊢
                cases t68
                · refine ow_batch [.p, .p, .p] rfl ?_
                  refine ow_batch [.p] rfl ?_
                  exact OW.sub key ⟨rfl, rfl, rfl, rfl, rfl, rfl, rfl, rfl, trivial⟩
                · refine ow_batch [.p, .p, .p, .p] rfl ?_
                  exact OW.sub key ⟨rfl, rfl, rfl, rfl, rfl, rfl, rfl, rfl, trivial⟩
            · clear H
              have H := hu66
              clear hu66
              generalize (decide (y56.1 < 0)) = t65 at H ⊢
              cases t65
              · have H := of_if_f rfl H
                refine ow_r rfl (dstOk_lt rfl) (ry_box (off := 0) (ds := [.slice a34 y29.1.Nodes_.length c36, .int .i64 y29.1.Seen_]) rfl rfl ty54 (boxIn (i := 5) rfl) rfl rfl) ?_
                refine ow_r rfl (dstOk_lt rfl) (ry_box (off := 0) (ds := [.slice a15 y10.1.Nodes_.length c17, .int .i64 y10.1.Seen_]) rfl rfl ty54 (boxIn (i := 2) rfl) rfl rfl) ?_
                obtain ⟨y63, h64, H⟩ := of_bind H
                refine ow_q rfl rfl (dstOk_lt rfl) (qy_call rfl fn35 rfl (fun w1 hw1 => laws_eqTree_ok w1 (cs0 := [.slice a34 y29.1.Nodes_.length c36, .int .i64 y29.1.Seen_]) (cs1 := [.slice a15 y10.1.Nodes_.length c17, .int .i64 y10.1.Seen_]) h64 (rdm_Timpl_Tree (x := y29.1) (c0 := [.slice a34 y29.1.Nodes_.length c36]) (c1 := [.int .i64 y29.1.Seen_]) (rds_own (r := 4) rfl w1 hw1) rfl) (rdm_Timpl_Tree (x := y10.1) (c0 := [.slice a15 y10.1.Nodes_.length c17]) (c1 := [.int .i64 y10.1.Seen_]) (rds_own (r := 1) rfl w1 hw1) rfl))) (fun _ _ => trivial) ?_
                refine ow_batch [.p] rfl ?_
                refine ow_batch [.p] rfl ?_
                obtain rfl := of_some H
                exact OW.sub key ⟨rfl, rfl, rfl, rfl, rfl, rfl, rfl, rfl, rfl, trivial⟩
              · have H := of_if_t rfl H
                refine ow_batch [.p, .p, .p, .p, .p] rfl ?_
                obtain rfl := of_some H
                exact OW.sub key ⟨rfl, rfl, rfl, rfl, rfl, rfl, rfl, rfl, rfl, trivial⟩
      · generalize ((!y39) || (y29.2.1 != y10.2.1)) = t44 at key ⊢
        cases t44
        · refine ow_batch [.p, .p] rfl ?_
          refine ow_r rfl (dstOk_lt rfl) (ry_bneq rfl rfl rfl bl4) ?_
          refine ow_batch [.p] rfl ?_
          exact OW.sub key ⟨rfl, rfl, rfl, rfl, rfl, rfl, rfl, rfl, rfl, rfl, trivial⟩
        · refine ow_batch [.p, .p, .p, .p] rfl ?_
          exact OW.sub key ⟨rfl, rfl, rfl, rfl, rfl, rfl, rfl, rfl, rfl, rfl, trivial⟩
    · generalize (!y39) = t42 at key ⊢
      cases t42
      · refine ow_batch [.p, .p, .p] rfl ?_
        refine ow_batch [.p] rfl ?_
        exact OW.sub key ⟨rfl, rfl, rfl, rfl, rfl, rfl, rfl, rfl, rfl, rfl, trivial⟩
      · refine ow_batch [.p, .p, .p, .p] rfl ?_
        exact OW.sub key ⟨rfl, rfl, rfl, rfl, rfl, rfl, rfl, rfl, rfl, rfl, trivial⟩

set_option maxHeartbeats 4000000 in
set_option maxRecDepth 100000 in
theorem laws_FnExactGetInts_ok (w : World) {p0 : List Int} {p1 : Int} {a_0 : Option Addr} {n_0 c_0 : Nat} {r : Bool} (H : laws_FnExactGetInts p0 p1 = some r)  (g0 : (eList (eVal (Value.int .u8) (fun _ => rfl)) 5).rd w [] p0 [.slice a_0 n_0 c_0]) :
    Calls Try.prog 4 #[.slice a_0 n_0 c_0, .int .i64 p1] w (fun en w' => en = .returned (.bool r) ∧ Ext [] w w') := by
  obtain rfl := rd_n g0
  unfold laws_FnExactGetInts at H
  refine f_enter (vs := [.slice a_0 p0.length c_0, .int .i64 p1]) Try.func4 rfl Try.ntmps4 rfl (St.init w []) ?_
  refine c_seq ?_
  refine c_reg ?_
  refine ow_batch [.p] rfl ?_
  refine ow_nil ?_
  refine x_qs ?_
  refine c_seq ?_
  refine c_seq ?_
  refine c_reg ?_
  refine ow_batch [.p, .lenS 23 5 sl23, .p] rfl ?_
  refine ow_nil ?_
  refine x_qs ?_
  refine c_if rfl (fun hb => ?_) (fun hb => ?_)
  · have H := of_if_t hb H
    refine c_seq ?_
    refine c_reg ?_
    refine ow_batch [.p] rfl ?_
    refine ow_nil ?_
    refine x_qs ?_
    refine c_ret ?_
    refine x_qs_ret ?_
    exact x_retR (rs := [.tmp 4]) (vs := [.bool true]) rfl ⟨rfl, trivial⟩ (fun w' hw' => by
        obtain rfl := of_some H
        exact ⟨rfl, hw'.ext⟩)
  · have H := of_if_f hb H
    refine c_skip ?_
    refine x_qs ?_
    refine c_seq ?_
    refine c_reg ?_
    refine ow_batch [.p] rfl ?_
    obtain ⟨y1, h2, H⟩ := of_bind H
    refine ow_callS rfl fn19 rfl rfl rfl rfl (fun w1 hw1 => laws_toByteS_ok w1  h2 (hw1.carve [] rfl rfl) (rds_bor g0 w1 hw1)) (fun v3 w1 w2 hw1 hR5 => ?_)
    obtain ⟨a6, n7, c8, F9, rfl, hS4⟩ := hR5
    obtain rfl := own_nS (i := 0) hS4 rfl
    refine ⟨St w [] [_], hw1.comp [] rfl rfl hS4, fun _ _ => trivial, ?_⟩
    refine ow_batch [.p] rfl ?_
    obtain ⟨y10, h11, H⟩ := of_bind H
    refine ow_callS rfl fn18 rfl rfl rfl rfl (fun w1 hw1 => spec_GetInts_ok w1  h11 (hw1.carve [] rfl rfl) (rds_own (r := 0) rfl w1 hw1)) (fun v12 w1 w2 hw1 hR14 => ?_)
    obtain ⟨a15, n16, c17, F18, rfl, hS13⟩ := hR14
    obtain rfl := own_nS (i := 0) hS13 rfl
    refine ⟨St w [] [_, _], hw1.comp [] rfl rfl hS13, fun _ _ => trivial, ?_⟩
    refine ow_batch [.p, .p, .p, .p, .p, .p, .p] rfl ?_
    refine ow_nil ?_
    refine x_qs ?_
    refine c_seq ?_
    refine c_reg ?_
    refine ow_batch [.p] rfl ?_
    obtain ⟨y19, h20, H⟩ := of_bind H
    refine ow_callS rfl fn19 rfl rfl rfl rfl (fun w1 hw1 => laws_toByteS_ok w1  h20 (hw1.carve [] rfl rfl) (rds_bor g0 w1 hw1)) (fun v21 w1 w2 hw1 hR23 => ?_)
    obtain ⟨a24, n25, c26, F27, rfl, hS22⟩ := hR23
    obtain rfl := own_nS (i := 0) hS22 rfl
    refine ⟨St w [] [_, _, _], hw1.comp [] rfl rfl hS22, fun _ _ => trivial, ?_⟩
    refine ow_batch [.p] rfl ?_
    refine ow_nil ?_
    refine x_qs ?_
    refine c_seq ?_
    refine c_reg ?_
    refine ow_batch [.p, .p] rfl ?_
    obtain ⟨y28, h29, H⟩ := of_bind H
    refine ow_callS rfl fn20 rfl rfl rfl rfl (fun w1 hw1 => impl_GetInts_ok w1  h29 (hw1.carve [] rfl rfl) (rds_own (r := 2) rfl w1 hw1)) (fun v30 w1 w2 hw1 hR32 => ?_)
    obtain ⟨a33, n34, c35, F36, rfl, hS31⟩ := hR32
    obtain rfl := own_nS (i := 0) hS31 rfl
    refine ⟨St w [] [_, _, _, _], hw1.comp [] rfl rfl hS31, fun _ _ => trivial, ?_⟩
    refine ow_batch [.p, .p, .p, .p, .p, .p, .p] rfl ?_
    refine ow_nil ?_
    refine x_qs ?_
    refine c_seq ?_
    refine c_seq ?_
    refine c_reg ?_
    refine ow_batch [.p, .p] rfl ?_
    obtain ⟨y37, h38, H⟩ := of_bind H
    refine ow_q rfl rfl (dstOk_lt rfl) (qy_call rfl fn14 rfl (fun w1 hw1 => laws_eqIntS_ok w1  h38 (rds_own (r := 3) rfl w1 hw1) (rds_own (r := 1) rfl w1 hw1))) (fun _ _ => trivial) ?_
    refine ow_batch [.p, .p] rfl ?_
    refine ow_cut [(46, .bool ((!y37) || (y28.2.1 != y10.2.1))), (0, .slice a_0 p0.length c_0), (1, .int .i64 p1), (5, .slice a15 y10.1.length c17), (6, .int .i64 y10.2.1), (7, .bool y10.2.2), (8, .slice a24 y19.length c26), (9, .slice a33 y28.1.length c35), (10, .int .i64 y28.2.1), (11, .bool y28.2.2)] 4 ?_ (fun key => OW.sub (R := [(0, .slice a_0 p0.length c_0), (1, .int .i64 p1), (5, .slice a15 y10.1.length c17), (6, .int .i64 y10.2.1), (7, .bool y10.2.2), (8, .slice a24 y19.length c26), (9, .slice a33 y28.1.length c35), (10, .int .i64 y28.2.1), (11, .bool y28.2.2), (42, .bool (!y37))]) ?_ ⟨rfl, rfl, rfl, rfl, rfl, rfl, rfl, rfl, rfl, rfl, trivial⟩)
    · refine ow_batch [.p] rfl ?_
      refine ow_cut [(51, .bool (((!y37) || (y28.2.1 != y10.2.1)) || (y28.2.2 != y10.2.2))), (0, .slice a_0 p0.length c_0), (1, .int .i64 p1), (5, .slice a15 y10.1.length c17), (6, .int .i64 y10.2.1), (7, .bool y10.2.2), (8, .slice a24 y19.length c26), (9, .slice a33 y28.1.length c35), (10, .int .i64 y28.2.1), (11, .bool y28.2.2)] 4 ?_ (fun key => OW.sub (R := [(0, .slice a_0 p0.length c_0), (1, .int .i64 p1), (5, .slice a15 y10.1.length c17), (6, .int .i64 y10.2.1), (7, .bool y10.2.2), (8, .slice a24 y19.length c26), (9, .slice a33 y28.1.length c35), (10, .int .i64 y28.2.1), (11, .bool y28.2.2), (47, .bool ((!y37) || (y28.2.1 != y10.2.1)))]) ?_ ⟨rfl, rfl, rfl, rfl, rfl, rfl, rfl, rfl, rfl, rfl, trivial⟩)
      · refine ow_nil ?_
        refine x_qs ?_
        refine c_if rfl (fun hb => ?_) (fun hb => ?_)
        · have H := of_if_t hb H
          refine c_seq ?_
          refine c_reg ?_
          refine ow_batch [.p] rfl ?_
          refine ow_nil ?_
          refine x_qs ?_
          refine c_ret ?_
          refine x_qs_ret ?_
          exact x_retR (rs := [.tmp 4]) (vs := [.bool false]) rfl ⟨rfl, trivial⟩ (fun w' hw' => by
              obtain rfl := of_some H
              exact ⟨rfl, hw'.ext⟩)
        · have H := of_if_f hb H
          refine c_skip ?_
          refine x_qs ?_
          refine c_seq ?_
          refine c_seq ?_
          refine c_reg ?_
          refine ow_batch [.p, .p] rfl ?_
          obtain ⟨y43, h44, H⟩ := of_bind H
          refine ow_callS rfl fn19 rfl rfl rfl rfl (fun w1 hw1 => laws_toByteS_ok w1  h44 (hw1.carve [] rfl rfl) (rds_bor g0 w1 hw1)) (fun v45 w1 w2 hw1 hR47 => ?_)
          obtain ⟨a48, n49, c50, F51, rfl, hS46⟩ := hR47
          obtain rfl := own_nS (i := 0) hS46 rfl
          refine ⟨St w [] [_, _, _, _, _], hw1.comp [] rfl rfl hS46, fun _ _ => trivial, ?_⟩
          obtain ⟨y52, h53, H⟩ := of_bind H
          refine ow_q rfl rfl (dstOk_lt rfl) (qy_call rfl fn13 rfl (fun w1 hw1 => laws_eqByteS_ok w1  h53 (rds_own (r := 2) rfl w1 hw1) (rds_own (r := 4) rfl w1 hw1))) (fun _ _ => trivial) ?_
          refine ow_batch [.p] rfl ?_
          refine ow_nil ?_
          refine x_qs ?_
          refine c_if rfl (fun hb => ?_) (fun hb => ?_)
          · have H := of_if_t hb H
            refine c_seq ?_
            refine c_reg ?_
            refine ow_batch [.p] rfl ?_
            refine ow_nil ?_
            refine x_qs ?_
            refine c_ret ?_
            refine x_qs_ret ?_
            exact x_retR (rs := [.tmp 4]) (vs := [.bool false]) rfl ⟨rfl, trivial⟩ (fun w' hw' => by
                obtain rfl := of_some H
                exact ⟨rfl, hw'.ext⟩)
          · have H := of_if_f hb H
            refine c_skip ?_
            refine x_qs ?_
            refine c_seq ?_
            refine c_reg ?_
            refine ow_batch [.p] rfl ?_
            refine ow_nil ?_
            refine x_qs ?_
            refine c_seq ?_
            refine c_reg ?_
            refine ow_batch [.p, .p] rfl ?_
            obtain ⟨y54, h55, H⟩ := of_bind H
            refine ow_callS rfl fn16 rfl rfl rfl rfl (fun w1 hw1 => laws_markByteS_ok w1  h55 (hw1.carve [2] rfl rfl)) (fun v56 w1 w2 hw1 hR58 => ?_)
            obtain ⟨F59, rfl, hS57⟩ := hR58
            refine ⟨St w [] [_, _, _, _, _, _], hw1.comp [2] rfl rfl hS57, fun _ _ => trivial, ?_⟩
            refine ow_batch [.p] rfl ?_
            refine ow_nil ?_
            refine x_qs ?_
            refine c_seq ?_
            refine c_seq ?_
            refine c_reg ?_
            refine ow_batch [.p, .p, .p] rfl ?_
            obtain ⟨u60, hu64, H⟩ := of_bind H
            refine ow_cut [(67, .bool u60), (0, .slice a_0 p0.length c_0), (1, .int .i64 p1), (5, .slice a15 y10.1.length c17), (6, .int .i64 y10.2.1), (7, .bool y10.2.2), (9, .slice a33 y28.1.length c35), (10, .int .i64 y28.2.1), (11, .bool y28.2.2)] 5 ?_ (fun key => OW.sub (R := [(0, .slice a_0 p0.length c_0), (1, .int .i64 p1), (5, .slice a15 y10.1.length c17), (6, .int .i64 y10.2.1), (7, .bool y10.2.2), (9, .slice a33 y28.1.length c35), (10, .int .i64 y28.2.1), (11, .bool y28.2.2), (62, .bool (decide (y54.1 < 0)))]) ?_ ⟨rfl, rfl, rfl, rfl, rfl, rfl, rfl, rfl, rfl, trivial⟩)
            · refine ow_batch [.p] rfl ?_
              refine ow_cut [(72, .bool (u60 || (y28.2.1 != y10.2.1))), (0, .slice a_0 p0.length c_0), (1, .int .i64 p1), (5, .slice a15 y10.1.length c17), (6, .int .i64 y10.2.1), (7, .bool y10.2.2), (9, .slice a33 y28.1.length c35), (11, .bool y28.2.2)] 4 ?_ (fun key => OW.sub (R := [(0, .slice a_0 p0.length c_0), (1, .int .i64 p1), (5, .slice a15 y10.1.length c17), (6, .int .i64 y10.2.1), (7, .bool y10.2.2), (9, .slice a33 y28.1.length c35), (10, .int .i64 y28.2.1), (11, .bool y28.2.2), (68, .bool u60)]) ?_ ⟨rfl, rfl, rfl, rfl, rfl, rfl, rfl, rfl, rfl, trivial⟩)
              · refine ow_batch [.p] rfl ?_
                refine ow_cut [(77, .bool ((u60 || (y28.2.1 != y10.2.1)) || (y28.2.2 != y10.2.2))), (0, .slice a_0 p0.length c_0), (1, .int .i64 p1), (5, .slice a15 y10.1.length c17), (6, .int .i64 y10.2.1), (7, .bool y10.2.2), (9, .slice a33 y28.1.length c35)] 4 ?_ (fun key => OW.sub (R := [(0, .slice a_0 p0.length c_0), (1, .int .i64 p1), (5, .slice a15 y10.1.length c17), (6, .int .i64 y10.2.1), (7, .bool y10.2.2), (9, .slice a33 y28.1.length c35), (11, .bool y28.2.2), (73, .bool (u60 || (y28.2.1 != y10.2.1)))]) ?_ ⟨rfl, rfl, rfl, rfl, rfl, rfl, rfl, rfl, trivial⟩)
                · refine ow_nil ?_
                  refine x_qs ?_
                  refine c_if rfl (fun hb => ?_) (fun hb => ?_)
                  · have H := of_if_t hb H
                    refine c_seq ?_
                    refine c_reg ?_
                    refine ow_batch [.p] rfl ?_
                    refine ow_nil ?_
                    refine x_qs ?_
                    refine c_ret ?_
                    refine x_qs_ret ?_
                    exact x_retR (rs := [.tmp 4]) (vs := [.bool false]) rfl ⟨rfl, trivial⟩ (fun w' hw' => by
                        obtain rfl := of_some H
                        exact ⟨rfl, hw'.ext⟩)
                  · have H := of_if_f hb H
                    refine c_skip ?_
                    refine x_qs ?_
                    refine c_seq ?_
                    refine c_reg ?_
                    refine ow_batch [.p] rfl ?_
                    refine ow_nil ?_
                    refine x_qs ?_
                    refine c_seq ?_
                    refine c_reg ?_
                    refine ow_batch [.p, .p] rfl ?_
                    obtain ⟨y69, h70, H⟩ := of_bind H
                    refine ow_callS rfl fn15 rfl rfl rfl rfl (fun w1 hw1 => laws_markIntS_ok w1  h70 (hw1.carve [3] rfl rfl)) (fun v71 w1 w2 hw1 hR73 => ?_)
                    obtain ⟨F74, rfl, hS72⟩ := hR73
                    refine ⟨St w [] [_, _, _, _, _, _, _], hw1.comp [3] rfl rfl hS72, fun _ _ => trivial, ?_⟩
                    refine ow_batch [.p] rfl ?_
                    refine ow_nil ?_
                    refine x_qs ?_
                    refine c_seq ?_
                    refine CW.weak (C' := St w [] [_, _, _, _, _]) ?_ (fun _ h => St.sel [0, 1, 4, 5, 6] rfl rfl h)
                    refine c_reg ?_
                    refine ow_batch [.p] rfl ?_
                    refine ow_nil ?_
                    refine x_qs ?_
                    refine c_seq ?_
                    refine c_reg ?_
                    refine ow_batch [.p, .p] rfl ?_
                    obtain ⟨y75, h76, H⟩ := of_bind H
                    refine ow_q rfl rfl (dstOk_lt rfl) (qy_call rfl fn21 rfl (fun w1 hw1 => laws_heldIntS_ok w1  h76 (rds_own (r := 4) rfl w1 hw1))) (fun _ _ => trivial) ?_
                    refine ow_batch [.p] rfl ?_
                    refine ow_nil ?_
                    refine x_qs ?_
                    refine c_seq ?_
                    refine c_seq ?_
                    refine c_reg ?_
                    refine ow_batch [.p, .p] rfl ?_
                    refine ow_nil ?_
                    refine x_qs ?_
                    refine c_if rfl (fun hb => ?_) (fun hb => ?_)
                    · have H := of_if_t hb H
                      refine c_seq ?_
                      refine c_reg ?_
                      refine ow_batch [.p] rfl ?_
                      refine ow_nil ?_
                      refine x_qs ?_
                      refine c_ret ?_
                      refine x_qs_ret ?_
                      exact x_retR (rs := [.tmp 4]) (vs := [.bool false]) rfl ⟨rfl, trivial⟩ (fun w' hw' => by
                          obtain rfl := of_some H
                          exact ⟨rfl, hw'.ext⟩)
                    · have H := of_if_f hb H
                      refine c_skip ?_
                      refine x_qs ?_
                      refine c_seq ?_
                      refine c_seq ?_
                      refine c_reg ?_
                      refine ow_batch [.p, .p, .p] rfl ?_
                      refine ow_nil ?_
                      refine x_qs ?_
                      refine c_if rfl (fun hb => ?_) (fun hb => ?_)
                      · have H := of_if_t hb H
                        refine c_seq ?_
                        refine c_reg ?_
                        refine ow_batch [.p] rfl ?_
                        refine ow_nil ?_
                        refine x_qs ?_
                        refine c_ret ?_
                        refine x_qs_ret ?_
                        exact x_retR (rs := [.tmp 4]) (vs := [.bool false]) rfl ⟨rfl, trivial⟩ (fun w' hw' => by
                            obtain rfl := of_some H
                            exact ⟨rfl, hw'.ext⟩)
                      · have H := of_if_f hb H
                        refine c_skip ?_
                        refine x_qs ?_
                        refine c_seq ?_
                        refine c_reg ?_
                        refine ow_batch [.p] rfl ?_
                        obtain ⟨y77, h78, H⟩ := of_bind H
                        refine ow_callS rfl fn19 rfl rfl rfl rfl (fun w1 hw1 => laws_toByteS_ok w1  h78 (hw1.carve [] rfl rfl) (rds_bor g0 w1 hw1)) (fun v79 w1 w2 hw1 hR81 => ?_)
                        obtain ⟨a82, n83, c84, F85, rfl, hS80⟩ := hR81
                        obtain rfl := own_nS (i := 0) hS80 rfl
                        refine ⟨St w [] [_, _, _, _, _, _], hw1.comp [] rfl rfl hS80, fun _ _ => trivial, ?_⟩
                        refine ow_batch [.p] rfl ?_
                        obtain ⟨y86, h87, H⟩ := of_bind H
                        refine ow_callS rfl fn20 rfl rfl rfl rfl (fun w1 hw1 => impl_GetInts_ok w1  h87 (hw1.carve [] rfl rfl) (rds_own (r := 5) rfl w1 hw1)) (fun v88 w1 w2 hw1 hR90 => ?_)
                        obtain ⟨a91, n92, c93, F94, rfl, hS89⟩ := hR90
                        obtain rfl := own_nS (i := 0) hS89 rfl
                        refine ⟨St w [] [_, _, _, _, _, _, _], hw1.comp [] rfl rfl hS89, fun _ _ => trivial, ?_⟩
                        refine ow_batch [.p, .p, .p, .p, .p, .p, .p] rfl ?_
                        refine ow_nil ?_
                        refine x_qs ?_
                        refine c_seq ?_
                        refine c_seq ?_
                        refine c_reg ?_
                        refine ow_batch [.p, .p] rfl ?_
                        obtain ⟨y95, h96, H⟩ := of_bind H
                        refine ow_q rfl rfl (dstOk_lt rfl) (qy_call rfl fn14 rfl (fun w1 hw1 => laws_eqIntS_ok w1  h96 (rds_own (r := 6) rfl w1 hw1) (rds_own (r := 1) rfl w1 hw1))) (fun _ _ => trivial) ?_
                        refine ow_batch [.p, .p] rfl ?_
                        refine ow_cut [(105, .bool ((!y95) || (y86.2.1 != y10.2.1))), (7, .bool y10.2.2), (9, .slice a33 y28.1.length c35), (13, .int .i64 y69.1), (17, .bool y86.2.2)] 4 ?_ (fun key => OW.sub (R := [(6, .int .i64 y10.2.1), (7, .bool y10.2.2), (9, .slice a33 y28.1.length c35), (13, .int .i64 y69.1), (16, .int .i64 y86.2.1), (17, .bool y86.2.2), (101, .bool (!y95))]) ?_ ⟨rfl, rfl, rfl, rfl, rfl, rfl, rfl, trivial⟩)
                        · refine ow_batch [.p] rfl ?_
                          refine ow_cut [(110, .bool (((!y95) || (y86.2.1 != y10.2.1)) || (y86.2.2 != y10.2.2))), (9, .slice a33 y28.1.length c35), (13, .int .i64 y69.1)] 4 ?_ (fun key => OW.sub (R := [(7, .bool y10.2.2), (9, .slice a33 y28.1.length c35), (13, .int .i64 y69.1), (17, .bool y86.2.2), (106, .bool ((!y95) || (y86.2.1 != y10.2.1)))]) ?_ ⟨rfl, rfl, rfl, rfl, rfl, trivial⟩)
                          · refine ow_nil ?_
                            refine x_qs ?_
                            refine c_if rfl (fun hb => ?_) (fun hb => ?_)
                            · have H := of_if_t hb H
                              refine c_seq ?_
                              refine c_reg ?_
                              refine ow_batch [.p] rfl ?_
                              refine ow_nil ?_
                              refine x_qs ?_
                              refine c_ret ?_
                              refine x_qs_ret ?_
                              exact x_retR (rs := [.tmp 4]) (vs := [.bool false]) rfl ⟨rfl, trivial⟩ (fun w' hw' => by
                                  obtain rfl := of_some H
                                  exact ⟨rfl, hw'.ext⟩)
                            · have H := of_if_f hb H
                              refine c_skip ?_
                              refine x_qs ?_
                              refine c_seq ?_
                              refine c_reg ?_
                              refine ow_batch [.p] rfl ?_
                              refine ow_nil ?_
                              refine x_qs ?_
                              refine c_seq ?_
                              refine c_reg ?_
                              refine ow_batch [.p, .p] rfl ?_
                              obtain ⟨y101, h102, H⟩ := of_bind H
                              refine ow_q rfl rfl (dstOk_lt rfl) (qy_call rfl fn21 rfl (fun w1 hw1 => laws_heldIntS_ok w1  h102 (rds_own (r := 4) rfl w1 hw1))) (fun _ _ => trivial) ?_
                              refine ow_batch [.p] rfl ?_
                              refine ow_nil ?_
                              refine x_qs ?_
                              refine c_seq ?_
                              refine c_seq ?_
                              refine c_reg ?_
                              refine ow_batch [.p, .p] rfl ?_
                              refine ow_nil ?_
                              refine x_qs ?_
                              refine c_if rfl (fun hb => ?_) (fun hb => ?_)
                              · have H := of_if_t hb H
                                refine c_seq ?_
                                refine c_reg ?_
                                refine ow_batch [.p] rfl ?_
                                refine ow_nil ?_
                                refine x_qs ?_
                                refine c_ret ?_
                                refine x_qs_ret ?_
                                exact x_retR (rs := [.tmp 4]) (vs := [.bool false]) rfl ⟨rfl, trivial⟩ (fun w' hw' => by
                                    obtain rfl := of_some H
                                    exact ⟨rfl, hw'.ext⟩)
                              · have H := of_if_f hb H
                                refine c_skip ?_
                                refine x_qs ?_
                                refine c_seq ?_
                                refine c_seq ?_
                                refine c_reg ?_
                                refine ow_batch [.p, .p, .p] rfl ?_
                                refine ow_nil ?_
                                refine x_qs ?_
                                refine c_if rfl (fun hb => ?_) (fun hb => ?_)
                                · have H := of_if_t hb H
                                  refine c_seq ?_
                                  refine c_reg ?_
                                  refine ow_batch [.p] rfl ?_
                                  refine ow_nil ?_
                                  refine x_qs ?_
                                  refine c_ret ?_
                                  refine x_qs_ret ?_
                                  exact x_retR (rs := [.tmp 4]) (vs := [.bool false]) rfl ⟨rfl, trivial⟩ (fun w' hw' => by
                                      obtain rfl := of_some H
                                      exact ⟨rfl, hw'.ext⟩)
                                · have H := of_if_f hb H
                                  refine c_skip ?_
                                  refine x_qs ?_
                                  refine c_seq ?_
                                  refine c_reg ?_
                                  refine ow_batch [.p] rfl ?_
                                  refine ow_nil ?_
                                  refine x_qs ?_
                                  refine c_ret ?_
                                  exact x_retR (rs := [.tmp 4]) (vs := [.bool true]) rfl ⟨rfl, trivial⟩ (fun w' hw' => by
                                      obtain rfl := of_some H
                                      exact ⟨rfl, hw'.ext⟩)
                          · generalize ((!y95) || (y86.2.1 != y10.2.1)) = t100 at key ⊢
                            cases t100
                            · refine ow_batch [.p, .p] rfl ?_
                              refine ow_r rfl (dstOk_lt rfl) (ry_bneq rfl rfl rfl bl4) ?_
                              refine ow_batch [.p] rfl ?_
                              exact OW.sub key ⟨rfl, rfl, rfl, trivial⟩
                            · refine ow_batch [.p, .p, .p, .p] rfl ?_
                              exact OW.sub key ⟨rfl, rfl, rfl, trivial⟩
                        · generalize (!y95) = t98 at key ⊢
                          cases t98
                          · refine ow_batch [.p, .p, .p] rfl ?_
                            refine ow_batch [.p] rfl ?_
                            exact OW.sub key ⟨rfl, rfl, rfl, rfl, rfl, trivial⟩
                          · refine ow_batch [.p, .p, .p, .p] rfl ?_
                            exact OW.sub key ⟨rfl, rfl, rfl, rfl, rfl, trivial⟩
                · generalize (u60 || (y28.2.1 != y10.2.1)) = t68 at key ⊢
                  cases t68
                  · refine ow_batch [.p, .p] rfl ?_
                    refine ow_r rfl (dstOk_lt rfl) (ry_bneq rfl rfl rfl bl4) ?_
                    refine ow_batch [.p] rfl ?_
                    exact OW.sub key ⟨rfl, rfl, rfl, rfl, rfl, rfl, rfl, trivial⟩
                  · refine ow_batch [.p, .p, .p, .p] rfl ?_
                    exact OW.sub key ⟨rfl, rfl, rfl, rfl, rfl, rfl, rfl, trivial⟩
              · generalize u60 = t66 at key ⊢
                cases t66
                · refine ow_batch [.p, .p, .p] rfl ?_
                  refine ow_batch [.p] rfl ?_
                  exact OW.sub key ⟨rfl, rfl, rfl, rfl, rfl, rfl, rfl, rfl, trivial⟩
                · refine ow_batch [.p, .p, .p, .p] rfl ?_
                  exact OW.sub key ⟨rfl, rfl, rfl, rfl, rfl, rfl, rfl, rfl, trivial⟩
            · clear H
              have H := hu64
              clear hu64
              generalize (decide (y54.1 < 0)) = t63 at H ⊢
              cases t63
              · have H := of_if_f rfl H
                refine ow_batch [.p, .p] rfl ?_
                obtain ⟨y61, h62, H⟩ := of_bind H
                refine ow_q rfl rfl (dstOk_lt rfl) (qy_call rfl fn14 rfl (fun w1 hw1 => laws_eqIntS_ok w1  h62 (rds_own (r := 3) rfl w1 hw1) (rds_own (r := 1) rfl w1 hw1))) (fun _ _ => trivial) ?_
                refine ow_batch [.p] rfl ?_
                refine ow_batch [.p] rfl ?_
                obtain rfl := of_some H
                exact OW.sub key ⟨rfl, rfl, rfl, rfl, rfl, rfl, rfl, rfl, rfl, trivial⟩
              · have H := of_if_t rfl H
                refine ow_batch [.p, .p, .p, .p, .p] rfl ?_
                obtain rfl := of_some H
                exact OW.sub key ⟨rfl, rfl, rfl, rfl, rfl, rfl, rfl, rfl, rfl, trivial⟩
      · generalize ((!y37) || (y28.2.1 != y10.2.1)) = t42 at key ⊢
        cases t42
        · refine ow_batch [.p, .p] rfl ?_
          refine ow_r rfl (dstOk_lt rfl) (ry_bneq rfl rfl rfl bl4) ?_
          refine ow_batch [.p] rfl ?_
          exact OW.sub key ⟨rfl, rfl, rfl, rfl, rfl, rfl, rfl, rfl, rfl, rfl, trivial⟩
        · refine ow_batch [.p, .p, .p, .p] rfl ?_
          exact OW.sub key ⟨rfl, rfl, rfl, rfl, rfl, rfl, rfl, rfl, rfl, rfl, trivial⟩
    · generalize (!y37) = t40 at key ⊢
      cases t40
      · refine ow_batch [.p, .p, .p] rfl ?_
        refine ow_batch [.p] rfl ?_
        exact OW.sub key ⟨rfl, rfl, rfl, rfl, rfl, rfl, rfl, rfl, rfl, rfl, trivial⟩
      · refine ow_batch [.p, .p, .p, .p] rfl ?_
        exact OW.sub key ⟨rfl, rfl, rfl, rfl, rfl, rfl, rfl, rfl, rfl, rfl, trivial⟩

set_option maxHeartbeats 4000000 in
set_option maxRecDepth 100000 in
theorem spec_GetWindow_ok (w : World) {M0 : List Nat} {p0 : List Int} {p1 : Int} {a_0 : Option Addr} {n_0 c_0 : Nat} {r : Timpl_Window × Int × Bool} (H : spec_GetWindow p0 p1 = some r) (HS : St w M0 [] w) (g0 : (eList (eVal (Value.int .u8) (fun _ => rfl)) 5).rd w M0 p0 [.slice a_0 n_0 c_0]) :
    Calls Try.prog 28 #[.slice a_0 n_0 c_0, .int .i64 p1] w (fun en w' => ∃ v, en = .returned v ∧ ∃ (a0 : Option Addr), ∃ (n0 : Nat), ∃ (c0 : Nat), ∃ (F0 : List Nat), v = .tuple #[.agg #[.slice a0 n0 c0], .int .i64 r.2.1, .bool r.2.2] ∧ St w M0 [Res.own (eList (eList (eVal (Value.int .i64) (fun _ => rfl)) 3) 22) F0 r.1.Rows_ [.slice a0 n0 c0]] w') := by
  obtain rfl := rd_n g0
  unfold spec_GetWindow at H
  refine f_enter (vs := [.slice a_0 p0.length c_0, .int .i64 p1]) Try.func28 rfl Try.ntmps28 rfl (HS) ?_
  refine c_seq ?_
  refine c_reg ?_
  refine ow_alloc rfl rfl rfl rfl ty40 (fun _ => kp) (fun b1 => ?_)
  refine ow_batch [.p, .p] rfl ?_
  refine ow_nil ?_
  refine x_qs ?_
  refine c_seq ?_
  refine c_reg ?_
  refine ow_batch [.p, .p] rfl ?_
  obtain ⟨y2, h3, H⟩ := of_bind H
  refine ow_callS rfl fn58 rfl rfl rfl rfl (fun w1 hw1 => spec_l27GetLists_ok w1  h3 (hw1.carve [] rfl rfl) (rds_bor g0 w1 hw1)) (fun v4 w1 w2 hw1 hR6 => ?_)
  obtain ⟨a7, n8, c9, F10, rfl, hS5⟩ := hR6
  obtain rfl := own_nS (i := 0) hS5 rfl
  refine ⟨St w M0 [_, _], hw1.comp [] rfl rfl hS5, fun _ _ => trivial, ?_⟩
  refine ow_batch [.p, .p, .p, .p, .p, .p, .p] rfl ?_
  refine ow_nil ?_
  refine x_qs ?_
  refine c_seq ?_
  refine c_seq ?_
  refine c_reg ?_
  refine ow_batch [.p, .p] rfl ?_
  refine ow_nil ?_
  refine x_qs ?_
  refine c_if rfl (fun hb => ?_) (fun hb => ?_)
  · have H := of_if_t hb H
    refine c_seq ?_
    refine c_reg ?_
    refine ow_r rfl (dstOk_lt rfl) (ry_build2 [] [.slice none 0 0] rfl rfl ty40 fs40 rfl trivial rfl) ?_
    refine ow_storeC (off := 0) [.slice none 0 0] [_] (i := 0) rfl rfl rfl rfl rfl rfl ty40 rfl rfl (by intro u hu; simp only [List.mem_cons, List.not_mem_nil, or_false] at hu; rcases hu with rfl <;> rfl) rfl rfl rfl kp ?_
    refine ow_batch [.p, .p] rfl ?_
    refine ow_nil ?_
    refine x_qs ?_
    refine c_ret ?_
    refine x_qs_ret ?_
    refine xw_st (fun _ h => St.pushNil (e := eList (eVal (Value.int .i64) (fun _ => rfl)) 3) (T := 22) h) ?_
    exact x_retR (rs := [.cell 4 40, .tmp 5, .tmp 6]) (vs := [.agg #[.slice none 0 0], .int .i64 0, .bool false]) rfl ⟨⟨_, [.slice none 0 0], _, _, _, rfl, ty40, (at_box (T := 40) 0 (boxIn (i := 0) rfl) rfl), rfl, rfl⟩, rfl, rfl, trivial⟩ (fun w' hw' => by
        obtain rfl := of_some H
        exact ⟨_, rfl, none, 0, 0, [], rfl, hw'.sel [2] rfl rfl⟩)
  · have H := of_if_f hb H
    refine c_skip ?_
    refine x_qs ?_
    refine c_seq ?_
    refine c_reg ?_
    refine ow_batch [.p] rfl ?_
    refine ow_r rfl (dstOk_lt rfl) (ry_build2 [(0, [.slice a7 y2.1.length c9])] [.slice a7 y2.1.length c9] rfl rfl ty40 fs40 rfl ⟨rfl, rfl, Nat.le_of_ble_eq_true rfl,  trivial⟩ rfl) ?_
    refine ow_batch [.p] rfl ?_
    refine ow_storeC (off := 0) [.slice a7 y2.1.length c9] [_] (i := 0) rfl rfl rfl rfl rfl rfl ty40 rfl rfl (by intro u hu; simp only [List.mem_cons, List.not_mem_nil, or_false] at hu; rcases hu with rfl <;> rfl) rfl rfl rfl kp ?_
    refine ow_batch [.p, .p] rfl ?_
    refine ow_nil ?_
    refine x_qs ?_
    refine c_ret ?_
    exact x_retR (rs := [.cell 4 40, .tmp 5, .tmp 6]) (vs := [.agg #[.slice a7 y2.1.length c9], .int .i64 y2.2.1, .bool true]) rfl ⟨⟨_, [.slice a7 y2.1.length c9], _, _, _, rfl, ty40, (at_box (T := 40) 0 (boxIn (i := 0) rfl) rfl), rfl, rfl⟩, rfl, rfl, trivial⟩ (fun w' hw' => by
        obtain rfl := of_some H
        exact ⟨_, rfl, a7, y2.1.length, c9, F10, rfl, hw'.sel [1] rfl rfl⟩)

set_option maxHeartbeats 4000000 in
set_option maxRecDepth 100000 in
theorem impl_reader_window_ok (w : World) {M0 : List Nat} {p0b : List Int} {p0 : Timpl_reader} {b_0 : Nat} {a_p0b : Option Addr} {n_p0b c_p0b : Nat} {r : Timpl_Window × Timpl_reader} (H : impl_reader_window p0b p0 = some r) (HS : St w M0 [Res.box b_0 74 [.slice a_p0b p0b.length c_p0b, .int .i64 p0.at_, .bool p0.bad_]] w) (g_p0b : (eList (eVal (Value.int .u8) (fun _ => rfl)) 5).rd w M0 p0b [.slice a_p0b n_p0b c_p0b]) :
    Calls Try.prog 59 #[.pointer (some ⟨b_0, 0, none⟩)] w (fun en w' => ∃ v, en = .returned v ∧ ∃ (a0 : Option Addr), ∃ (n0 : Nat), ∃ (c0 : Nat), ∃ (F0 : List Nat), v = .agg #[.slice a0 n0 c0] ∧ St w M0 [Res.own (eList (eList (eVal (Value.int .i64) (fun _ => rfl)) 3) 22) F0 r.1.Rows_ [.slice a0 n0 c0], Res.box b_0 74 [.slice a_p0b n_p0b c_p0b, .int .i64 r.2.at_, .bool r.2.bad_]] w') := by
  obtain rfl := rd_n g_p0b
  unfold impl_reader_window at H
  refine f_enter (vs := [.pointer (some ⟨b_0, 0, none⟩)]) Try.func59 rfl Try.ntmps59 rfl (HS) ?_
  refine c_seq ?_
  refine c_reg ?_
  refine ow_alloc rfl rfl rfl rfl ty40 (fun _ => kp) (fun b1 => ?_)
  refine ow_nil ?_
  refine x_qs ?_
  refine c_seq ?_
  refine c_reg ?_
  refine ow_r rfl (dstOk_lt rfl) (ry_build2 [] [.slice none 0 0] rfl rfl ty40 fs40 rfl trivial rfl) ?_
  refine ow_alloc rfl rfl rfl rfl ty40 (fun _ => kp) (fun b2 => ?_)
  refine ow_storeC (off := 0) [.slice none 0 0] [_] (i := 2) rfl rfl rfl rfl rfl rfl ty40 rfl rfl (by intro u hu; simp only [List.mem_cons, List.not_mem_nil, or_false] at hu; rcases hu with rfl <;> rfl) rfl rfl rfl kp ?_
  refine ow_nil ?_
  refine x_qs ?_
  refine c_seq ?_
  refine c_seq ?_
  refine c_reg ?_
  refine ow_batch [.p] rfl ?_
  obtain ⟨y3, h4, H⟩ := of_bind H
  refine ow_callS rfl fn84 rfl rfl rfl rfl (fun w1 hw1 => impl_reader_count_ok w1  h4 (hw1.carve [0] rfl rfl) (rdB [0] rfl rfl hw1 g_p0b)) (fun v5 w1 w2 hw1 hR7 => ?_)
  obtain ⟨rfl, hS6⟩ := hR7
  refine ⟨St w M0 [_, _, _, _], hw1.comp [0] rfl rfl hS6, fun _ _ => trivial, ?_⟩
  refine ow_batch [.p] rfl ?_
  refine ow_nil ?_
  refine x_qs ?_
  refine c_block ?_
  refine CW.weak ?_ (fun _ h => St.pushNil (e := eList (eVal (Value.int .i64) (fun _ => rfl)) 3) (T := 22) h)
  refine CW.at (loopI7 (fun (i46 : Int) (q47 : Bool) (l48 : List (List Int)) (a49 : Option Addr) (c50 : Nat) (F51 : List Nat) (i52 : Int) => St w M0 [Res.box b_0 74 [.slice a_p0b p0b.length c_p0b, .int .i64 i46, .bool q47], Res.box b1 40 [.slice none 0 0], Res.box b2 40 [.slice a49 l48.length c50], Res.own (eList (eList (eVal (Value.int .i64) (fun _ => rfl)) 3) 22) F51 l48 [.slice a49 l48.length c50]]) (fun (i46 : Int) (q47 : Bool) (l48 : List (List Int)) (a49 : Option Addr) (c50 : Nat) (F51 : List Nat) (i52 : Int) => [(0, .pointer (some ⟨b_0, 0, none⟩)), (2, .pointer (some ⟨b1, 0, none⟩)), (3, .pointer (some ⟨b2, 0, none⟩)), (4, .int .i64 i52)]) (fun kk => fun (i46 : Int) (q47 : Bool) (l48 : List (List Int)) (a49 : Option Addr) (c50 : Nat) (F51 : List Nat) (i52 : Int) => impl_reader_window_L1 p0b kk i46 q47 l48 i52 = some r) (fun _ _ _ _ _ _ _ H => ?_) (fun k1 ihk1 i46 q47 l48 a49 c50 F51 i52 H => ?_) Fuel (y3.2.at_) (y3.2.bad_) (([] : List (List Int))) (none) (0) ([]) (y3.1) (H)) (fun _ h => St.sel [3, 1, 2, 4] rfl rfl h) ⟨rfl, rfl, rfl, rfl,  trivial⟩
  · unfold impl_reader_window_L1 at H
    exact absurd H (by simp)
  · unfold impl_reader_window_L1 at H
    refine c_seq ?_
    refine c_seq ?_
    refine c_reg ?_
    refine ow_batch [.p, .p, .p] rfl ?_
    refine ow_cut [(16, .bool ((decide (i52 > 0)) && (!q47))), (0, .pointer (some ⟨b_0, 0, none⟩)), (2, .pointer (some ⟨b1, 0, none⟩)), (3, .pointer (some ⟨b2, 0, none⟩)), (4, .int .i64 i52)] 6 ?_ (fun key => OW.sub (R := [(0, .pointer (some ⟨b_0, 0, none⟩)), (2, .pointer (some ⟨b1, 0, none⟩)), (3, .pointer (some ⟨b2, 0, none⟩)), (4, .int .i64 i52), (10, .bool (decide (i52 > 0)))]) ?_ ⟨rfl, rfl, rfl, rfl, rfl, trivial⟩)
    · refine ow_nil ?_
      refine x_qs ?_
      refine c_if rfl (fun hb => ?_) (fun hb => ?_)
      · have H := of_if_t hb H
        refine c_skip ?_
        refine x_qs ?_
        refine c_seq ?_
        refine c_block ?_
        refine c_regHT 5 [(0, true), (1, true), (2, true), (3, false), (4, false)] (St w M0 [Res.nil, Res.box b1 40 [.slice none 0 0], Res.box b2 40 [.slice a49 l48.length c50], Res.own (eList (eList (eVal (Value.int .i64) (fun _ => rfl)) 3) 22) F51 l48 [.slice a49 l48.length c50]]) mixed (by kernel_rfl) (panicOk_qb (panicOk_qs (panicOk_ql (panicOk_qb (panicOk_qs panicOk_body))))) (fun _ h => St.mask [false, true, true, true] rfl h) ?_
        refine ow_batch [.fa 40 0 0 fa40_0] rfl ?_
        refine ow_rH rfl (dstOk_lt rfl) (ry_box1 (off := 0) rfl rfl ty35 (boxIn (i := 2) rfl) rfl) ?_
        refine ow_batch [.p] rfl ?_
        obtain ⟨y99, h100, H⟩ := of_bind H
        refine ow_callS rfl fn51 rfl rfl rfl rfl (fun w1 hw1 => impl_reader_list_ok w1  h100 (hw1.carve [0] rfl rfl) (rdB [0] rfl rfl hw1 g_p0b)) (fun v101 w1 w2 hw1 hR103 => ?_)
        obtain ⟨a104, n105, c106, F107, rfl, hS102⟩ := hR103
        obtain rfl := own_nS (i := 0) hS102 rfl
        refine ⟨St w M0 [_, _, _, _, _, _], hw1.comp [0] rfl rfl hS102, (fun _ h => St.mask [false, true, true, true] rfl h), ?_⟩
        refine ow_bslice [(0, [.slice a104 y99.1.length c106])] rfl rfl rfl rfl rfl sl35 ty22 rfl rfl ⟨rfl, rfl, Nat.le_of_ble_eq_true rfl,  trivial⟩ [.slice a104 y99.1.length c106] rfl (fun _ => (fun _ h => St.mask [false, true, true, true] rfl h)) (fun b108 => ?_)
        refine ow_st rfl (fun _ h => lit1 (p := 6) (q := 4) h rfl rfl rfl) ?_
        refine ow_nilH ?_
        refine x_qt ?_
        obtain ⟨l109, h110, H⟩ := of_bind H
        refine ow_appM (r := 3) (j := 7) rfl rfl rfl rfl rfl rfl sl35 ty22 rfl rfl rfl rfl rfl rfl rfl h110 (fun _ _ _ => kp) (fun a111 c112 F113 => ?_)
        refine ow_batch [.fa 40 0 0 fa40_0] rfl ?_
        refine ow_storeC (off := 0) [.slice a111 l109.length c112] [_] (i := 2) rfl rfl rfl rfl rfl rfl ty35 rfl rfl (by intro u hu; simp only [List.mem_cons, List.not_mem_nil, or_false] at hu; rcases hu with rfl <;> rfl) rfl rfl rfl kp ?_
        refine ow_nil ?_
        refine x_qb ?_
        refine x_qs ?_
        refine CW.weak (C' := St w M0 [_, _, _, _]) ?_ (fun _ h => St.sel [1, 2, 5, 8] rfl rfl h)
        refine c_reg ?_
        refine ow_batch [.p, .p, .p] rfl ?_
        refine ow_nil ?_
        exact x_ql (RW.at (ihk1 (y99.2.at_) (y99.2.bad_) (l109) (a111) (c112) (F113) (IntKind.i64.wrap (i52 - 1)) (H)) (fun _ h => St.sel [2, 0, 1, 3] rfl rfl h) ⟨rfl, rfl, rfl, rfl, trivial⟩)
      · have H := of_if_f hb H
        refine c_exit ?_
        refine x_qs_exit ?_
        refine x_ql_exit ?_
        refine x_qb_here ?_
        refine x_qs ?_
        refine c_seq ?_
        refine c_reg ?_
        refine ow_r rfl (dstOk_lt rfl) (ry_box (off := 0) (ds := [.slice a49 l48.length c50]) rfl rfl ty40 (boxIn (i := 2) rfl) rfl rfl) ?_
        refine ow_storeC (off := 0) [.slice a49 l48.length c50] [_] (i := 1) rfl rfl rfl rfl rfl rfl ty40 rfl rfl (by intro u hu; simp only [List.mem_cons, List.not_mem_nil, or_false] at hu; rcases hu with rfl <;> rfl) rfl rfl rfl kp ?_
        refine ow_nil ?_
        refine x_qs ?_
        refine c_ret ?_
        exact x_retR (rs := [.cell 2 40]) (vs := [.agg #[.slice a49 l48.length c50]]) rfl ⟨⟨_, [.slice a49 l48.length c50], _, _, _, rfl, ty40, (at_box (T := 40) 0 (boxIn (i := 1) rfl) rfl), rfl, rfl⟩, trivial⟩ (fun w' hw' => by
            obtain rfl := of_some H
            exact ⟨_, rfl, a49, l48.length, c50, F51, rfl, hw'.sel [3, 0] rfl rfl⟩)
    · generalize (decide (i52 > 0)) = t88 at key ⊢
      cases t88
      · refine ow_batch [.p, .p, .p, .p, .p, .p] rfl ?_
        exact OW.sub key ⟨rfl, rfl, rfl, rfl, rfl, trivial⟩
      · refine ow_batch [.p, .p, .fa 74 2 2 fa74_2] rfl ?_
        refine ow_r rfl (dstOk_lt rfl) (ry_box1 (off := 2) rfl rfl ty4 (boxIn (i := 0) rfl) rfl) ?_
        refine ow_batch [.p] rfl ?_
        refine ow_batch [.p] rfl ?_
        exact OW.sub key ⟨rfl, rfl, rfl, rfl, rfl, trivial⟩

set_option maxHeartbeats 4000000 in
set_option maxRecDepth 100000 in
theorem impl_GetWindow_ok (w : World) {M0 : List Nat} {p0 : List Int} {p1 : Int} {a_0 : Option Addr} {n_0 c_0 : Nat} {r : Timpl_Window × Int × Bool} (H : impl_GetWindow p0 p1 = some r) (HS : St w M0 [] w) (g0 : (eList (eVal (Value.int .u8) (fun _ => rfl)) 5).rd w M0 p0 [.slice a_0 n_0 c_0]) :
    Calls Try.prog 29 #[.slice a_0 n_0 c_0, .int .i64 p1] w (fun en w' => ∃ v, en = .returned v ∧ ∃ (a0 : Option Addr), ∃ (n0 : Nat), ∃ (c0 : Nat), ∃ (F0 : List Nat), v = .tuple #[.agg #[.slice a0 n0 c0], .int .i64 r.2.1, .bool r.2.2] ∧ St w M0 [Res.own (eList (eList (eVal (Value.int .i64) (fun _ => rfl)) 3) 22) F0 r.1.Rows_ [.slice a0 n0 c0]] w') := by
  obtain rfl := rd_n g0
  unfold impl_GetWindow at H
  refine f_enter (vs := [.slice a_0 p0.length c_0, .int .i64 p1]) Try.func29 rfl Try.ntmps29 rfl (HS) ?_
  refine c_seq ?_
  refine c_reg ?_
  refine ow_alloc rfl rfl rfl rfl ty40 (fun _ => kp) (fun b1 => ?_)
  refine ow_batch [.p, .p] rfl ?_
  refine ow_nil ?_
  refine x_qs ?_
  refine c_seq ?_
  refine c_reg ?_
  refine ow_batch [.p, .p] rfl ?_
  refine ow_r rfl (dstOk_lt rfl) (ry_build2 [(0, [.slice a_0 p0.length c_0]), (1, [.int .i64 p1])] [.slice a_0 p0.length c_0, .int .i64 p1, .bool false] rfl rfl ty74 fs74 rfl ⟨rfl, rfl, Nat.le_of_ble_eq_true rfl, rfl, rfl, Nat.le_of_ble_eq_true rfl,  trivial⟩ rfl) ?_
  refine ow_box (cs := [.slice a_0 p0.length c_0, .int .i64 p1, .bool false]) rfl rfl rfl rfl rfl rfl (fun _ => kp) (fun b2 => ?_)
  refine ow_batch [.p] rfl ?_
  refine ow_nil ?_
  refine x_qs ?_
  refine c_seq ?_
  refine c_reg ?_
  refine ow_batch [.p] rfl ?_
  obtain ⟨y3, h4, H⟩ := of_bind H
  refine ow_callS rfl fn59 rfl rfl rfl rfl (fun w1 hw1 => impl_reader_window_ok w1  h4 (hw1.carve [1] rfl rfl) (rdB [1] rfl rfl hw1 g0)) (fun v5 w1 w2 hw1 hR7 => ?_)
  obtain ⟨a8, n9, c10, F11, rfl, hS6⟩ := hR7
  obtain rfl := own_nS (i := 0) hS6 rfl
  refine ⟨St w M0 [_, _, _, _], hw1.comp [1] rfl rfl hS6, fun _ _ => trivial, ?_⟩
  refine ow_alloc rfl rfl rfl rfl ty40 (fun _ => kp) (fun b12 => ?_)
  refine ow_storeC (off := 0) [.slice a8 y3.1.Rows_.length c10] [_] (i := 4) rfl rfl rfl rfl rfl rfl ty40 rfl rfl (by intro u hu; simp only [List.mem_cons, List.not_mem_nil, or_false] at hu; rcases hu with rfl <;> rfl) rfl rfl rfl kp ?_
  refine ow_nil ?_
  refine x_qs ?_
  refine c_seq ?_
  refine c_seq ?_
  refine c_reg ?_
  refine ow_batch [.p, .p, .fa 74 2 2 fa74_2] rfl ?_
  refine ow_r rfl (dstOk_lt rfl) (ry_box1 (off := 2) rfl rfl ty4 (boxIn (i := 3) rfl) rfl) ?_
  refine ow_nil ?_
  refine x_qs ?_
  refine c_if rfl (fun hb => ?_) (fun hb => ?_)
  · have H := of_if_t hb H
    refine c_seq ?_
    refine c_reg ?_
    refine ow_r rfl (dstOk_lt rfl) (ry_build2 [] [.slice none 0 0] rfl rfl ty40 fs40 rfl trivial rfl) ?_
    refine ow_storeC (off := 0) [.slice none 0 0] [_] (i := 0) rfl rfl rfl rfl rfl rfl ty40 rfl rfl (by intro u hu; simp only [List.mem_cons, List.not_mem_nil, or_false] at hu; rcases hu with rfl <;> rfl) rfl rfl rfl kp ?_
    refine ow_batch [.p, .p] rfl ?_
    refine ow_nil ?_
    refine x_qs ?_
    refine c_ret ?_
    refine x_qs_ret ?_
    refine xw_st (fun _ h => St.pushNil (e := eList (eVal (Value.int .i64) (fun _ => rfl)) 3) (T := 22) h) ?_
    exact x_retR (rs := [.cell 4 40, .tmp 5, .tmp 6]) (vs := [.agg #[.slice none 0 0], .int .i64 0, .bool false]) rfl ⟨⟨_, [.slice none 0 0], _, _, _, rfl, ty40, (at_box (T := 40) 0 (boxIn (i := 0) rfl) rfl), rfl, rfl⟩, rfl, rfl, trivial⟩ (fun w' hw' => by
        obtain rfl := of_some H
        exact ⟨_, rfl, none, 0, 0, [], rfl, hw'.sel [5] rfl rfl⟩)
  · have H := of_if_f hb H
    refine c_skip ?_
    refine x_qs ?_
    refine c_seq ?_
    refine c_regHT 6 [(0, true), (1, true), (2, true), (3, true), (4, true), (5, false)] (St w M0 [Res.nil, Res.nil, Res.own (eList (eList (eVal (Value.int .i64) (fun _ => rfl)) 3) 22) F11 y3.1.Rows_ [.slice a8 y3.1.Rows_.length c10], Res.box b2 74 [.slice a_0 p0.length c_0, .int .i64 y3.2.at_, .bool y3.2.bad_], Res.box b12 40 [.slice a8 y3.1.Rows_.length c10]]) mixed (by kernel_rfl) (panicOk_qs panicOk_body) (fun _ h => St.mask [false, true, true, true, true] rfl h) ?_
    refine ow_rH rfl (dstOk_lt rfl) (ry_box (off := 0) (ds := [.slice a8 y3.1.Rows_.length c10]) rfl rfl ty40 (boxIn (i := 4) rfl) rfl rfl) ?_
    refine ow_batch [.p, .p, .fa 74 1 1 fa74_1] rfl ?_
    refine ow_rH rfl (dstOk_lt rfl) (ry_box1 (off := 1) rfl rfl ty3 (boxIn (i := 3) rfl) rfl) ?_
    refine ow_storeC (off := 0) [.slice a8 y3.1.Rows_.length c10] [_] (i := 0) rfl rfl rfl rfl rfl rfl ty40 rfl rfl (by intro u hu; simp only [List.mem_cons, List.not_mem_nil, or_false] at hu; rcases hu with rfl <;> rfl) rfl rfl rfl (fun _ h => St.mask [false, true, true, true, true] rfl h) ?_
    refine ow_nilH ?_
    refine x_qt ?_
    refine ow_batch [.p, .p] rfl ?_
    refine ow_nil ?_
    refine x_qs ?_
    refine c_ret ?_
    exact x_retR (rs := [.cell 4 40, .tmp 5, .tmp 6]) (vs := [.agg #[.slice a8 y3.1.Rows_.length c10], .int .i64 y3.2.at_, .bool true]) rfl ⟨⟨_, [.slice a8 y3.1.Rows_.length c10], _, _, _, rfl, ty40, (at_box (T := 40) 0 (boxIn (i := 0) rfl) rfl), rfl, rfl⟩, rfl, rfl, trivial⟩ (fun w' hw' => by
        obtain rfl := of_some H
        exact ⟨_, rfl, a8, y3.1.Rows_.length, c10, F11, rfl, hw'.sel [2] rfl rfl⟩)

set_option maxHeartbeats 4000000 in
set_option maxRecDepth 100000 in
theorem laws_heldWindow_ok (w : World) {p0 : Timpl_Window} {p1 : Int} {cs0 : List Value} {r : Int} (H : laws_heldWindow p0 p1 = some r)  (g0 : (eTimpl_Window).rd w [] p0 cs0) :
    Calls Try.prog 30 #[.agg cs0.toArray, .int .i64 p1] w (fun en w' => en = .returned (.int .i64 r) ∧ Ext [] w w') := by
  obtain ⟨c1, rfl, g2⟩ := rdo_Timpl_Window g0
  obtain ⟨a3, c4, rfl⟩ := rd_sl1 g2
  unfold laws_heldWindow at H
  refine f_enter (vs := [.agg #[.slice a3 p0.Rows_.length c4], .int .i64 p1]) Try.func30 rfl Try.ntmps30 rfl (St.init w []) ?_
  refine c_seq ?_
  refine c_reg ?_
  refine ow_box (cs := [.slice a3 p0.Rows_.length c4]) rfl rfl rfl rfl rfl rfl (fun _ => kp) (fun b5 => ?_)
  refine ow_batch [.p] rfl ?_
  refine ow_nil ?_
  refine x_qs ?_
  refine c_seq ?_
  refine c_reg ?_
  refine ow_batch [.fa 40 0 0 fa40_0] rfl ?_
  refine ow_r rfl (dstOk_lt rfl) (ry_box1 (off := 0) rfl rfl ty35 (boxIn (i := 0) rfl) rfl) ?_
  refine ow_batch [.p] rfl ?_
  obtain ⟨y6, h7, H⟩ := of_bind H
  refine ow_q rfl rfl (dstOk_lt rfl) (qy_call rfl fn60 rfl (fun w1 hw1 => laws_heldIntSS_ok w1  h7 (rds_bor g2 w1 hw1))) (fun _ _ => trivial) ?_
  refine ow_batch [.p] rfl ?_
  refine ow_nil ?_
  refine x_qs ?_
  refine c_seq ?_
  refine c_seq ?_
  refine c_reg ?_
  refine ow_batch [.p, .p] rfl ?_
  refine ow_nil ?_
  refine x_qs ?_
  refine c_if rfl (fun hb => ?_) (fun hb => ?_)
  · have H := of_if_t hb H
    refine c_seq ?_
    refine c_reg ?_
    refine ow_batch [.p] rfl ?_
    refine ow_nil ?_
    refine x_qs ?_
    refine c_ret ?_
    refine x_qs_ret ?_
    exact x_retR (rs := [.tmp 4]) (vs := [.int .i64 (-1)]) rfl ⟨rfl, trivial⟩ (fun w' hw' => by
        obtain rfl := of_some H
        exact ⟨rfl, hw'.ext⟩)
  · have H := of_if_f hb H
    refine c_skip ?_
    refine x_qs ?_
    refine c_seq ?_
    refine c_reg ?_
    refine ow_batch [.p, .p] rfl ?_
    refine ow_nil ?_
    refine x_qs ?_
    refine c_ret ?_
    exact x_retR (rs := [.tmp 4]) (vs := [.int .i64 y6]) rfl ⟨rfl, trivial⟩ (fun w' hw' => by
        obtain rfl := of_some H
        exact ⟨rfl, hw'.ext⟩)

set_option maxHeartbeats 4000000 in
set_option maxRecDepth 100000 in
theorem laws_FnExactGetWindow_ok (w : World) {p0 : List Int} {p1 : Int} {a_0 : Option Addr} {n_0 c_0 : Nat} {r : Bool} (H : laws_FnExactGetWindow p0 p1 = some r)  (g0 : (eList (eVal (Value.int .u8) (fun _ => rfl)) 5).rd w [] p0 [.slice a_0 n_0 c_0]) :
    Calls Try.prog 6 #[.slice a_0 n_0 c_0, .int .i64 p1] w (fun en w' => en = .returned (.bool r) ∧ Ext [] w w') := by
  obtain rfl := rd_n g0
  unfold laws_FnExactGetWindow at H
  refine f_enter (vs := [.slice a_0 p0.length c_0, .int .i64 p1]) Try.func6 rfl Try.ntmps6 rfl (St.init w []) ?_
  refine c_seq ?_
  refine c_reg ?_
  refine ow_batch [.p] rfl ?_
  refine ow_nil ?_
  refine x_qs ?_
  refine c_seq ?_
  refine c_seq ?_
  refine c_reg ?_
  refine ow_batch [.p, .lenS 23 5 sl23, .p] rfl ?_
  refine ow_nil ?_
  refine x_qs ?_
  refine c_if rfl (fun hb => ?_) (fun hb => ?_)
  · have H := of_if_t hb H
    refine c_seq ?_
    refine c_reg ?_
    refine ow_batch [.p] rfl ?_
    refine ow_nil ?_
    refine x_qs ?_
    refine c_ret ?_
    refine x_qs_ret ?_
    exact x_retR (rs := [.tmp 4]) (vs := [.bool true]) rfl ⟨rfl, trivial⟩ (fun w' hw' => by
        obtain rfl := of_some H
        exact ⟨rfl, hw'.ext⟩)
  · have H := of_if_f hb H
    refine c_skip ?_
    refine x_qs ?_
    refine c_seq ?_
    refine c_reg ?_
    refine ow_batch [.p] rfl ?_
    obtain ⟨y1, h2, H⟩ := of_bind H
    refine ow_callS rfl fn19 rfl rfl rfl rfl (fun w1 hw1 => laws_toByteS_ok w1  h2 (hw1.carve [] rfl rfl) (rds_bor g0 w1 hw1)) (fun v3 w1 w2 hw1 hR5 => ?_)
    obtain ⟨a6, n7, c8, F9, rfl, hS4⟩ := hR5
    obtain rfl := own_nS (i := 0) hS4 rfl
    refine ⟨St w [] [_], hw1.comp [] rfl rfl hS4, fun _ _ => trivial, ?_⟩
    refine ow_batch [.p] rfl ?_
    obtain ⟨y10, h11, H⟩ := of_bind H
    refine ow_callS rfl fn28 rfl rfl rfl rfl (fun w1 hw1 => spec_GetWindow_ok w1  h11 (hw1.carve [] rfl rfl) (rds_own (r := 0) rfl w1 hw1)) (fun v12 w1 w2 hw1 hR14 => ?_)
    obtain ⟨a15, n16, c17, F18, rfl, hS13⟩ := hR14
    obtain rfl := own_nS (i := 0) hS13 rfl
    refine ⟨St w [] [_, _], hw1.comp [] rfl rfl hS13, fun _ _ => trivial, ?_⟩
    refine ow_batch [.p, .p, .p, .p] rfl ?_
    refine ow_alloc rfl rfl rfl rfl ty40 (fun _ => kp) (fun b19 => ?_)
    refine ow_storeC (off := 0) [.slice a15 y10.1.Rows_.length c17] [_] (i := 2) rfl rfl rfl rfl rfl rfl ty40 rfl rfl (by intro u hu; simp only [List.mem_cons, List.not_mem_nil, or_false] at hu; rcases hu with rfl <;> rfl) rfl rfl rfl kp ?_
    refine ow_batch [.p, .p] rfl ?_
    refine ow_nil ?_
    refine x_qs ?_
    refine c_seq ?_
    refine c_reg ?_
    refine ow_batch [.p] rfl ?_
    obtain ⟨y20, h21, H⟩ := of_bind H
    refine ow_callS rfl fn19 rfl rfl rfl rfl (fun w1 hw1 => laws_toByteS_ok w1  h21 (hw1.carve [] rfl rfl) (rds_bor g0 w1 hw1)) (fun v22 w1 w2 hw1 hR24 => ?_)
    obtain ⟨a25, n26, c27, F28, rfl, hS23⟩ := hR24
    obtain rfl := own_nS (i := 0) hS23 rfl
    refine ⟨St w [] [_, _, _, _], hw1.comp [] rfl rfl hS23, fun _ _ => trivial, ?_⟩
    refine ow_batch [.p] rfl ?_
    refine ow_nil ?_
    refine x_qs ?_
    refine c_seq ?_
    refine c_reg ?_
    refine ow_batch [.p, .p] rfl ?_
    obtain ⟨y29, h30, H⟩ := of_bind H
    refine ow_callS rfl fn29 rfl rfl rfl rfl (fun w1 hw1 => impl_GetWindow_ok w1  h30 (hw1.carve [] rfl rfl) (rds_own (r := 3) rfl w1 hw1)) (fun v31 w1 w2 hw1 hR33 => ?_)
    obtain ⟨a34, n35, c36, F37, rfl, hS32⟩ := hR33
    obtain rfl := own_nS (i := 0) hS32 rfl
    refine ⟨St w [] [_, _, _, _, _], hw1.comp [] rfl rfl hS32, fun _ _ => trivial, ?_⟩
    refine ow_batch [.p, .p, .p, .p] rfl ?_
    refine ow_alloc rfl rfl rfl rfl ty40 (fun _ => kp) (fun b38 => ?_)
    refine ow_storeC (off := 0) [.slice a34 y29.1.Rows_.length c36] [_] (i := 5) rfl rfl rfl rfl rfl rfl ty40 rfl rfl (by intro u hu; simp only [List.mem_cons, List.not_mem_nil, or_false] at hu; rcases hu with rfl <;> rfl) rfl rfl rfl kp ?_
    refine ow_batch [.p, .p] rfl ?_
    refine ow_nil ?_
    refine x_qs ?_
    refine c_seq ?_
    refine c_seq ?_
    refine c_reg ?_
    refine ow_r rfl (dstOk_lt rfl) (ry_box (off := 0) (ds := [.slice a34 y29.1.Rows_.length c36]) rfl rfl ty40 (boxIn (i := 5) rfl) rfl rfl) ?_
    refine ow_r rfl (dstOk_lt rfl) (ry_box (off := 0) (ds := [.slice a15 y10.1.Rows_.length c17]) rfl rfl ty40 (boxIn (i := 2) rfl) rfl rfl) ?_
    obtain ⟨y39, h40, H⟩ := of_bind H
    refine ow_q rfl rfl (dstOk_lt rfl) (qy_call rfl fn26 rfl (fun w1 hw1 => laws_eqWindow_ok w1 (cs0 := [.slice a34 y29.1.Rows_.length c36]) (cs1 := [.slice a15 y10.1.Rows_.length c17]) h40 (rdm_Timpl_Window (x := y29.1) (c0 := [.slice a34 y29.1.Rows_.length c36]) (rds_own (r := 4) rfl w1 hw1)) (rdm_Timpl_Window (x := y10.1) (c0 := [.slice a15 y10.1.Rows_.length c17]) (rds_own (r := 1) rfl w1 hw1)))) (fun _ _ => trivial) ?_
    refine ow_batch [.p, .p] rfl ?_
    refine ow_cut [(46, .bool ((!y39) || (y29.2.1 != y10.2.1))), (0, .slice a_0 p0.length c_0), (1, .int .i64 p1), (5, .pointer (some ⟨b19, 0, none⟩)), (6, .int .i64 y10.2.1), (7, .bool y10.2.2), (8, .slice a25 y20.length c27), (9, .pointer (some ⟨b38, 0, none⟩)), (10, .int .i64 y29.2.1), (11, .bool y29.2.2)] 4 ?_ (fun key => OW.sub (R := [(0, .slice a_0 p0.length c_0), (1, .int .i64 p1), (5, .pointer (some ⟨b19, 0, none⟩)), (6, .int .i64 y10.2.1), (7, .bool y10.2.2), (8, .slice a25 y20.length c27), (9, .pointer (some ⟨b38, 0, none⟩)), (10, .int .i64 y29.2.1), (11, .bool y29.2.2), (42, .bool (!y39))]) ?_ ⟨rfl, rfl, rfl, rfl, rfl, rfl, rfl, rfl, rfl, rfl, trivial⟩)
    · refine ow_batch [.p] rfl ?_
      refine ow_cut [(51, .bool (((!y39) || (y29.2.1 != y10.2.1)) || (y29.2.2 != y10.2.2))), (0, .slice a_0 p0.length c_0), (1, .int .i64 p1), (5, .pointer (some ⟨b19, 0, none⟩)), (6, .int .i64 y10.2.1), (7, .bool y10.2.2), (8, .slice a25 y20.length c27), (9, .pointer (some ⟨b38, 0, none⟩)), (10, .int .i64 y29.2.1), (11, .bool y29.2.2)] 4 ?_ (fun key => OW.sub (R := [(0, .slice a_0 p0.length c_0), (1, .int .i64 p1), (5, .pointer (some ⟨b19, 0, none⟩)), (6, .int .i64 y10.2.1), (7, .bool y10.2.2), (8, .slice a25 y20.length c27), (9, .pointer (some ⟨b38, 0, none⟩)), (10, .int .i64 y29.2.1), (11, .bool y29.2.2), (47, .bool ((!y39) || (y29.2.1 != y10.2.1)))]) ?_ ⟨rfl, rfl, rfl, rfl, rfl, rfl, rfl, rfl, rfl, rfl, trivial⟩)
      · refine ow_nil ?_
        refine x_qs ?_
        refine c_if rfl (fun hb => ?_) (fun hb => ?_)
        · have H := of_if_t hb H
          refine c_seq ?_
          refine c_reg ?_
          refine ow_batch [.p] rfl ?_
          refine ow_nil ?_
          refine x_qs ?_
          refine c_ret ?_
          refine x_qs_ret ?_
          exact x_retR (rs := [.tmp 4]) (vs := [.bool false]) rfl ⟨rfl, trivial⟩ (fun w' hw' => by
              obtain rfl := of_some H
              exact ⟨rfl, hw'.ext⟩)
        · have H := of_if_f hb H
          refine c_skip ?_
          refine x_qs ?_
          refine c_seq ?_
          refine c_seq ?_
          refine c_reg ?_
          refine ow_batch [.p, .p] rfl ?_
          obtain ⟨y45, h46, H⟩ := of_bind H
          refine ow_callS rfl fn19 rfl rfl rfl rfl (fun w1 hw1 => laws_toByteS_ok w1  h46 (hw1.carve [] rfl rfl) (rds_bor g0 w1 hw1)) (fun v47 w1 w2 hw1 hR49 => ?_)
          obtain ⟨a50, n51, c52, F53, rfl, hS48⟩ := hR49
          obtain rfl := own_nS (i := 0) hS48 rfl
          refine ⟨St w [] [_, _, _, _, _, _, _], hw1.comp [] rfl rfl hS48, fun _ _ => trivial, ?_⟩
          obtain ⟨y54, h55, H⟩ := of_bind H
          refine ow_q rfl rfl (dstOk_lt rfl) (qy_call rfl fn13 rfl (fun w1 hw1 => laws_eqByteS_ok w1  h55 (rds_own (r := 3) rfl w1 hw1) (rds_own (r := 6) rfl w1 hw1))) (fun _ _ => trivial) ?_
          refine ow_batch [.p] rfl ?_
          refine ow_nil ?_
          refine x_qs ?_
          refine c_if rfl (fun hb => ?_) (fun hb => ?_)
          · have H := of_if_t hb H
            refine c_seq ?_
            refine c_reg ?_
            refine ow_batch [.p] rfl ?_
            refine ow_nil ?_
            refine x_qs ?_
            refine c_ret ?_
            refine x_qs_ret ?_
            exact x_retR (rs := [.tmp 4]) (vs := [.bool false]) rfl ⟨rfl, trivial⟩ (fun w' hw' => by
                obtain rfl := of_some H
                exact ⟨rfl, hw'.ext⟩)
          · have H := of_if_f hb H
            refine c_skip ?_
            refine x_qs ?_
            refine c_seq ?_
            refine c_reg ?_
            refine ow_batch [.p] rfl ?_
            refine ow_nil ?_
            refine x_qs ?_
            refine c_seq ?_
            refine c_reg ?_
            refine ow_batch [.p, .p] rfl ?_
            obtain ⟨y56, h57, H⟩ := of_bind H
            refine ow_callS rfl fn16 rfl rfl rfl rfl (fun w1 hw1 => laws_markByteS_ok w1  h57 (hw1.carve [3] rfl rfl)) (fun v58 w1 w2 hw1 hR60 => ?_)
            obtain ⟨F61, rfl, hS59⟩ := hR60
            refine ⟨St w [] [_, _, _, _, _, _, _, _], hw1.comp [3] rfl rfl hS59, fun _ _ => trivial, ?_⟩
            refine ow_batch [.p] rfl ?_
            refine ow_nil ?_
            refine x_qs ?_
            refine c_seq ?_
            refine c_seq ?_
            refine c_reg ?_
            refine ow_batch [.p, .p, .p] rfl ?_
            obtain ⟨u62, hu66, H⟩ := of_bind H
            refine ow_cut [(67, .bool u62), (0, .slice a_0 p0.length c_0), (1, .int .i64 p1), (5, .pointer (some ⟨b19, 0, none⟩)), (6, .int .i64 y10.2.1), (7, .bool y10.2.2), (9, .pointer (some ⟨b38, 0, none⟩)), (10, .int .i64 y29.2.1), (11, .bool y29.2.2)] 5 ?_ (fun key => OW.sub (R := [(0, .slice a_0 p0.length c_0), (1, .int .i64 p1), (5, .pointer (some ⟨b19, 0, none⟩)), (6, .int .i64 y10.2.1), (7, .bool y10.2.2), (9, .pointer (some ⟨b38, 0, none⟩)), (10, .int .i64 y29.2.1), (11, .bool y29.2.2), (62, .bool (decide (y56.1 < 0)))]) ?_ ⟨rfl, rfl, rfl, rfl, rfl, rfl, rfl, rfl, rfl, trivial⟩)
            · refine ow_batch [.p] rfl ?_
              refine ow_cut [(72, .bool (u62 || (y29.2.1 != y10.2.1))), (0, .slice a_0 p0.length c_0), (1, .int .i64 p1), (5, .pointer (some ⟨b19, 0, none⟩)), (6, .int .i64 y10.2.1), (7, .bool y10.2.2), (9, .pointer (some ⟨b38, 0, none⟩)), (11, .bool y29.2.2)] 4 ?_ (fun key => OW.sub (R := [(0, .slice a_0 p0.length c_0), (1, .int .i64 p1), (5, .pointer (some ⟨b19, 0, none⟩)), (6, .int .i64 y10.2.1), (7, .bool y10.2.2), (9, .pointer (some ⟨b38, 0, none⟩)), (10, .int .i64 y29.2.1), (11, .bool y29.2.2), (68, .bool u62)]) ?_ ⟨rfl, rfl, rfl, rfl, rfl, rfl, rfl, rfl, rfl, trivial⟩)
              · refine ow_batch [.p] rfl ?_
                refine ow_cut [(77, .bool ((u62 || (y29.2.1 != y10.2.1)) || (y29.2.2 != y10.2.2))), (0, .slice a_0 p0.length c_0), (1, .int .i64 p1), (5, .pointer (some ⟨b19, 0, none⟩)), (6, .int .i64 y10.2.1), (7, .bool y10.2.2), (9, .pointer (some ⟨b38, 0, none⟩))] 4 ?_ (fun key => OW.sub (R := [(0, .slice a_0 p0.length c_0), (1, .int .i64 p1), (5, .pointer (some ⟨b19, 0, none⟩)), (6, .int .i64 y10.2.1), (7, .bool y10.2.2), (9, .pointer (some ⟨b38, 0, none⟩)), (11, .bool y29.2.2), (73, .bool (u62 || (y29.2.1 != y10.2.1)))]) ?_ ⟨rfl, rfl, rfl, rfl, rfl, rfl, rfl, rfl, trivial⟩)
                · refine ow_nil ?_
                  refine x_qs ?_
                  refine c_if rfl (fun hb => ?_) (fun hb => ?_)
                  · have H := of_if_t hb H
                    refine c_seq ?_
                    refine c_reg ?_
                    refine ow_batch [.p] rfl ?_
                    refine ow_nil ?_
                    refine x_qs ?_
                    refine c_ret ?_
                    refine x_qs_ret ?_
                    exact x_retR (rs := [.tmp 4]) (vs := [.bool false]) rfl ⟨rfl, trivial⟩ (fun w' hw' => by
                        obtain rfl := of_some H
                        exact ⟨rfl, hw'.ext⟩)
                  · have H := of_if_f hb H
                    refine c_skip ?_
                    refine x_qs ?_
                    refine c_seq ?_
                    refine c_reg ?_
                    refine ow_batch [.p] rfl ?_
                    refine ow_nil ?_
                    refine x_qs ?_
                    refine c_seq ?_
                    refine c_reg ?_
                    refine ow_r rfl (dstOk_lt rfl) (ry_box (off := 0) (ds := [.slice a34 y29.1.Rows_.length c36]) rfl rfl ty40 (boxIn (i := 5) rfl) rfl rfl) ?_
                    refine ow_batch [.p] rfl ?_
                    obtain ⟨y71, h72, H⟩ := of_bind H
                    refine ow_callS rfl fn27 rfl rfl rfl rfl (fun w1 hw1 => laws_markWindow_ok w1  h72 (hw1.carve [4] rfl rfl)) (fun v73 w1 w2 hw1 hR75 => ?_)
                    obtain ⟨F76, rfl, hS74⟩ := hR75
                    refine ⟨St w [] [_, _, _, _, _, _, _, _, _], hw1.comp [4] rfl rfl hS74, fun _ _ => trivial, ?_⟩
                    refine ow_batch [.p] rfl ?_
                    refine ow_nil ?_
                    refine x_qs ?_
                    refine c_seq ?_
                    refine CW.weak (C' := St w [] [_, _, _, _, _, _, _]) ?_ (fun _ h => St.sel [0, 1, 2, 5, 6, 7, 8] rfl rfl h)
                    refine c_reg ?_
                    refine ow_batch [.p] rfl ?_
                    refine ow_nil ?_
                    refine x_qs ?_
                    refine c_seq ?_
                    refine c_reg ?_
                    refine ow_r rfl (dstOk_lt rfl) (ry_box (off := 0) (ds := [.slice a34 y29.1.Rows_.length c36]) rfl rfl ty40 (boxIn (i := 3) rfl) rfl rfl) ?_
                    refine ow_batch [.p] rfl ?_
                    obtain ⟨y77, h78, H⟩ := of_bind H
                    refine ow_q rfl rfl (dstOk_lt rfl) (qy_call rfl fn30 rfl (fun w1 hw1 => laws_heldWindow_ok w1 (cs0 := [.slice a34 y29.1.Rows_.length c36]) h78 (rdm_Timpl_Window (x := y71.2) (c0 := [.slice a34 y29.1.Rows_.length c36]) (rds_own (r := 6) rfl w1 hw1)))) (fun _ _ => trivial) ?_
                    refine ow_batch [.p] rfl ?_
                    refine ow_nil ?_
                    refine x_qs ?_
                    refine c_seq ?_
                    refine c_seq ?_
                    refine c_reg ?_
                    refine ow_batch [.p, .p] rfl ?_
                    refine ow_nil ?_
                    refine x_qs ?_
                    refine c_if rfl (fun hb => ?_) (fun hb => ?_)
                    · have H := of_if_t hb H
                      refine c_seq ?_
                      refine c_reg ?_
                      refine ow_batch [.p] rfl ?_
                      refine ow_nil ?_
                      refine x_qs ?_
                      refine c_ret ?_
                      refine x_qs_ret ?_
                      exact x_retR (rs := [.tmp 4]) (vs := [.bool false]) rfl ⟨rfl, trivial⟩ (fun w' hw' => by
                          obtain rfl := of_some H
                          exact ⟨rfl, hw'.ext⟩)
                    · have H := of_if_f hb H
                      refine c_skip ?_
                      refine x_qs ?_
                      refine c_seq ?_
                      refine c_seq ?_
                      refine c_reg ?_
                      refine ow_batch [.p, .p, .p] rfl ?_
                      refine ow_nil ?_
                      refine x_qs ?_
                      refine c_if rfl (fun hb => ?_) (fun hb => ?_)
                      · have H := of_if_t hb H
                        refine c_seq ?_
                        refine c_reg ?_
                        refine ow_batch [.p] rfl ?_
                        refine ow_nil ?_
                        refine x_qs ?_
                        refine c_ret ?_
                        refine x_qs_ret ?_
                        exact x_retR (rs := [.tmp 4]) (vs := [.bool false]) rfl ⟨rfl, trivial⟩ (fun w' hw' => by
                            obtain rfl := of_some H
                            exact ⟨rfl, hw'.ext⟩)
                      · have H := of_if_f hb H
                        refine c_skip ?_
                        refine x_qs ?_
                        refine c_seq ?_
                        refine c_reg ?_
                        refine ow_batch [.p] rfl ?_
                        obtain ⟨y79, h80, H⟩ := of_bind H
                        refine ow_callS rfl fn19 rfl rfl rfl rfl (fun w1 hw1 => laws_toByteS_ok w1  h80 (hw1.carve [] rfl rfl) (rds_bor g0 w1 hw1)) (fun v81 w1 w2 hw1 hR83 => ?_)
                        obtain ⟨a84, n85, c86, F87, rfl, hS82⟩ := hR83
                        obtain rfl := own_nS (i := 0) hS82 rfl
                        refine ⟨St w [] [_, _, _, _, _, _, _, _], hw1.comp [] rfl rfl hS82, fun _ _ => trivial, ?_⟩
                        refine ow_batch [.p] rfl ?_
                        obtain ⟨y88, h89, H⟩ := of_bind H
                        refine ow_callS rfl fn29 rfl rfl rfl rfl (fun w1 hw1 => impl_GetWindow_ok w1  h89 (hw1.carve [] rfl rfl) (rds_own (r := 7) rfl w1 hw1)) (fun v90 w1 w2 hw1 hR92 => ?_)
                        obtain ⟨a93, n94, c95, F96, rfl, hS91⟩ := hR92
                        obtain rfl := own_nS (i := 0) hS91 rfl
                        refine ⟨St w [] [_, _, _, _, _, _, _, _, _], hw1.comp [] rfl rfl hS91, fun _ _ => trivial, ?_⟩
                        refine ow_batch [.p, .p, .p, .p] rfl ?_
                        refine ow_alloc rfl rfl rfl rfl ty40 (fun _ => kp) (fun b97 => ?_)
                        refine ow_storeC (off := 0) [.slice a93 y88.1.Rows_.length c95] [_] (i := 9) rfl rfl rfl rfl rfl rfl ty40 rfl rfl (by intro u hu; simp only [List.mem_cons, List.not_mem_nil, or_false] at hu; rcases hu with rfl <;> rfl) rfl rfl rfl kp ?_
                        refine ow_batch [.p, .p] rfl ?_
                        refine ow_nil ?_
                        refine x_qs ?_
                        refine c_seq ?_
                        refine c_seq ?_
                        refine c_reg ?_
                        refine ow_r rfl (dstOk_lt rfl) (ry_box (off := 0) (ds := [.slice a93 y88.1.Rows_.length c95]) rfl rfl ty40 (boxIn (i := 9) rfl) rfl rfl) ?_
                        refine ow_r rfl (dstOk_lt rfl) (ry_box (off := 0) (ds := [.slice a15 y10.1.Rows_.length c17]) rfl rfl ty40 (boxIn (i := 2) rfl) rfl rfl) ?_
                        obtain ⟨y98, h99, H⟩ := of_bind H
                        refine ow_q rfl rfl (dstOk_lt rfl) (qy_call rfl fn26 rfl (fun w1 hw1 => laws_eqWindow_ok w1 (cs0 := [.slice a93 y88.1.Rows_.length c95]) (cs1 := [.slice a15 y10.1.Rows_.length c17]) h99 (rdm_Timpl_Window (x := y88.1) (c0 := [.slice a93 y88.1.Rows_.length c95]) (rds_own (r := 8) rfl w1 hw1)) (rdm_Timpl_Window (x := y10.1) (c0 := [.slice a15 y10.1.Rows_.length c17]) (rds_own (r := 1) rfl w1 hw1)))) (fun _ _ => trivial) ?_
                        refine ow_batch [.p, .p] rfl ?_
                        refine ow_cut [(105, .bool ((!y98) || (y88.2.1 != y10.2.1))), (7, .bool y10.2.2), (9, .pointer (some ⟨b38, 0, none⟩)), (13, .int .i64 y71.1), (17, .bool y88.2.2)] 4 ?_ (fun key => OW.sub (R := [(6, .int .i64 y10.2.1), (7, .bool y10.2.2), (9, .pointer (some ⟨b38, 0, none⟩)), (13, .int .i64 y71.1), (16, .int .i64 y88.2.1), (17, .bool y88.2.2), (101, .bool (!y98))]) ?_ ⟨rfl, rfl, rfl, rfl, rfl, rfl, rfl, trivial⟩)
                        · refine ow_batch [.p] rfl ?_
                          refine ow_cut [(110, .bool (((!y98) || (y88.2.1 != y10.2.1)) || (y88.2.2 != y10.2.2))), (9, .pointer (some ⟨b38, 0, none⟩)), (13, .int .i64 y71.1)] 4 ?_ (fun key => OW.sub (R := [(7, .bool y10.2.2), (9, .pointer (some ⟨b38, 0, none⟩)), (13, .int .i64 y71.1), (17, .bool y88.2.2), (106, .bool ((!y98) || (y88.2.1 != y10.2.1)))]) ?_ ⟨rfl, rfl, rfl, rfl, rfl, trivial⟩)
                          · refine ow_nil ?_
                            refine x_qs ?_
                            refine c_if rfl (fun hb => ?_) (fun hb => ?_)
                            · have H := of_if_t hb H
                              refine c_seq ?_
                              refine c_reg ?_
                              refine ow_batch [.p] rfl ?_
                              refine ow_nil ?_
                              refine x_qs ?_
                              refine c_ret ?_
                              refine x_qs_ret ?_
                              exact x_retR (rs := [.tmp 4]) (vs := [.bool false]) rfl ⟨rfl, trivial⟩ (fun w' hw' => by
                                  obtain rfl := of_some H
                                  exact ⟨rfl, hw'.ext⟩)
                            · have H := of_if_f hb H
                              refine c_skip ?_
                              refine x_qs ?_
                              refine c_seq ?_
                              refine c_reg ?_
                              refine ow_batch [.p] rfl ?_
                              refine ow_nil ?_
                              refine x_qs ?_
                              refine c_seq ?_
                              refine c_reg ?_
                              refine ow_r rfl (dstOk_lt rfl) (ry_box (off := 0) (ds := [.slice a34 y29.1.Rows_.length c36]) rfl rfl ty40 (boxIn (i := 3) rfl) rfl rfl) ?_
                              refine ow_batch [.p] rfl ?_
                              obtain ⟨y104, h105, H⟩ := of_bind H
                              refine ow_q rfl rfl (dstOk_lt rfl) (qy_call rfl fn30 rfl (fun w1 hw1 => laws_heldWindow_ok w1 (cs0 := [.slice a34 y29.1.Rows_.length c36]) h105 (rdm_Timpl_Window (x := y71.2) (c0 := [.slice a34 y29.1.Rows_.length c36]) (rds_own (r := 6) rfl w1 hw1)))) (fun _ _ => trivial) ?_
                              refine ow_batch [.p] rfl ?_
                              refine ow_nil ?_
                              refine x_qs ?_
                              refine c_seq ?_
                              refine c_seq ?_
                              refine c_reg ?_
                              refine ow_batch [.p, .p] rfl ?_
                              refine ow_nil ?_
                              refine x_qs ?_
                              refine c_if rfl (fun hb => ?_) (fun hb => ?_)
                              · have H := of_if_t hb H
                                refine c_seq ?_
                                refine c_reg ?_
                                refine ow_batch [.p] rfl ?_
                                refine ow_nil ?_
                                refine x_qs ?_
                                refine c_ret ?_
                                refine x_qs_ret ?_
                                exact x_retR (rs := [.tmp 4]) (vs := [.bool false]) rfl ⟨rfl, trivial⟩ (fun w' hw' => by
                                    obtain rfl := of_some H
                                    exact ⟨rfl, hw'.ext⟩)
                              · have H := of_if_f hb H
                                refine c_skip ?_
                                refine x_qs ?_
                                refine c_seq ?_
                                refine c_seq ?_
                                refine c_reg ?_
                                refine ow_batch [.p, .p, .p] rfl ?_
                                refine ow_nil ?_
                                refine x_qs ?_
                                refine c_if rfl (fun hb => ?_) (fun hb => ?_)
                                · have H := of_if_t hb H
                                  refine c_seq ?_
                                  refine c_reg ?_
                                  refine ow_batch [.p] rfl ?_
                                  refine ow_nil ?_
                                  refine x_qs ?_
                                  refine c_ret ?_
                                  refine x_qs_ret ?_
                                  exact x_retR (rs := [.tmp 4]) (vs := [.bool false]) rfl ⟨rfl, trivial⟩ (fun w' hw' => by
                                      obtain rfl := of_some H
                                      exact ⟨rfl, hw'.ext⟩)
                                · have H := of_if_f hb H
                                  refine c_skip ?_
                                  refine x_qs ?_
                                  refine c_seq ?_
                                  refine c_reg ?_
                                  refine ow_batch [.p] rfl ?_
                                  refine ow_nil ?_
                                  refine x_qs ?_
                                  refine c_ret ?_
                                  exact x_retR (rs := [.tmp 4]) (vs := [.bool true]) rfl ⟨rfl, trivial⟩ (fun w' hw' => by
                                      obtain rfl := of_some H
                                      exact ⟨rfl, hw'.ext⟩)
                          · generalize ((!y98) || (y88.2.1 != y10.2.1)) = t103 at key ⊢
                            cases t103
                            · refine ow_batch [.p, .p] rfl ?_
                              refine ow_r rfl (dstOk_lt rfl) (ry_bneq rfl rfl rfl bl4) ?_
                              refine ow_batch [.p] rfl ?_
                              exact OW.sub key ⟨rfl, rfl, rfl, trivial⟩
                            · refine ow_batch [.p, .p, .p, .p] rfl ?_
                              exact OW.sub key ⟨rfl, rfl, rfl, trivial⟩
                        · generalize (!y98) = t101 at key ⊢
                          cases t101
                          · refine ow_batch [.p, .p, .p] rfl ?_
                            refine ow_batch [.p] rfl ?_
                            exact OW.sub key ⟨rfl, rfl, rfl, rfl, rfl, trivial⟩
                          · refine ow_batch [.p, .p, .p, .p] rfl ?_
                            exact OW.sub key ⟨rfl, rfl, rfl, rfl, rfl, trivial⟩
                · generalize (u62 || (y29.2.1 != y10.2.1)) = t70 at key ⊢
                  cases t70
                  · refine ow_batch [.p, .p] rfl ?_
                    refine ow_r rfl (dstOk_lt rfl) (ry_bneq rfl rfl rfl bl4) ?_
                    refine ow_batch [.p] rfl ?_
                    exact OW.sub key ⟨rfl, rfl, rfl, rfl, rfl, rfl, rfl, trivial⟩
                  · refine ow_batch [.p, .p, .p, .p] rfl ?_
                    exact OW.sub key ⟨rfl, rfl, rfl, rfl, rfl, rfl, rfl, trivial⟩
              · generalize u62 = t68 at key ⊢
                cases t68
                · refine ow_batch [.p, .p, .p] rfl ?_
                  refine ow_batch [.p] rfl ?_
                  exact OW.sub key ⟨rfl, rfl, rfl, rfl, rfl, rfl, rfl, rfl, trivial⟩
                · refine ow_batch [.p, .p, .p, .p] rfl ?_
                  exact OW.sub key ⟨rfl, rfl, rfl, rfl, rfl, rfl, rfl, rfl, trivial⟩
            · clear H
              have H := hu66
              clear hu66
              generalize (decide (y56.1 < 0)) = t65 at H ⊢
              cases t65
              · have H := of_if_f rfl H
                refine ow_r rfl (dstOk_lt rfl) (ry_box (off := 0) (ds := [.slice a34 y29.1.Rows_.length c36]) rfl rfl ty40 (boxIn (i := 5) rfl) rfl rfl) ?_
                refine ow_r rfl (dstOk_lt rfl) (ry_box (off := 0) (ds := [.slice a15 y10.1.Rows_.length c17]) rfl rfl ty40 (boxIn (i := 2) rfl) rfl rfl) ?_
                obtain ⟨y63, h64, H⟩ := of_bind H
                refine ow_q rfl rfl (dstOk_lt rfl) (qy_call rfl fn26 rfl (fun w1 hw1 => laws_eqWindow_ok w1 (cs0 := [.slice a34 y29.1.Rows_.length c36]) (cs1 := [.slice a15 y10.1.Rows_.length c17]) h64 (rdm_Timpl_Window (x := y29.1) (c0 := [.slice a34 y29.1.Rows_.length c36]) (rds_own (r := 4) rfl w1 hw1)) (rdm_Timpl_Window (x := y10.1) (c0 := [.slice a15 y10.1.Rows_.length c17]) (rds_own (r := 1) rfl w1 hw1)))) (fun _ _ => trivial) ?_
                refine ow_batch [.p] rfl ?_
                refine ow_batch [.p] rfl ?_
                obtain rfl := of_some H
                exact OW.sub key ⟨rfl, rfl, rfl, rfl, rfl, rfl, rfl, rfl, rfl, trivial⟩
              · have H := of_if_t rfl H
                refine ow_batch [.p, .p, .p, .p, .p] rfl ?_
                obtain rfl := of_some H
                exact OW.sub key ⟨rfl, rfl, rfl, rfl, rfl, rfl, rfl, rfl, rfl, trivial⟩
      · generalize ((!y39) || (y29.2.1 != y10.2.1)) = t44 at key ⊢
        cases t44
        · refine ow_batch [.p, .p] rfl ?_
          refine ow_r rfl (dstOk_lt rfl) (ry_bneq rfl rfl rfl bl4) ?_
          refine ow_batch [.p] rfl ?_
          exact OW.sub key ⟨rfl, rfl, rfl, rfl, rfl, rfl, rfl, rfl, rfl, rfl, trivial⟩
        · refine ow_batch [.p, .p, .p, .p] rfl ?_
          exact OW.sub key ⟨rfl, rfl, rfl, rfl, rfl, rfl, rfl, rfl, rfl, rfl, trivial⟩
    · generalize (!y39) = t42 at key ⊢
      cases t42
      · refine ow_batch [.p, .p, .p] rfl ?_
        refine ow_batch [.p] rfl ?_
        exact OW.sub key ⟨rfl, rfl, rfl, rfl, rfl, rfl, rfl, rfl, rfl, rfl, trivial⟩
      · refine ow_batch [.p, .p, .p, .p] rfl ?_
        exact OW.sub key ⟨rfl, rfl, rfl, rfl, rfl, rfl, rfl, rfl, rfl, rfl, trivial⟩

set_option maxHeartbeats 4000000 in
set_option maxRecDepth 100000 in
theorem laws_szStats_ok (w : World) {p0 : Tlaws_Stats} {p1 : Int} {cs0 : List Value} {r : Int} (H : laws_szStats p0 p1 = some r)  (g0 : (eTlaws_Stats).rd w [] p0 cs0) :
    Calls Try.prog 94 #[.agg cs0.toArray, .int .i64 p1] w (fun en w' => en = .returned (.int .i64 r) ∧ Ext [] w w') := by
  obtain ⟨c1, c2, rfl, g3, g4⟩ := rdo_Tlaws_Stats g0
  obtain ⟨a5, c6, rfl⟩ := rd_sl1 g3
  obtain ⟨a7, c8, rfl⟩ := rd_sl1 g4
  unfold laws_szStats at H
  refine f_enter (vs := [.agg #[.slice a5 p0.Totals_.length c6, .slice a7 p0.Cells_.length c8], .int .i64 p1]) Try.func94 rfl Try.ntmps94 rfl (St.init w []) ?_
  refine c_seq ?_
  refine c_reg ?_
  refine ow_box (cs := [.slice a5 p0.Totals_.length c6, .slice a7 p0.Cells_.length c8]) rfl rfl rfl rfl rfl rfl (fun _ => kp) (fun b9 => ?_)
  refine ow_batch [.p] rfl ?_
  refine ow_nil ?_
  refine x_qs ?_
  refine c_seq ?_
  refine c_reg ?_
  refine ow_batch [.fa 112 0 0 fa112_0] rfl ?_
  refine ow_r rfl (dstOk_lt rfl) (ry_box1 (off := 0) rfl rfl ty22 (boxIn (i := 0) rfl) rfl) ?_
  refine ow_batch [.p] rfl ?_
  obtain ⟨y10, h11, H⟩ := of_bind H
  refine ow_q rfl rfl (dstOk_lt rfl) (qy_call rfl fn86 rfl (fun w1 hw1 => laws_szIntS_ok w1  h11 (rds_bor g3 w1 hw1))) (fun _ _ => trivial) ?_
  refine ow_batch [.p] rfl ?_
  refine ow_nil ?_
  refine x_qs ?_
  refine c_seq ?_
  refine c_seq ?_
  refine c_reg ?_
  refine ow_batch [.p, .p] rfl ?_
  refine ow_nil ?_
  refine x_qs ?_
  refine c_if rfl (fun hb => ?_) (fun hb => ?_)
  · have H := of_if_t hb H
    refine c_seq ?_
    refine c_reg ?_
    refine ow_batch [.p] rfl ?_
    refine ow_nil ?_
    refine x_qs ?_
    refine c_ret ?_
    refine x_qs_ret ?_
    exact x_retR (rs := [.tmp 4]) (vs := [.int .i64 (-1)]) rfl ⟨rfl, trivial⟩ (fun w' hw' => by
        obtain rfl := of_some H
        exact ⟨rfl, hw'.ext⟩)
  · have H := of_if_f hb H
    refine c_skip ?_
    refine x_qs ?_
    refine c_seq ?_
    refine c_reg ?_
    refine ow_batch [.fa 112 1 1 fa112_1] rfl ?_
    refine ow_r rfl (dstOk_lt rfl) (ry_box1 (off := 1) rfl rfl ty35 (boxIn (i := 0) rfl) rfl) ?_
    refine ow_batch [.p] rfl ?_
    obtain ⟨y12, h13, H⟩ := of_bind H
    refine ow_q rfl rfl (dstOk_lt rfl) (qy_call rfl fn52 rfl (fun w1 hw1 => laws_szIntSS_ok w1  h13 (rds_bor g4 w1 hw1))) (fun _ _ => trivial) ?_
    refine ow_batch [.p] rfl ?_
    refine ow_nil ?_
    refine x_qs ?_
    refine c_seq ?_
    refine c_seq ?_
    refine c_reg ?_
    refine ow_batch [.p, .p] rfl ?_
    refine ow_nil ?_
    refine x_qs ?_
    refine c_if rfl (fun hb => ?_) (fun hb => ?_)
    · have H := of_if_t hb H
      refine c_seq ?_
      refine c_reg ?_
      refine ow_batch [.p] rfl ?_
      refine ow_nil ?_
      refine x_qs ?_
      refine c_ret ?_
      refine x_qs_ret ?_
      exact x_retR (rs := [.tmp 4]) (vs := [.int .i64 (-1)]) rfl ⟨rfl, trivial⟩ (fun w' hw' => by
          obtain rfl := of_some H
          exact ⟨rfl, hw'.ext⟩)
    · have H := of_if_f hb H
      refine c_skip ?_
      refine x_qs ?_
      refine c_seq ?_
      refine c_reg ?_
      refine ow_batch [.p, .p] rfl ?_
      refine ow_nil ?_
      refine x_qs ?_
      refine c_ret ?_
      exact x_retR (rs := [.tmp 4]) (vs := [.int .i64 y12]) rfl ⟨rfl, trivial⟩ (fun w' hw' => by
          obtain rfl := of_some H
          exact ⟨rfl, hw'.ext⟩)

set_option maxHeartbeats 4000000 in
set_option maxRecDepth 100000 in
theorem laws_szNode_ok (w : World) {p0 : Tlaws_Node} {p1 : Int} {cs0 : List Value} {r : Int} (H : laws_szNode p0 p1 = some r)  (g0 : (eTlaws_Node).rd w [] p0 cs0) :
    Calls Try.prog 87 #[.agg cs0.toArray, .int .i64 p1] w (fun en w' => en = .returned (.int .i64 r) ∧ Ext [] w w') := by
  obtain ⟨c1, c2, c3, c4, c5, c6, c7, c8, c9, c10, rfl, g11, g12, g13, g14, g15, g16, g17, g18, g19, g20⟩ := rdo_Tlaws_Node g0
  obtain rfl : c1 = [.bool p0.Leaf_] := g11
  obtain rfl : c2 = [.int .i64 p0.Fork_.Attr_, .int .i64 p0.Fork_.At_] := g12
  obtain ⟨a21, c22, rfl⟩ := rd_sl1 g13
  obtain rfl : c4 = [.int .i64 p0.Miss_] := g14
  obtain ⟨c23, c24, rfl, g25, g26⟩ := rdo_Tlaws_Stats g15
  obtain ⟨a27, c28, rfl⟩ := rd_sl1 g25
  obtain ⟨a29, c30, rfl⟩ := rd_sl1 g26
  obtain rfl : c6 = [.int .i64 p0.Since_] := g16
  obtain ⟨a31, c32, rfl⟩ := rd_sl1 g17
  obtain rfl : c8 = [.int .i64 p0.Depth_] := g18
  obtain rfl : c9 = [.int .i64 p0.Up_] := g19
  obtain rfl : c10 = [.int .i64 p0.Born_] := g20
  unfold laws_szNode at H
  refine f_enter (vs := [.agg #[.bool p0.Leaf_, .int .i64 p0.Fork_.Attr_, .int .i64 p0.Fork_.At_, .slice a21 p0.Kids_.length c22, .int .i64 p0.Miss_, .slice a27 p0.Stats_.Totals_.length c28, .slice a29 p0.Stats_.Cells_.length c30, .int .i64 p0.Since_, .slice a31 p0.Attrs_.length c32, .int .i64 p0.Depth_, .int .i64 p0.Up_, .int .i64 p0.Born_], .int .i64 p1]) Try.func87 rfl Try.ntmps87 rfl (St.init w []) ?_
  refine c_seq ?_
  refine c_reg ?_
  refine ow_box (cs := [.bool p0.Leaf_, .int .i64 p0.Fork_.Attr_, .int .i64 p0.Fork_.At_, .slice a21 p0.Kids_.length c22, .int .i64 p0.Miss_, .slice a27 p0.Stats_.Totals_.length c28, .slice a29 p0.Stats_.Cells_.length c30, .int .i64 p0.Since_, .slice a31 p0.Attrs_.length c32, .int .i64 p0.Depth_, .int .i64 p0.Up_, .int .i64 p0.Born_]) rfl rfl rfl rfl rfl rfl (fun _ => kp) (fun b33 => ?_)
  refine ow_batch [.p] rfl ?_
  refine ow_nil ?_
  refine x_qs ?_
  refine c_seq ?_
  refine c_reg ?_
  refine ow_batch [.fa 114 2 3 fa114_2] rfl ?_
  refine ow_r rfl (dstOk_lt rfl) (ry_box1 (off := 3) rfl rfl ty22 (boxIn (i := 0) rfl) rfl) ?_
  refine ow_batch [.p] rfl ?_
  obtain ⟨y34, h35, H⟩ := of_bind H
  refine ow_q rfl rfl (dstOk_lt rfl) (qy_call rfl fn86 rfl (fun w1 hw1 => laws_szIntS_ok w1  h35 (rds_bor g13 w1 hw1))) (fun _ _ => trivial) ?_
  refine ow_batch [.p] rfl ?_
  refine ow_nil ?_
  refine x_qs ?_
  refine c_seq ?_
  refine c_seq ?_
  refine c_reg ?_
  refine ow_batch [.p, .p] rfl ?_
  refine ow_nil ?_
  refine x_qs ?_
  refine c_if rfl (fun hb => ?_) (fun hb => ?_)
  · have H := of_if_t hb H
    refine c_seq ?_
    refine c_reg ?_
    refine ow_batch [.p] rfl ?_
    refine ow_nil ?_
    refine x_qs ?_
    refine c_ret ?_
    refine x_qs_ret ?_
    exact x_retR (rs := [.tmp 4]) (vs := [.int .i64 (-1)]) rfl ⟨rfl, trivial⟩ (fun w' hw' => by
        obtain rfl := of_some H
        exact ⟨rfl, hw'.ext⟩)
  · have H := of_if_f hb H
    refine c_skip ?_
    refine x_qs ?_
    refine c_seq ?_
    refine c_reg ?_
    refine ow_batch [.fa 114 4 5 fa114_4] rfl ?_
    refine ow_r rfl (dstOk_lt rfl) (ry_box (off := 5) (ds := [.slice a27 p0.Stats_.Totals_.length c28, .slice a29 p0.Stats_.Cells_.length c30]) rfl rfl ty112 (boxIn (i := 0) rfl) rfl rfl) ?_
    refine ow_batch [.p] rfl ?_
    obtain ⟨y36, h37, H⟩ := of_bind H
    refine ow_q rfl rfl (dstOk_lt rfl) (qy_call rfl fn94 rfl (fun w1 hw1 => laws_szStats_ok w1 (cs0 := [.slice a27 p0.Stats_.Totals_.length c28, .slice a29 p0.Stats_.Cells_.length c30]) h37 (rdm_Tlaws_Stats (x := p0.Stats_) (c0 := [.slice a27 p0.Stats_.Totals_.length c28]) (c1 := [.slice a29 p0.Stats_.Cells_.length c30]) (rds_bor g25 w1 hw1) (rds_bor g26 w1 hw1)))) (fun _ _ => trivial) ?_
    refine ow_batch [.p] rfl ?_
    refine ow_nil ?_
    refine x_qs ?_
    refine c_seq ?_
    refine c_seq ?_
    refine c_reg ?_
    refine ow_batch [.p, .p] rfl ?_
    refine ow_nil ?_
    refine x_qs ?_
    refine c_if rfl (fun hb => ?_) (fun hb => ?_)
    · have H := of_if_t hb H
      refine c_seq ?_
      refine c_reg ?_
      refine ow_batch [.p] rfl ?_
      refine ow_nil ?_
      refine x_qs ?_
      refine c_ret ?_
      refine x_qs_ret ?_
      exact x_retR (rs := [.tmp 4]) (vs := [.int .i64 (-1)]) rfl ⟨rfl, trivial⟩ (fun w' hw' => by
          obtain rfl := of_some H
          exact ⟨rfl, hw'.ext⟩)
    · have H := of_if_f hb H
      refine c_skip ?_
      refine x_qs ?_
      refine c_seq ?_
      refine c_reg ?_
      refine ow_batch [.fa 114 6 8 fa114_6] rfl ?_
      refine ow_r rfl (dstOk_lt rfl) (ry_box1 (off := 8) rfl rfl ty22 (boxIn (i := 0) rfl) rfl) ?_
      refine ow_batch [.p] rfl ?_
      obtain ⟨y38, h39, H⟩ := of_bind H
      refine ow_q rfl rfl (dstOk_lt rfl) (qy_call rfl fn86 rfl (fun w1 hw1 => laws_szIntS_ok w1  h39 (rds_bor g17 w1 hw1))) (fun _ _ => trivial) ?_
      refine ow_batch [.p] rfl ?_
      refine ow_nil ?_
      refine x_qs ?_
      refine c_seq ?_
      refine c_seq ?_
      refine c_reg ?_
      refine ow_batch [.p, .p] rfl ?_
      refine ow_nil ?_
      refine x_qs ?_
      refine c_if rfl (fun hb => ?_) (fun hb => ?_)
      · have H := of_if_t hb H
        refine c_seq ?_
        refine c_reg ?_
        refine ow_batch [.p] rfl ?_
        refine ow_nil ?_
        refine x_qs ?_
        refine c_ret ?_
        refine x_qs_ret ?_
        exact x_retR (rs := [.tmp 4]) (vs := [.int .i64 (-1)]) rfl ⟨rfl, trivial⟩ (fun w' hw' => by
            obtain rfl := of_some H
            exact ⟨rfl, hw'.ext⟩)
      · have H := of_if_f hb H
        refine c_skip ?_
        refine x_qs ?_
        refine c_seq ?_
        refine c_reg ?_
        refine ow_batch [.p, .p] rfl ?_
        refine ow_nil ?_
        refine x_qs ?_
        refine c_ret ?_
        exact x_retR (rs := [.tmp 4]) (vs := [.int .i64 y38]) rfl ⟨rfl, trivial⟩ (fun w' hw' => by
            obtain rfl := of_some H
            exact ⟨rfl, hw'.ext⟩)

set_option maxHeartbeats 4000000 in
set_option maxRecDepth 100000 in
theorem laws_szNodeS_ok (w : World) {p0 : List Tlaws_Node} {p1 : Int} {a_0 : Option Addr} {n_0 c_0 : Nat} {r : Int} (H : laws_szNodeS p0 p1 = some r)  (g0 : (eList (eTlaws_Node) 114).rd w [] p0 [.slice a_0 n_0 c_0]) :
    Calls Try.prog 61 #[.slice a_0 n_0 c_0, .int .i64 p1] w (fun en w' => en = .returned (.int .i64 r) ∧ Ext [] w w') := by
  obtain rfl := rd_n g0
  unfold laws_szNodeS at H
  refine f_enter (vs := [.slice a_0 p0.length c_0, .int .i64 p1]) Try.func61 rfl Try.ntmps61 rfl (St.init w []) ?_
  refine c_seq ?_
  refine c_reg ?_
  refine ow_batch [.p] rfl ?_
  refine ow_nil ?_
  refine x_qs ?_
  refine c_seq ?_
  refine c_reg ?_
  refine ow_batch [.p, .p, .lenS 47 114 sl47, .p, .p] rfl ?_
  refine ow_nil ?_
  refine x_qs ?_
  refine c_seq ?_
  refine c_seq ?_
  refine c_reg ?_
  refine ow_batch [.p, .p] rfl ?_
  refine ow_nil ?_
  refine x_qs ?_
  refine c_if rfl (fun hb => ?_) (fun hb => ?_)
  · have H := of_if_t hb H
    refine c_seq ?_
    refine c_reg ?_
    refine ow_batch [.p] rfl ?_
    refine ow_nil ?_
    refine x_qs ?_
    refine c_ret ?_
    refine x_qs_ret ?_
    exact x_retR (rs := [.tmp 4]) (vs := [.int .i64 (-1)]) rfl ⟨rfl, trivial⟩ (fun w' hw' => by
        obtain rfl := of_some H
        exact ⟨rfl, hw'.ext⟩)
  · have H := of_if_f hb H
    refine c_skip ?_
    refine x_qs ?_
    refine c_seq ?_
    refine c_seq ?_
    refine c_reg ?_
    refine ow_batch [.p] rfl ?_
    refine ow_nil ?_
    refine x_qs ?_
    refine c_block ?_
    refine CW.at (loopI2 (fun (i43 : Int) (i44 : Int) => St w [] []) (fun (i43 : Int) (i44 : Int) => [(0, .slice a_0 p0.length c_0), (1, .int .i64 i43), (5, .int .i64 i44)]) (fun kk => fun (i43 : Int) (i44 : Int) => laws_szNodeS_L1 p0 kk i43 i44 = some r) (fun _ _ H => ?_) (fun k1 ihk1 i43 i44 H => ?_) Fuel (IntKind.i64.wrap (p1 - (p0.length : Int))) (0) (H)) (fun _ h => St.sel [] rfl rfl h) ⟨rfl, rfl, rfl,  trivial⟩
    · unfold laws_szNodeS_L1 at H
      exact absurd H (by simp)
    · unfold laws_szNodeS_L1 at H
      refine c_seq ?_
      refine c_seq ?_
      refine c_reg ?_
      refine ow_batch [.p, .p, .lenS 47 114 sl47, .p] rfl ?_
      refine ow_nil ?_
      refine x_qs ?_
      refine c_if rfl (fun hb => ?_) (fun hb => ?_)
      · have H := of_if_t hb H
        refine c_skip ?_
        refine x_qs ?_
        refine c_seq ?_
        refine c_block ?_
        refine c_seq ?_
        refine c_reg ?_
        refine ow_batch [.p, .p] rfl ?_
        obtain ⟨e87, h88, H⟩ := of_bind H
        refine ow_ixB rfl rfl rfl rfl rfl sl47 ty114 rfl g0 h88 (fun q91 c92 hd89 hA90 => ?_)
        obtain ⟨c93, c94, c95, c96, c97, c98, c99, c100, c101, c102, rfl, g103, g104, g105, g106, g107, g108, g109, g110, g111, g112⟩ := rdo_Tlaws_Node hd89
        obtain rfl : c93 = [.bool e87.Leaf_] := g103
        obtain rfl : c94 = [.int .i64 e87.Fork_.Attr_, .int .i64 e87.Fork_.At_] := g104
        obtain ⟨a113, c114, rfl⟩ := rd_sl1 g105
        obtain rfl : c96 = [.int .i64 e87.Miss_] := g106
        obtain ⟨c115, c116, rfl, g117, g118⟩ := rdo_Tlaws_Stats g107
        obtain ⟨a119, c120, rfl⟩ := rd_sl1 g117
        obtain ⟨a121, c122, rfl⟩ := rd_sl1 g118
        obtain rfl : c98 = [.int .i64 e87.Since_] := g108
        obtain ⟨a123, c124, rfl⟩ := rd_sl1 g109
        obtain rfl : c100 = [.int .i64 e87.Depth_] := g110
        obtain rfl : c101 = [.int .i64 e87.Up_] := g111
        obtain rfl : c102 = [.int .i64 e87.Born_] := g112
        refine ow_r rfl (dstOk_lt rfl) (ry_load (cs := [.bool e87.Leaf_, .int .i64 e87.Fork_.Attr_, .int .i64 e87.Fork_.At_, .slice a113 e87.Kids_.length c114, .int .i64 e87.Miss_, .slice a119 e87.Stats_.Totals_.length c120, .slice a121 e87.Stats_.Cells_.length c122, .int .i64 e87.Since_, .slice a123 e87.Attrs_.length c124, .int .i64 e87.Depth_, .int .i64 e87.Up_, .int .i64 e87.Born_]) rfl rfl ty114 (at_bor bor hA90) rfl) ?_
        refine ow_batch [.p] rfl ?_
        obtain ⟨y125, h126, H⟩ := of_bind H
        refine ow_q rfl rfl (dstOk_lt rfl) (qy_call rfl fn87 rfl (fun w1 hw1 => laws_szNode_ok w1 (cs0 := [.bool e87.Leaf_, .int .i64 e87.Fork_.Attr_, .int .i64 e87.Fork_.At_, .slice a113 e87.Kids_.length c114, .int .i64 e87.Miss_, .slice a119 e87.Stats_.Totals_.length c120, .slice a121 e87.Stats_.Cells_.length c122, .int .i64 e87.Since_, .slice a123 e87.Attrs_.length c124, .int .i64 e87.Depth_, .int .i64 e87.Up_, .int .i64 e87.Born_]) h126 (rdm_Tlaws_Node (x := e87) (c0 := [.bool e87.Leaf_]) (c1 := [.int .i64 e87.Fork_.Attr_, .int .i64 e87.Fork_.At_]) (c2 := [.slice a113 e87.Kids_.length c114]) (c3 := [.int .i64 e87.Miss_]) (c4 := [.slice a119 e87.Stats_.Totals_.length c120, .slice a121 e87.Stats_.Cells_.length c122]) (c5 := [.int .i64 e87.Since_]) (c6 := [.slice a123 e87.Attrs_.length c124]) (c7 := [.int .i64 e87.Depth_]) (c8 := [.int .i64 e87.Up_]) (c9 := [.int .i64 e87.Born_]) rfl rfl (rds_bor g105 w1 hw1) rfl (rdm_Tlaws_Stats (x := e87.Stats_) (c0 := [.slice a119 e87.Stats_.Totals_.length c120]) (c1 := [.slice a121 e87.Stats_.Cells_.length c122]) (rds_bor g117 w1 hw1) (rds_bor g118 w1 hw1)) rfl (rds_bor g109 w1 hw1) rfl rfl rfl))) (fun _ _ => trivial) ?_
        refine ow_batch [.p] rfl ?_
        refine ow_nil ?_
        refine x_qs ?_
        refine c_seq ?_
        refine c_reg ?_
        refine ow_batch [.p, .p] rfl ?_
        refine ow_nil ?_
        refine x_qs ?_
        refine c_if rfl (fun hb => ?_) (fun hb => ?_)
        · have H := of_if_t hb H
          refine c_seq ?_
          refine c_reg ?_
          refine ow_batch [.p] rfl ?_
          refine ow_nil ?_
          refine x_qs ?_
          refine c_ret ?_
          refine x_qb_ret ?_
          refine x_qs_ret ?_
          refine x_ql_ret ?_
          refine x_qb_ret ?_
          refine x_qs_ret ?_
          exact x_retR (rs := [.tmp 4]) (vs := [.int .i64 (-1)]) rfl ⟨rfl, trivial⟩ (fun w' hw' => by
              obtain rfl := of_some H
              exact ⟨rfl, hw'.ext⟩)
        · have H := of_if_f hb H
          refine c_skip ?_
          refine x_qb ?_
          refine x_qs ?_
          refine c_reg ?_
          refine ow_batch [.p, .p, .p] rfl ?_
          refine ow_nil ?_
          exact x_ql (RW.at (ihk1 (y125) (IntKind.i64.wrap (i44 + 1)) (H)) (fun _ h => St.sel [] rfl rfl h) ⟨rfl, rfl, rfl, trivial⟩)
      · have H := of_if_f hb H
        refine c_exit ?_
        refine x_qs_exit ?_
        refine x_ql_exit ?_
        refine x_qb_here ?_
        refine x_qs ?_
        refine c_seq ?_
        refine c_reg ?_
        refine ow_batch [.p, .p] rfl ?_
        refine ow_nil ?_
        refine x_qs ?_
        refine c_ret ?_
        exact x_retR (rs := [.tmp 4]) (vs := [.int .i64 i43]) rfl ⟨rfl, trivial⟩ (fun w' hw' => by
            obtain rfl := of_some H
            exact ⟨rfl, hw'.ext⟩)

set_option maxHeartbeats 4000000 in
set_option maxRecDepth 100000 in
theorem laws_szTree_ok (w : World) {p0 : Tlaws_Tree} {p1 : Int} {cs0 : List Value} {r : Int} (H : laws_szTree p0 p1 = some r)  (g0 : (eTlaws_Tree).rd w [] p0 cs0) :
    Calls Try.prog 31 #[.agg cs0.toArray, .int .i64 p1] w (fun en w' => en = .returned (.int .i64 r) ∧ Ext [] w w') := by
  obtain ⟨c1, c2, rfl, g3, g4⟩ := rdo_Tlaws_Tree g0
  obtain ⟨a5, c6, rfl⟩ := rd_sl1 g3
  obtain rfl : c2 = [.int .i64 p0.Seen_] := g4
  unfold laws_szTree at H
  refine f_enter (vs := [.agg #[.slice a5 p0.Nodes_.length c6, .int .i64 p0.Seen_], .int .i64 p1]) Try.func31 rfl Try.ntmps31 rfl (St.init w []) ?_
  refine c_seq ?_
  refine c_reg ?_
  refine ow_box (cs := [.slice a5 p0.Nodes_.length c6, .int .i64 p0.Seen_]) rfl rfl rfl rfl rfl rfl (fun _ => kp) (fun b7 => ?_)
  refine ow_batch [.p] rfl ?_
  refine ow_nil ?_
  refine x_qs ?_
  refine c_seq ?_
  refine c_reg ?_
  refine ow_batch [.fa 49 0 0 fa49_0] rfl ?_
  refine ow_r rfl (dstOk_lt rfl) (ry_box1 (off := 0) rfl rfl ty47 (boxIn (i := 0) rfl) rfl) ?_
  refine ow_batch [.p] rfl ?_
  obtain ⟨y8, h9, H⟩ := of_bind H
  refine ow_q rfl rfl (dstOk_lt rfl) (qy_call rfl fn61 rfl (fun w1 hw1 => laws_szNodeS_ok w1  h9 (rds_bor g3 w1 hw1))) (fun _ _ => trivial) ?_
  refine ow_batch [.p] rfl ?_
  refine ow_nil ?_
  refine x_qs ?_
  refine c_seq ?_
  refine c_seq ?_
  refine c_reg ?_
  refine ow_batch [.p, .p] rfl ?_
  refine ow_nil ?_
  refine x_qs ?_
  refine c_if rfl (fun hb => ?_) (fun hb => ?_)
  · have H := of_if_t hb H
    refine c_seq ?_
    refine c_reg ?_
    refine ow_batch [.p] rfl ?_
    refine ow_nil ?_
    refine x_qs ?_
    refine c_ret ?_
    refine x_qs_ret ?_
    exact x_retR (rs := [.tmp 4]) (vs := [.int .i64 (-1)]) rfl ⟨rfl, trivial⟩ (fun w' hw' => by
        obtain rfl := of_some H
        exact ⟨rfl, hw'.ext⟩)
  · have H := of_if_f hb H
    refine c_skip ?_
    refine x_qs ?_
    refine c_seq ?_
    refine c_reg ?_
    refine ow_batch [.p, .p] rfl ?_
    refine ow_nil ?_
    refine x_qs ?_
    refine c_ret ?_
    exact x_retR (rs := [.tmp 4]) (vs := [.int .i64 y8]) rfl ⟨rfl, trivial⟩ (fun w' hw' => by
        obtain rfl := of_some H
        exact ⟨rfl, hw'.ext⟩)

set_option maxHeartbeats 4000000 in
set_option maxRecDepth 100000 in
theorem laws_toFork_ok (w : World) {p0 : Tlaws_Fork}  {r : Timpl_Fork} (H : laws_toFork p0 = some r)   :
    Calls Try.prog 95 #[.agg #[.int .i64 p0.Attr_, .int .i64 p0.At_]] w (fun en w' => en = .returned (.agg #[.int .i64 r.Attr_, .int .i64 r.At_]) ∧ Ext [] w w') := by
  unfold laws_toFork at H
  refine f_enter (vs := [.agg #[.int .i64 p0.Attr_, .int .i64 p0.At_]]) Try.func95 rfl Try.ntmps95 rfl (St.init w []) ?_
  refine c_seq ?_
  refine c_reg ?_
  refine ow_box (cs := [.int .i64 p0.Attr_, .int .i64 p0.At_]) rfl rfl rfl rfl rfl rfl (fun _ => kp) (fun b1 => ?_)
  refine ow_alloc rfl rfl rfl rfl ty87 (fun _ => kp) (fun b2 => ?_)
  refine ow_nil ?_
  refine x_qs ?_
  refine c_seq ?_
  refine c_reg ?_
  refine ow_alloc rfl rfl rfl rfl ty87 (fun _ => kp) (fun b3 => ?_)
  refine ow_nil ?_
  refine x_qs ?_
  refine c_seq ?_
  refine c_reg ?_
  refine ow_batch [.fa 111 0 0 fa111_0] rfl ?_
  refine ow_r rfl (dstOk_lt rfl) (ry_box1 (off := 0) rfl rfl ty3 (boxIn (i := 0) rfl) rfl) ?_
  refine ow_batch [.fa 87 0 0 fa87_0] rfl ?_
  refine ow_storeC (off := 0) [.int .i64 p0.Attr_] [_, _] (i := 2) rfl rfl rfl rfl rfl rfl ty3 rfl rfl (by intro u hu; simp only [List.mem_cons, List.not_mem_nil, or_false] at hu; rcases hu with rfl <;> rfl) rfl rfl rfl kp ?_
  refine ow_nil ?_
  refine x_qs ?_
  refine c_seq ?_
  refine c_reg ?_
  refine ow_batch [.fa 111 1 1 fa111_1] rfl ?_
  refine ow_r rfl (dstOk_lt rfl) (ry_box1 (off := 1) rfl rfl ty3 (boxIn (i := 0) rfl) rfl) ?_
  refine ow_batch [.fa 87 1 1 fa87_1] rfl ?_
  refine ow_storeC (off := 1) [.int .i64 p0.At_] [_, _] (i := 2) rfl rfl rfl rfl rfl rfl ty3 rfl rfl (by intro u hu; simp only [List.mem_cons, List.not_mem_nil, or_false] at hu; rcases hu with rfl <;> rfl) rfl rfl rfl kp ?_
  refine ow_nil ?_
  refine x_qs ?_
  refine c_seq ?_
  refine c_reg ?_
  refine ow_r rfl (dstOk_lt rfl) (ry_box (off := 0) (ds := [.int .i64 p0.Attr_, .int .i64 p0.At_]) rfl rfl ty87 (boxIn (i := 2) rfl) rfl rfl) ?_
  refine ow_storeC (off := 0) [.int .i64 p0.Attr_, .int .i64 p0.At_] [_, _] (i := 1) rfl rfl rfl rfl rfl rfl ty87 rfl rfl (by intro u hu; simp only [List.mem_cons, List.not_mem_nil, or_false] at hu; rcases hu with rfl | rfl <;> rfl) rfl rfl rfl kp ?_
  refine ow_nil ?_
  refine x_qs ?_
  refine c_ret ?_
  exact x_retR (rs := [.cell 2 87]) (vs := [.agg #[.int .i64 p0.Attr_, .int .i64 p0.At_]]) rfl ⟨⟨_, [.int .i64 p0.Attr_, .int .i64 p0.At_], _, _, _, rfl, ty87, (at_box (T := 87) 0 (boxIn (i := 1) rfl) rfl), rfl, rfl⟩, trivial⟩ (fun w' hw' => by
      obtain rfl := of_some H
      exact ⟨rfl, hw'.ext⟩)

set_option maxHeartbeats 4000000 in
set_option maxRecDepth 100000 in
theorem laws_toStats_ok (w : World) {M0 : List Nat} {p0 : Tlaws_Stats} {cs0 : List Value} {r : Timpl_Stats} (H : laws_toStats p0 = some r) (HS : St w M0 [] w) (g0 : (eTlaws_Stats).rd w M0 p0 cs0) :
    Calls Try.prog 96 #[.agg cs0.toArray] w (fun en w' => ∃ v, en = .returned v ∧ ∃ (a0 : Option Addr), ∃ (n0 : Nat), ∃ (c0 : Nat), ∃ (F0 : List Nat), ∃ (a1 : Option Addr), ∃ (n1 : Nat), ∃ (c1 : Nat), ∃ (F1 : List Nat), v = .agg #[.slice a0 n0 c0, .slice a1 n1 c1] ∧ St w M0 [Res.own (eList (eVal (Value.int .i64) (fun _ => rfl)) 3) F0 r.Totals_ [.slice a0 n0 c0], Res.own (eList (eList (eVal (Value.int .i64) (fun _ => rfl)) 3) 22) F1 r.Cells_ [.slice a1 n1 c1]] w') := by
  obtain ⟨c1, c2, rfl, g3, g4⟩ := rdo_Tlaws_Stats g0
  obtain ⟨a5, c6, rfl⟩ := rd_sl1 g3
  obtain ⟨a7, c8, rfl⟩ := rd_sl1 g4
  unfold laws_toStats at H
  refine f_enter (vs := [.agg #[.slice a5 p0.Totals_.length c6, .slice a7 p0.Cells_.length c8]]) Try.func96 rfl Try.ntmps96 rfl (HS) ?_
  refine c_seq ?_
  refine c_reg ?_
  refine ow_box (cs := [.slice a5 p0.Totals_.length c6, .slice a7 p0.Cells_.length c8]) rfl rfl rfl rfl rfl rfl (fun _ => kp) (fun b9 => ?_)
  refine ow_alloc rfl rfl rfl rfl ty89 (fun _ => kp) (fun b10 => ?_)
  refine ow_nil ?_
  refine x_qs ?_
  refine c_seq ?_
  refine c_reg ?_
  refine ow_alloc rfl rfl rfl rfl ty89 (fun _ => kp) (fun b11 => ?_)
  refine ow_nil ?_
  refine x_qs ?_
  refine c_seq ?_
  refine c_reg ?_
  refine ow_batch [.fa 112 0 0 fa112_0] rfl ?_
  refine ow_r rfl (dstOk_lt rfl) (ry_box1 (off := 0) rfl rfl ty22 (boxIn (i := 0) rfl) rfl) ?_
  obtain ⟨y12, h13, H⟩ := of_bind H
  refine ow_callS rfl fn11 rfl rfl rfl rfl (fun w1 hw1 => laws_toIntS_ok w1  h13 (hw1.carve [] rfl rfl) (rds_bor g3 w1 hw1)) (fun v14 w1 w2 hw1 hR16 => ?_)
  obtain ⟨a17, n18, c19, F20, rfl, hS15⟩ := hR16
  obtain rfl := own_nS (i := 0) hS15 rfl
  refine ⟨St w M0 [_, _, _, _], hw1.comp [] rfl rfl hS15, fun _ _ => trivial, ?_⟩
  refine ow_batch [.fa 89 0 0 fa89_0] rfl ?_
  refine ow_storeC (off := 0) [.slice a17 y12.length c19] [_, _] (i := 2) rfl rfl rfl rfl rfl rfl ty22 rfl rfl (by intro u hu; simp only [List.mem_cons, List.not_mem_nil, or_false] at hu; rcases hu with rfl <;> rfl) rfl rfl rfl kp ?_
  refine ow_nil ?_
  refine x_qs ?_
  refine c_seq ?_
  refine c_reg ?_
  refine ow_batch [.fa 112 1 1 fa112_1] rfl ?_
  refine ow_r rfl (dstOk_lt rfl) (ry_box1 (off := 1) rfl rfl ty35 (boxIn (i := 0) rfl) rfl) ?_
  obtain ⟨y21, h22, H⟩ := of_bind H
  refine ow_callS rfl fn54 rfl rfl rfl rfl (fun w1 hw1 => laws_toIntSS_ok w1  h22 (hw1.carve [] rfl rfl) (rds_bor g4 w1 hw1)) (fun v23 w1 w2 hw1 hR25 => ?_)
  obtain ⟨a26, n27, c28, F29, rfl, hS24⟩ := hR25
  obtain rfl := own_nS (i := 0) hS24 rfl
  refine ⟨St w M0 [_, _, _, _, _], hw1.comp [] rfl rfl hS24, fun _ _ => trivial, ?_⟩
  refine ow_batch [.fa 89 1 1 fa89_1] rfl ?_
  refine ow_storeC (off := 1) [.slice a26 y21.length c28] [_, _] (i := 2) rfl rfl rfl rfl rfl rfl ty35 rfl rfl (by intro u hu; simp only [List.mem_cons, List.not_mem_nil, or_false] at hu; rcases hu with rfl <;> rfl) rfl rfl rfl kp ?_
  refine ow_nil ?_
  refine x_qs ?_
  refine c_seq ?_
  refine c_reg ?_
  refine ow_r rfl (dstOk_lt rfl) (ry_box (off := 0) (ds := [.slice a17 y12.length c19, .slice a26 y21.length c28]) rfl rfl ty89 (boxIn (i := 2) rfl) rfl rfl) ?_
  refine ow_storeC (off := 0) [.slice a17 y12.length c19, .slice a26 y21.length c28] [_, _] (i := 1) rfl rfl rfl rfl rfl rfl ty89 rfl rfl (by intro u hu; simp only [List.mem_cons, List.not_mem_nil, or_false] at hu; rcases hu with rfl | rfl <;> rfl) rfl rfl rfl kp ?_
  refine ow_nil ?_
  refine x_qs ?_
  refine c_ret ?_
  exact x_retR (rs := [.cell 2 89]) (vs := [.agg #[.slice a17 y12.length c19, .slice a26 y21.length c28]]) rfl ⟨⟨_, [.slice a17 y12.length c19, .slice a26 y21.length c28], _, _, _, rfl, ty89, (at_box (T := 89) 0 (boxIn (i := 1) rfl) rfl), rfl, rfl⟩, trivial⟩ (fun w' hw' => by
      obtain rfl := of_some H
      exact ⟨_, rfl, a17, y12.length, c19, F20, a26, y21.length, c28, F29, rfl, hw'.sel [3, 4] rfl rfl⟩)

set_option maxHeartbeats 4000000 in
set_option maxRecDepth 100000 in
theorem laws_toNode_ok (w : World) {M0 : List Nat} {p0 : Tlaws_Node} {cs0 : List Value} {r : Timpl_Node} (H : laws_toNode p0 = some r) (HS : St w M0 [] w) (g0 : (eTlaws_Node).rd w M0 p0 cs0) :
    Calls Try.prog 89 #[.agg cs0.toArray] w (fun en w' => ∃ v, en = .returned v ∧ ∃ (a0 : Option Addr), ∃ (n0 : Nat), ∃ (c0 : Nat), ∃ (F0 : List Nat), ∃ (a1 : Option Addr), ∃ (n1 : Nat), ∃ (c1 : Nat), ∃ (F1 : List Nat), ∃ (a2 : Option Addr), ∃ (n2 : Nat), ∃ (c2 : Nat), ∃ (F2 : List Nat), ∃ (a3 : Option Addr), ∃ (n3 : Nat), ∃ (c3 : Nat), ∃ (F3 : List Nat), v = .agg #[.bool r.Leaf_, .int .i64 r.Fork_.Attr_, .int .i64 r.Fork_.At_, .slice a0 n0 c0, .int .i64 r.Miss_, .slice a1 n1 c1, .slice a2 n2 c2, .int .i64 r.Since_, .slice a3 n3 c3, .int .i64 r.Depth_, .int .i64 r.Up_, .int .i64 r.Born_] ∧ St w M0 [Res.own (eList (eVal (Value.int .i64) (fun _ => rfl)) 3) F0 r.Kids_ [.slice a0 n0 c0], Res.own (eList (eVal (Value.int .i64) (fun _ => rfl)) 3) F1 r.Stats_.Totals_ [.slice a1 n1 c1], Res.own (eList (eList (eVal (Value.int .i64) (fun _ => rfl)) 3) 22) F2 r.Stats_.Cells_ [.slice a2 n2 c2], Res.own (eList (eVal (Value.int .i64) (fun _ => rfl)) 3) F3 r.Attrs_ [.slice a3 n3 c3]] w') := by
  obtain ⟨c1, c2, c3, c4, c5, c6, c7, c8, c9, c10, rfl, g11, g12, g13, g14, g15, g16, g17, g18, g19, g20⟩ := rdo_Tlaws_Node g0
  obtain rfl : c1 = [.bool p0.Leaf_] := g11
  obtain rfl : c2 = [.int .i64 p0.Fork_.Attr_, .int .i64 p0.Fork_.At_] := g12
  obtain ⟨a21, c22, rfl⟩ := rd_sl1 g13
  obtain rfl : c4 = [.int .i64 p0.Miss_] := g14
  obtain ⟨c23, c24, rfl, g25, g26⟩ := rdo_Tlaws_Stats g15
  obtain ⟨a27, c28, rfl⟩ := rd_sl1 g25
  obtain ⟨a29, c30, rfl⟩ := rd_sl1 g26
  obtain rfl : c6 = [.int .i64 p0.Since_] := g16
  obtain ⟨a31, c32, rfl⟩ := rd_sl1 g17
  obtain rfl : c8 = [.int .i64 p0.Depth_] := g18
  obtain rfl : c9 = [.int .i64 p0.Up_] := g19
  obtain rfl : c10 = [.int .i64 p0.Born_] := g20
  unfold laws_toNode at H
  refine f_enter (vs := [.agg #[.bool p0.Leaf_, .int .i64 p0.Fork_.Attr_, .int .i64 p0.Fork_.At_, .slice a21 p0.Kids_.length c22, .int .i64 p0.Miss_, .slice a27 p0.Stats_.Totals_.length c28, .slice a29 p0.Stats_.Cells_.length c30, .int .i64 p0.Since_, .slice a31 p0.Attrs_.length c32, .int .i64 p0.Depth_, .int .i64 p0.Up_, .int .i64 p0.Born_]]) Try.func89 rfl Try.ntmps89 rfl (HS) ?_
  refine c_seq ?_
  refine c_reg ?_
  refine ow_box (cs := [.bool p0.Leaf_, .int .i64 p0.Fork_.Attr_, .int .i64 p0.Fork_.At_, .slice a21 p0.Kids_.length c22, .int .i64 p0.Miss_, .slice a27 p0.Stats_.Totals_.length c28, .slice a29 p0.Stats_.Cells_.length c30, .int .i64 p0.Since_, .slice a31 p0.Attrs_.length c32, .int .i64 p0.Depth_, .int .i64 p0.Up_, .int .i64 p0.Born_]) rfl rfl rfl rfl rfl rfl (fun _ => kp) (fun b33 => ?_)
  refine ow_alloc rfl rfl rfl rfl ty91 (fun _ => kp) (fun b34 => ?_)
  refine ow_nil ?_
  refine x_qs ?_
  refine c_seq ?_
  refine c_reg ?_
  refine ow_alloc rfl rfl rfl rfl ty91 (fun _ => kp) (fun b35 => ?_)
  refine ow_nil ?_
  refine x_qs ?_
  refine c_seq ?_
  refine c_reg ?_
  refine ow_batch [.fa 114 0 0 fa114_0] rfl ?_
  refine ow_r rfl (dstOk_lt rfl) (ry_box1 (off := 0) rfl rfl ty4 (boxIn (i := 0) rfl) rfl) ?_
  refine ow_batch [.fa 91 0 0 fa91_0] rfl ?_
  refine ow_storeC (off := 0) [.bool p0.Leaf_] [_, _, _, _, _, _, _, _, _, _, _, _] (i := 2) rfl rfl rfl rfl rfl rfl ty4 rfl rfl (by intro u hu; simp only [List.mem_cons, List.not_mem_nil, or_false] at hu; rcases hu with rfl <;> rfl) rfl rfl rfl kp ?_
  refine ow_nil ?_
  refine x_qs ?_
  refine c_seq ?_
  refine c_reg ?_
  refine ow_batch [.fa 114 1 1 fa114_1] rfl ?_
  refine ow_r rfl (dstOk_lt rfl) (ry_box (off := 1) (ds := [.int .i64 p0.Fork_.Attr_, .int .i64 p0.Fork_.At_]) rfl rfl ty111 (boxIn (i := 0) rfl) rfl rfl) ?_
  obtain ⟨y36, h37, H⟩ := of_bind H
  refine ow_q rfl rfl (dstOk_lt rfl) (qy_call rfl fn95 rfl (fun w1 hw1 => laws_toFork_ok w1  h37)) (fun _ _ => trivial) ?_
  refine ow_batch [.fa 91 1 1 fa91_1] rfl ?_
  refine ow_storeC (off := 1) [.int .i64 y36.Attr_, .int .i64 y36.At_] [_, _, _, _, _, _, _, _, _, _, _, _] (i := 2) rfl rfl rfl rfl rfl rfl ty87 rfl rfl (by intro u hu; simp only [List.mem_cons, List.not_mem_nil, or_false] at hu; rcases hu with rfl | rfl <;> rfl) rfl rfl rfl kp ?_
  refine ow_nil ?_
  refine x_qs ?_
  refine c_seq ?_
  refine c_reg ?_
  refine ow_batch [.fa 114 2 3 fa114_2] rfl ?_
  refine ow_r rfl (dstOk_lt rfl) (ry_box1 (off := 3) rfl rfl ty22 (boxIn (i := 0) rfl) rfl) ?_
  obtain ⟨y38, h39, H⟩ := of_bind H
  refine ow_callS rfl fn11 rfl rfl rfl rfl (fun w1 hw1 => laws_toIntS_ok w1  h39 (hw1.carve [] rfl rfl) (rds_bor g13 w1 hw1)) (fun v40 w1 w2 hw1 hR42 => ?_)
  obtain ⟨a43, n44, c45, F46, rfl, hS41⟩ := hR42
  obtain rfl := own_nS (i := 0) hS41 rfl
  refine ⟨St w M0 [_, _, _, _], hw1.comp [] rfl rfl hS41, fun _ _ => trivial, ?_⟩
  refine ow_batch [.fa 91 2 3 fa91_2] rfl ?_
  refine ow_storeC (off := 3) [.slice a43 y38.length c45] [_, _, _, _, _, _, _, _, _, _, _, _] (i := 2) rfl rfl rfl rfl rfl rfl ty22 rfl rfl (by intro u hu; simp only [List.mem_cons, List.not_mem_nil, or_false] at hu; rcases hu with rfl <;> rfl) rfl rfl rfl kp ?_
  refine ow_nil ?_
  refine x_qs ?_
  refine c_seq ?_
  refine c_reg ?_
  refine ow_batch [.fa 114 3 4 fa114_3] rfl ?_
  refine ow_r rfl (dstOk_lt rfl) (ry_box1 (off := 4) rfl rfl ty3 (boxIn (i := 0) rfl) rfl) ?_
  refine ow_batch [.fa 91 3 4 fa91_3] rfl ?_
  refine ow_storeC (off := 4) [.int .i64 p0.Miss_] [_, _, _, _, _, _, _, _, _, _, _, _] (i := 2) rfl rfl rfl rfl rfl rfl ty3 rfl rfl (by intro u hu; simp only [List.mem_cons, List.not_mem_nil, or_false] at hu; rcases hu with rfl <;> rfl) rfl rfl rfl kp ?_
  refine ow_nil ?_
  refine x_qs ?_
  refine c_seq ?_
  refine c_reg ?_
  refine ow_batch [.fa 114 4 5 fa114_4] rfl ?_
  refine ow_r rfl (dstOk_lt rfl) (ry_box (off := 5) (ds := [.slice a27 p0.Stats_.Totals_.length c28, .slice a29 p0.Stats_.Cells_.length c30]) rfl rfl ty112 (boxIn (i := 0) rfl) rfl rfl) ?_
  obtain ⟨y47, h48, H⟩ := of_bind H
  refine ow_callS rfl fn96 rfl rfl rfl rfl (fun w1 hw1 => laws_toStats_ok w1 (cs0 := [.slice a27 p0.Stats_.Totals_.length c28, .slice a29 p0.Stats_.Cells_.length c30]) h48 (hw1.carve [] rfl rfl) (rdm_Tlaws_Stats (x := p0.Stats_) (c0 := [.slice a27 p0.Stats_.Totals_.length c28]) (c1 := [.slice a29 p0.Stats_.Cells_.length c30]) (rds_bor g25 w1 hw1) (rds_bor g26 w1 hw1))) (fun v49 w1 w2 hw1 hR51 => ?_)
  obtain ⟨a52, n53, c54, F55, a56, n57, c58, F59, rfl, hS50⟩ := hR51
  obtain rfl := own_nS (i := 0) hS50 rfl
  obtain rfl := own_nS (i := 1) hS50 rfl
  refine ⟨St w M0 [_, _, _, _, _, _], hw1.comp [] rfl rfl hS50, fun _ _ => trivial, ?_⟩
  refine ow_batch [.fa 91 4 5 fa91_4] rfl ?_
  refine ow_storeC (off := 5) [.slice a52 y47.Totals_.length c54, .slice a56 y47.Cells_.length c58] [_, _, _, _, _, _, _, _, _, _, _, _] (i := 2) rfl rfl rfl rfl rfl rfl ty89 rfl rfl (by intro u hu; simp only [List.mem_cons, List.not_mem_nil, or_false] at hu; rcases hu with rfl | rfl <;> rfl) rfl rfl rfl kp ?_
  refine ow_nil ?_
  refine x_qs ?_
  refine c_seq ?_
  refine c_reg ?_
  refine ow_batch [.fa 114 5 7 fa114_5] rfl ?_
  refine ow_r rfl (dstOk_lt rfl) (ry_box1 (off := 7) rfl rfl ty3 (boxIn (i := 0) rfl) rfl) ?_
  refine ow_batch [.fa 91 5 7 fa91_5] rfl ?_
  refine ow_storeC (off := 7) [.int .i64 p0.Since_] [_, _, _, _, _, _, _, _, _, _, _, _] (i := 2) rfl rfl rfl rfl rfl rfl ty3 rfl rfl (by intro u hu; simp only [List.mem_cons, List.not_mem_nil, or_false] at hu; rcases hu with rfl <;> rfl) rfl rfl rfl kp ?_
  refine ow_nil ?_
  refine x_qs ?_
  refine c_seq ?_
  refine CW.weak (C' := St w M0 [_, _, _, _, _, _]) ?_ (fun _ h => St.sel [0, 1, 2, 3, 4, 5] rfl rfl h)
  refine c_reg ?_
  refine ow_batch [.fa 114 6 8 fa114_6] rfl ?_
  refine ow_r rfl (dstOk_lt rfl) (ry_box1 (off := 8) rfl rfl ty22 (boxIn (i := 0) rfl) rfl) ?_
  obtain ⟨y60, h61, H⟩ := of_bind H
  refine ow_callS rfl fn11 rfl rfl rfl rfl (fun w1 hw1 => laws_toIntS_ok w1  h61 (hw1.carve [] rfl rfl) (rds_bor g17 w1 hw1)) (fun v62 w1 w2 hw1 hR64 => ?_)
  obtain ⟨a65, n66, c67, F68, rfl, hS63⟩ := hR64
  obtain rfl := own_nS (i := 0) hS63 rfl
  refine ⟨St w M0 [_, _, _, _, _, _, _], hw1.comp [] rfl rfl hS63, fun _ _ => trivial, ?_⟩
  refine ow_batch [.fa 91 6 8 fa91_6] rfl ?_
  refine ow_storeC (off := 8) [.slice a65 y60.length c67] [_, _, _, _, _, _, _, _, _, _, _, _] (i := 2) rfl rfl rfl rfl rfl rfl ty22 rfl rfl (by intro u hu; simp only [List.mem_cons, List.not_mem_nil, or_false] at hu; rcases hu with rfl <;> rfl) rfl rfl rfl kp ?_
  refine ow_nil ?_
  refine x_qs ?_
  refine c_seq ?_
  refine c_reg ?_
  refine ow_batch [.fa 114 7 9 fa114_7] rfl ?_
  refine ow_r rfl (dstOk_lt rfl) (ry_box1 (off := 9) rfl rfl ty3 (boxIn (i := 0) rfl) rfl) ?_
  refine ow_batch [.fa 91 7 9 fa91_7] rfl ?_
  refine ow_storeC (off := 9) [.int .i64 p0.Depth_] [_, _, _, _, _, _, _, _, _, _, _, _] (i := 2) rfl rfl rfl rfl rfl rfl ty3 rfl rfl (by intro u hu; simp only [List.mem_cons, List.not_mem_nil, or_false] at hu; rcases hu with rfl <;> rfl) rfl rfl rfl kp ?_
  refine ow_nil ?_
  refine x_qs ?_
  refine c_seq ?_
  refine c_reg ?_
  refine ow_batch [.fa 114 8 10 fa114_8] rfl ?_
  refine ow_r rfl (dstOk_lt rfl) (ry_box1 (off := 10) rfl rfl ty3 (boxIn (i := 0) rfl) rfl) ?_
  refine ow_batch [.fa 91 8 10 fa91_8] rfl ?_
  refine ow_storeC (off := 10) [.int .i64 p0.Up_] [_, _, _, _, _, _, _, _, _, _, _, _] (i := 2) rfl rfl rfl rfl rfl rfl ty3 rfl rfl (by intro u hu; simp only [List.mem_cons, List.not_mem_nil, or_false] at hu; rcases hu with rfl <;> rfl) rfl rfl rfl kp ?_
  refine ow_nil ?_
  refine x_qs ?_
  refine c_seq ?_
  refine c_reg ?_
  refine ow_batch [.fa 114 9 11 fa114_9] rfl ?_
  refine ow_r rfl (dstOk_lt rfl) (ry_box1 (off := 11) rfl rfl ty3 (boxIn (i := 0) rfl) rfl) ?_
  refine ow_batch [.fa 91 9 11 fa91_9] rfl ?_
  refine ow_storeC (off := 11) [.int .i64 p0.Born_] [_, _, _, _, _, _, _, _, _, _, _, _] (i := 2) rfl rfl rfl rfl rfl rfl ty3 rfl rfl (by intro u hu; simp only [List.mem_cons, List.not_mem_nil, or_false] at hu; rcases hu with rfl <;> rfl) rfl rfl rfl kp ?_
  refine ow_nil ?_
  refine x_qs ?_
  refine c_seq ?_
  refine c_reg ?_
  refine ow_r rfl (dstOk_lt rfl) (ry_box (off := 0) (ds := [.bool p0.Leaf_, .int .i64 y36.Attr_, .int .i64 y36.At_, .slice a43 y38.length c45, .int .i64 p0.Miss_, .slice a52 y47.Totals_.length c54, .slice a56 y47.Cells_.length c58, .int .i64 p0.Since_, .slice a65 y60.length c67, .int .i64 p0.Depth_, .int .i64 p0.Up_, .int .i64 p0.Born_]) rfl rfl ty91 (boxIn (i := 2) rfl) rfl rfl) ?_
  refine ow_storeC (off := 0) [.bool p0.Leaf_, .int .i64 y36.Attr_, .int .i64 y36.At_, .slice a43 y38.length c45, .int .i64 p0.Miss_, .slice a52 y47.Totals_.length c54, .slice a56 y47.Cells_.length c58, .int .i64 p0.Since_, .slice a65 y60.length c67, .int .i64 p0.Depth_, .int .i64 p0.Up_, .int .i64 p0.Born_] [_, _, _, _, _, _, _, _, _, _, _, _] (i := 1) rfl rfl rfl rfl rfl rfl ty91 rfl rfl (by intro u hu; simp only [List.mem_cons, List.not_mem_nil, or_false] at hu; rcases hu with rfl | rfl | rfl | rfl | rfl | rfl | rfl | rfl | rfl | rfl | rfl | rfl <;> rfl) rfl rfl rfl kp ?_
  refine ow_nil ?_
  refine x_qs ?_
  refine c_ret ?_
  exact x_retR (rs := [.cell 2 91]) (vs := [.agg #[.bool p0.Leaf_, .int .i64 y36.Attr_, .int .i64 y36.At_, .slice a43 y38.length c45, .int .i64 p0.Miss_, .slice a52 y47.Totals_.length c54, .slice a56 y47.Cells_.length c58, .int .i64 p0.Since_, .slice a65 y60.length c67, .int .i64 p0.Depth_, .int .i64 p0.Up_, .int .i64 p0.Born_]]) rfl ⟨⟨_, [.bool p0.Leaf_, .int .i64 y36.Attr_, .int .i64 y36.At_, .slice a43 y38.length c45, .int .i64 p0.Miss_, .slice a52 y47.Totals_.length c54, .slice a56 y47.Cells_.length c58, .int .i64 p0.Since_, .slice a65 y60.length c67, .int .i64 p0.Depth_, .int .i64 p0.Up_, .int .i64 p0.Born_], _, _, _, rfl, ty91, (at_box (T := 91) 0 (boxIn (i := 1) rfl) rfl), rfl, rfl⟩, trivial⟩ (fun w' hw' => by
      obtain rfl := of_some H
      exact ⟨_, rfl, a43, y38.length, c45, F46, a52, y47.Totals_.length, c54, F55, a56, y47.Cells_.length, c58, F59, a65, y60.length, c67, F68, rfl, hw'.sel [3, 4, 5, 6] rfl rfl⟩)

set_option maxHeartbeats 4000000 in
set_option maxRecDepth 100000 in
theorem laws_toNodeS_ok (w : World) {M0 : List Nat} {p0 : List Tlaws_Node} {a_0 : Option Addr} {n_0 c_0 : Nat} {r : List Timpl_Node} (H : laws_toNodeS p0 = some r) (HS : St w M0 [] w) (g0 : (eList (eTlaws_Node) 114).rd w M0 p0 [.slice a_0 n_0 c_0]) :
    Calls Try.prog 64 #[.slice a_0 n_0 c_0] w (fun en w' => ∃ v, en = .returned v ∧ ∃ (a0 : Option Addr), ∃ (n0 : Nat), ∃ (c0 : Nat), ∃ (F0 : List Nat), v = .slice a0 n0 c0 ∧ St w M0 [Res.own (eList (eTimpl_Node) 91) F0 r [.slice a0 n0 c0]] w') := by
  obtain rfl := rd_n g0
  unfold laws_toNodeS at H
  refine f_enter (vs := [.slice a_0 p0.length c_0]) Try.func64 rfl Try.ntmps64 rfl (HS) ?_
  refine c_seq ?_
  refine c_reg ?_
  refine ow_batch [.p] rfl ?_
  refine ow_nil ?_
  refine x_qs ?_
  refine c_seq ?_
  refine c_reg ?_
  refine ow_batch [.p, .lenS 47 114 sl47] rfl ?_
  obtain ⟨l1, h2, H⟩ := of_bind H
  refine ow_make (e := eTimpl_Node) (zero := ((Timpl_Node.mk false (Timpl_Fork.mk 0 0) [] 0 (Timpl_Stats.mk [] []) 0 [] 0 0 0) : Timpl_Node)) rfl rfl rfl rfl rfl rfl sl52 ty91 rfl rfl rfl rfl (fun _ => (ownm_Timpl_Node (x := (Timpl_Node.mk false (Timpl_Fork.mk 0 0) [] 0 (Timpl_Stats.mk [] []) 0 [] 0 0 0)) (⟨rfl, rfl⟩ : (eBool).own _ [] (false : Bool) _) (⟨rfl, rfl⟩ : (eTimpl_Fork).own _ [] ((Timpl_Fork.mk 0 0) : Timpl_Fork) _) ((.inl ⟨rfl, rfl, rfl⟩) : (eList (eVal (Value.int .i64) (fun _ => rfl)) 3).own _ [] ([] : List Int) _) (⟨rfl, rfl⟩ : (eVal (Value.int .i64) (fun _ => rfl)).own _ [] (0 : Int) _) ((ownm_Timpl_Stats (x := (Timpl_Stats.mk [] [])) ((.inl ⟨rfl, rfl, rfl⟩) : (eList (eVal (Value.int .i64) (fun _ => rfl)) 3).own _ [] ([] : List Int) _) ((.inl ⟨rfl, rfl, rfl⟩) : (eList (eList (eVal (Value.int .i64) (fun _ => rfl)) 3) 22).own _ [] ([] : List (List Int)) _)) : (eTimpl_Stats).own _ [] ((Timpl_Stats.mk [] []) : Timpl_Stats) _) (⟨rfl, rfl⟩ : (eVal (Value.int .i64) (fun _ => rfl)).own _ [] (0 : Int) _) ((.inl ⟨rfl, rfl, rfl⟩) : (eList (eVal (Value.int .i64) (fun _ => rfl)) 3).own _ [] ([] : List Int) _) (⟨rfl, rfl⟩ : (eVal (Value.int .i64) (fun _ => rfl)).own _ [] (0 : Int) _) (⟨rfl, rfl⟩ : (eVal (Value.int .i64) (fun _ => rfl)).own _ [] (0 : Int) _) (⟨rfl, rfl⟩ : (eVal (Value.int .i64) (fun _ => rfl)).own _ [] (0 : Int) _))) h2 (fun _ => kp) (fun b3 => ?_)
  refine ow_batch [.p] rfl ?_
  refine ow_nil ?_
  refine x_qs ?_
  refine c_seq ?_
  refine c_seq ?_
  refine c_reg ?_
  refine ow_batch [.p] rfl ?_
  refine ow_nil ?_
  refine x_qs ?_
  refine c_block ?_
  refine CW.at (loopI3 (fun (l90 : List Timpl_Node) (F91 : List Nat) (i92 : Int) => St w M0 [Res.own (eList (eTimpl_Node) 91) F91 l90 [.slice (some ⟨b3, 0, none⟩) l1.length l1.length]]) (fun (l90 : List Timpl_Node) (F91 : List Nat) (i92 : Int) => [(0, .slice a_0 p0.length c_0), (3, .slice (some ⟨b3, 0, none⟩) l1.length l1.length), (4, .int .i64 i92)]) (fun kk => fun (l90 : List Timpl_Node) (F91 : List Nat) (i92 : Int) => laws_toNodeS_L1 p0 kk l90 i92 = some r) (fun _ _ _ H => ?_) (fun k1 ihk1 l90 F91 i92 H => ?_) Fuel (l1) ([b3]) (0) (H)) (fun _ h => St.sel [0] rfl rfl h) ⟨rfl, rfl, rfl,  trivial⟩
  · unfold laws_toNodeS_L1 at H
    exact absurd H (by simp)
  · unfold laws_toNodeS_L1 at H
    refine c_seq ?_
    refine c_seq ?_
    refine c_reg ?_
    refine ow_batch [.p, .p, .lenS 47 114 sl47, .p] rfl ?_
    refine ow_nil ?_
    refine x_qs ?_
    refine c_if rfl (fun hb => ?_) (fun hb => ?_)
    · have H := of_if_t hb H
      refine c_skip ?_
      refine x_qs ?_
      refine c_seq ?_
      refine c_block ?_
      refine c_reg ?_
      refine ow_batch [.p, .p, .p, .p] rfl ?_
      obtain ⟨e179, h180, H⟩ := of_bind H
      refine ow_ixB rfl rfl rfl rfl rfl sl47 ty114 rfl g0 h180 (fun q183 c184 hd181 hA182 => ?_)
      obtain ⟨c185, c186, c187, c188, c189, c190, c191, c192, c193, c194, rfl, g195, g196, g197, g198, g199, g200, g201, g202, g203, g204⟩ := rdo_Tlaws_Node hd181
      obtain rfl : c185 = [.bool e179.Leaf_] := g195
      obtain rfl : c186 = [.int .i64 e179.Fork_.Attr_, .int .i64 e179.Fork_.At_] := g196
      obtain ⟨a205, c206, rfl⟩ := rd_sl1 g197
      obtain rfl : c188 = [.int .i64 e179.Miss_] := g198
      obtain ⟨c207, c208, rfl, g209, g210⟩ := rdo_Tlaws_Stats g199
      obtain ⟨a211, c212, rfl⟩ := rd_sl1 g209
      obtain ⟨a213, c214, rfl⟩ := rd_sl1 g210
      obtain rfl : c190 = [.int .i64 e179.Since_] := g200
      obtain ⟨a215, c216, rfl⟩ := rd_sl1 g201
      obtain rfl : c192 = [.int .i64 e179.Depth_] := g202
      obtain rfl : c193 = [.int .i64 e179.Up_] := g203
      obtain rfl : c194 = [.int .i64 e179.Born_] := g204
      refine ow_r rfl (dstOk_lt rfl) (ry_load (cs := [.bool e179.Leaf_, .int .i64 e179.Fork_.Attr_, .int .i64 e179.Fork_.At_, .slice a205 e179.Kids_.length c206, .int .i64 e179.Miss_, .slice a211 e179.Stats_.Totals_.length c212, .slice a213 e179.Stats_.Cells_.length c214, .int .i64 e179.Since_, .slice a215 e179.Attrs_.length c216, .int .i64 e179.Depth_, .int .i64 e179.Up_, .int .i64 e179.Born_]) rfl rfl ty114 (at_bor bor hA182) rfl) ?_
      obtain ⟨y217, h218, H⟩ := of_bind H
      refine ow_callS rfl fn89 rfl rfl rfl rfl (fun w1 hw1 => laws_toNode_ok w1 (cs0 := [.bool e179.Leaf_, .int .i64 e179.Fork_.Attr_, .int .i64 e179.Fork_.At_, .slice a205 e179.Kids_.length c206, .int .i64 e179.Miss_, .slice a211 e179.Stats_.Totals_.length c212, .slice a213 e179.Stats_.Cells_.length c214, .int .i64 e179.Since_, .slice a215 e179.Attrs_.length c216, .int .i64 e179.Depth_, .int .i64 e179.Up_, .int .i64 e179.Born_]) h218 (hw1.carve [] rfl rfl) (rdm_Tlaws_Node (x := e179) (c0 := [.bool e179.Leaf_]) (c1 := [.int .i64 e179.Fork_.Attr_, .int .i64 e179.Fork_.At_]) (c2 := [.slice a205 e179.Kids_.length c206]) (c3 := [.int .i64 e179.Miss_]) (c4 := [.slice a211 e179.Stats_.Totals_.length c212, .slice a213 e179.Stats_.Cells_.length c214]) (c5 := [.int .i64 e179.Since_]) (c6 := [.slice a215 e179.Attrs_.length c216]) (c7 := [.int .i64 e179.Depth_]) (c8 := [.int .i64 e179.Up_]) (c9 := [.int .i64 e179.Born_]) rfl rfl (rds_bor g197 w1 hw1) rfl (rdm_Tlaws_Stats (x := e179.Stats_) (c0 := [.slice a211 e179.Stats_.Totals_.length c212]) (c1 := [.slice a213 e179.Stats_.Cells_.length c214]) (rds_bor g209 w1 hw1) (rds_bor g210 w1 hw1)) rfl (rds_bor g201 w1 hw1) rfl rfl rfl)) (fun v219 w1 w2 hw1 hR221 => ?_)
      obtain ⟨a222, n223, c224, F225, a226, n227, c228, F229, a230, n231, c232, F233, a234, n235, c236, F237, rfl, hS220⟩ := hR221
      obtain rfl := own_nS (i := 0) hS220 rfl
      obtain rfl := own_nS (i := 1) hS220 rfl
      obtain rfl := own_nS (i := 2) hS220 rfl
      obtain rfl := own_nS (i := 3) hS220 rfl
      refine ⟨St w M0 [_, _, _, _, _], hw1.comp [] rfl rfl hS220, fun _ _ => trivial, ?_⟩
      obtain ⟨e238, h239, H⟩ := of_bind H
      refine ow_ex4 rfl (fun w1 hw1 => foc (r := 0) hw1 rfl h239) (fun b241 G242 F243 c244 => ?_)
      refine ow_fact rfl (fun w1 hw1 => hw1.1) (fun q240 => ?_)
      obtain ⟨ha245, hn246⟩ := q240
      refine ow_st (C' := St w M0 [_, _, _, _, _, _, _]) rfl (fun w1 hw1 => hw1.2) ?_
      refine ow_ex3 rfl (fun w1 hw1 => opn_Timpl_Node (i := 6) hw1 rfl) (fun a248 c249 F250 => ?_)
      refine ow_ex3 rfl (fun _ h => h) (fun a251 c252 F253 => ?_)
      refine ow_ex3 rfl (fun _ h => h) (fun a254 c255 F256 => ?_)
      refine ow_ex3 rfl (fun _ h => h) (fun a257 c258 F259 => ?_)
      refine ow_fact rfl (fun w1 hw1 => hw1.1) (fun q247 => ?_)
      subst q247
      refine ow_st (C' := St w M0 [_, _, _, _, _, _, _, _, _, _, _]) rfl (fun w1 hw1 => hw1.2) ?_
      refine ow_ixH rfl rfl rfl rfl rfl sl52 ty91 rfl (holeIn (p := 5) rfl) hn246 ha245 (idx_some h239).1 ?_
      refine ow_storeH (off := 0) [.bool y217.Leaf_, .int .i64 y217.Fork_.Attr_, .int .i64 y217.Fork_.At_, .slice a222 y217.Kids_.length c224, .int .i64 y217.Miss_, .slice a226 y217.Stats_.Totals_.length c228, .slice a230 y217.Stats_.Cells_.length c232, .int .i64 y217.Since_, .slice a234 y217.Attrs_.length c236, .int .i64 y217.Depth_, .int .i64 y217.Up_, .int .i64 y217.Born_] (p := 5) (c' := [_, _, _, _, _, _, _, _, _, _, _, _]) rfl rfl rfl rfl rfl (by first | rfl | simp only [add_lit, add_add, add_zero]) rfl ty91 rfl rfl (by intro u hu; simp only [List.mem_cons, List.not_mem_nil, or_false] at hu; rcases hu with rfl | rfl | rfl | rfl | rfl | rfl | rfl | rfl | rfl | rfl | rfl | rfl <;> rfl) rfl rfl rfl kp ?_
      refine ow_nil ?_
      refine x_qb ?_
      refine x_qs ?_
      refine CW.weak (C' := St w M0 [_, _, _, _, _, _, _, _, _]) ?_ (fun _ h => St.sel [1, 2, 3, 4, 5, 7, 8, 9, 10] rfl rfl h)
      refine c_reg ?_
      refine ow_batch [.p, .p, .p] rfl ?_
      refine ow_nil ?_
      refine xw_ex (fun w1 hw1 => fus_Timpl_Node (x0 := y217.Leaf_) (x1 := y217.Fork_.Attr_) (x2 := y217.Fork_.At_) (x4 := y217.Miss_) (x7 := y217.Since_) (x9 := y217.Depth_) (x10 := y217.Up_) (x11 := y217.Born_) [0, 1, 2, 3] hw1 rfl rfl) (fun F260 => ?_)
      refine xw_st (C' := St w M0 [_, _, _, _, _, _, _, _, _, _]) (fun _ h => h) ?_
      refine xw_ex (fun w1 hw1 => unf (p := 4) (q := 9) hw1 rfl rfl rfl hn246 ha245) (fun F261 => ?_)
      refine xw_st (C' := St w M0 [_, _, _, _, _, _, _, _, _, _, _]) (fun _ h => h) ?_
      exact x_ql (RW.at (ihk1 ((l90.set i92.toNat y217)) (F261) (IntKind.i64.wrap (i92 + 1)) (H)) (fun _ h => St.sel [10] rfl rfl h) ⟨rfl, rfl, rfl, trivial⟩)
    · have H := of_if_f hb H
      refine c_exit ?_
      refine x_qs_exit ?_
      refine x_ql_exit ?_
      refine x_qb_here ?_
      refine x_qs ?_
      refine c_seq ?_
      refine c_reg ?_
      refine ow_batch [.p, .p] rfl ?_
      refine ow_nil ?_
      refine x_qs ?_
      refine c_ret ?_
      exact x_retR (rs := [.tmp 2]) (vs := [.slice (some ⟨b3, 0, none⟩) l1.length l1.length]) rfl ⟨rfl, trivial⟩ (fun w' hw' => by
          obtain rfl := of_some H
          exact ⟨_, rfl, (some ⟨b3, 0, none⟩), l1.length, l1.length, F91, rfl, hw'.sel [0] rfl rfl⟩)

set_option maxHeartbeats 4000000 in
set_option maxRecDepth 100000 in
theorem laws_toTree_ok (w : World) {M0 : List Nat} {p0 : Tlaws_Tree} {cs0 : List Value} {r : Timpl_Tree} (H : laws_toTree p0 = some r) (HS : St w M0 [] w) (g0 : (eTlaws_Tree).rd w M0 p0 cs0) :
    Calls Try.prog 33 #[.agg cs0.toArray] w (fun en w' => ∃ v, en = .returned v ∧ ∃ (a0 : Option Addr), ∃ (n0 : Nat), ∃ (c0 : Nat), ∃ (F0 : List Nat), v = .agg #[.slice a0 n0 c0, .int .i64 r.Seen_] ∧ St w M0 [Res.own (eList (eTimpl_Node) 91) F0 r.Nodes_ [.slice a0 n0 c0]] w') := by
  obtain ⟨c1, c2, rfl, g3, g4⟩ := rdo_Tlaws_Tree g0
  obtain ⟨a5, c6, rfl⟩ := rd_sl1 g3
  obtain rfl : c2 = [.int .i64 p0.Seen_] := g4
  unfold laws_toTree at H
  refine f_enter (vs := [.agg #[.slice a5 p0.Nodes_.length c6, .int .i64 p0.Seen_]]) Try.func33 rfl Try.ntmps33 rfl (HS) ?_
  refine c_seq ?_
  refine c_reg ?_
  refine ow_box (cs := [.slice a5 p0.Nodes_.length c6, .int .i64 p0.Seen_]) rfl rfl rfl rfl rfl rfl (fun _ => kp) (fun b7 => ?_)
  refine ow_alloc rfl rfl rfl rfl ty54 (fun _ => kp) (fun b8 => ?_)
  refine ow_nil ?_
  refine x_qs ?_
  refine c_seq ?_
  refine c_reg ?_
  refine ow_alloc rfl rfl rfl rfl ty54 (fun _ => kp) (fun b9 => ?_)
  refine ow_nil ?_
  refine x_qs ?_
  refine c_seq ?_
  refine c_reg ?_
  refine ow_batch [.fa 49 0 0 fa49_0] rfl ?_
  refine ow_r rfl (dstOk_lt rfl) (ry_box1 (off := 0) rfl rfl ty47 (boxIn (i := 0) rfl) rfl) ?_
  obtain ⟨y10, h11, H⟩ := of_bind H
  refine ow_callS rfl fn64 rfl rfl rfl rfl (fun w1 hw1 => laws_toNodeS_ok w1  h11 (hw1.carve [] rfl rfl) (rds_bor g3 w1 hw1)) (fun v12 w1 w2 hw1 hR14 => ?_)
  obtain ⟨a15, n16, c17, F18, rfl, hS13⟩ := hR14
  obtain rfl := own_nS (i := 0) hS13 rfl
  refine ⟨St w M0 [_, _, _, _], hw1.comp [] rfl rfl hS13, fun _ _ => trivial, ?_⟩
  refine ow_batch [.fa 54 0 0 fa54_0] rfl ?_
  refine ow_storeC (off := 0) [.slice a15 y10.length c17] [_, _] (i := 2) rfl rfl rfl rfl rfl rfl ty52 rfl rfl (by intro u hu; simp only [List.mem_cons, List.not_mem_nil, or_false] at hu; rcases hu with rfl <;> rfl) rfl rfl rfl kp ?_
  refine ow_nil ?_
  refine x_qs ?_
  refine c_seq ?_
  refine c_reg ?_
  refine ow_batch [.fa 49 1 1 fa49_1] rfl ?_
  refine ow_r rfl (dstOk_lt rfl) (ry_box1 (off := 1) rfl rfl ty3 (boxIn (i := 0) rfl) rfl) ?_
  refine ow_batch [.fa 54 1 1 fa54_1] rfl ?_
  refine ow_storeC (off := 1) [.int .i64 p0.Seen_] [_, _] (i := 2) rfl rfl rfl rfl rfl rfl ty3 rfl rfl (by intro u hu; simp only [List.mem_cons, List.not_mem_nil, or_false] at hu; rcases hu with rfl <;> rfl) rfl rfl rfl kp ?_
  refine ow_nil ?_
  refine x_qs ?_
  refine c_seq ?_
  refine c_reg ?_
  refine ow_r rfl (dstOk_lt rfl) (ry_box (off := 0) (ds := [.slice a15 y10.length c17, .int .i64 p0.Seen_]) rfl rfl ty54 (boxIn (i := 2) rfl) rfl rfl) ?_
  refine ow_storeC (off := 0) [.slice a15 y10.length c17, .int .i64 p0.Seen_] [_, _] (i := 1) rfl rfl rfl rfl rfl rfl ty54 rfl rfl (by intro u hu; simp only [List.mem_cons, List.not_mem_nil, or_false] at hu; rcases hu with rfl | rfl <;> rfl) rfl rfl rfl kp ?_
  refine ow_nil ?_
  refine x_qs ?_
  refine c_ret ?_
  exact x_retR (rs := [.cell 2 54]) (vs := [.agg #[.slice a15 y10.length c17, .int .i64 p0.Seen_]]) rfl ⟨⟨_, [.slice a15 y10.length c17, .int .i64 p0.Seen_], _, _, _, rfl, ty54, (at_box (T := 54) 0 (boxIn (i := 1) rfl) rfl), rfl, rfl⟩, trivial⟩ (fun w' hw' => by
      obtain rfl := of_some H
      exact ⟨_, rfl, a15, y10.length, c17, F18, rfl, hw'.sel [3] rfl rfl⟩)

set_option maxHeartbeats 4000000 in
set_option maxRecDepth 100000 in
theorem spec_l27NodeFits_ok (w : World) {p0 : Timpl_Node} {cs0 : List Value} {r : Bool} (H : spec_l27NodeFits p0 = some r)  (g0 : (eTimpl_Node).rd w [] p0 cs0) :
    Calls Try.prog 62 #[.agg cs0.toArray] w (fun en w' => en = .returned (.bool r) ∧ Ext [] w w') := by
  obtain ⟨c1, c2, c3, c4, c5, c6, c7, c8, c9, c10, rfl, g11, g12, g13, g14, g15, g16, g17, g18, g19, g20⟩ := rdo_Timpl_Node g0
  obtain rfl : c1 = [.bool p0.Leaf_] := g11
  obtain rfl : c2 = [.int .i64 p0.Fork_.Attr_, .int .i64 p0.Fork_.At_] := g12
  obtain ⟨a21, c22, rfl⟩ := rd_sl1 g13
  obtain rfl : c4 = [.int .i64 p0.Miss_] := g14
  obtain ⟨c23, c24, rfl, g25, g26⟩ := rdo_Timpl_Stats g15
  obtain ⟨a27, c28, rfl⟩ := rd_sl1 g25
  obtain ⟨a29, c30, rfl⟩ := rd_sl1 g26
  obtain rfl : c6 = [.int .i64 p0.Since_] := g16
  obtain ⟨a31, c32, rfl⟩ := rd_sl1 g17
  obtain rfl : c8 = [.int .i64 p0.Depth_] := g18
  obtain rfl : c9 = [.int .i64 p0.Up_] := g19
  obtain rfl : c10 = [.int .i64 p0.Born_] := g20
  unfold spec_l27NodeFits at H
  refine f_enter (vs := [.agg #[.bool p0.Leaf_, .int .i64 p0.Fork_.Attr_, .int .i64 p0.Fork_.At_, .slice a21 p0.Kids_.length c22, .int .i64 p0.Miss_, .slice a27 p0.Stats_.Totals_.length c28, .slice a29 p0.Stats_.Cells_.length c30, .int .i64 p0.Since_, .slice a31 p0.Attrs_.length c32, .int .i64 p0.Depth_, .int .i64 p0.Up_, .int .i64 p0.Born_]]) Try.func62 rfl Try.ntmps62 rfl (St.init w []) ?_
  refine c_seq ?_
  refine c_reg ?_
  refine ow_box (cs := [.bool p0.Leaf_, .int .i64 p0.Fork_.Attr_, .int .i64 p0.Fork_.At_, .slice a21 p0.Kids_.length c22, .int .i64 p0.Miss_, .slice a27 p0.Stats_.Totals_.length c28, .slice a29 p0.Stats_.Cells_.length c30, .int .i64 p0.Since_, .slice a31 p0.Attrs_.length c32, .int .i64 p0.Depth_, .int .i64 p0.Up_, .int .i64 p0.Born_]) rfl rfl rfl rfl rfl rfl (fun _ => kp) (fun b33 => ?_)
  refine ow_batch [.p] rfl ?_
  refine ow_nil ?_
  refine x_qs ?_
  refine c_seq ?_
  refine c_seq ?_
  refine c_reg ?_
  refine ow_batch [.fa 91 1 1 fa91_1, .fa 87 0 0 fa87_0] rfl ?_
  refine ow_r rfl (dstOk_lt rfl) (ry_box1 (off := 1) rfl rfl ty3 (boxIn (i := 0) rfl) rfl) ?_
  refine ow_batch [.fa 91 1 1 fa91_1, .fa 87 1 1 fa87_1] rfl ?_
  refine ow_r rfl (dstOk_lt rfl) (ry_box1 (off := 2) rfl rfl ty3 (boxIn (i := 0) rfl) rfl) ?_
  refine ow_batch [.fa 91 3 4 fa91_3] rfl ?_
  refine ow_r rfl (dstOk_lt rfl) (ry_box1 (off := 4) rfl rfl ty3 (boxIn (i := 0) rfl) rfl) ?_
  refine ow_batch [.fa 91 5 7 fa91_5] rfl ?_
  refine ow_r rfl (dstOk_lt rfl) (ry_box1 (off := 7) rfl rfl ty3 (boxIn (i := 0) rfl) rfl) ?_
  refine ow_batch [.fa 91 7 9 fa91_7] rfl ?_
  refine ow_r rfl (dstOk_lt rfl) (ry_box1 (off := 9) rfl rfl ty3 (boxIn (i := 0) rfl) rfl) ?_
  refine ow_batch [.fa 91 8 10 fa91_8] rfl ?_
  refine ow_r rfl (dstOk_lt rfl) (ry_box1 (off := 10) rfl rfl ty3 (boxIn (i := 0) rfl) rfl) ?_
  refine ow_batch [.fa 91 9 11 fa91_9] rfl ?_
  refine ow_r rfl (dstOk_lt rfl) (ry_box1 (off := 11) rfl rfl ty3 (boxIn (i := 0) rfl) rfl) ?_
  refine ow_blit (val := Value.int .i64) (h1 := fun _ => rfl) [p0.Fork_.Attr_, p0.Fork_.At_, p0.Miss_, p0.Since_, p0.Depth_, p0.Up_, p0.Born_] [(0, [.int .i64 p0.Fork_.Attr_]), (1, [.int .i64 p0.Fork_.At_]), (2, [.int .i64 p0.Miss_]), (3, [.int .i64 p0.Since_]), (4, [.int .i64 p0.Depth_]), (5, [.int .i64 p0.Up_]), (6, [.int .i64 p0.Born_])] rfl rfl rfl rfl rfl sl22 ty3 rfl rfl rfl ⟨rfl, rfl, Nat.le_of_ble_eq_true rfl, rfl, rfl, Nat.le_of_ble_eq_true rfl, rfl, rfl, Nat.le_of_ble_eq_true rfl, rfl, rfl, Nat.le_of_ble_eq_true rfl, rfl, rfl, Nat.le_of_ble_eq_true rfl, rfl, rfl, Nat.le_of_ble_eq_true rfl, rfl, rfl, Nat.le_of_ble_eq_true rfl,  trivial⟩ rfl rfl (fun _ => kp) (fun b34 => ?_)
  obtain ⟨y35, h36, H⟩ := of_bind H
  refine ow_q rfl rfl (dstOk_lt rfl) (qy_call rfl fn46 rfl (fun w1 hw1 => spec_l27Fits_ok w1  h36 (rds_own (r := 1) rfl w1 hw1))) (fun _ _ => trivial) ?_
  refine ow_batch [.p, .p] rfl ?_
  obtain ⟨u37, hu41, H⟩ := of_bind H
  refine ow_cut [(28, .bool u37), (1, .pointer (some ⟨b33, 0, none⟩))] 5 ?_ (fun key => OW.sub (R := [(1, .pointer (some ⟨b33, 0, none⟩)), (23, .bool (!y35))]) ?_ ⟨rfl, rfl, trivial⟩)
  · refine ow_batch [.p] rfl ?_
    obtain ⟨u42, hu46, H⟩ := of_bind H
    refine ow_cut [(34, .bool u42), (1, .pointer (some ⟨b33, 0, none⟩))] 5 ?_ (fun key => OW.sub (R := [(1, .pointer (some ⟨b33, 0, none⟩)), (29, .bool u37)]) ?_ ⟨rfl, rfl, trivial⟩)
    · refine ow_batch [.p] rfl ?_
      obtain ⟨u47, hu51, H⟩ := of_bind H
      refine ow_cut [(41, .bool u47), (1, .pointer (some ⟨b33, 0, none⟩))] 6 ?_ (fun key => OW.sub (R := [(1, .pointer (some ⟨b33, 0, none⟩)), (35, .bool u42)]) ?_ ⟨rfl, rfl, trivial⟩)
      · refine ow_nil ?_
        refine x_qs ?_
        refine c_if rfl (fun hb => ?_) (fun hb => ?_)
        · have H := of_if_t hb H
          refine c_seq ?_
          refine c_reg ?_
          refine ow_batch [.p] rfl ?_
          refine ow_nil ?_
          refine x_qs ?_
          refine c_ret ?_
          refine x_qs_ret ?_
          exact x_retR (rs := [.tmp 2]) (vs := [.bool false]) rfl ⟨rfl, trivial⟩ (fun w' hw' => by
              obtain rfl := of_some H
              exact ⟨rfl, hw'.ext⟩)
        · have H := of_if_f hb H
          refine c_skip ?_
          refine x_qs ?_
          refine c_seq ?_
          refine c_seq ?_
          refine c_reg ?_
          refine ow_batch [.p] rfl ?_
          refine ow_nil ?_
          refine x_qs ?_
          refine c_block ?_
          refine CW.at (loopI1 (fun (i63 : Int) => St w [] [Res.box b33 91 [.bool p0.Leaf_, .int .i64 p0.Fork_.Attr_, .int .i64 p0.Fork_.At_, .slice a21 p0.Kids_.length c22, .int .i64 p0.Miss_, .slice a27 p0.Stats_.Totals_.length c28, .slice a29 p0.Stats_.Cells_.length c30, .int .i64 p0.Since_, .slice a31 p0.Attrs_.length c32, .int .i64 p0.Depth_, .int .i64 p0.Up_, .int .i64 p0.Born_]]) (fun (i63 : Int) => [(1, .pointer (some ⟨b33, 0, none⟩)), (3, .int .i64 i63)]) (fun kk => fun (i63 : Int) => spec_l27NodeFits_L1 p0 kk i63 = some r) (fun _ H => ?_) (fun k1 ihk1 i63 H => ?_) Fuel (0) (H)) (fun _ h => St.sel [0] rfl rfl h) ⟨rfl, rfl,  trivial⟩
          · unfold spec_l27NodeFits_L1 at H
            exact absurd H (by simp)
          · unfold spec_l27NodeFits_L1 at H
            refine c_seq ?_
            refine c_seq ?_
            refine c_reg ?_
            refine ow_batch [.p, .fa 91 4 5 fa91_4, .fa 89 1 1 fa89_1] rfl ?_
            refine ow_r rfl (dstOk_lt rfl) (ry_box1 (off := 6) rfl rfl ty35 (boxIn (i := 0) rfl) rfl) ?_
            refine ow_batch [.lenS 35 22 sl35, .p] rfl ?_
            refine ow_nil ?_
            refine x_qs ?_
            refine c_if rfl (fun hb => ?_) (fun hb => ?_)
            · have H := of_if_t hb H
              refine c_skip ?_
              refine x_qs ?_
              refine c_seq ?_
              refine c_block ?_
              refine c_seq ?_
              refine c_reg ?_
              refine ow_batch [.fa 91 4 5 fa91_4, .fa 89 1 1 fa89_1] rfl ?_
              refine ow_r rfl (dstOk_lt rfl) (ry_box1 (off := 6) rfl rfl ty35 (boxIn (i := 0) rfl) rfl) ?_
              refine ow_batch [.p] rfl ?_
              obtain ⟨e75, h76, H⟩ := of_bind H
              refine ow_ixB rfl rfl rfl rfl rfl sl35 ty22 rfl g26 h76 (fun q79 c80 hd77 hA78 => ?_)
              obtain ⟨a81, c82, rfl⟩ := rd_sl1 hd77
              refine ow_r rfl (dstOk_lt rfl) (ry_load1 rfl rfl ty22 (at_bor bor hA78)) ?_
              obtain ⟨y83, h84, H⟩ := of_bind H
              refine ow_q rfl rfl (dstOk_lt rfl) (qy_call rfl fn46 rfl (fun w1 hw1 => spec_l27Fits_ok w1  h84 (rds_bor hd77 w1 hw1))) (fun _ _ => trivial) ?_
              refine ow_batch [.p] rfl ?_
              refine ow_nil ?_
              refine x_qs ?_
              refine c_if rfl (fun hb => ?_) (fun hb => ?_)
              · have H := of_if_t hb H
                refine c_seq ?_
                refine c_reg ?_
                refine ow_batch [.p] rfl ?_
                refine ow_nil ?_
                refine x_qs ?_
                refine c_ret ?_
                refine x_qb_ret ?_
                refine x_qs_ret ?_
                refine x_ql_ret ?_
                refine x_qb_ret ?_
                refine x_qs_ret ?_
                exact x_retR (rs := [.tmp 2]) (vs := [.bool false]) rfl ⟨rfl, trivial⟩ (fun w' hw' => by
                    obtain rfl := of_some H
                    exact ⟨rfl, hw'.ext⟩)
              · have H := of_if_f hb H
                refine c_skip ?_
                refine x_qb ?_
                refine x_qs ?_
                refine c_reg ?_
                refine ow_batch [.p, .p, .p] rfl ?_
                refine ow_nil ?_
                exact x_ql (RW.at (ihk1 (IntKind.i64.wrap (i63 + 1)) (H)) (fun _ h => St.sel [0] rfl rfl h) ⟨rfl, rfl, trivial⟩)
            · have H := of_if_f hb H
              refine c_exit ?_
              refine x_qs_exit ?_
              refine x_ql_exit ?_
              refine x_qb_here ?_
              refine x_qs ?_
              refine c_seq ?_
              refine c_reg ?_
              refine ow_batch [.p] rfl ?_
              refine ow_nil ?_
              refine x_qs ?_
              refine c_ret ?_
              exact x_retR (rs := [.tmp 2]) (vs := [.bool true]) rfl ⟨rfl, trivial⟩ (fun w' hw' => by
                  obtain rfl := of_some H
                  exact ⟨rfl, hw'.ext⟩)
      · clear H
        have H := hu51
        clear hu51
        generalize u42 = t50 at H ⊢
        cases t50
        · have H := of_if_f rfl H
          refine ow_batch [.fa 91 4 5 fa91_4, .fa 89 0 0 fa89_0] rfl ?_
          refine ow_r rfl (dstOk_lt rfl) (ry_box1 (off := 5) rfl rfl ty22 (boxIn (i := 0) rfl) rfl) ?_
          obtain ⟨y48, h49, H⟩ := of_bind H
          refine ow_q rfl rfl (dstOk_lt rfl) (qy_call rfl fn46 rfl (fun w1 hw1 => spec_l27Fits_ok w1  h49 (rds_bor g25 w1 hw1))) (fun _ _ => trivial) ?_
          refine ow_batch [.p] rfl ?_
          refine ow_batch [.p] rfl ?_
          obtain rfl := of_some H
          exact OW.sub key ⟨rfl, rfl, trivial⟩
        · have H := of_if_t rfl H
          refine ow_batch [.p, .p, .p, .p, .p, .p] rfl ?_
          obtain rfl := of_some H
          exact OW.sub key ⟨rfl, rfl, trivial⟩
    · clear H
      have H := hu46
      clear hu46
      generalize u37 = t45 at H ⊢
      cases t45
      · have H := of_if_f rfl H
        refine ow_batch [.fa 91 6 8 fa91_6] rfl ?_
        refine ow_r rfl (dstOk_lt rfl) (ry_box1 (off := 8) rfl rfl ty22 (boxIn (i := 0) rfl) rfl) ?_
        obtain ⟨y43, h44, H⟩ := of_bind H
        refine ow_q rfl rfl (dstOk_lt rfl) (qy_call rfl fn46 rfl (fun w1 hw1 => spec_l27Fits_ok w1  h44 (rds_bor g17 w1 hw1))) (fun _ _ => trivial) ?_
        refine ow_batch [.p] rfl ?_
        refine ow_batch [.p] rfl ?_
        obtain rfl := of_some H
        exact OW.sub key ⟨rfl, rfl, trivial⟩
      · have H := of_if_t rfl H
        refine ow_batch [.p, .p, .p, .p, .p] rfl ?_
        obtain rfl := of_some H
        exact OW.sub key ⟨rfl, rfl, trivial⟩
  · clear H
    have H := hu41
    clear hu41
    generalize (!y35) = t40 at H ⊢
    cases t40
    · have H := of_if_f rfl H
      refine ow_batch [.fa 91 2 3 fa91_2] rfl ?_
      refine ow_r rfl (dstOk_lt rfl) (ry_box1 (off := 3) rfl rfl ty22 (boxIn (i := 0) rfl) rfl) ?_
      obtain ⟨y38, h39, H⟩ := of_bind H
      refine ow_q rfl rfl (dstOk_lt rfl) (qy_call rfl fn46 rfl (fun w1 hw1 => spec_l27Fits_ok w1  h39 (rds_bor g13 w1 hw1))) (fun _ _ => trivial) ?_
      refine ow_batch [.p] rfl ?_
      refine ow_batch [.p] rfl ?_
      obtain rfl := of_some H
      exact OW.sub key ⟨rfl, rfl, trivial⟩
    · have H := of_if_t rfl H
      refine ow_batch [.p, .p, .p, .p, .p] rfl ?_
      obtain rfl := of_some H
      exact OW.sub key ⟨rfl, rfl, trivial⟩

set_option maxHeartbeats 4000000 in
set_option maxRecDepth 100000 in
theorem spec_l1Bit_ok (w : World) {p0 : Bool}  {r : Int} (H : spec_l1Bit p0 = some r)   :
    Calls Try.prog 88 #[.bool p0] w (fun en w' => en = .returned (.int .i64 r) ∧ Ext [] w w') := by
  unfold spec_l1Bit at H
  refine f_enter (vs := [.bool p0]) Try.func88 rfl Try.ntmps88 rfl (St.init w []) ?_
  refine c_seq ?_
  refine c_reg ?_
  refine ow_batch [.p] rfl ?_
  refine ow_nil ?_
  refine x_qs ?_
  refine c_seq ?_
  refine c_seq ?_
  refine c_reg ?_
  refine ow_batch [.p] rfl ?_
  refine ow_nil ?_
  refine x_qs ?_
  refine c_if rfl (fun hb => ?_) (fun hb => ?_)
  · have H := of_if_t hb H
    refine c_seq ?_
    refine c_reg ?_
    refine ow_batch [.p] rfl ?_
    refine ow_nil ?_
    refine x_qs ?_
    refine c_ret ?_
    refine x_qs_ret ?_
    exact x_retR (rs := [.tmp 2]) (vs := [.int .i64 1]) rfl ⟨rfl, trivial⟩ (fun w' hw' => by
        obtain rfl := of_some H
        exact ⟨rfl, hw'.ext⟩)
  · have H := of_if_f hb H
    refine c_skip ?_
    refine x_qs ?_
    refine c_seq ?_
    refine c_reg ?_
    refine ow_batch [.p] rfl ?_
    refine ow_nil ?_
    refine x_qs ?_
    refine c_ret ?_
    exact x_retR (rs := [.tmp 2]) (vs := [.int .i64 0]) rfl ⟨rfl, trivial⟩ (fun w' hw' => by
        obtain rfl := of_some H
        exact ⟨rfl, hw'.ext⟩)

set_option maxHeartbeats 4000000 in
set_option maxRecDepth 100000 in
theorem spec_l27PutNode_ok (w : World) {M0 : List Nat} {p0 : Timpl_Node} {cs0 : List Value} {r : List Int} (H : spec_l27PutNode p0 = some r) (HS : St w M0 [] w) (g0 : (eTimpl_Node).rd w M0 p0 cs0) :
    Calls Try.prog 63 #[.agg cs0.toArray] w (fun en w' => ∃ v, en = .returned v ∧ ∃ (a0 : Option Addr), ∃ (n0 : Nat), ∃ (c0 : Nat), ∃ (F0 : List Nat), v = .slice a0 n0 c0 ∧ St w M0 [Res.own (eList (eVal (Value.int .u8) (fun _ => rfl)) 5) F0 r [.slice a0 n0 c0]] w') := by
  obtain ⟨c1, c2, c3, c4, c5, c6, c7, c8, c9, c10, rfl, g11, g12, g13, g14, g15, g16, g17, g18, g19, g20⟩ := rdo_Timpl_Node g0
  obtain rfl : c1 = [.bool p0.Leaf_] := g11
  obtain rfl : c2 = [.int .i64 p0.Fork_.Attr_, .int .i64 p0.Fork_.At_] := g12
  obtain ⟨a21, c22, rfl⟩ := rd_sl1 g13
  obtain rfl : c4 = [.int .i64 p0.Miss_] := g14
  obtain ⟨c23, c24, rfl, g25, g26⟩ := rdo_Timpl_Stats g15
  obtain ⟨a27, c28, rfl⟩ := rd_sl1 g25
  obtain ⟨a29, c30, rfl⟩ := rd_sl1 g26
  obtain rfl : c6 = [.int .i64 p0.Since_] := g16
  obtain ⟨a31, c32, rfl⟩ := rd_sl1 g17
  obtain rfl : c8 = [.int .i64 p0.Depth_] := g18
  obtain rfl : c9 = [.int .i64 p0.Up_] := g19
  obtain rfl : c10 = [.int .i64 p0.Born_] := g20
  unfold spec_l27PutNode at H
  refine f_enter (vs := [.agg #[.bool p0.Leaf_, .int .i64 p0.Fork_.Attr_, .int .i64 p0.Fork_.At_, .slice a21 p0.Kids_.length c22, .int .i64 p0.Miss_, .slice a27 p0.Stats_.Totals_.length c28, .slice a29 p0.Stats_.Cells_.length c30, .int .i64 p0.Since_, .slice a31 p0.Attrs_.length c32, .int .i64 p0.Depth_, .int .i64 p0.Up_, .int .i64 p0.Born_]]) Try.func63 rfl Try.ntmps63 rfl (HS) ?_
  refine c_seq ?_
  refine c_reg ?_
  refine ow_box (cs := [.bool p0.Leaf_, .int .i64 p0.Fork_.Attr_, .int .i64 p0.Fork_.At_, .slice a21 p0.Kids_.length c22, .int .i64 p0.Miss_, .slice a27 p0.Stats_.Totals_.length c28, .slice a29 p0.Stats_.Cells_.length c30, .int .i64 p0.Since_, .slice a31 p0.Attrs_.length c32, .int .i64 p0.Depth_, .int .i64 p0.Up_, .int .i64 p0.Born_]) rfl rfl rfl rfl rfl rfl (fun _ => kp) (fun b33 => ?_)
  refine ow_batch [.p] rfl ?_
  refine ow_nil ?_
  refine x_qs ?_
  refine c_seq ?_
  refine c_reg ?_
  refine ow_batch [.fa 91 0 0 fa91_0] rfl ?_
  refine ow_r rfl (dstOk_lt rfl) (ry_box1 (off := 0) rfl rfl ty4 (boxIn (i := 0) rfl) rfl) ?_
  obtain ⟨y34, h35, H⟩ := of_bind H
  refine ow_q rfl rfl (dstOk_lt rfl) (qy_call rfl fn88 rfl (fun w1 hw1 => spec_l1Bit_ok w1  h35)) (fun _ _ => trivial) ?_
  obtain ⟨y36, h37, H⟩ := of_bind H
  refine ow_callS rfl fn47 rfl rfl rfl rfl (fun w1 hw1 => spec_PutInt_ok w1  h37 (hw1.carve [] rfl rfl)) (fun v38 w1 w2 hw1 hR40 => ?_)
  obtain ⟨a41, n42, c43, F44, rfl, hS39⟩ := hR40
  obtain rfl := own_nS (i := 0) hS39 rfl
  refine ⟨St w M0 [_, _], hw1.comp [] rfl rfl hS39, fun _ _ => trivial, ?_⟩
  refine ow_batch [.p] rfl ?_
  refine ow_nil ?_
  refine x_qs ?_
  refine c_seq ?_
  refine c_reg ?_
  refine ow_batch [.p, .fa 91 1 1 fa91_1, .fa 87 0 0 fa87_0] rfl ?_
  refine ow_r rfl (dstOk_lt rfl) (ry_box1 (off := 1) rfl rfl ty3 (boxIn (i := 0) rfl) rfl) ?_
  obtain ⟨y45, h46, H⟩ := of_bind H
  refine ow_callS rfl fn47 rfl rfl rfl rfl (fun w1 hw1 => spec_PutInt_ok w1  h46 (hw1.carve [] rfl rfl)) (fun v47 w1 w2 hw1 hR49 => ?_)
  obtain ⟨a50, n51, c52, F53, rfl, hS48⟩ := hR49
  obtain rfl := own_nS (i := 0) hS48 rfl
  refine ⟨St w M0 [_, _, _], hw1.comp [] rfl rfl hS48, fun _ _ => trivial, ?_⟩
  obtain ⟨l54, h55, H⟩ := of_bind H
  refine ow_appR (r := 1) (ys := y45) rfl rfl rfl rfl rfl rfl sl23 ty5 rfl rfl rfl (fun w1 hw1 => rds_own (r := 2) rfl w1 hw1) h55 (fun _ _ _ => kp) (fun a56 c57 F58 => ?_)
  refine ow_batch [.p] rfl ?_
  refine ow_nil ?_
  refine x_qs ?_
  refine c_seq ?_
  refine c_reg ?_
  refine ow_batch [.p, .fa 91 1 1 fa91_1, .fa 87 1 1 fa87_1] rfl ?_
  refine ow_r rfl (dstOk_lt rfl) (ry_box1 (off := 2) rfl rfl ty3 (boxIn (i := 0) rfl) rfl) ?_
  obtain ⟨y59, h60, H⟩ := of_bind H
  refine ow_callS rfl fn47 rfl rfl rfl rfl (fun w1 hw1 => spec_PutInt_ok w1  h60 (hw1.carve [] rfl rfl)) (fun v61 w1 w2 hw1 hR63 => ?_)
  obtain ⟨a64, n65, c66, F67, rfl, hS62⟩ := hR63
  obtain rfl := own_nS (i := 0) hS62 rfl
  refine ⟨St w M0 [_, _, _, _], hw1.comp [] rfl rfl hS62, fun _ _ => trivial, ?_⟩
  obtain ⟨l68, h69, H⟩ := of_bind H
  refine ow_appR (r := 1) (ys := y59) rfl rfl rfl rfl rfl rfl sl23 ty5 rfl rfl rfl (fun w1 hw1 => rds_own (r := 3) rfl w1 hw1) h69 (fun _ _ _ => kp) (fun a70 c71 F72 => ?_)
  refine ow_batch [.p] rfl ?_
  refine ow_nil ?_
  refine x_qs ?_
  refine c_seq ?_
  refine c_reg ?_
  refine ow_batch [.p, .fa 91 2 3 fa91_2] rfl ?_
  refine ow_r rfl (dstOk_lt rfl) (ry_box1 (off := 3) rfl rfl ty22 (boxIn (i := 0) rfl) rfl) ?_
  obtain ⟨y73, h74, H⟩ := of_bind H
  refine ow_callS rfl fn10 rfl rfl rfl rfl (fun w1 hw1 => spec_PutInts_ok w1  h74 (hw1.carve [] rfl rfl) (rds_bor g13 w1 hw1)) (fun v75 w1 w2 hw1 hR77 => ?_)
  obtain ⟨a78, n79, c80, F81, rfl, hS76⟩ := hR77
  obtain rfl := own_nS (i := 0) hS76 rfl
  refine ⟨St w M0 [_, _, _, _, _], hw1.comp [] rfl rfl hS76, fun _ _ => trivial, ?_⟩
  obtain ⟨l82, h83, H⟩ := of_bind H
  refine ow_appR (r := 1) (ys := y73) rfl rfl rfl rfl rfl rfl sl23 ty5 rfl rfl rfl (fun w1 hw1 => rds_own (r := 4) rfl w1 hw1) h83 (fun _ _ _ => kp) (fun a84 c85 F86 => ?_)
  refine ow_batch [.p] rfl ?_
  refine ow_nil ?_
  refine x_qs ?_
  refine c_seq ?_
  refine c_reg ?_
  refine ow_batch [.p, .fa 91 3 4 fa91_3] rfl ?_
  refine ow_r rfl (dstOk_lt rfl) (ry_box1 (off := 4) rfl rfl ty3 (boxIn (i := 0) rfl) rfl) ?_
  obtain ⟨y87, h88, H⟩ := of_bind H
  refine ow_callS rfl fn47 rfl rfl rfl rfl (fun w1 hw1 => spec_PutInt_ok w1  h88 (hw1.carve [] rfl rfl)) (fun v89 w1 w2 hw1 hR91 => ?_)
  obtain ⟨a92, n93, c94, F95, rfl, hS90⟩ := hR91
  obtain rfl := own_nS (i := 0) hS90 rfl
  refine ⟨St w M0 [_, _, _, _, _, _], hw1.comp [] rfl rfl hS90, fun _ _ => trivial, ?_⟩
  obtain ⟨l96, h97, H⟩ := of_bind H
  refine ow_appR (r := 1) (ys := y87) rfl rfl rfl rfl rfl rfl sl23 ty5 rfl rfl rfl (fun w1 hw1 => rds_own (r := 5) rfl w1 hw1) h97 (fun _ _ _ => kp) (fun a98 c99 F100 => ?_)
  refine ow_batch [.p] rfl ?_
  refine ow_nil ?_
  refine x_qs ?_
  refine c_seq ?_
  refine c_reg ?_
  refine ow_batch [.p, .fa 91 4 5 fa91_4, .fa 89 0 0 fa89_0] rfl ?_
  refine ow_r rfl (dstOk_lt rfl) (ry_box1 (off := 5) rfl rfl ty22 (boxIn (i := 0) rfl) rfl) ?_
  obtain ⟨y101, h102, H⟩ := of_bind H
  refine ow_callS rfl fn10 rfl rfl rfl rfl (fun w1 hw1 => spec_PutInts_ok w1  h102 (hw1.carve [] rfl rfl) (rds_bor g25 w1 hw1)) (fun v103 w1 w2 hw1 hR105 => ?_)
  obtain ⟨a106, n107, c108, F109, rfl, hS104⟩ := hR105
  obtain rfl := own_nS (i := 0) hS104 rfl
  refine ⟨St w M0 [_, _, _, _, _, _, _], hw1.comp [] rfl rfl hS104, fun _ _ => trivial, ?_⟩
  obtain ⟨l110, h111, H⟩ := of_bind H
  refine ow_appR (r := 1) (ys := y101) rfl rfl rfl rfl rfl rfl sl23 ty5 rfl rfl rfl (fun w1 hw1 => rds_own (r := 6) rfl w1 hw1) h111 (fun _ _ _ => kp) (fun a112 c113 F114 => ?_)
  refine ow_batch [.p] rfl ?_
  refine ow_nil ?_
  refine x_qs ?_
  refine c_seq ?_
  refine c_reg ?_
  refine ow_batch [.p, .fa 91 4 5 fa91_4, .fa 89 1 1 fa89_1] rfl ?_
  refine ow_r rfl (dstOk_lt rfl) (ry_box1 (off := 6) rfl rfl ty35 (boxIn (i := 0) rfl) rfl) ?_
  obtain ⟨y115, h116, H⟩ := of_bind H
  refine ow_callS rfl fn53 rfl rfl rfl rfl (fun w1 hw1 => spec_l27PutLists_ok w1  h116 (hw1.carve [] rfl rfl) (rds_bor g26 w1 hw1)) (fun v117 w1 w2 hw1 hR119 => ?_)
  obtain ⟨a120, n121, c122, F123, rfl, hS118⟩ := hR119
  obtain rfl := own_nS (i := 0) hS118 rfl
  refine ⟨St w M0 [_, _, _, _, _, _, _, _], hw1.comp [] rfl rfl hS118, fun _ _ => trivial, ?_⟩
  obtain ⟨l124, h125, H⟩ := of_bind H
  refine ow_appR (r := 1) (ys := y115) rfl rfl rfl rfl rfl rfl sl23 ty5 rfl rfl rfl (fun w1 hw1 => rds_own (r := 7) rfl w1 hw1) h125 (fun _ _ _ => kp) (fun a126 c127 F128 => ?_)
  refine ow_batch [.p] rfl ?_
  refine ow_nil ?_
  refine x_qs ?_
  refine c_seq ?_
  refine c_reg ?_
  refine ow_batch [.p, .fa 91 5 7 fa91_5] rfl ?_
  refine ow_r rfl (dstOk_lt rfl) (ry_box1 (off := 7) rfl rfl ty3 (boxIn (i := 0) rfl) rfl) ?_
  obtain ⟨y129, h130, H⟩ := of_bind H
  refine ow_callS rfl fn47 rfl rfl rfl rfl (fun w1 hw1 => spec_PutInt_ok w1  h130 (hw1.carve [] rfl rfl)) (fun v131 w1 w2 hw1 hR133 => ?_)
  obtain ⟨a134, n135, c136, F137, rfl, hS132⟩ := hR133
  obtain rfl := own_nS (i := 0) hS132 rfl
  refine ⟨St w M0 [_, _, _, _, _, _, _, _, _], hw1.comp [] rfl rfl hS132, fun _ _ => trivial, ?_⟩
  obtain ⟨l138, h139, H⟩ := of_bind H
  refine ow_appR (r := 1) (ys := y129) rfl rfl rfl rfl rfl rfl sl23 ty5 rfl rfl rfl (fun w1 hw1 => rds_own (r := 8) rfl w1 hw1) h139 (fun _ _ _ => kp) (fun a140 c141 F142 => ?_)
  refine ow_batch [.p] rfl ?_
  refine ow_nil ?_
  refine x_qs ?_
  refine c_seq ?_
  refine c_reg ?_
  refine ow_batch [.p, .fa 91 6 8 fa91_6] rfl ?_
  refine ow_r rfl (dstOk_lt rfl) (ry_box1 (off := 8) rfl rfl ty22 (boxIn (i := 0) rfl) rfl) ?_
  obtain ⟨y143, h144, H⟩ := of_bind H
  refine ow_callS rfl fn10 rfl rfl rfl rfl (fun w1 hw1 => spec_PutInts_ok w1  h144 (hw1.carve [] rfl rfl) (rds_bor g17 w1 hw1)) (fun v145 w1 w2 hw1 hR147 => ?_)
  obtain ⟨a148, n149, c150, F151, rfl, hS146⟩ := hR147
  obtain rfl := own_nS (i := 0) hS146 rfl
  refine ⟨St w M0 [_, _, _, _, _, _, _, _, _, _], hw1.comp [] rfl rfl hS146, fun _ _ => trivial, ?_⟩
  obtain ⟨l152, h153, H⟩ := of_bind H
  refine ow_appR (r := 1) (ys := y143) rfl rfl rfl rfl rfl rfl sl23 ty5 rfl rfl rfl (fun w1 hw1 => rds_own (r := 9) rfl w1 hw1) h153 (fun _ _ _ => kp) (fun a154 c155 F156 => ?_)
  refine ow_batch [.p] rfl ?_
  refine ow_nil ?_
  refine x_qs ?_
  refine c_seq ?_
  refine c_reg ?_
  refine ow_batch [.p, .fa 91 7 9 fa91_7] rfl ?_
  refine ow_r rfl (dstOk_lt rfl) (ry_box1 (off := 9) rfl rfl ty3 (boxIn (i := 0) rfl) rfl) ?_
  obtain ⟨y157, h158, H⟩ := of_bind H
  refine ow_callS rfl fn47 rfl rfl rfl rfl (fun w1 hw1 => spec_PutInt_ok w1  h158 (hw1.carve [] rfl rfl)) (fun v159 w1 w2 hw1 hR161 => ?_)
  obtain ⟨a162, n163, c164, F165, rfl, hS160⟩ := hR161
  obtain rfl := own_nS (i := 0) hS160 rfl
  refine ⟨St w M0 [_, _, _, _, _, _, _, _, _, _, _], hw1.comp [] rfl rfl hS160, fun _ _ => trivial, ?_⟩
  obtain ⟨l166, h167, H⟩ := of_bind H
  refine ow_appR (r := 1) (ys := y157) rfl rfl rfl rfl rfl rfl sl23 ty5 rfl rfl rfl (fun w1 hw1 => rds_own (r := 10) rfl w1 hw1) h167 (fun _ _ _ => kp) (fun a168 c169 F170 => ?_)
  refine ow_batch [.p] rfl ?_
  refine ow_nil ?_
  refine x_qs ?_
  refine c_seq ?_
  refine c_reg ?_
  refine ow_batch [.p, .fa 91 8 10 fa91_8] rfl ?_
  refine ow_r rfl (dstOk_lt rfl) (ry_box1 (off := 10) rfl rfl ty3 (boxIn (i := 0) rfl) rfl) ?_
  obtain ⟨y171, h172, H⟩ := of_bind H
  refine ow_callS rfl fn47 rfl rfl rfl rfl (fun w1 hw1 => spec_PutInt_ok w1  h172 (hw1.carve [] rfl rfl)) (fun v173 w1 w2 hw1 hR175 => ?_)
  obtain ⟨a176, n177, c178, F179, rfl, hS174⟩ := hR175
  obtain rfl := own_nS (i := 0) hS174 rfl
  refine ⟨St w M0 [_, _, _, _, _, _, _, _, _, _, _, _], hw1.comp [] rfl rfl hS174, fun _ _ => trivial, ?_⟩
  obtain ⟨l180, h181, H⟩ := of_bind H
  refine ow_appR (r := 1) (ys := y171) rfl rfl rfl rfl rfl rfl sl23 ty5 rfl rfl rfl (fun w1 hw1 => rds_own (r := 11) rfl w1 hw1) h181 (fun _ _ _ => kp) (fun a182 c183 F184 => ?_)
  refine ow_batch [.p] rfl ?_
  refine ow_nil ?_
  refine x_qs ?_
  refine c_seq ?_
  refine c_reg ?_
  refine ow_batch [.p, .fa 91 9 11 fa91_9] rfl ?_
  refine ow_r rfl (dstOk_lt rfl) (ry_box1 (off := 11) rfl rfl ty3 (boxIn (i := 0) rfl) rfl) ?_
  obtain ⟨y185, h186, H⟩ := of_bind H
  refine ow_callS rfl fn47 rfl rfl rfl rfl (fun w1 hw1 => spec_PutInt_ok w1  h186 (hw1.carve [] rfl rfl)) (fun v187 w1 w2 hw1 hR189 => ?_)
  obtain ⟨a190, n191, c192, F193, rfl, hS188⟩ := hR189
  obtain rfl := own_nS (i := 0) hS188 rfl
  refine ⟨St w M0 [_, _, _, _, _, _, _, _, _, _, _, _, _], hw1.comp [] rfl rfl hS188, fun _ _ => trivial, ?_⟩
  obtain ⟨l194, h195, H⟩ := of_bind H
  refine ow_appR (r := 1) (ys := y185) rfl rfl rfl rfl rfl rfl sl23 ty5 rfl rfl rfl (fun w1 hw1 => rds_own (r := 12) rfl w1 hw1) h195 (fun _ _ _ => kp) (fun a196 c197 F198 => ?_)
  refine ow_batch [.p] rfl ?_
  refine ow_nil ?_
  refine x_qs ?_
  refine c_ret ?_
  exact x_retR (rs := [.tmp 2]) (vs := [.slice a196 l194.length c197]) rfl ⟨rfl, trivial⟩ (fun w' hw' => by
      obtain rfl := of_some H
      exact ⟨_, rfl, a196, l194.length, c197, F198, rfl, hw'.sel [1] rfl rfl⟩)

set_option maxHeartbeats 4000000 in
set_option maxRecDepth 100000 in
theorem spec_PutTree_ok (w : World) {M0 : List Nat} {p0 : Timpl_Tree} {cs0 : List Value} {r : List Int} (H : spec_PutTree p0 = some r) (HS : St w M0 [] w) (g0 : (eTimpl_Tree).rd w M0 p0 cs0) :
    Calls Try.prog 32 #[.agg cs0.toArray] w (fun en w' => ∃ v, en = .returned v ∧ ∃ (a0 : Option Addr), ∃ (n0 : Nat), ∃ (c0 : Nat), ∃ (F0 : List Nat), v = .slice a0 n0 c0 ∧ St w M0 [Res.own (eList (eVal (Value.int .u8) (fun _ => rfl)) 5) F0 r [.slice a0 n0 c0]] w') := by
  obtain ⟨c1, c2, rfl, g3, g4⟩ := rdo_Timpl_Tree g0
  obtain ⟨a5, c6, rfl⟩ := rd_sl1 g3
  obtain rfl : c2 = [.int .i64 p0.Seen_] := g4
  unfold spec_PutTree at H
  refine f_enter (vs := [.agg #[.slice a5 p0.Nodes_.length c6, .int .i64 p0.Seen_]]) Try.func32 rfl Try.ntmps32 rfl (HS) ?_
  refine c_seq ?_
  refine c_reg ?_
  refine ow_box (cs := [.slice a5 p0.Nodes_.length c6, .int .i64 p0.Seen_]) rfl rfl rfl rfl rfl rfl (fun _ => kp) (fun b7 => ?_)
  refine ow_batch [.p] rfl ?_
  refine ow_nil ?_
  refine x_qs ?_
  refine c_seq ?_
  refine c_seq ?_
  refine c_reg ?_
  refine ow_batch [.fa 54 1 1 fa54_1] rfl ?_
  refine ow_r rfl (dstOk_lt rfl) (ry_box1 (off := 1) rfl rfl ty3 (boxIn (i := 0) rfl) rfl) ?_
  refine ow_blit (val := Value.int .i64) (h1 := fun _ => rfl) [p0.Seen_] [(0, [.int .i64 p0.Seen_])] rfl rfl rfl rfl rfl sl22 ty3 rfl rfl rfl ⟨rfl, rfl, Nat.le_of_ble_eq_true rfl,  trivial⟩ rfl rfl (fun _ => kp) (fun b8 => ?_)
  obtain ⟨y9, h10, H⟩ := of_bind H
  refine ow_q rfl rfl (dstOk_lt rfl) (qy_call rfl fn46 rfl (fun w1 hw1 => spec_l27Fits_ok w1  h10 (rds_own (r := 1) rfl w1 hw1))) (fun _ _ => trivial) ?_
  refine ow_batch [.p] rfl ?_
  refine ow_nil ?_
  refine x_qs ?_
  refine c_if rfl (fun hb => ?_) (fun hb => ?_)
  · have H := of_if_t hb H
    refine c_seq ?_
    refine c_reg ?_
    refine ow_blit0 (e := eVal (Value.int .u8) (fun _ => rfl)) rfl rfl rfl rfl sl23 ty5 (fun _ => kp) (fun b11 => ?_)
    refine ow_batch [.p] rfl ?_
    refine ow_nil ?_
    refine x_qs ?_
    refine c_ret ?_
    refine x_qs_ret ?_
    exact x_retR (rs := [.tmp 2]) (vs := [.slice (some ⟨b11, 0, none⟩) 0 0]) rfl ⟨rfl, trivial⟩ (fun w' hw' => by
        obtain rfl := of_some H
        exact ⟨_, rfl, (some ⟨b11, 0, none⟩), 0, 0, [b11], rfl, hw'.sel [2] rfl rfl⟩)
  · have H := of_if_f hb H
    refine c_skip ?_
    refine x_qs ?_
    refine c_seq ?_
    refine c_regHT 6 [(0, true), (1, true), (3, true), (4, true), (5, true), (2, false)] (St w M0 [Res.box b7 54 [.slice a5 p0.Nodes_.length c6, .int .i64 p0.Seen_], Res.own (eList (eVal (Value.int .i64) (fun _ => rfl)) 3) [b8] ([p0.Seen_] : List Int) [.slice (some ⟨b8, 0, none⟩) (([p0.Seen_] : List Int).length) 1]]) mixed (by kernel_rfl) (panicOk_qs panicOk_body) (fun _ h => St.mask [true, true] rfl h) ?_
    refine ow_batch [.fa 54 1 1 fa54_1] rfl ?_
    refine ow_rH rfl (dstOk_lt rfl) (ry_box1 (off := 1) rfl rfl ty3 (boxIn (i := 0) rfl) rfl) ?_
    refine ow_batch [.fa 54 0 0 fa54_0] rfl ?_
    refine ow_rH rfl (dstOk_lt rfl) (ry_box1 (off := 0) rfl rfl ty52 (boxIn (i := 0) rfl) rfl) ?_
    refine ow_batch [.lenS 52 91 sl52] rfl ?_
    obtain ⟨y21, h22, H⟩ := of_bind H
    refine ow_callS rfl fn47 rfl rfl rfl rfl (fun w1 hw1 => spec_PutInt_ok w1  h22 (hw1.carve [] rfl rfl)) (fun v23 w1 w2 hw1 hR25 => ?_)
    obtain ⟨a26, n27, c28, F29, rfl, hS24⟩ := hR25
    obtain rfl := own_nS (i := 0) hS24 rfl
    refine ⟨St w M0 [_, _, _], hw1.comp [] rfl rfl hS24, (fun _ h => St.mask [true, true] rfl h), ?_⟩
    refine ow_nilH ?_
    refine x_qt ?_
    obtain ⟨y30, h31, H⟩ := of_bind H
    refine ow_callS rfl fn47 rfl rfl rfl rfl (fun w1 hw1 => spec_PutInt_ok w1  h31 (hw1.carve [] rfl rfl)) (fun v32 w1 w2 hw1 hR34 => ?_)
    obtain ⟨a35, n36, c37, F38, rfl, hS33⟩ := hR34
    obtain rfl := own_nS (i := 0) hS33 rfl
    refine ⟨St w M0 [_, _, _, _], hw1.comp [] rfl rfl hS33, fun _ _ => trivial, ?_⟩
    obtain ⟨l39, h40, H⟩ := of_bind H
    refine ow_appR (r := 2) (ys := y30) rfl rfl rfl rfl rfl rfl sl23 ty5 rfl rfl rfl (fun w1 hw1 => rds_own (r := 3) rfl w1 hw1) h40 (fun _ _ _ => kp) (fun a41 c42 F43 => ?_)
    refine ow_batch [.p] rfl ?_
    refine ow_nil ?_
    refine x_qs ?_
    refine c_seq ?_
    refine c_seq ?_
    refine c_reg ?_
    refine ow_batch [.p] rfl ?_
    refine ow_nil ?_
    refine x_qs ?_
    refine c_block ?_
    refine CW.at (loopI5 (fun (l142 : List Int) (a143 : Option Addr) (c144 : Nat) (F145 : List Nat) (i146 : Int) => St w M0 [Res.box b7 54 [.slice a5 p0.Nodes_.length c6, .int .i64 p0.Seen_], Res.own (eList (eVal (Value.int .u8) (fun _ => rfl)) 5) F145 l142 [.slice a143 l142.length c144]]) (fun (l142 : List Int) (a143 : Option Addr) (c144 : Nat) (F145 : List Nat) (i146 : Int) => [(1, .pointer (some ⟨b7, 0, none⟩)), (3, .slice a143 l142.length c144), (4, .int .i64 i146)]) (fun kk => fun (l142 : List Int) (a143 : Option Addr) (c144 : Nat) (F145 : List Nat) (i146 : Int) => spec_PutTree_L1 p0 kk l142 i146 = some r) (fun _ _ _ _ _ H => ?_) (fun k1 ihk1 l142 a143 c144 F145 i146 H => ?_) Fuel (l39) (a41) (c42) (F43) (0) (H)) (fun _ h => St.sel [0, 2] rfl rfl h) ⟨rfl, rfl, rfl,  trivial⟩
    · unfold spec_PutTree_L1 at H
      exact absurd H (by simp)
    · unfold spec_PutTree_L1 at H
      refine c_seq ?_
      refine c_seq ?_
      refine c_reg ?_
      refine ow_batch [.p, .fa 54 0 0 fa54_0] rfl ?_
      refine ow_r rfl (dstOk_lt rfl) (ry_box1 (off := 0) rfl rfl ty52 (boxIn (i := 0) rfl) rfl) ?_
      refine ow_batch [.lenS 52 91 sl52, .p] rfl ?_
      refine ow_nil ?_
      refine x_qs ?_
      refine c_if rfl (fun hb => ?_) (fun hb => ?_)
      · have H := of_if_t hb H
        refine c_skip ?_
        refine x_qs ?_
        refine c_seq ?_
        refine c_block ?_
        refine c_seq ?_
        refine c_seq ?_
        refine c_reg ?_
        refine ow_batch [.fa 54 0 0 fa54_0] rfl ?_
        refine ow_r rfl (dstOk_lt rfl) (ry_box1 (off := 0) rfl rfl ty52 (boxIn (i := 0) rfl) rfl) ?_
        refine ow_batch [.p] rfl ?_
        obtain ⟨e245, h246, H⟩ := of_bind H
        refine ow_ixB rfl rfl rfl rfl rfl sl52 ty91 rfl g3 h246 (fun q249 c250 hd247 hA248 => ?_)
        obtain ⟨c251, c252, c253, c254, c255, c256, c257, c258, c259, c260, rfl, g261, g262, g263, g264, g265, g266, g267, g268, g269, g270⟩ := rdo_Timpl_Node hd247
        obtain rfl : c251 = [.bool e245.Leaf_] := g261
        obtain rfl : c252 = [.int .i64 e245.Fork_.Attr_, .int .i64 e245.Fork_.At_] := g262
        obtain ⟨a271, c272, rfl⟩ := rd_sl1 g263
        obtain rfl : c254 = [.int .i64 e245.Miss_] := g264
        obtain ⟨c273, c274, rfl, g275, g276⟩ := rdo_Timpl_Stats g265
        obtain ⟨a277, c278, rfl⟩ := rd_sl1 g275
        obtain ⟨a279, c280, rfl⟩ := rd_sl1 g276
        obtain rfl : c256 = [.int .i64 e245.Since_] := g266
        obtain ⟨a281, c282, rfl⟩ := rd_sl1 g267
        obtain rfl : c258 = [.int .i64 e245.Depth_] := g268
        obtain rfl : c259 = [.int .i64 e245.Up_] := g269
        obtain rfl : c260 = [.int .i64 e245.Born_] := g270
        refine ow_r rfl (dstOk_lt rfl) (ry_load (cs := [.bool e245.Leaf_, .int .i64 e245.Fork_.Attr_, .int .i64 e245.Fork_.At_, .slice a271 e245.Kids_.length c272, .int .i64 e245.Miss_, .slice a277 e245.Stats_.Totals_.length c278, .slice a279 e245.Stats_.Cells_.length c280, .int .i64 e245.Since_, .slice a281 e245.Attrs_.length c282, .int .i64 e245.Depth_, .int .i64 e245.Up_, .int .i64 e245.Born_]) rfl rfl ty91 (at_bor bor hA248) rfl) ?_
        obtain ⟨y283, h284, H⟩ := of_bind H
        refine ow_q rfl rfl (dstOk_lt rfl) (qy_call rfl fn62 rfl (fun w1 hw1 => spec_l27NodeFits_ok w1 (cs0 := [.bool e245.Leaf_, .int .i64 e245.Fork_.Attr_, .int .i64 e245.Fork_.At_, .slice a271 e245.Kids_.length c272, .int .i64 e245.Miss_, .slice a277 e245.Stats_.Totals_.length c278, .slice a279 e245.Stats_.Cells_.length c280, .int .i64 e245.Since_, .slice a281 e245.Attrs_.length c282, .int .i64 e245.Depth_, .int .i64 e245.Up_, .int .i64 e245.Born_]) h284 (rdm_Timpl_Node (x := e245) (c0 := [.bool e245.Leaf_]) (c1 := [.int .i64 e245.Fork_.Attr_, .int .i64 e245.Fork_.At_]) (c2 := [.slice a271 e245.Kids_.length c272]) (c3 := [.int .i64 e245.Miss_]) (c4 := [.slice a277 e245.Stats_.Totals_.length c278, .slice a279 e245.Stats_.Cells_.length c280]) (c5 := [.int .i64 e245.Since_]) (c6 := [.slice a281 e245.Attrs_.length c282]) (c7 := [.int .i64 e245.Depth_]) (c8 := [.int .i64 e245.Up_]) (c9 := [.int .i64 e245.Born_]) rfl rfl (rds_bor g263 w1 hw1) rfl (rdm_Timpl_Stats (x := e245.Stats_) (c0 := [.slice a277 e245.Stats_.Totals_.length c278]) (c1 := [.slice a279 e245.Stats_.Cells_.length c280]) (rds_bor g275 w1 hw1) (rds_bor g276 w1 hw1)) rfl (rds_bor g267 w1 hw1) rfl rfl rfl))) (fun _ _ => trivial) ?_
        refine ow_batch [.p] rfl ?_
        refine ow_nil ?_
        refine x_qs ?_
        refine c_if rfl (fun hb => ?_) (fun hb => ?_)
        · have H := of_if_t hb H
          refine c_seq ?_
          refine c_reg ?_
          refine ow_blit0 (e := eVal (Value.int .u8) (fun _ => rfl)) rfl rfl rfl rfl sl23 ty5 (fun _ => kp) (fun b285 => ?_)
          refine ow_batch [.p] rfl ?_
          refine ow_nil ?_
          refine x_qs ?_
          refine c_ret ?_
          refine x_qs_ret ?_
          refine x_qb_ret ?_
          refine x_qs_ret ?_
          refine x_ql_ret ?_
          refine x_qb_ret ?_
          refine x_qs_ret ?_
          exact x_retR (rs := [.tmp 2]) (vs := [.slice (some ⟨b285, 0, none⟩) 0 0]) rfl ⟨rfl, trivial⟩ (fun w' hw' => by
              obtain rfl := of_some H
              exact ⟨_, rfl, (some ⟨b285, 0, none⟩), 0, 0, [b285], rfl, hw'.sel [2] rfl rfl⟩)
        · have H := of_if_f hb H
          refine c_skip ?_
          refine x_qs ?_
          refine c_reg ?_
          refine ow_batch [.p, .fa 54 0 0 fa54_0] rfl ?_
          refine ow_r rfl (dstOk_lt rfl) (ry_box1 (off := 0) rfl rfl ty52 (boxIn (i := 0) rfl) rfl) ?_
          refine ow_batch [.p] rfl ?_
          obtain ⟨e286, h287, H⟩ := of_bind H
          refine ow_ixB rfl rfl rfl rfl rfl sl52 ty91 rfl g3 h287 (fun q290 c291 hd288 hA289 => ?_)
          obtain ⟨c292, c293, c294, c295, c296, c297, c298, c299, c300, c301, rfl, g302, g303, g304, g305, g306, g307, g308, g309, g310, g311⟩ := rdo_Timpl_Node hd288
          obtain rfl : c292 = [.bool e286.Leaf_] := g302
          obtain rfl : c293 = [.int .i64 e286.Fork_.Attr_, .int .i64 e286.Fork_.At_] := g303
          obtain ⟨a312, c313, rfl⟩ := rd_sl1 g304
          obtain rfl : c295 = [.int .i64 e286.Miss_] := g305
          obtain ⟨c314, c315, rfl, g316, g317⟩ := rdo_Timpl_Stats g306
          obtain ⟨a318, c319, rfl⟩ := rd_sl1 g316
          obtain ⟨a320, c321, rfl⟩ := rd_sl1 g317
          obtain rfl : c297 = [.int .i64 e286.Since_] := g307
          obtain ⟨a322, c323, rfl⟩ := rd_sl1 g308
          obtain rfl : c299 = [.int .i64 e286.Depth_] := g309
          obtain rfl : c300 = [.int .i64 e286.Up_] := g310
          obtain rfl : c301 = [.int .i64 e286.Born_] := g311
          refine ow_r rfl (dstOk_lt rfl) (ry_load (cs := [.bool e286.Leaf_, .int .i64 e286.Fork_.Attr_, .int .i64 e286.Fork_.At_, .slice a312 e286.Kids_.length c313, .int .i64 e286.Miss_, .slice a318 e286.Stats_.Totals_.length c319, .slice a320 e286.Stats_.Cells_.length c321, .int .i64 e286.Since_, .slice a322 e286.Attrs_.length c323, .int .i64 e286.Depth_, .int .i64 e286.Up_, .int .i64 e286.Born_]) rfl rfl ty91 (at_bor bor hA289) rfl) ?_
          obtain ⟨y324, h325, H⟩ := of_bind H
          refine ow_callS rfl fn63 rfl rfl rfl rfl (fun w1 hw1 => spec_l27PutNode_ok w1 (cs0 := [.bool e286.Leaf_, .int .i64 e286.Fork_.Attr_, .int .i64 e286.Fork_.At_, .slice a312 e286.Kids_.length c313, .int .i64 e286.Miss_, .slice a318 e286.Stats_.Totals_.length c319, .slice a320 e286.Stats_.Cells_.length c321, .int .i64 e286.Since_, .slice a322 e286.Attrs_.length c323, .int .i64 e286.Depth_, .int .i64 e286.Up_, .int .i64 e286.Born_]) h325 (hw1.carve [] rfl rfl) (rdm_Timpl_Node (x := e286) (c0 := [.bool e286.Leaf_]) (c1 := [.int .i64 e286.Fork_.Attr_, .int .i64 e286.Fork_.At_]) (c2 := [.slice a312 e286.Kids_.length c313]) (c3 := [.int .i64 e286.Miss_]) (c4 := [.slice a318 e286.Stats_.Totals_.length c319, .slice a320 e286.Stats_.Cells_.length c321]) (c5 := [.int .i64 e286.Since_]) (c6 := [.slice a322 e286.Attrs_.length c323]) (c7 := [.int .i64 e286.Depth_]) (c8 := [.int .i64 e286.Up_]) (c9 := [.int .i64 e286.Born_]) rfl rfl (rds_bor g304 w1 hw1) rfl (rdm_Timpl_Stats (x := e286.Stats_) (c0 := [.slice a318 e286.Stats_.Totals_.length c319]) (c1 := [.slice a320 e286.Stats_.Cells_.length c321]) (rds_bor g316 w1 hw1) (rds_bor g317 w1 hw1)) rfl (rds_bor g308 w1 hw1) rfl rfl rfl)) (fun v326 w1 w2 hw1 hR328 => ?_)
          obtain ⟨a329, n330, c331, F332, rfl, hS327⟩ := hR328
          obtain rfl := own_nS (i := 0) hS327 rfl
          refine ⟨St w M0 [_, _, _], hw1.comp [] rfl rfl hS327, fun _ _ => trivial, ?_⟩
          obtain ⟨l333, h334, H⟩ := of_bind H
          refine ow_appR (r := 1) (ys := y324) rfl rfl rfl rfl rfl rfl sl23 ty5 rfl rfl rfl (fun w1 hw1 => rds_own (r := 2) rfl w1 hw1) h334 (fun _ _ _ => kp) (fun a335 c336 F337 => ?_)
          refine ow_batch [.p] rfl ?_
          refine ow_nil ?_
          refine x_qb ?_
          refine x_qs ?_
          refine c_reg ?_
          refine ow_batch [.p, .p, .p] rfl ?_
          refine ow_nil ?_
          exact x_ql (RW.at (ihk1 (l333) (a335) (c336) (F337) (IntKind.i64.wrap (i146 + 1)) (H)) (fun _ h => St.sel [0, 1] rfl rfl h) ⟨rfl, rfl, rfl, trivial⟩)
      · have H := of_if_f hb H
        refine c_exit ?_
        refine x_qs_exit ?_
        refine x_ql_exit ?_
        refine x_qb_here ?_
        refine x_qs ?_
        refine c_seq ?_
        refine c_reg ?_
        refine ow_batch [.p, .p] rfl ?_
        refine ow_nil ?_
        refine x_qs ?_
        refine c_ret ?_
        exact x_retR (rs := [.tmp 2]) (vs := [.slice a143 l142.length c144]) rfl ⟨rfl, trivial⟩ (fun w' hw' => by
            obtain rfl := of_some H
            exact ⟨_, rfl, a143, l142.length, c144, F145, rfl, hw'.sel [1] rfl rfl⟩)

set_option maxHeartbeats 4000000 in
set_option maxRecDepth 100000 in
theorem impl_flag_ok (w : World) {p0 : Bool}  {r : Int} (H : impl_flag p0 = some r)   :
    Calls Try.prog 90 #[.bool p0] w (fun en w' => en = .returned (.int .i64 r) ∧ Ext [] w w') := by
  unfold impl_flag at H
  refine f_enter (vs := [.bool p0]) Try.func90 rfl Try.ntmps90 rfl (St.init w []) ?_
  refine c_seq ?_
  refine c_reg ?_
  refine ow_batch [.p] rfl ?_
  refine ow_nil ?_
  refine x_qs ?_
  refine c_seq ?_
  refine c_seq ?_
  refine c_reg ?_
  refine ow_batch [.p] rfl ?_
  refine ow_nil ?_
  refine x_qs ?_
  refine c_if rfl (fun hb => ?_) (fun hb => ?_)
  · have H := of_if_t hb H
    refine c_seq ?_
    refine c_reg ?_
    refine ow_batch [.p] rfl ?_
    refine ow_nil ?_
    refine x_qs ?_
    refine c_ret ?_
    refine x_qs_ret ?_
    exact x_retR (rs := [.tmp 2]) (vs := [.int .i64 1]) rfl ⟨rfl, trivial⟩ (fun w' hw' => by
        obtain rfl := of_some H
        exact ⟨rfl, hw'.ext⟩)
  · have H := of_if_f hb H
    refine c_skip ?_
    refine x_qs ?_
    refine c_seq ?_
    refine c_reg ?_
    refine ow_batch [.p] rfl ?_
    refine ow_nil ?_
    refine x_qs ?_
    refine c_ret ?_
    exact x_retR (rs := [.tmp 2]) (vs := [.int .i64 0]) rfl ⟨rfl, trivial⟩ (fun w' hw' => by
        obtain rfl := of_some H
        exact ⟨rfl, hw'.ext⟩)

end Go.Vk
