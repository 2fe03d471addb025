/- The functions of the code, as functions of data. Printed by program. -/
import Derived.Test.YtddoligbabahbaaGreatVkSt
import Derived.Test.YtddoligbabahbaaGreatVkMi
namespace Go.Vk
structure Tlaws_Attr where
  Name_ : List UInt8
  Cuts_ : List Int
  Values_ : List (List UInt8)
  deriving DecidableEq, Inhabited
structure Tlaws_Schema where
  Attrs_ : List Tlaws_Attr
  Classes_ : List (List UInt8)
  deriving DecidableEq, Inhabited
structure Timpl_Attr where
  Name_ : List UInt8
  Cuts_ : List Int
  Values_ : List (List UInt8)
  deriving DecidableEq, Inhabited
structure Timpl_Schema where
  Attrs_ : List Timpl_Attr
  Classes_ : List (List UInt8)
  deriving DecidableEq, Inhabited
structure Timpl_Rule where
  Sure_ : Int
  Tie_ : Int
  Grace_ : Int
  Depth_ : Int
  Nodes_ : Int
  Units_ : Int
  Two_ : Bool
  deriving DecidableEq, Inhabited
structure Tlaws_Rule where
  Sure_ : Int
  Tie_ : Int
  Grace_ : Int
  Depth_ : Int
  Nodes_ : Int
  Units_ : Int
  Two_ : Bool
  deriving DecidableEq, Inhabited
structure Timpl_Fork where
  Attr_ : Int
  At_ : Int
  deriving DecidableEq, Inhabited
structure Timpl_Stats where
  Totals_ : List Int
  Cells_ : List (List Int)
  deriving DecidableEq, Inhabited
structure Timpl_Node where
  Leaf_ : Bool
  Fork_ : Timpl_Fork
  Kids_ : List Int
  Miss_ : Int
  Stats_ : Timpl_Stats
  Since_ : Int
  Attrs_ : List Int
  Depth_ : Int
  Up_ : Int
  Born_ : Int
  deriving DecidableEq, Inhabited
structure Timpl_Tree where
  Nodes_ : List Timpl_Node
  Seen_ : Int
  deriving DecidableEq, Inhabited
structure Tlaws_Conf where
  Schema_ : Tlaws_Schema
  Rule_ : Tlaws_Rule
  Members_ : Int
  Pick_ : Int
  Lambda_ : Int
  Warn_ : Int
  Drift_ : Int
  deriving DecidableEq, Inhabited
structure Timpl_Conf where
  Schema_ : Timpl_Schema
  Rule_ : Timpl_Rule
  Members_ : Int
  Pick_ : Int
  Lambda_ : Int
  Warn_ : Int
  Drift_ : Int
  deriving DecidableEq, Inhabited
structure Timpl_Window where
  Rows_ : List (List Int)
  deriving DecidableEq, Inhabited
structure Timpl_Det where
  Warn_ : Timpl_Window
  Drift_ : Timpl_Window
  deriving DecidableEq, Inhabited
structure Timpl_Member where
  Tree_ : Timpl_Tree
  HasYoung_ : Bool
  Young_ : Timpl_Tree
  Det_ : Timpl_Det
  deriving DecidableEq, Inhabited
structure Timpl_Forest where
  Members_ : List Timpl_Member
  deriving DecidableEq, Inhabited
structure Timpl_Pair where
  Truth_ : Int
  Said_ : Int
  deriving DecidableEq, Inhabited
structure Timpl_Score where
  Table_ : List (List Int)
  Last_ : List Timpl_Pair
  deriving DecidableEq, Inhabited
structure Timpl_State where
  Conf_ : Timpl_Conf
  Forest_ : Timpl_Forest
  Score_ : Timpl_Score
  deriving DecidableEq, Inhabited
structure Timpl_Tape where
  Bytes_ : List Int
  At_ : Int
  deriving DecidableEq, Inhabited
noncomputable def laws_szIntS (p0 : List Int) (p1 : Int) : Option (Int) :=
  if decide ((IntKind.i64.wrap (p1 - (p0.length : Int))) < 0) then some (-1) else some (IntKind.i64.wrap (p1 - (p0.length : Int)))
noncomputable def laws_szStringS_L1 (p0 : List (List UInt8)) : Nat → Int → Int → Option (Int)
  | 0, _, _ => none
  | k1 + 1, i14, i15 =>
    if decide (i15 < (p0.length : Int)) then (idx p0 i15).bind fun e20 => if decide ((IntKind.i64.wrap (i14 - (e20.length : Int))) < 0) then some (-1) else (laws_szStringS_L1 p0 k1) (IntKind.i64.wrap (i14 - (e20.length : Int))) (IntKind.i64.wrap (i15 + 1)) else some i14
noncomputable def laws_szStringS (p0 : List (List UInt8)) (p1 : Int) : Option (Int) :=
  if decide ((IntKind.i64.wrap (p1 - (p0.length : Int))) < 0) then some (-1) else laws_szStringS_L1 p0 Fuel (IntKind.i64.wrap (p1 - (p0.length : Int))) 0
noncomputable def laws_szAttr (p0 : Tlaws_Attr) (p1 : Int) : Option (Int) :=
  if decide ((IntKind.i64.wrap (p1 - (p0.Name_.length : Int))) < 0) then some (-1) else (laws_szIntS p0.Cuts_ (IntKind.i64.wrap (p1 - (p0.Name_.length : Int)))).bind fun y21 => if decide (y21 < 0) then some (-1) else (laws_szStringS p0.Values_ y21).bind fun y23 => if decide (y23 < 0) then some (-1) else some y23
noncomputable def laws_szAttrS_L1 (p0 : List Tlaws_Attr) : Nat → Int → Int → Option (Int)
  | 0, _, _ => none
  | k1 + 1, i30, i31 =>
    if decide (i31 < (p0.length : Int)) then (idx p0 i31).bind fun e52 => (laws_szAttr e52 i30).bind fun y68 => if decide (y68 < 0) then some (-1) else (laws_szAttrS_L1 p0 k1) y68 (IntKind.i64.wrap (i31 + 1)) else some i30
noncomputable def laws_szAttrS (p0 : List Tlaws_Attr) (p1 : Int) : Option (Int) :=
  if decide ((IntKind.i64.wrap (p1 - (p0.length : Int))) < 0) then some (-1) else laws_szAttrS_L1 p0 Fuel (IntKind.i64.wrap (p1 - (p0.length : Int))) 0
noncomputable def laws_szSchema (p0 : Tlaws_Schema) (p1 : Int) : Option (Int) :=
  (laws_szAttrS p0.Attrs_ p1).bind fun y19 => if decide (y19 < 0) then some (-1) else (laws_szStringS p0.Classes_ y19).bind fun y21 => if decide (y21 < 0) then some (-1) else some y21
noncomputable def laws_toIntS_L1 (p0 : List Int) : Nat → (List Int) → Int → Option (List Int)
  | 0, _, _ => none
  | k1 + 1, l19, i20 =>
    if decide (i20 < (p0.length : Int)) then (idx p0 i20).bind fun e27 => (idx l19 i20).bind fun _ => (laws_toIntS_L1 p0 k1) (l19.set i20.toNat e27) (IntKind.i64.wrap (i20 + 1)) else some l19
noncomputable def laws_toIntS (p0 : List Int) : Option (List Int) :=
  (mk (0 : Int) (p0.length : Int)).bind fun l10 => laws_toIntS_L1 p0 Fuel l10 0
noncomputable def laws_toStringS_L1 (p0 : List (List UInt8)) : Nat → (List (List UInt8)) → Int → Option (List (List UInt8))
  | 0, _, _ => none
  | k1 + 1, l19, i20 =>
    if decide (i20 < (p0.length : Int)) then (idx p0 i20).bind fun e27 => (idx l19 i20).bind fun _ => (laws_toStringS_L1 p0 k1) (l19.set i20.toNat e27) (IntKind.i64.wrap (i20 + 1)) else some l19
noncomputable def laws_toStringS (p0 : List (List UInt8)) : Option (List (List UInt8)) :=
  (mk ([] : List UInt8) (p0.length : Int)).bind fun l10 => laws_toStringS_L1 p0 Fuel l10 0
noncomputable def laws_toAttr (p0 : Tlaws_Attr) : Option (Timpl_Attr) :=
  (laws_toIntS p0.Cuts_).bind fun y23 => (laws_toStringS p0.Values_).bind fun y32 => some (Timpl_Attr.mk p0.Name_ y23 y32)
noncomputable def laws_toAttrS_L1 (p0 : List Tlaws_Attr) : Nat → (List Timpl_Attr) → Int → Option (List Timpl_Attr)
  | 0, _, _ => none
  | k1 + 1, l63, i65 =>
    if decide (i65 < (p0.length : Int)) then (idx p0 i65).bind fun e116 => (laws_toAttr e116).bind fun y132 => (idx l63 i65).bind fun _ => (laws_toAttrS_L1 p0 k1) (l63.set i65.toNat y132) (IntKind.i64.wrap (i65 + 1)) else some l63
noncomputable def laws_toAttrS (p0 : List Tlaws_Attr) : Option (List Timpl_Attr) :=
  (mk ((Timpl_Attr.mk [] [] []) : Timpl_Attr) (p0.length : Int)).bind fun l10 => laws_toAttrS_L1 p0 Fuel l10 0
noncomputable def laws_toSchema (p0 : Tlaws_Schema) : Option (Timpl_Schema) :=
  (laws_toAttrS p0.Attrs_).bind fun y21 => (laws_toStringS p0.Classes_).bind fun y30 => some (Timpl_Schema.mk y21 y30)
noncomputable def laws_toRule (p0 : Tlaws_Rule) : Option (Timpl_Rule) :=
  some (Timpl_Rule.mk p0.Sure_ p0.Tie_ p0.Grace_ p0.Depth_ p0.Nodes_ p0.Units_ p0.Two_)
noncomputable def spec_l1In (p0 : Int) (p1 : Int) (p2 : Int) : Option (Bool) :=
  some ((decide (p0 ≥ p1)) && (decide (p0 ≤ p2)))
noncomputable def spec_WordOk_L1 (p0 : List UInt8) : Nat → Int → Option (Bool)
  | 0, _ => none
  | k1 + 1, i20 =>
    if decide (i20 < (p0.length : Int)) then (idx p0 i20).bind fun b29 => (if decide ((b29.toNat : Int) < 97) then some true else (idx p0 i20).bind fun b32 => some (decide ((b32.toNat : Int) > 122))).bind fun u31 => if u31 then some false else (spec_WordOk_L1 p0 k1) (IntKind.i64.wrap (i20 + 1)) else some true
noncomputable def spec_WordOk (p0 : List UInt8) : Option (Bool) :=
  (spec_l1In (p0.length : Int) 1 8).bind fun y10 => if (!y10) then some false else spec_WordOk_L1 p0 Fuel 0
noncomputable def spec_l5Words_L2 (i30 : Int) (p0 : List (List UInt8)) (R1 : Int → Option (Bool)) : Nat → Int → Option (Bool)
  | 0, _ => none
  | k2 + 1, i60 =>
    if decide (i60 < i30) then (idx p0 i30).bind fun e66 => (idx p0 i60).bind fun e68 => if (e66 == e68) then some false else (spec_l5Words_L2 i30 p0 R1 k2) (IntKind.i64.wrap (i60 + 1)) else R1 (IntKind.i64.wrap (i30 + 1))
noncomputable def spec_l5Words_L1 (p0 : List (List UInt8)) : Nat → Int → Option (Bool)
  | 0, _ => none
  | k1 + 1, i30 =>
    if decide (i30 < (p0.length : Int)) then (idx p0 i30).bind fun e51 => (spec_WordOk e51).bind fun y53 => if (!y53) then some false else spec_l5Words_L2 i30 p0 (spec_l5Words_L1 p0 k1) Fuel 0 else some true
noncomputable def spec_l5Words (p0 : List (List UInt8)) : Option (Bool) :=
  spec_l5Words_L1 p0 Fuel 0
noncomputable def spec_AttrOk_L1 (p0 : Timpl_Attr) : Nat → Int → Option (Bool)
  | 0, _ => none
  | k1 + 1, i47 =>
    if decide (i47 < (p0.Cuts_.length : Int)) then (idx p0.Cuts_ i47).bind fun e63 => (spec_l1In e63 (-9999) 9998).bind fun y65 => (if (!y65) then some true else (if decide (i47 > 0) then (idx p0.Cuts_ i47).bind fun e69 => (idx p0.Cuts_ (IntKind.i64.wrap (i47 - 1))).bind fun e71 => some (decide (e69 ≤ e71)) else some false).bind fun u68 => some u68).bind fun u67 => if u67 then some false else (spec_AttrOk_L1 p0 k1) (IntKind.i64.wrap (i47 + 1)) else some true
noncomputable def spec_AttrOk (p0 : Timpl_Attr) : Option (Bool) :=
  (spec_WordOk p0.Name_).bind fun y21 => if (!y21) then some false else if ((p0.Cuts_.length : Int) == 0) then (spec_l1In (p0.Values_.length : Int) 2 4).bind fun y23 => (if y23 then (spec_l5Words p0.Values_).bind fun y26 => some y26 else some false).bind fun u25 => some u25 else if ((decide ((p0.Values_.length : Int) > 0)) || (decide ((p0.Cuts_.length : Int) > 3))) then some false else spec_AttrOk_L1 p0 Fuel 0
noncomputable def spec_SchemaOk_L2 (i149 : Int) (p0 : Timpl_Schema) (R1 : Int → Option (Bool)) : Nat → Int → Option (Bool)
  | 0, _ => none
  | k2 + 1, i319 =>
    if decide (i319 < i149) then (idx p0.Attrs_ i149).bind fun e353 => (idx p0.Attrs_ i319).bind fun e369 => if (e353.Name_ == e369.Name_) then some false else (spec_SchemaOk_L2 i149 p0 R1 k2) (IntKind.i64.wrap (i319 + 1)) else R1 (IntKind.i64.wrap (i149 + 1))
noncomputable def spec_SchemaOk_L1 (p0 : Timpl_Schema) : Nat → Int → Option (Bool)
  | 0, _ => none
  | k1 + 1, i149 =>
    if decide (i149 < (p0.Attrs_.length : Int)) then (idx p0.Attrs_ i149).bind fun e268 => (spec_AttrOk e268).bind fun y284 => if (!y284) then some false else spec_SchemaOk_L2 i149 p0 (spec_SchemaOk_L1 p0 k1) Fuel 0 else some true
noncomputable def spec_SchemaOk (p0 : Timpl_Schema) : Option (Bool) :=
  (spec_l1In (p0.Attrs_.length : Int) 1 5).bind fun y19 => (if (!y19) then some true else (spec_l1In (p0.Classes_.length : Int) 2 3).bind fun y22 => some (!y22)).bind fun u21 => (if u21 then some true else (spec_l5Words p0.Classes_).bind fun y27 => some (!y27)).bind fun u26 => if u26 then some false else spec_SchemaOk_L1 p0 Fuel 0
noncomputable def spec_Bins (p0 : Timpl_Attr) : Option (Int) :=
  (spec_AttrOk p0).bind fun y21 => if (!y21) then some 0 else if decide ((p0.Cuts_.length : Int) > 0) then some (IntKind.i64.wrap ((p0.Cuts_.length : Int) + 1)) else some (p0.Values_.length : Int)
noncomputable def spec_AttrsOk_L1 (p1 : List Int) (p0 : Timpl_Schema) : Nat → Int → Option (Bool)
  | 0, _ => none
  | k1 + 1, i38 =>
    if decide (i38 < (p1.length : Int)) then (idx p1 i38).bind fun e54 => (spec_l1In e54 0 (IntKind.i64.wrap ((p0.Attrs_.length : Int) - 1))).bind fun y56 => (if (!y56) then some true else (if decide (i38 > 0) then (idx p1 i38).bind fun e60 => (idx p1 (IntKind.i64.wrap (i38 - 1))).bind fun e62 => some (decide (e60 ≤ e62)) else some false).bind fun u59 => some u59).bind fun u58 => if u58 then some false else (spec_AttrsOk_L1 p1 p0 k1) (IntKind.i64.wrap (i38 + 1)) else some true
noncomputable def spec_AttrsOk (p0 : Timpl_Schema) (p1 : List Int) : Option (Bool) :=
  (spec_SchemaOk p0).bind fun y19 => if ((!y19) || ((p1.length : Int) == 0)) then some false else spec_AttrsOk_L1 p1 p0 Fuel 0
noncomputable def spec_RuleOk (p0 : Timpl_Rule) : Option (Bool) :=
  (spec_l1In p0.Sure_ 1 9).bind fun y11 => (if y11 then (spec_l1In p0.Tie_ 0 999).bind fun y14 => some y14 else some false).bind fun u13 => (if u13 then (spec_l1In p0.Grace_ 1 200).bind fun y19 => some y19 else some false).bind fun u18 => (if u18 then (spec_l1In p0.Depth_ 0 6).bind fun y24 => some y24 else some false).bind fun u23 => (if u23 then (spec_l1In p0.Nodes_ 1 31).bind fun y29 => some y29 else some false).bind fun u28 => (if u28 then (spec_l1In p0.Units_ 62 2000).bind fun y34 => some y34 else some false).bind fun u33 => some u33
noncomputable def spec_StatsNew_L1 (p0 : Timpl_Schema) (l22 : List Int) : Nat → (List (List Int)) → Int → Option (Timpl_Stats)
  | 0, _, _ => none
  | k1 + 1, l80, i84 =>
    if decide (i84 < (p0.Attrs_.length : Int)) then (idx p0.Attrs_ i84).bind fun e161 => (spec_Bins e161).bind fun y177 => (mk (0 : Int) (IntKind.i64.wrap (y177 * (p0.Classes_.length : Int)))).bind fun l179 => (app l80 [l179]).bind fun l183 => (spec_StatsNew_L1 p0 l22 k1) l183 (IntKind.i64.wrap (i84 + 1)) else some (Timpl_Stats.mk l22 l80)
noncomputable def spec_StatsNew (p0 : Timpl_Schema) : Option (Timpl_Stats) :=
  (spec_SchemaOk p0).bind fun y20 => if (!y20) then some (Timpl_Stats.mk ([] : List Int) ([] : List (List Int))) else (mk (0 : Int) (p0.Classes_.length : Int)).bind fun l22 => spec_StatsNew_L1 p0 l22 Fuel ([] : List (List Int)) 0
noncomputable def impl_within (p0 : Int) (p1 : Int) (p2 : Int) : Option (Bool) :=
  some ((decide (p0 ≥ p1)) && (decide (p0 ≤ p2)))
noncomputable def impl_WordOk_L1 (p0 : List UInt8) : Nat → Int → Option (Bool)
  | 0, _ => none
  | k1 + 1, i20 =>
    if decide (i20 < (p0.length : Int)) then (idx p0 i20).bind fun b29 => (if decide ((b29.toNat : Int) < 97) then some true else (idx p0 i20).bind fun b32 => some (decide ((b32.toNat : Int) > 122))).bind fun u31 => if u31 then some false else (impl_WordOk_L1 p0 k1) (IntKind.i64.wrap (i20 + 1)) else some true
noncomputable def impl_WordOk (p0 : List UInt8) : Option (Bool) :=
  (impl_within (p0.length : Int) 1 8).bind fun y10 => if (!y10) then some false else impl_WordOk_L1 p0 Fuel 0
noncomputable def lib_slices_Index___string_string__L1 (p0 : List (List UInt8)) (p1 : List UInt8) : Nat → Int → Option (Int)
  | 0, _ => none
  | k1 + 1, i13 =>
    if decide (i13 < (p0.length : Int)) then (idx p0 i13).bind fun e18 => if (p1 == e18) then some i13 else (lib_slices_Index___string_string__L1 p0 p1 k1) (IntKind.i64.wrap (i13 + 1)) else some (-1)
noncomputable def lib_slices_Index___string_string_ (p0 : List (List UInt8)) (p1 : List UInt8) : Option (Int) :=
  lib_slices_Index___string_string__L1 p0 p1 Fuel 0
noncomputable def lib_slices_Contains___string_string_ (p0 : List (List UInt8)) (p1 : List UInt8) : Option (Bool) :=
  (lib_slices_Index___string_string_ p0 p1).bind fun y10 => some (decide (y10 ≥ 0))
noncomputable def impl_distinctWords_L1 (p0 : List (List UInt8)) : Nat → Int → Option (Bool)
  | 0, _ => none
  | k1 + 1, i26 =>
    if decide (i26 < (p0.length : Int)) then (idx p0 i26).bind fun e43 => (impl_WordOk e43).bind fun y45 => (if (!y45) then some true else (sub p0 0 i26).bind fun l48 => (lib_slices_Contains___string_string_ l48 e43).bind fun y54 => some y54).bind fun u47 => if u47 then some false else (impl_distinctWords_L1 p0 k1) (IntKind.i64.wrap (i26 + 1)) else some true
noncomputable def impl_distinctWords (p0 : List (List UInt8)) : Option (Bool) :=
  impl_distinctWords_L1 p0 Fuel 0
noncomputable def impl_ascending_L1 (p0 : List Int) : Nat → Int → Option (Bool)
  | 0, _ => none
  | k1 + 1, i15 =>
    if decide (i15 < (p0.length : Int)) then (idx p0 i15).bind fun e21 => (idx p0 (IntKind.i64.wrap (i15 - 1))).bind fun e23 => if decide (e21 ≤ e23) then some false else (impl_ascending_L1 p0 k1) (IntKind.i64.wrap (i15 + 1)) else some true
noncomputable def impl_ascending (p0 : List Int) : Option (Bool) :=
  impl_ascending_L1 p0 Fuel 1
noncomputable def impl_isCut (p0 : Int) : Option (Bool) :=
  (impl_within p0 (-9999) 9998).bind fun y10 => some y10
noncomputable def impl_CutsOk_1 (p0 : Int) : Option (Bool) :=
  (impl_isCut p0).bind fun y10 => some (!y10)
noncomputable def lib_slices_IndexFunc___int_int___impl_CutsOk_1_L1 (p0 : List Int) : Nat → Int → Option (Int)
  | 0, _ => none
  | k1 + 1, i15 =>
    if decide (i15 < (p0.length : Int)) then (idx p0 i15).bind fun e21 => (impl_CutsOk_1 e21).bind fun y23 => if y23 then some i15 else (lib_slices_IndexFunc___int_int___impl_CutsOk_1_L1 p0 k1) (IntKind.i64.wrap (i15 + 1)) else some (-1)
noncomputable def lib_slices_IndexFunc___int_int___impl_CutsOk_1 (p0 : List Int) : Option (Int) :=
  lib_slices_IndexFunc___int_int___impl_CutsOk_1_L1 p0 Fuel 0
noncomputable def lib_slices_ContainsFunc___int_int___impl_CutsOk_1 (p0 : List Int) : Option (Bool) :=
  (lib_slices_IndexFunc___int_int___impl_CutsOk_1 p0).bind fun y10 => some (decide (y10 ≥ 0))
noncomputable def impl_CutsOk (p0 : List Int) : Option (Bool) :=
  (impl_within (p0.length : Int) 1 3).bind fun y10 => (if y10 then (impl_ascending p0).bind fun y13 => some y13 else some false).bind fun u12 => (if u12 then (lib_slices_ContainsFunc___int_int___impl_CutsOk_1 p0).bind fun y18 => some (!y18) else some false).bind fun u17 => some u17
noncomputable def impl_AttrOk (p0 : Timpl_Attr) : Option (Bool) :=
  (impl_WordOk p0.Name_).bind fun y21 => if (!y21) then some false else if ((p0.Cuts_.length : Int) == 0) then (impl_within (p0.Values_.length : Int) 2 4).bind fun y23 => (if y23 then (impl_distinctWords p0.Values_).bind fun y26 => some y26 else some false).bind fun u25 => some u25 else (if ((p0.Values_.length : Int) == 0) then (impl_CutsOk p0.Cuts_).bind fun y31 => some y31 else some false).bind fun u30 => some u30
noncomputable def impl_SchemaOk_L1 (p0 : Timpl_Schema) : Nat → Int → (List (List UInt8)) → Option (Bool)
  | 0, _, _ => none
  | k1 + 1, i65, l66 =>
    if decide (i65 < (p0.Attrs_.length : Int)) then (idx p0.Attrs_ i65).bind fun e103 => (impl_AttrOk e103).bind fun y120 => if (!y120) then some false else (app l66 ([e103.Name_] : List (List UInt8))).bind fun l123 => (impl_SchemaOk_L1 p0 k1) (IntKind.i64.wrap (i65 + 1)) l123 else (impl_distinctWords l66).bind fun y129 => some y129
noncomputable def impl_SchemaOk (p0 : Timpl_Schema) : Option (Bool) :=
  (impl_within (p0.Attrs_.length : Int) 1 5).bind fun y19 => (if (!y19) then some true else (impl_within (p0.Classes_.length : Int) 2 3).bind fun y22 => some (!y22)).bind fun u21 => (if u21 then some true else (impl_distinctWords p0.Classes_).bind fun y27 => some (!y27)).bind fun u26 => if u26 then some false else impl_SchemaOk_L1 p0 Fuel 0 ([] : List (List UInt8))
noncomputable def impl_bins (p0 : Timpl_Attr) : Option (Int) :=
  if decide ((p0.Cuts_.length : Int) > 0) then some (IntKind.i64.wrap ((p0.Cuts_.length : Int) + 1)) else some (p0.Values_.length : Int)
noncomputable def impl_zeros (p0 : Int) : Option (List Int) :=
  (mk (0 : Int) p0).bind fun l10 => some l10
noncomputable def impl_AttrsOk (p0 : Timpl_Schema) (p1 : List Int) : Option (Bool) :=
  (impl_SchemaOk p0).bind fun y19 => (if (y19 && (decide ((p1.length : Int) > 0))) then (impl_ascending p1).bind fun y24 => some y24 else some false).bind fun u23 => (if u23 then (idx p1 0).bind fun e29 => some (decide (e29 ≥ 0)) else some false).bind fun u28 => (if u28 then (idx p1 (IntKind.i64.wrap ((p1.length : Int) - 1))).bind fun e34 => some (decide (e34 < (p0.Attrs_.length : Int))) else some false).bind fun u33 => some u33
noncomputable def impl_RuleOk (p0 : Timpl_Rule) : Option (Bool) :=
  (impl_within p0.Sure_ 1 9).bind fun y11 => (if y11 then (impl_within p0.Tie_ 0 999).bind fun y14 => some y14 else some false).bind fun u13 => (if u13 then (impl_within p0.Grace_ 1 200).bind fun y19 => some y19 else some false).bind fun u18 => (if u18 then (impl_within p0.Depth_ 0 6).bind fun y24 => some y24 else some false).bind fun u23 => (if u23 then (impl_within p0.Nodes_ 1 31).bind fun y29 => some y29 else some false).bind fun u28 => (if u28 then (impl_within p0.Units_ 62 2000).bind fun y34 => some y34 else some false).bind fun u33 => some u33
noncomputable def impl_StatsNew_L1 (p0 : Timpl_Schema) (y22 : List Int) : Nat → Int → (List (List Int)) → Option (Timpl_Stats)
  | 0, _, _ => none
  | k1 + 1, i85, l86 =>
    if decide (i85 < (p0.Attrs_.length : Int)) then (idx p0.Attrs_ i85).bind fun e141 => (impl_bins e141).bind fun y170 => (impl_zeros (IntKind.i64.wrap (y170 * (p0.Classes_.length : Int)))).bind fun y172 => (app l86 [y172]).bind fun l182 => (impl_StatsNew_L1 p0 y22 k1) (IntKind.i64.wrap (i85 + 1)) l182 else some (Timpl_Stats.mk y22 l86)
noncomputable def impl_StatsNew (p0 : Timpl_Schema) : Option (Timpl_Stats) :=
  (impl_SchemaOk p0).bind fun y20 => if (!y20) then some (Timpl_Stats.mk ([] : List Int) ([] : List (List Int))) else (impl_zeros (p0.Classes_.length : Int)).bind fun y22 => impl_StatsNew_L1 p0 y22 Fuel 0 ([] : List (List Int))
noncomputable def lib_slices_Clone___int_int_ (p0 : List Int) : Option (List Int) :=
  (app ([] : List Int) p0).bind fun l11 => some l11
noncomputable def laws_eqIntS_L1 (p0 : List Int) (p1 : List Int) : Nat → Int → Option (Bool)
  | 0, _ => none
  | k1 + 1, i15 =>
    if decide (i15 < (p0.length : Int)) then (idx p0 i15).bind fun e21 => (idx p1 i15).bind fun e23 => if (e21 != e23) then some false else (laws_eqIntS_L1 p0 p1 k1) (IntKind.i64.wrap (i15 + 1)) else some true
noncomputable def laws_eqIntS (p0 : List Int) (p1 : List Int) : Option (Bool) :=
  if ((p0.length : Int) != (p1.length : Int)) then some false else laws_eqIntS_L1 p0 p1 Fuel 0
noncomputable def laws_eqStringS_L1 (p0 : List (List UInt8)) (p1 : List (List UInt8)) : Nat → Int → Option (Bool)
  | 0, _ => none
  | k1 + 1, i15 =>
    if decide (i15 < (p0.length : Int)) then (idx p0 i15).bind fun e21 => (idx p1 i15).bind fun e23 => if (!(e21 == e23)) then some false else (laws_eqStringS_L1 p0 p1 k1) (IntKind.i64.wrap (i15 + 1)) else some true
noncomputable def laws_eqStringS (p0 : List (List UInt8)) (p1 : List (List UInt8)) : Option (Bool) :=
  if ((p0.length : Int) != (p1.length : Int)) then some false else laws_eqStringS_L1 p0 p1 Fuel 0
noncomputable def laws_eqAttr (p0 : Timpl_Attr) (p1 : Timpl_Attr) : Option (Bool) :=
  if (!(p0.Name_ == p1.Name_)) then some false else (laws_eqIntS p0.Cuts_ p1.Cuts_).bind fun y32 => if (!y32) then some false else (laws_eqStringS p0.Values_ p1.Values_).bind fun y34 => if (!y34) then some false else some true
noncomputable def laws_eqAttrS_L1 (p0 : List Timpl_Attr) (p1 : List Timpl_Attr) : Nat → Int → Option (Bool)
  | 0, _ => none
  | k1 + 1, i45 =>
    if decide (i45 < (p0.length : Int)) then (idx p0 i45).bind fun e81 => (idx p1 i45).bind fun e97 => (laws_eqAttr e81 e97).bind fun y113 => if (!y113) then some false else (laws_eqAttrS_L1 p0 p1 k1) (IntKind.i64.wrap (i45 + 1)) else some true
noncomputable def laws_eqAttrS (p0 : List Timpl_Attr) (p1 : List Timpl_Attr) : Option (Bool) :=
  if ((p0.length : Int) != (p1.length : Int)) then some false else laws_eqAttrS_L1 p0 p1 Fuel 0
noncomputable def laws_eqSchema (p0 : Timpl_Schema) (p1 : Timpl_Schema) : Option (Bool) :=
  (laws_eqAttrS p0.Attrs_ p1.Attrs_).bind fun y28 => if (!y28) then some false else (laws_eqStringS p0.Classes_ p1.Classes_).bind fun y30 => if (!y30) then some false else some true
noncomputable def laws_eqFork (p0 : Timpl_Fork) (p1 : Timpl_Fork) : Option (Bool) :=
  if (p0.Attr_ != p1.Attr_) then some false else if (p0.At_ != p1.At_) then some false else some true
noncomputable def laws_eqIntSS_L1 (p0 : List (List Int)) (p1 : List (List Int)) : Nat → Int → Option (Bool)
  | 0, _ => none
  | k1 + 1, i29 =>
    if decide (i29 < (p0.length : Int)) then (idx p0 i29).bind fun e49 => (idx p1 i29).bind fun e57 => (laws_eqIntS e49 e57).bind fun y65 => if (!y65) then some false else (laws_eqIntSS_L1 p0 p1 k1) (IntKind.i64.wrap (i29 + 1)) else some true
noncomputable def laws_eqIntSS (p0 : List (List Int)) (p1 : List (List Int)) : Option (Bool) :=
  if ((p0.length : Int) != (p1.length : Int)) then some false else laws_eqIntSS_L1 p0 p1 Fuel 0
noncomputable def laws_eqStats (p0 : Timpl_Stats) (p1 : Timpl_Stats) : Option (Bool) :=
  (laws_eqIntS p0.Totals_ p1.Totals_).bind fun y28 => if (!y28) then some false else (laws_eqIntSS p0.Cells_ p1.Cells_).bind fun y30 => if (!y30) then some false else some true
noncomputable def laws_eqNode (p0 : Timpl_Node) (p1 : Timpl_Node) : Option (Bool) :=
  if (p0.Leaf_ != p1.Leaf_) then some false else (laws_eqFork p0.Fork_ p1.Fork_).bind fun y76 => if (!y76) then some false else (laws_eqIntS p0.Kids_ p1.Kids_).bind fun y78 => if (!y78) then some false else if (p0.Miss_ != p1.Miss_) then some false else (laws_eqStats p0.Stats_ p1.Stats_).bind fun y80 => if (!y80) then some false else if (p0.Since_ != p1.Since_) then some false else (laws_eqIntS p0.Attrs_ p1.Attrs_).bind fun y82 => if (!y82) then some false else if (p0.Depth_ != p1.Depth_) then some false else if (p0.Up_ != p1.Up_) then some false else if (p0.Born_ != p1.Born_) then some false else some true
noncomputable def laws_eqNodeS_L1 (p0 : List Timpl_Node) (p1 : List Timpl_Node) : Nat → Int → Option (Bool)
  | 0, _ => none
  | k1 + 1, i89 =>
    if decide (i89 < (p0.length : Int)) then (idx p0 i89).bind fun e169 => (idx p1 i89).bind fun e207 => (laws_eqNode e169 e207).bind fun y245 => if (!y245) then some false else (laws_eqNodeS_L1 p0 p1 k1) (IntKind.i64.wrap (i89 + 1)) else some true
noncomputable def laws_eqNodeS (p0 : List Timpl_Node) (p1 : List Timpl_Node) : Option (Bool) :=
  if ((p0.length : Int) != (p1.length : Int)) then some false else laws_eqNodeS_L1 p0 p1 Fuel 0
noncomputable def laws_eqTree (p0 : Timpl_Tree) (p1 : Timpl_Tree) : Option (Bool) :=
  (laws_eqNodeS p0.Nodes_ p1.Nodes_).bind fun y24 => if (!y24) then some false else if (p0.Seen_ != p1.Seen_) then some false else some true
noncomputable def laws_markText_L1  : Nat → Int → (List UInt8) → Option (List UInt8)
  | 0, _, _ => none
  | k1 + 1, i15, s16 =>
    if decide (i15 > 0) then (sadd (bytesOf ([IntKind.u8.wrap (IntKind.i64.wrap (48 + (Int.tmod i15 10)))] : List Int)) s16).bind fun s23 => (laws_markText_L1 k1) (IntKind.i64.wrap (Int.tdiv i15 10)) s23 else (sadd ([109] : List UInt8) s16).bind fun s25 => some s25
noncomputable def laws_markText (p0 : Int) : Option (List UInt8) :=
  if decide (p0 ≤ 0) then some ([109, 48] : List UInt8) else laws_markText_L1 Fuel p0 ([] : List UInt8)
noncomputable def laws_markIntS_L1 (p0 : List Int) : Nat → (List Int) → Int → Int → Option (Int × (List Int))
  | 0, _, _, _ => none
  | k1 + 1, l15, i17, i18 =>
    if decide (i18 < (p0.length : Int)) then (idx l15 i18).bind fun _ => (laws_markIntS_L1 p0 k1) (l15.set i18.toNat i17) (IntKind.i64.wrap (i17 + 1)) (IntKind.i64.wrap (i18 + 1)) else some (i17, l15)
noncomputable def laws_markIntS (p0 : List Int) (p1 : Int) : Option (Int × (List Int)) :=
  laws_markIntS_L1 p0 Fuel p0 p1 0
noncomputable def laws_markStringS_L1 (p0 : List (List UInt8)) : Nat → (List (List UInt8)) → Int → Int → Option (Int × (List (List UInt8)))
  | 0, _, _, _ => none
  | k1 + 1, l18, i19, i20 =>
    if decide (i20 < (p0.length : Int)) then (laws_markText i19).bind fun y28 => (idx l18 i20).bind fun _ => (laws_markStringS_L1 p0 k1) (l18.set i20.toNat y28) (IntKind.i64.wrap (i19 + 1)) (IntKind.i64.wrap (i20 + 1)) else some (i19, l18)
noncomputable def laws_markStringS (p0 : List (List UInt8)) (p1 : Int) : Option (Int × (List (List UInt8))) :=
  laws_markStringS_L1 p0 Fuel p0 p1 0
noncomputable def laws_markAttrS_L1 (p0 : List Timpl_Attr) : Nat → (List Timpl_Attr) → Int → Int → Option (Int × (List Timpl_Attr))
  | 0, _, _, _ => none
  | k1 + 1, l46, i48, i49 =>
    if decide (i49 < (p0.length : Int)) then (laws_markText i48).bind fun y86 => (idx l46 i49).bind fun e88 => (laws_markIntS e88.Cuts_ (IntKind.i64.wrap (i48 + 1))).bind fun y104 => (laws_markStringS e88.Values_ y104.1).bind fun y110 => (laws_markAttrS_L1 p0 k1) (l46.set i49.toNat (Timpl_Attr.mk y86 y104.2 y110.2)) y110.1 (IntKind.i64.wrap (i49 + 1)) else some (i48, l46)
noncomputable def laws_markAttrS (p0 : List Timpl_Attr) (p1 : Int) : Option (Int × (List Timpl_Attr)) :=
  laws_markAttrS_L1 p0 Fuel p0 p1 0
noncomputable def laws_markSchema (p0 : Timpl_Schema) (p1 : Int) : Option (Int × Timpl_Schema) :=
  (laws_markAttrS p0.Attrs_ p1).bind fun y11 => (laws_markStringS p0.Classes_ y11.1).bind fun y17 => some (y17.1, (Timpl_Schema.mk y11.2 y17.2))
noncomputable def laws_markIntSS_L1 (p0 : List (List Int)) : Nat → (List (List Int)) → Int → Int → Option (Int × (List (List Int)))
  | 0, _, _, _ => none
  | k1 + 1, l34, i36, i37 =>
    if decide (i37 < (p0.length : Int)) then (idx l34 i37).bind fun e61 => (laws_markIntS e61 i36).bind fun y73 => (laws_markIntSS_L1 p0 k1) (l34.set i37.toNat y73.2) y73.1 (IntKind.i64.wrap (i37 + 1)) else some (i36, l34)
noncomputable def laws_markIntSS (p0 : List (List Int)) (p1 : Int) : Option (Int × (List (List Int))) :=
  laws_markIntSS_L1 p0 Fuel p0 p1 0
noncomputable def laws_markNodeS_L1 (p0 : List Timpl_Node) : Nat → (List Timpl_Node) → Int → Int → Option (Int × (List Timpl_Node))
  | 0, _, _, _ => none
  | k1 + 1, l62, i65, i66 =>
    if decide (i66 < (p0.length : Int)) then (idx l62 i66).bind fun e119 => (laws_markIntS e119.Kids_ (IntKind.i64.wrap ((IntKind.i64.wrap ((IntKind.i64.wrap (i65 + 1)) + 1)) + 1))).bind fun y141 => (laws_markIntS e119.Stats_.Totals_ (IntKind.i64.wrap (y141.1 + 1))).bind fun y147 => (laws_markIntSS e119.Stats_.Cells_ y147.1).bind fun y153 => (laws_markIntS e119.Attrs_ (IntKind.i64.wrap (y153.1 + 1))).bind fun y159 => (laws_markNodeS_L1 p0 k1) (l62.set i66.toNat (Timpl_Node.mk ((Int.tmod i65 3) == 0) (Timpl_Fork.mk (IntKind.i64.wrap (i65 + 1)) (IntKind.i64.wrap ((IntKind.i64.wrap (i65 + 1)) + 1))) y141.2 y141.1 (Timpl_Stats.mk y147.2 y153.2) y153.1 y159.2 y159.1 (IntKind.i64.wrap (y159.1 + 1)) (IntKind.i64.wrap ((IntKind.i64.wrap (y159.1 + 1)) + 1)))) (IntKind.i64.wrap ((IntKind.i64.wrap ((IntKind.i64.wrap (y159.1 + 1)) + 1)) + 1)) (IntKind.i64.wrap (i66 + 1)) else some (i65, l62)
noncomputable def laws_markNodeS (p0 : List Timpl_Node) (p1 : Int) : Option (Int × (List Timpl_Node)) :=
  laws_markNodeS_L1 p0 Fuel p0 p1 0
noncomputable def laws_heldIntS_L1 (p0 : List Int) : Nat → Int → Int → Option (Int)
  | 0, _, _ => none
  | k1 + 1, i14, i15 =>
    if decide (i15 < (p0.length : Int)) then (idx p0 i15).bind fun e20 => if (e20 != i14) then some (-1) else (laws_heldIntS_L1 p0 k1) (IntKind.i64.wrap (i14 + 1)) (IntKind.i64.wrap (i15 + 1)) else some i14
noncomputable def laws_heldIntS (p0 : List Int) (p1 : Int) : Option (Int) :=
  laws_heldIntS_L1 p0 Fuel p1 0
noncomputable def laws_szConf (p0 : Tlaws_Conf) (p1 : Int) : Option (Int) :=
  (laws_szSchema p0.Schema_ p1).bind fun y33 => if decide (y33 < 0) then some (-1) else some y33
noncomputable def laws_toConf (p0 : Tlaws_Conf) : Option (Timpl_Conf) :=
  (laws_toSchema p0.Schema_).bind fun y35 => (laws_toRule p0.Rule_).bind fun y48 => some (Timpl_Conf.mk y35 y48 p0.Members_ p0.Pick_ p0.Lambda_ p0.Warn_ p0.Drift_)
noncomputable def spec_Thresholds (p0 : Int) : Option (List Int) :=
  if (p0 == 1) then some ([24109, 48218, 60273, 64291, 65296, 65497, 65530] : List Int) else if (p0 == 6) then some ([162, 1137, 4061, 9909, 18681, 29208, 39734] : List Int) else some ([] : List Int)
noncomputable def spec_ConfOk (p0 : Timpl_Conf) : Option (Bool) :=
  (spec_SchemaOk p0.Schema_).bind fun y33 => (if y33 then (spec_RuleOk p0.Rule_).bind fun y36 => some y36 else some false).bind fun u35 => (if u35 then (spec_l1In p0.Members_ 1 4).bind fun y41 => some y41 else some false).bind fun u40 => (if u40 then (spec_l1In p0.Pick_ 1 (p0.Schema_.Attrs_.length : Int)).bind fun y46 => some y46 else some false).bind fun u45 => (if u45 then (spec_Thresholds p0.Lambda_).bind fun y51 => some (decide ((y51.length : Int) > 0)) else some false).bind fun u50 => (if u50 then (spec_l1In p0.Warn_ 1 9).bind fun y63 => some y63 else some false).bind fun u62 => (if u62 then (spec_l1In p0.Drift_ 1 9).bind fun y68 => some y68 else some false).bind fun u67 => some (u67 && (decide (p0.Warn_ ≤ p0.Drift_)))
noncomputable def impl_Thresholds (p0 : Int) : Option ((List Int) × Bool) :=
  if (p0 == 1) then some (([24109, 48218, 60273, 64291, 65296, 65497, 65530] : List Int), false) else if (p0 == 6) then some (([162, 1137, 4061, 9909, 18681, 29208, 39734] : List Int), false) else some (([] : List Int), true)
noncomputable def impl_ConfOk (p0 : Timpl_Conf) : Option (Bool) :=
  (impl_SchemaOk p0.Schema_).bind fun y33 => (if y33 then (impl_RuleOk p0.Rule_).bind fun y36 => some y36 else some false).bind fun u35 => (if u35 then (impl_within p0.Members_ 1 4).bind fun y41 => some y41 else some false).bind fun u40 => (if u40 then (impl_within p0.Pick_ 1 (p0.Schema_.Attrs_.length : Int)).bind fun y46 => some y46 else some false).bind fun u45 => (if u45 then (impl_Thresholds p0.Lambda_).bind fun y51 => some (!y51.2) else some false).bind fun u50 => (if u50 then (impl_within p0.Warn_ 1 9).bind fun y64 => some y64 else some false).bind fun u63 => (if u63 then (impl_within p0.Drift_ 1 9).bind fun y69 => some y69 else some false).bind fun u68 => some (u68 && (decide (p0.Warn_ ≤ p0.Drift_)))
noncomputable def laws_eqRule (p0 : Timpl_Rule) (p1 : Timpl_Rule) : Option (Bool) :=
  if (p0.Sure_ != p1.Sure_) then some false else if (p0.Tie_ != p1.Tie_) then some false else if (p0.Grace_ != p1.Grace_) then some false else if (p0.Depth_ != p1.Depth_) then some false else if (p0.Nodes_ != p1.Nodes_) then some false else if (p0.Units_ != p1.Units_) then some false else if (p0.Two_ != p1.Two_) then some false else some true
noncomputable def laws_eqConf (p0 : Timpl_Conf) (p1 : Timpl_Conf) : Option (Bool) :=
  (laws_eqSchema p0.Schema_ p1.Schema_).bind fun y56 => if (!y56) then some false else (laws_eqRule p0.Rule_ p1.Rule_).bind fun y58 => if (!y58) then some false else if (p0.Members_ != p1.Members_) then some false else if (p0.Pick_ != p1.Pick_) then some false else if (p0.Lambda_ != p1.Lambda_) then some false else if (p0.Warn_ != p1.Warn_) then some false else if (p0.Drift_ != p1.Drift_) then some false else some true
noncomputable def laws_eqWindow (p0 : Timpl_Window) (p1 : Timpl_Window) : Option (Bool) :=
  (laws_eqIntSS p0.Rows_ p1.Rows_).bind fun y20 => if (!y20) then some false else some true
noncomputable def laws_eqDet (p0 : Timpl_Det) (p1 : Timpl_Det) : Option (Bool) :=
  (laws_eqWindow p0.Warn_ p1.Warn_).bind fun y36 => if (!y36) then some false else (laws_eqWindow p0.Drift_ p1.Drift_).bind fun y38 => if (!y38) then some false else some true
noncomputable def laws_eqMember (p0 : Timpl_Member) (p1 : Timpl_Member) : Option (Bool) :=
  (laws_eqTree p0.Tree_ p1.Tree_).bind fun y76 => if (!y76) then some false else if (p0.HasYoung_ != p1.HasYoung_) then some false else (laws_eqTree p0.Young_ p1.Young_).bind fun y78 => if (!y78) then some false else (laws_eqDet p0.Det_ p1.Det_).bind fun y80 => if (!y80) then some false else some true
noncomputable def laws_eqMemberS_L1 (p0 : List Timpl_Member) (p1 : List Timpl_Member) : Nat → Int → Option (Bool)
  | 0, _ => none
  | k1 + 1, i89 =>
    if decide (i89 < (p0.length : Int)) then (idx p0 i89).bind fun e169 => (idx p1 i89).bind fun e207 => (laws_eqMember e169 e207).bind fun y245 => if (!y245) then some false else (laws_eqMemberS_L1 p0 p1 k1) (IntKind.i64.wrap (i89 + 1)) else some true
noncomputable def laws_eqMemberS (p0 : List Timpl_Member) (p1 : List Timpl_Member) : Option (Bool) :=
  if ((p0.length : Int) != (p1.length : Int)) then some false else laws_eqMemberS_L1 p0 p1 Fuel 0
noncomputable def laws_eqForest (p0 : Timpl_Forest) (p1 : Timpl_Forest) : Option (Bool) :=
  (laws_eqMemberS p0.Members_ p1.Members_).bind fun y20 => if (!y20) then some false else some true
noncomputable def laws_eqPair (p0 : Timpl_Pair) (p1 : Timpl_Pair) : Option (Bool) :=
  if (p0.Truth_ != p1.Truth_) then some false else if (p0.Said_ != p1.Said_) then some false else some true
noncomputable def laws_eqPairS_L1 (p0 : List Timpl_Pair) (p1 : List Timpl_Pair) : Nat → Int → Option (Bool)
  | 0, _ => none
  | k1 + 1, i18 =>
    if decide (i18 < (p0.length : Int)) then (idx p0 i18).bind fun e26 => (idx p1 i18).bind fun e28 => (laws_eqPair e26 e28).bind fun y30 => if (!y30) then some false else (laws_eqPairS_L1 p0 p1 k1) (IntKind.i64.wrap (i18 + 1)) else some true
noncomputable def laws_eqPairS (p0 : List Timpl_Pair) (p1 : List Timpl_Pair) : Option (Bool) :=
  if ((p0.length : Int) != (p1.length : Int)) then some false else laws_eqPairS_L1 p0 p1 Fuel 0
noncomputable def laws_eqScore (p0 : Timpl_Score) (p1 : Timpl_Score) : Option (Bool) :=
  (laws_eqIntSS p0.Table_ p1.Table_).bind fun y28 => if (!y28) then some false else (laws_eqPairS p0.Last_ p1.Last_).bind fun y30 => if (!y30) then some false else some true
noncomputable def laws_eqState (p0 : Timpl_State) (p1 : Timpl_State) : Option (Bool) :=
  (laws_eqConf p0.Conf_ p1.Conf_).bind fun y92 => if (!y92) then some false else (laws_eqForest p0.Forest_ p1.Forest_).bind fun y94 => if (!y94) then some false else (laws_eqScore p0.Score_ p1.Score_).bind fun y96 => if (!y96) then some false else some true
noncomputable def laws_toByteS_L1 (p0 : List Int) : Nat → (List Int) → Int → Option (List Int)
  | 0, _, _ => none
  | k1 + 1, l19, i20 =>
    if decide (i20 < (p0.length : Int)) then (idx p0 i20).bind fun e27 => (idx l19 i20).bind fun _ => (laws_toByteS_L1 p0 k1) (l19.set i20.toNat e27) (IntKind.i64.wrap (i20 + 1)) else some l19
noncomputable def laws_toByteS (p0 : List Int) : Option (List Int) :=
  (mk (0 : Int) (p0.length : Int)).bind fun l10 => laws_toByteS_L1 p0 Fuel l10 0
noncomputable def spec_TapeNew (p0 : List Int) : Option (Timpl_Tape × Bool) :=
  if decide ((p0.length : Int) > 600) then some ((Timpl_Tape.mk ([] : List Int) 0), false) else (app ([] : List Int) p0).bind fun l12 => some ((Timpl_Tape.mk l12 0), true)
noncomputable def spec_l15Copy (p0 : Timpl_Tape) : Option (Timpl_Tape) :=
  (app ([] : List Int) p0.Bytes_).bind fun l25 => some (Timpl_Tape.mk l25 p0.At_)
noncomputable def spec_Binomial_L2 (l98 : List Int) (R1 : (List Int) → Int → Option (Int)) (i103 : Int) : Nat → (List Int) → Int → Option (Int)
  | 0, _, _ => none
  | k2 + 1, l207, i212 =>
    if decide (i212 < (l98.length : Int)) then (idx l98 (IntKind.i64.wrap (i212 - 1))).bind fun e240 => (idx l98 i212).bind fun e242 => (app l207 ([IntKind.i64.wrap (e240 + e242)] : List Int)).bind fun l245 => (spec_Binomial_L2 l98 R1 i103 k2) l245 (IntKind.i64.wrap (i212 + 1)) else (app l207 ([1] : List Int)).bind fun l252 => R1 l252 (IntKind.i64.wrap (i103 + 1))
noncomputable def spec_Binomial_L1 (p0 : Int) (p1 : Int) : Nat → (List Int) → Int → Option (Int)
  | 0, _, _ => none
  | k1 + 1, l98, i103 =>
    if decide (i103 < p0) then spec_Binomial_L2 l98 (spec_Binomial_L1 p0 p1 k1) i103 Fuel ([1] : List Int) 1 else (idx l98 p1).bind fun e258 => some e258
noncomputable def spec_Binomial (p0 : Int) (p1 : Int) : Option (Int) :=
  (spec_l1In p0 0 20).bind fun y10 => (if (!y10) then some true else (spec_l1In p1 0 p0).bind fun y13 => some (!y13)).bind fun u12 => if u12 then some 0 else spec_Binomial_L1 p0 p1 Fuel ([1] : List Int) 0
noncomputable def spec_TapeOk (p0 : Timpl_Tape) : Option (Bool) :=
  (if decide ((p0.Bytes_.length : Int) ≤ 600) then (spec_l1In p0.At_ 0 (p0.Bytes_.length : Int)).bind fun y18 => some y18 else some false).bind fun u17 => some u17
noncomputable def spec_TapeLeft (p0 : Timpl_Tape) : Option (Int) :=
  (spec_TapeOk p0).bind fun y17 => if (!y17) then some 0 else some (IntKind.i64.wrap ((p0.Bytes_.length : Int) - p0.At_))
noncomputable def spec_Take (p0 : Timpl_Tape) : Option (Timpl_Tape × Int × Bool) :=
  (spec_l15Copy p0).bind fun y18 => (spec_TapeLeft p0).bind fun y28 => if decide (y28 < 2) then some (y18, 0, false) else (idx p0.Bytes_ p0.At_).bind fun e34 => (idx p0.Bytes_ (IntKind.i64.wrap (p0.At_ + 1))).bind fun e36 => some ((Timpl_Tape.mk y18.Bytes_ (IntKind.i64.wrap (p0.At_ + 2))), IntKind.i64.wrap ((IntKind.i64.wrap ((IntKind.i64.wrap e34) * 256)) + (IntKind.i64.wrap e36)), true)
noncomputable def spec_TakeBelow (p0 : Timpl_Tape) (p1 : Int) : Option (Timpl_Tape × Int × Bool) :=
  (spec_Take p0).bind fun y18 => (if (!y18.2.2) then some true else (spec_l1In p1 1 65536).bind fun y29 => some (!y29)).bind fun u28 => if u28 then (spec_l15Copy p0).bind fun y33 => some (y33, 0, false) else (rem y18.2.1 p1).bind fun x44 => some (y18.1, x44, true)
noncomputable def spec_SubsetAt_L1 (p1 : Int) (p0 : Int) : Nat → Int → (List Int) → Int → Option (List Int)
  | 0, _, _, _ => none
  | k1 + 1, i31, l32, i37 =>
    if decide ((l32.length : Int) < p1) then (spec_Binomial (IntKind.i64.wrap ((IntKind.i64.wrap (p0 - i37)) - 1)) (IntKind.i64.wrap ((IntKind.i64.wrap (p1 - (l32.length : Int))) - 1))).bind fun y54 => if decide (i31 < y54) then (app l32 ([i37] : List Int)).bind fun l57 => (spec_SubsetAt_L1 p1 p0 k1) i31 l57 (IntKind.i64.wrap (i37 + 1)) else (spec_SubsetAt_L1 p1 p0 k1) (IntKind.i64.wrap (i31 - y54)) l32 (IntKind.i64.wrap (i37 + 1)) else some l32
noncomputable def spec_SubsetAt (p0 : Int) (p1 : Int) (p2 : Int) : Option (List Int) :=
  (spec_Binomial p0 p1).bind fun y11 => (spec_l1In p2 0 (IntKind.i64.wrap (y11 - 1))).bind fun y13 => if (!y13) then some ([] : List Int) else spec_SubsetAt_L1 p1 p0 Fuel p2 ([] : List Int) 0
noncomputable def spec_TakeSubset_J1 (p0 : Timpl_Tape) (p1 : Int) (p2 : Int) (i58 : Int) (q59 : Bool) (l61 : List Int) (i65 : Int) : Option (Timpl_Tape × (List Int) × Bool) :=
  if (!q59) then (spec_l15Copy p0).bind fun y66 => some (y66, ([] : List Int), false) else (spec_SubsetAt p1 p2 i58).bind fun y85 => some ((Timpl_Tape.mk l61 i65), y85, true)
noncomputable def spec_TakeSubset (p0 : Timpl_Tape) (p1 : Int) (p2 : Int) : Option (Timpl_Tape × (List Int) × Bool) :=
  (spec_Binomial p1 p2).bind fun y106 => (spec_TakeBelow p0 y106).bind fun y108 => spec_TakeSubset_J1 p0 p1 p2 y108.2.1 y108.2.2 y108.1.Bytes_ y108.1.At_
noncomputable def spec_TreeNew (p0 : Timpl_Schema) (p1 : List Int) : Option (Timpl_Tree) :=
  (spec_AttrsOk p0 p1).bind fun y20 => if (!y20) then some (Timpl_Tree.mk ([] : List Timpl_Node) 0) else (spec_StatsNew p0).bind fun y22 => (app ([] : List Int) p1).bind fun l36 => some (Timpl_Tree.mk [(Timpl_Node.mk true (Timpl_Fork.mk 0 0) ([] : List Int) 0 y22 0 l36 0 (-1) 0)] 0)
noncomputable def spec_l23Root (p0 : Timpl_Conf) (p1 : Timpl_Tape) : Option (Timpl_Tree × Timpl_Tape × Bool) :=
  (spec_TakeSubset p1 (p0.Schema_.Attrs_.length : Int) p0.Pick_).bind fun y42 => if (!y42.2.2) then (spec_l15Copy p1).bind fun y56 => some ((Timpl_Tree.mk ([] : List Timpl_Node) 0), y56, false) else (spec_TreeNew p0.Schema_ y42.2.1).bind fun y74 => some (y74, y42.1, true)
noncomputable def spec_MemberNew (p0 : Timpl_Conf) (p1 : Timpl_Tape) : Option (Timpl_Member × Timpl_Tape × Bool) :=
  (spec_ConfOk p0).bind fun y42 => if (!y42) then (spec_l15Copy p1).bind fun y44 => some ((Timpl_Member.mk (Timpl_Tree.mk ([] : List Timpl_Node) 0) false (Timpl_Tree.mk ([] : List Timpl_Node) 0) (Timpl_Det.mk (Timpl_Window.mk ([] : List (List Int))) (Timpl_Window.mk ([] : List (List Int))))), y44, false) else (spec_l23Root p0 p1).bind fun y53 => if (!y53.2.2) then (spec_l15Copy p1).bind fun y68 => some ((Timpl_Member.mk (Timpl_Tree.mk ([] : List Timpl_Node) 0) false (Timpl_Tree.mk ([] : List Timpl_Node) 0) (Timpl_Det.mk (Timpl_Window.mk ([] : List (List Int))) (Timpl_Window.mk ([] : List (List Int))))), y68, false) else some ((Timpl_Member.mk y53.1 false (Timpl_Tree.mk ([] : List Timpl_Node) 0) (Timpl_Det.mk (Timpl_Window.mk ([] : List (List Int))) (Timpl_Window.mk ([] : List (List Int))))), y53.2.1, true)
noncomputable def spec_ForestNew_L1 (p0 : Timpl_Conf) (p1 : Timpl_Tape) : Nat → (List Timpl_Member) → (List Int) → Int → Int → Option (Timpl_Forest × Timpl_Tape × Bool)
  | 0, _, _, _, _ => none
  | k1 + 1, l108, l112, i116, i117 =>
    if decide (i117 < p0.Members_) then (spec_MemberNew p0 (Timpl_Tape.mk l112 i116)).bind fun y171 => if (!y171.2.2) then (spec_l15Copy p1).bind fun y198 => some ((Timpl_Forest.mk ([] : List Timpl_Member)), y198, false) else (app l108 [y171.1]).bind fun l209 => (spec_ForestNew_L1 p0 p1 k1) l209 y171.2.1.Bytes_ y171.2.1.At_ (IntKind.i64.wrap (i117 + 1)) else some ((Timpl_Forest.mk l108), (Timpl_Tape.mk l112 i116), true)
noncomputable def spec_ForestNew (p0 : Timpl_Conf) (p1 : Timpl_Tape) : Option (Timpl_Forest × Timpl_Tape × Bool) :=
  (spec_l15Copy p1).bind fun y43 => (spec_ConfOk p0).bind fun y53 => if (!y53) then some ((Timpl_Forest.mk ([] : List Timpl_Member)), y43, false) else spec_ForestNew_L1 p0 p1 Fuel ([] : List Timpl_Member) y43.Bytes_ y43.At_ 0
noncomputable def spec_l5Copy_L1 (p0 : Timpl_Schema) (l21 : List (List UInt8)) : Nat → (List Timpl_Attr) → Int → Option (Timpl_Schema)
  | 0, _, _ => none
  | k1 + 1, l111, i115 =>
    if decide (i115 < (p0.Attrs_.length : Int)) then (idx p0.Attrs_ i115).bind fun e200 => (app ([] : List Int) e200.Cuts_).bind fun l232 => (app ([] : List (List UInt8)) e200.Values_).bind fun l238 => (app l111 [(Timpl_Attr.mk e200.Name_ l232 l238)]).bind fun l245 => (spec_l5Copy_L1 p0 l21 k1) l245 (IntKind.i64.wrap (i115 + 1)) else some (Timpl_Schema.mk l111 l21)
noncomputable def spec_l5Copy (p0 : Timpl_Schema) : Option (Timpl_Schema) :=
  (app ([] : List (List UInt8)) p0.Classes_).bind fun l21 => spec_l5Copy_L1 p0 l21 Fuel ([] : List Timpl_Attr) 0
noncomputable def spec_l26CopyConf (p0 : Timpl_Conf) : Option (Timpl_Conf) :=
  (spec_l5Copy p0.Schema_).bind fun y35 => some ({ p0 with Schema_ := y35 })
noncomputable def spec_ScoreNew_L1 (p0 : Int) : Nat → (List (List Int)) → Int → Option (Timpl_Score)
  | 0, _, _ => none
  | k1 + 1, l32, i36 =>
    if decide (i36 < p0) then (mk (0 : Int) p0).bind fun l59 => (app l32 [l59]).bind fun l63 => (spec_ScoreNew_L1 p0 k1) l63 (IntKind.i64.wrap (i36 + 1)) else some (Timpl_Score.mk l32 ([] : List Timpl_Pair))
noncomputable def spec_ScoreNew (p0 : Int) : Option (Timpl_Score) :=
  (spec_l1In p0 2 3).bind fun y12 => if (!y12) then some (Timpl_Score.mk ([] : List (List Int)) ([] : List Timpl_Pair)) else spec_ScoreNew_L1 p0 Fuel ([] : List (List Int)) 0
noncomputable def spec_StateNew (p0 : Timpl_Conf) (p1 : List Int) : Option (Timpl_State × Bool) :=
  (spec_TapeNew p1).bind fun y34 => (spec_ForestNew p0 y34.1).bind fun y44 => if ((!y34.2) || (!y44.2.2)) then some ((Timpl_State.mk (Timpl_Conf.mk (Timpl_Schema.mk ([] : List Timpl_Attr) ([] : List (List UInt8))) (Timpl_Rule.mk 0 0 0 0 0 0 false) 0 0 0 0 0) (Timpl_Forest.mk ([] : List Timpl_Member)) (Timpl_Score.mk ([] : List (List Int)) ([] : List Timpl_Pair))), false) else (spec_l26CopyConf p0).bind fun y87 => (spec_ScoreNew (p0.Schema_.Classes_.length : Int)).bind fun y100 => some ((Timpl_State.mk y87 y44.1 y100), true)
noncomputable def lib_slices_Clone___byte_byte_ (p0 : List Int) : Option (List Int) :=
  (app ([] : List Int) p0).bind fun l11 => some l11
noncomputable def impl_TapeNew (p0 : List Int) : Option (Timpl_Tape × Bool) :=
  if decide ((p0.length : Int) > 600) then some ((Timpl_Tape.mk ([] : List Int) 0), false) else (lib_slices_Clone___byte_byte_ p0).bind fun y11 => some ((Timpl_Tape.mk y11 0), true)
noncomputable def impl_cloneTape (p0 : Timpl_Tape) : Option (Timpl_Tape) :=
  (lib_slices_Clone___byte_byte_ p0.Bytes_).bind fun y27 => some (Timpl_Tape.mk y27 p0.At_)
noncomputable def impl_Binomial_L1 (p1 : Int) (p0 : Int) : Nat → Int → Int → Option (Int)
  | 0, _, _ => none
  | k1 + 1, i21, i22 =>
    if decide (i21 < p1) then (quo .i64 (IntKind.i64.wrap (i22 * (IntKind.i64.wrap (p0 - i21)))) (IntKind.i64.wrap (i21 + 1))).bind fun x27 => (impl_Binomial_L1 p1 p0 k1) (IntKind.i64.wrap (i21 + 1)) x27 else some i22
noncomputable def impl_Binomial (p0 : Int) (p1 : Int) : Option (Int) :=
  (impl_within p0 0 20).bind fun y10 => (if (!y10) then some true else (impl_within p1 0 p0).bind fun y13 => some (!y13)).bind fun u12 => if u12 then some 0 else impl_Binomial_L1 p1 p0 Fuel 0 1
noncomputable def impl_TapeOk (p0 : Timpl_Tape) : Option (Bool) :=
  (if decide ((p0.Bytes_.length : Int) ≤ 600) then (impl_within p0.At_ 0 (p0.Bytes_.length : Int)).bind fun y18 => some y18 else some false).bind fun u17 => some u17
noncomputable def impl_TapeLeft (p0 : Timpl_Tape) : Option (Int) :=
  (impl_TapeOk p0).bind fun y17 => if (!y17) then some 0 else some (IntKind.i64.wrap ((p0.Bytes_.length : Int) - p0.At_))
noncomputable def impl_Take (p0 : Timpl_Tape) : Option (Timpl_Tape × Int × Bool) :=
  (impl_cloneTape p0).bind fun y18 => (impl_TapeLeft p0).bind fun y28 => if decide (y28 < 2) then some (y18, 0, false) else (idx p0.Bytes_ p0.At_).bind fun e34 => (idx p0.Bytes_ (IntKind.i64.wrap (p0.At_ + 1))).bind fun e36 => some ((Timpl_Tape.mk y18.Bytes_ (IntKind.i64.wrap (y18.At_ + 2))), IntKind.i64.wrap ((IntKind.i64.wrap (256 * (IntKind.i64.wrap e34))) + (IntKind.i64.wrap e36)), true)
noncomputable def impl_TakeBelow (p0 : Timpl_Tape) (p1 : Int) : Option (Timpl_Tape × Int × Bool) :=
  (impl_within p1 1 65536).bind fun y18 => if (!y18) then (impl_cloneTape p0).bind fun y20 => some (y20, 0, false) else (impl_Take p0).bind fun y29 => (rem y29.2.1 p1).bind fun x41 => some (y29.1, x41, y29.2.2)
noncomputable def impl_SubsetAt_L1 (p1 : Int) (p0 : Int) : Nat → Int → (List Int) → Int → Option (List Int)
  | 0, _, _, _ => none
  | k1 + 1, i31, l32, i37 =>
    if decide ((l32.length : Int) < p1) then (impl_Binomial (IntKind.i64.wrap ((IntKind.i64.wrap (p0 - i37)) - 1)) (IntKind.i64.wrap ((IntKind.i64.wrap (p1 - (l32.length : Int))) - 1))).bind fun y54 => if decide (i31 < y54) then (app l32 ([i37] : List Int)).bind fun l57 => (impl_SubsetAt_L1 p1 p0 k1) i31 l57 (IntKind.i64.wrap (i37 + 1)) else (impl_SubsetAt_L1 p1 p0 k1) (IntKind.i64.wrap (i31 - y54)) l32 (IntKind.i64.wrap (i37 + 1)) else some l32
noncomputable def impl_SubsetAt (p0 : Int) (p1 : Int) (p2 : Int) : Option (List Int) :=
  (impl_Binomial p0 p1).bind fun y10 => (impl_within p2 0 (IntKind.i64.wrap (y10 - 1))).bind fun y12 => if (!y12) then some ([] : List Int) else impl_SubsetAt_L1 p1 p0 Fuel p2 ([] : List Int) 0
noncomputable def impl_TakeSubset_J1 (p1 : Int) (p2 : Int) (i58 : Int) (q59 : Bool) (l61 : List Int) (i65 : Int) : Option (Timpl_Tape × (List Int) × Bool) :=
  if (!q59) then some ((Timpl_Tape.mk l61 i65), ([] : List Int), false) else (impl_SubsetAt p1 p2 i58).bind fun y75 => some ((Timpl_Tape.mk l61 i65), y75, true)
noncomputable def impl_TakeSubset (p0 : Timpl_Tape) (p1 : Int) (p2 : Int) : Option (Timpl_Tape × (List Int) × Bool) :=
  (impl_Binomial p1 p2).bind fun y96 => (impl_TakeBelow p0 y96).bind fun y98 => impl_TakeSubset_J1 p1 p2 y98.2.1 y98.2.2 y98.1.Bytes_ y98.1.At_
noncomputable def impl_TreeNew (p0 : Timpl_Schema) (p1 : List Int) : Option (Timpl_Tree) :=
  (impl_AttrsOk p0 p1).bind fun y20 => if (!y20) then some (Timpl_Tree.mk ([] : List Timpl_Node) 0) else (impl_StatsNew p0).bind fun y22 => (lib_slices_Clone___int_int_ p1).bind fun y35 => some (Timpl_Tree.mk [(Timpl_Node.mk true (Timpl_Fork.mk 0 0) ([] : List Int) 0 y22 0 y35 0 (-1) 0)] 0)
noncomputable def impl_freshTree (p0 : Timpl_Conf) (p1 : Timpl_Tape) : Option (Timpl_Tree × Timpl_Tape × Bool) :=
  (impl_TakeSubset p1 (p0.Schema_.Attrs_.length : Int) p0.Pick_).bind fun y42 => if (!y42.2.2) then (impl_cloneTape p1).bind fun y56 => some ((Timpl_Tree.mk ([] : List Timpl_Node) 0), y56, false) else (impl_TreeNew p0.Schema_ y42.2.1).bind fun y74 => some (y74, y42.1, true)
noncomputable def impl_MemberNew (p0 : Timpl_Conf) (p1 : Timpl_Tape) : Option (Timpl_Member × Timpl_Tape × Bool) :=
  (impl_ConfOk p0).bind fun y42 => if (!y42) then (impl_cloneTape p1).bind fun y44 => some ((Timpl_Member.mk (Timpl_Tree.mk ([] : List Timpl_Node) 0) false (Timpl_Tree.mk ([] : List Timpl_Node) 0) (Timpl_Det.mk (Timpl_Window.mk ([] : List (List Int))) (Timpl_Window.mk ([] : List (List Int))))), y44, false) else (impl_freshTree p0 p1).bind fun y53 => some ((Timpl_Member.mk y53.1 false (Timpl_Tree.mk ([] : List Timpl_Node) 0) (Timpl_Det.mk (Timpl_Window.mk ([] : List (List Int))) (Timpl_Window.mk ([] : List (List Int))))), y53.2.1, y53.2.2)
noncomputable def impl_ForestNew_L1 (p0 : Timpl_Conf) (p1 : Timpl_Tape) : Nat → Int → (List Timpl_Member) → (List Int) → Int → Option (Timpl_Forest × Timpl_Tape × Bool)
  | 0, _, _, _, _ => none
  | k1 + 1, i119, l120, l124, i128 =>
    if decide (i119 < p0.Members_) then (impl_MemberNew p0 (Timpl_Tape.mk l124 i128)).bind fun y182 => if (!y182.2.2) then (impl_cloneTape p1).bind fun y209 => some ((Timpl_Forest.mk ([] : List Timpl_Member)), y209, false) else (app l120 [y182.1]).bind fun l220 => (impl_ForestNew_L1 p0 p1 k1) (IntKind.i64.wrap (i119 + 1)) l220 y182.2.1.Bytes_ y182.2.1.At_ else some ((Timpl_Forest.mk l120), (Timpl_Tape.mk l124 i128), true)
noncomputable def impl_ForestNew (p0 : Timpl_Conf) (p1 : Timpl_Tape) : Option (Timpl_Forest × Timpl_Tape × Bool) :=
  (impl_ConfOk p0).bind fun y42 => if (!y42) then (impl_cloneTape p1).bind fun y44 => some ((Timpl_Forest.mk ([] : List Timpl_Member)), y44, false) else (impl_cloneTape p1).bind fun y54 => impl_ForestNew_L1 p0 p1 Fuel 0 ([] : List Timpl_Member) y54.Bytes_ y54.At_
noncomputable def lib_slices_Clone___string_string_ (p0 : List (List UInt8)) : Option (List (List UInt8)) :=
  (app ([] : List (List UInt8)) p0).bind fun l11 => some l11
noncomputable def impl_cloneSchema_L1 (p0 : Timpl_Schema) (y20 : List (List UInt8)) : Nat → Int → (List Timpl_Attr) → Option (Timpl_Schema)
  | 0, _, _ => none
  | k1 + 1, i99, l100 =>
    if decide (i99 < (p0.Attrs_.length : Int)) then (idx p0.Attrs_ i99).bind fun e171 => (lib_slices_Clone___int_int_ e171.Cuts_).bind fun y208 => (lib_slices_Clone___string_string_ e171.Values_).bind fun y217 => (app l100 [(Timpl_Attr.mk e171.Name_ y208 y217)]).bind fun l228 => (impl_cloneSchema_L1 p0 y20 k1) (IntKind.i64.wrap (i99 + 1)) l228 else some (Timpl_Schema.mk l100 y20)
noncomputable def impl_cloneSchema (p0 : Timpl_Schema) : Option (Timpl_Schema) :=
  (lib_slices_Clone___string_string_ p0.Classes_).bind fun y20 => impl_cloneSchema_L1 p0 y20 Fuel 0 ([] : List Timpl_Attr)
noncomputable def impl_cloneConf (p0 : Timpl_Conf) : Option (Timpl_Conf) :=
  (impl_cloneSchema p0.Schema_).bind fun y34 => some ({ p0 with Schema_ := y34 })
noncomputable def impl_ScoreNew_L1 (p0 : Int) : Nat → Int → (List (List Int)) → Option (Timpl_Score)
  | 0, _, _ => none
  | k1 + 1, i46, l47 =>
    if decide (i46 < p0) then (impl_zeros p0).bind fun y91 => (app l47 [y91]).bind fun l101 => (impl_ScoreNew_L1 p0 k1) (IntKind.i64.wrap (i46 + 1)) l101 else some (Timpl_Score.mk l47 ([] : List Timpl_Pair))
noncomputable def impl_ScoreNew (p0 : Int) : Option (Timpl_Score) :=
  (impl_within p0 2 3).bind fun y11 => if (!y11) then some (Timpl_Score.mk ([] : List (List Int)) ([] : List Timpl_Pair)) else impl_ScoreNew_L1 p0 Fuel 0 ([] : List (List Int))
noncomputable def impl_StateNew (p0 : Timpl_Conf) (p1 : List Int) : Option (Timpl_State × Bool) :=
  (impl_TapeNew p1).bind fun y34 => (impl_ForestNew p0 y34.1).bind fun y44 => if ((!y34.2) || (!y44.2.2)) then some ((Timpl_State.mk (Timpl_Conf.mk (Timpl_Schema.mk ([] : List Timpl_Attr) ([] : List (List UInt8))) (Timpl_Rule.mk 0 0 0 0 0 0 false) 0 0 0 0 0) (Timpl_Forest.mk ([] : List Timpl_Member)) (Timpl_Score.mk ([] : List (List Int)) ([] : List Timpl_Pair))), false) else (impl_cloneConf p0).bind fun y87 => (impl_ScoreNew (p0.Schema_.Classes_.length : Int)).bind fun y100 => some ((Timpl_State.mk y87 y44.1 y100), true)
noncomputable def laws_eqByteS_L1 (p0 : List Int) (p1 : List Int) : Nat → Int → Option (Bool)
  | 0, _ => none
  | k1 + 1, i15 =>
    if decide (i15 < (p0.length : Int)) then (idx p0 i15).bind fun e21 => (idx p1 i15).bind fun e23 => if (e21 != e23) then some false else (laws_eqByteS_L1 p0 p1 k1) (IntKind.i64.wrap (i15 + 1)) else some true
noncomputable def laws_eqByteS (p0 : List Int) (p1 : List Int) : Option (Bool) :=
  if ((p0.length : Int) != (p1.length : Int)) then some false else laws_eqByteS_L1 p0 p1 Fuel 0
noncomputable def laws_markConf (p0 : Timpl_Conf) (p1 : Int) : Option (Int × Timpl_Conf) :=
  (laws_markSchema p0.Schema_ p1).bind fun y11 => some (y11.1, ({ p0 with Schema_ := y11.2 }))
noncomputable def laws_markByteS_L1 (p0 : List Int) : Nat → (List Int) → Int → Int → Option (Int × (List Int))
  | 0, _, _, _ => none
  | k1 + 1, l15, i17, i18 =>
    if decide (i18 < (p0.length : Int)) then (idx l15 i18).bind fun _ => (laws_markByteS_L1 p0 k1) (l15.set i18.toNat (IntKind.u8.wrap i17)) (IntKind.i64.wrap (i17 + 1)) (IntKind.i64.wrap (i18 + 1)) else some (i17, l15)
noncomputable def laws_markByteS (p0 : List Int) (p1 : Int) : Option (Int × (List Int)) :=
  laws_markByteS_L1 p0 Fuel p0 p1 0
noncomputable def laws_markMemberS_L1 (p0 : List Timpl_Member) : Nat → (List Timpl_Member) → Int → Int → Option (Int × (List Timpl_Member))
  | 0, _, _, _ => none
  | k1 + 1, l62, i65, i66 =>
    if decide (i66 < (p0.length : Int)) then (idx l62 i66).bind fun e119 => (laws_markNodeS e119.Tree_.Nodes_ i65).bind fun y141 => (laws_markNodeS e119.Young_.Nodes_ (IntKind.i64.wrap ((IntKind.i64.wrap (y141.1 + 1)) + 1))).bind fun y147 => (laws_markIntSS e119.Det_.Warn_.Rows_ (IntKind.i64.wrap (y147.1 + 1))).bind fun y153 => (laws_markIntSS e119.Det_.Drift_.Rows_ y153.1).bind fun y159 => (laws_markMemberS_L1 p0 k1) (l62.set i66.toNat (Timpl_Member.mk (Timpl_Tree.mk y141.2 y141.1) ((Int.tmod (IntKind.i64.wrap (y141.1 + 1)) 3) == 0) (Timpl_Tree.mk y147.2 y147.1) (Timpl_Det.mk (Timpl_Window.mk y153.2) (Timpl_Window.mk y159.2)))) y159.1 (IntKind.i64.wrap (i66 + 1)) else some (i65, l62)
noncomputable def laws_markMemberS (p0 : List Timpl_Member) (p1 : Int) : Option (Int × (List Timpl_Member)) :=
  laws_markMemberS_L1 p0 Fuel p0 p1 0
noncomputable def laws_markForest (p0 : Timpl_Forest) (p1 : Int) : Option (Int × Timpl_Forest) :=
  (laws_markMemberS p0.Members_ p1).bind fun y11 => some (y11.1, (Timpl_Forest.mk y11.2))
noncomputable def laws_markPairS_L1 (p0 : List Timpl_Pair) : Nat → (List Timpl_Pair) → Int → Int → Option (Int × (List Timpl_Pair))
  | 0, _, _, _ => none
  | k1 + 1, l24, i26, i27 =>
    if decide (i27 < (p0.length : Int)) then (idx l24 i27).bind fun _ => (laws_markPairS_L1 p0 k1) (l24.set i27.toNat (Timpl_Pair.mk i26 (IntKind.i64.wrap (i26 + 1)))) (IntKind.i64.wrap ((IntKind.i64.wrap (i26 + 1)) + 1)) (IntKind.i64.wrap (i27 + 1)) else some (i26, l24)
noncomputable def laws_markPairS (p0 : List Timpl_Pair) (p1 : Int) : Option (Int × (List Timpl_Pair)) :=
  laws_markPairS_L1 p0 Fuel p0 p1 0
noncomputable def laws_markScore (p0 : Timpl_Score) (p1 : Int) : Option (Int × Timpl_Score) :=
  (laws_markIntSS p0.Table_ p1).bind fun y11 => (laws_markPairS p0.Last_ y11.1).bind fun y17 => some (y17.1, (Timpl_Score.mk y11.2 y17.2))
noncomputable def laws_markState (p0 : Timpl_State) (p1 : Int) : Option (Int × Timpl_State) :=
  (laws_markConf p0.Conf_ p1).bind fun y11 => (laws_markForest p0.Forest_ y11.1).bind fun y18 => (laws_markScore p0.Score_ y18.1).bind fun y24 => some (y24.1, (Timpl_State.mk ({ p0.Conf_ with Schema_ := y11.2.Schema_ }) y18.2 y24.2))
noncomputable def laws_heldStringS_L1 (p0 : List (List UInt8)) : Nat → Int → Int → Option (Int)
  | 0, _, _ => none
  | k1 + 1, i17, i18 =>
    if decide (i18 < (p0.length : Int)) then (idx p0 i18).bind fun e25 => (laws_markText i17).bind fun y27 => if (!(e25 == y27)) then some (-1) else (laws_heldStringS_L1 p0 k1) (IntKind.i64.wrap (i17 + 1)) (IntKind.i64.wrap (i18 + 1)) else some i17
noncomputable def laws_heldStringS (p0 : List (List UInt8)) (p1 : Int) : Option (Int) :=
  laws_heldStringS_L1 p0 Fuel p1 0
noncomputable def laws_heldAttrS_L1 (p0 : List Timpl_Attr) : Nat → Int → Int → Option (Int)
  | 0, _, _ => none
  | k1 + 1, i67, i68 =>
    if decide (i68 < (p0.length : Int)) then (idx p0 i68).bind fun e125 => (laws_markText i67).bind fun y141 => if (!(e125.Name_ == y141)) then some (-1) else (idx p0 i68).bind fun e143 => (laws_heldIntS e143.Cuts_ (IntKind.i64.wrap (i67 + 1))).bind fun y159 => if decide (y159 < 0) then some (-1) else (idx p0 i68).bind fun e161 => (laws_heldStringS e161.Values_ y159).bind fun y177 => if decide (y177 < 0) then some (-1) else (laws_heldAttrS_L1 p0 k1) y177 (IntKind.i64.wrap (i68 + 1)) else some i67
noncomputable def laws_heldAttrS (p0 : List Timpl_Attr) (p1 : Int) : Option (Int) :=
  laws_heldAttrS_L1 p0 Fuel p1 0
noncomputable def laws_heldSchema (p0 : Timpl_Schema) (p1 : Int) : Option (Int) :=
  (laws_heldAttrS p0.Attrs_ p1).bind fun y19 => if decide (y19 < 0) then some (-1) else (laws_heldStringS p0.Classes_ y19).bind fun y21 => if decide (y21 < 0) then some (-1) else some y21
noncomputable def laws_heldConf (p0 : Timpl_Conf) (p1 : Int) : Option (Int) :=
  (laws_heldSchema p0.Schema_ p1).bind fun y33 => if decide (y33 < 0) then some (-1) else some y33
noncomputable def laws_heldIntSS_L1 (p0 : List (List Int)) : Nat → Int → Int → Option (Int)
  | 0, _, _ => none
  | k1 + 1, i22, i23 =>
    if decide (i23 < (p0.length : Int)) then (idx p0 i23).bind fun e36 => (laws_heldIntS e36 i22).bind fun y44 => if decide (y44 < 0) then some (-1) else (laws_heldIntSS_L1 p0 k1) y44 (IntKind.i64.wrap (i23 + 1)) else some i22
noncomputable def laws_heldIntSS (p0 : List (List Int)) (p1 : Int) : Option (Int) :=
  laws_heldIntSS_L1 p0 Fuel p1 0
noncomputable def laws_heldNodeS_L1 (p0 : List Timpl_Node) : Nat → Int → Int → Option (Int)
  | 0, _, _ => none
  | k1 + 1, i476, i477 =>
    if decide (i477 < (p0.length : Int)) then (idx p0 i477).bind fun e944 => if (e944.Leaf_ != ((Int.tmod i476 3) == 0)) then some (-1) else (idx p0 i477).bind fun e982 => if (e982.Fork_.Attr_ != (IntKind.i64.wrap (i476 + 1))) then some (-1) else (idx p0 i477).bind fun e1020 => if (e1020.Fork_.At_ != (IntKind.i64.wrap ((IntKind.i64.wrap (i476 + 1)) + 1))) then some (-1) else (idx p0 i477).bind fun e1058 => (laws_heldIntS e1058.Kids_ (IntKind.i64.wrap ((IntKind.i64.wrap ((IntKind.i64.wrap (i476 + 1)) + 1)) + 1))).bind fun y1096 => if decide (y1096 < 0) then some (-1) else (idx p0 i477).bind fun e1098 => if (e1098.Miss_ != y1096) then some (-1) else (idx p0 i477).bind fun e1136 => (laws_heldIntS e1136.Stats_.Totals_ (IntKind.i64.wrap (y1096 + 1))).bind fun y1174 => if decide (y1174 < 0) then some (-1) else (idx p0 i477).bind fun e1176 => (laws_heldIntSS e1176.Stats_.Cells_ y1174).bind fun y1214 => if decide (y1214 < 0) then some (-1) else (idx p0 i477).bind fun e1216 => if (e1216.Since_ != y1214) then some (-1) else (idx p0 i477).bind fun e1254 => (laws_heldIntS e1254.Attrs_ (IntKind.i64.wrap (y1214 + 1))).bind fun y1292 => if decide (y1292 < 0) then some (-1) else (idx p0 i477).bind fun e1294 => if (e1294.Depth_ != y1292) then some (-1) else (idx p0 i477).bind fun e1332 => if (e1332.Up_ != (IntKind.i64.wrap (y1292 + 1))) then some (-1) else (idx p0 i477).bind fun e1370 => if (e1370.Born_ != (IntKind.i64.wrap ((IntKind.i64.wrap (y1292 + 1)) + 1))) then some (-1) else (laws_heldNodeS_L1 p0 k1) (IntKind.i64.wrap ((IntKind.i64.wrap ((IntKind.i64.wrap (y1292 + 1)) + 1)) + 1)) (IntKind.i64.wrap (i477 + 1)) else some i476
noncomputable def laws_heldNodeS (p0 : List Timpl_Node) (p1 : Int) : Option (Int) :=
  laws_heldNodeS_L1 p0 Fuel p1 0
noncomputable def laws_heldMemberS_L1 (p0 : List Timpl_Member) : Nat → Int → Int → Option (Int)
  | 0, _, _ => none
  | k1 + 1, i286, i287 =>
    if decide (i287 < (p0.length : Int)) then (idx p0 i287).bind fun e564 => (laws_heldNodeS e564.Tree_.Nodes_ i286).bind fun y602 => if decide (y602 < 0) then some (-1) else (idx p0 i287).bind fun e604 => if (e604.Tree_.Seen_ != y602) then some (-1) else (idx p0 i287).bind fun e642 => if (e642.HasYoung_ != ((Int.tmod (IntKind.i64.wrap (y602 + 1)) 3) == 0)) then some (-1) else (idx p0 i287).bind fun e680 => (laws_heldNodeS e680.Young_.Nodes_ (IntKind.i64.wrap ((IntKind.i64.wrap (y602 + 1)) + 1))).bind fun y718 => if decide (y718 < 0) then some (-1) else (idx p0 i287).bind fun e720 => if (e720.Young_.Seen_ != y718) then some (-1) else (idx p0 i287).bind fun e758 => (laws_heldIntSS e758.Det_.Warn_.Rows_ (IntKind.i64.wrap (y718 + 1))).bind fun y796 => if decide (y796 < 0) then some (-1) else (idx p0 i287).bind fun e798 => (laws_heldIntSS e798.Det_.Drift_.Rows_ y796).bind fun y836 => if decide (y836 < 0) then some (-1) else (laws_heldMemberS_L1 p0 k1) y836 (IntKind.i64.wrap (i287 + 1)) else some i286
noncomputable def laws_heldMemberS (p0 : List Timpl_Member) (p1 : Int) : Option (Int) :=
  laws_heldMemberS_L1 p0 Fuel p1 0
noncomputable def laws_heldForest (p0 : Timpl_Forest) (p1 : Int) : Option (Int) :=
  (laws_heldMemberS p0.Members_ p1).bind fun y15 => if decide (y15 < 0) then some (-1) else some y15
noncomputable def laws_heldPairS_L1 (p0 : List Timpl_Pair) : Nat → Int → Int → Option (Int)
  | 0, _, _ => none
  | k1 + 1, i17, i18 =>
    if decide (i18 < (p0.length : Int)) then (idx p0 i18).bind fun e25 => if (e25.Truth_ != i17) then some (-1) else (idx p0 i18).bind fun e27 => if (e27.Said_ != (IntKind.i64.wrap (i17 + 1))) then some (-1) else (laws_heldPairS_L1 p0 k1) (IntKind.i64.wrap ((IntKind.i64.wrap (i17 + 1)) + 1)) (IntKind.i64.wrap (i18 + 1)) else some i17
noncomputable def laws_heldPairS (p0 : List Timpl_Pair) (p1 : Int) : Option (Int) :=
  laws_heldPairS_L1 p0 Fuel p1 0
noncomputable def laws_heldScore (p0 : Timpl_Score) (p1 : Int) : Option (Int) :=
  (laws_heldIntSS p0.Table_ p1).bind fun y19 => if decide (y19 < 0) then some (-1) else (laws_heldPairS p0.Last_ y19).bind fun y21 => if decide (y21 < 0) then some (-1) else some y21
noncomputable def laws_heldState (p0 : Timpl_State) (p1 : Int) : Option (Int) :=
  (laws_heldConf p0.Conf_ p1).bind fun y51 => if decide (y51 < 0) then some (-1) else (laws_heldForest p0.Forest_ y51).bind fun y53 => if decide (y53 < 0) then some (-1) else (laws_heldScore p0.Score_ y53).bind fun y55 => if decide (y55 < 0) then some (-1) else some y55
noncomputable def laws_FnExactStateNew (p0 : Tlaws_Conf) (p1 : List Int) : Option (Bool) :=
  if decide ((p1.length : Int) > 1048576) then some true else (laws_szConf p0 1048576).bind fun y33 => if decide (y33 < 0) then some true else (laws_toConf p0).bind fun y35 => (laws_toByteS p1).bind fun y48 => (spec_StateNew y35 y48).bind fun y57 => (laws_toConf p0).bind fun y83 => (laws_toByteS p1).bind fun y97 => (impl_StateNew y83 y97).bind fun y106 => (laws_eqState y106.1 y57.1).bind fun y132 => if ((!y132) || (y106.2 != y57.2)) then some false else (laws_toConf p0).bind fun y149 => (laws_eqConf y83 y149).bind fun y162 => if (!y162) then some false else (laws_toByteS p1).bind fun y164 => (laws_eqByteS y97 y164).bind fun y173 => if (!y173) then some false else (laws_markConf y83 1).bind fun y175 => (laws_markByteS y97 y175.1).bind fun y182 => (if decide (y182.1 < 0) then some true else (laws_eqState y106.1 y57.1).bind fun y189 => some (!y189)).bind fun u188 => if (u188 || (y106.2 != y57.2)) then some false else (laws_markState y106.1 1).bind fun y195 => (laws_heldState ({ y195.2 with Conf_ := ({ y106.1.Conf_ with Schema_ := y195.2.Conf_.Schema_ }) }) 1).bind fun y205 => if decide (y205 < 0) then some false else if (y205 != y195.1) then some false else (laws_toConf p0).bind fun y207 => (laws_toByteS p1).bind fun y220 => (impl_StateNew y207 y220).bind fun y229 => (laws_eqState y229.1 y57.1).bind fun y255 => if ((!y255) || (y229.2 != y57.2)) then some false else (laws_heldState ({ y195.2 with Conf_ := ({ y106.1.Conf_ with Schema_ := y195.2.Conf_.Schema_ }) }) 1).bind fun y259 => if decide (y259 < 0) then some false else if (y259 != y195.1) then some false else some true
end Go.Vk
