/- The functions of the code, as functions of data. Printed by program. -/
import Derived.Test.YtddoligbabahbaaGreatVkMi
namespace Go.Vk
structure Tlaws_Attr where
  Name_ : List UInt8
  Cuts_ : List Int
  Values_ : List (List UInt8)
  deriving DecidableEq, Inhabited
structure Tlaws_Schema where
  Attrs_ : List Tlaws_Attr
  Classes_ : List (List UInt8)
  deriving DecidableEq, Inhabited
structure Tlaws_Stats where
  Totals_ : List Int
  Cells_ : List (List Int)
  deriving DecidableEq, Inhabited
structure Tlaws_Fork where
  Attr_ : Int
  At_ : Int
  deriving DecidableEq, Inhabited
structure Tlaws_Node where
  Leaf_ : Bool
  Fork_ : Tlaws_Fork
  Kids_ : List Int
  Miss_ : Int
  Stats_ : Tlaws_Stats
  Since_ : Int
  Attrs_ : List Int
  Depth_ : Int
  Up_ : Int
  Born_ : Int
  deriving DecidableEq, Inhabited
structure Tlaws_Tree where
  Nodes_ : List Tlaws_Node
  Seen_ : Int
  deriving DecidableEq, Inhabited
structure Timpl_Attr where
  Name_ : List UInt8
  Cuts_ : List Int
  Values_ : List (List UInt8)
  deriving DecidableEq, Inhabited
structure Timpl_Schema where
  Attrs_ : List Timpl_Attr
  Classes_ : List (List UInt8)
  deriving DecidableEq, Inhabited
structure Timpl_Rule where
  Sure_ : Int
  Tie_ : Int
  Grace_ : Int
  Depth_ : Int
  Nodes_ : Int
  Units_ : Int
  Two_ : Bool
  deriving DecidableEq, Inhabited
structure Tlaws_Rule where
  Sure_ : Int
  Tie_ : Int
  Grace_ : Int
  Depth_ : Int
  Nodes_ : Int
  Units_ : Int
  Two_ : Bool
  deriving DecidableEq, Inhabited
structure Timpl_Fork where
  Attr_ : Int
  At_ : Int
  deriving DecidableEq, Inhabited
structure Timpl_Stats where
  Totals_ : List Int
  Cells_ : List (List Int)
  deriving DecidableEq, Inhabited
structure Timpl_Node where
  Leaf_ : Bool
  Fork_ : Timpl_Fork
  Kids_ : List Int
  Miss_ : Int
  Stats_ : Timpl_Stats
  Since_ : Int
  Attrs_ : List Int
  Depth_ : Int
  Up_ : Int
  Born_ : Int
  deriving DecidableEq, Inhabited
structure Timpl_Tree where
  Nodes_ : List Timpl_Node
  Seen_ : Int
  deriving DecidableEq, Inhabited
structure Tlaws_Conf where
  Schema_ : Tlaws_Schema
  Rule_ : Tlaws_Rule
  Members_ : Int
  Pick_ : Int
  Lambda_ : Int
  Warn_ : Int
  Drift_ : Int
  deriving DecidableEq, Inhabited
structure Tlaws_Window where
  Rows_ : List (List Int)
  deriving DecidableEq, Inhabited
structure Tlaws_Det where
  Warn_ : Tlaws_Window
  Drift_ : Tlaws_Window
  deriving DecidableEq, Inhabited
structure Tlaws_Member where
  Tree_ : Tlaws_Tree
  HasYoung_ : Bool
  Young_ : Tlaws_Tree
  Det_ : Tlaws_Det
  deriving DecidableEq, Inhabited
structure Tlaws_Forest where
  Members_ : List Tlaws_Member
  deriving DecidableEq, Inhabited
structure Tlaws_Pair where
  Truth_ : Int
  Said_ : Int
  deriving DecidableEq, Inhabited
structure Tlaws_Score where
  Table_ : List (List Int)
  Last_ : List Tlaws_Pair
  deriving DecidableEq, Inhabited
structure Tlaws_State where
  Conf_ : Tlaws_Conf
  Forest_ : Tlaws_Forest
  Score_ : Tlaws_Score
  deriving DecidableEq, Inhabited
structure Timpl_Conf where
  Schema_ : Timpl_Schema
  Rule_ : Timpl_Rule
  Members_ : Int
  Pick_ : Int
  Lambda_ : Int
  Warn_ : Int
  Drift_ : Int
  deriving DecidableEq, Inhabited
structure Timpl_Window where
  Rows_ : List (List Int)
  deriving DecidableEq, Inhabited
structure Timpl_Det where
  Warn_ : Timpl_Window
  Drift_ : Timpl_Window
  deriving DecidableEq, Inhabited
structure Timpl_Member where
  Tree_ : Timpl_Tree
  HasYoung_ : Bool
  Young_ : Timpl_Tree
  Det_ : Timpl_Det
  deriving DecidableEq, Inhabited
structure Timpl_Forest where
  Members_ : List Timpl_Member
  deriving DecidableEq, Inhabited
structure Timpl_Pair where
  Truth_ : Int
  Said_ : Int
  deriving DecidableEq, Inhabited
structure Timpl_Score where
  Table_ : List (List Int)
  Last_ : List Timpl_Pair
  deriving DecidableEq, Inhabited
structure Timpl_State where
  Conf_ : Timpl_Conf
  Forest_ : Timpl_Forest
  Score_ : Timpl_Score
  deriving DecidableEq, Inhabited
noncomputable def laws_szIntS (p0 : List Int) (p1 : Int) : Option (Int) :=
  if decide ((IntKind.i64.wrap (p1 - (p0.length : Int))) < 0) then some (-1) else some (IntKind.i64.wrap (p1 - (p0.length : Int)))
noncomputable def laws_szStringS_L1 (p0 : List (List UInt8)) : Nat → Int → Int → Option (Int)
  | 0, _, _ => none
  | k1 + 1, i14, i15 =>
    if decide (i15 < (p0.length : Int)) then (idx p0 i15).bind fun e20 => if decide ((IntKind.i64.wrap (i14 - (e20.length : Int))) < 0) then some (-1) else (laws_szStringS_L1 p0 k1) (IntKind.i64.wrap (i14 - (e20.length : Int))) (IntKind.i64.wrap (i15 + 1)) else some i14
noncomputable def laws_szStringS (p0 : List (List UInt8)) (p1 : Int) : Option (Int) :=
  if decide ((IntKind.i64.wrap (p1 - (p0.length : Int))) < 0) then some (-1) else laws_szStringS_L1 p0 Fuel (IntKind.i64.wrap (p1 - (p0.length : Int))) 0
noncomputable def laws_szAttr (p0 : Tlaws_Attr) (p1 : Int) : Option (Int) :=
  if decide ((IntKind.i64.wrap (p1 - (p0.Name_.length : Int))) < 0) then some (-1) else (laws_szIntS p0.Cuts_ (IntKind.i64.wrap (p1 - (p0.Name_.length : Int)))).bind fun y21 => if decide (y21 < 0) then some (-1) else (laws_szStringS p0.Values_ y21).bind fun y23 => if decide (y23 < 0) then some (-1) else some y23
noncomputable def laws_szAttrS_L1 (p0 : List Tlaws_Attr) : Nat → Int → Int → Option (Int)
  | 0, _, _ => none
  | k1 + 1, i30, i31 =>
    if decide (i31 < (p0.length : Int)) then (idx p0 i31).bind fun e52 => (laws_szAttr e52 i30).bind fun y68 => if decide (y68 < 0) then some (-1) else (laws_szAttrS_L1 p0 k1) y68 (IntKind.i64.wrap (i31 + 1)) else some i30
noncomputable def laws_szAttrS (p0 : List Tlaws_Attr) (p1 : Int) : Option (Int) :=
  if decide ((IntKind.i64.wrap (p1 - (p0.length : Int))) < 0) then some (-1) else laws_szAttrS_L1 p0 Fuel (IntKind.i64.wrap (p1 - (p0.length : Int))) 0
noncomputable def laws_szSchema (p0 : Tlaws_Schema) (p1 : Int) : Option (Int) :=
  (laws_szAttrS p0.Attrs_ p1).bind fun y19 => if decide (y19 < 0) then some (-1) else (laws_szStringS p0.Classes_ y19).bind fun y21 => if decide (y21 < 0) then some (-1) else some y21
noncomputable def laws_szIntSS_L1 (p0 : List (List Int)) : Nat → Int → Int → Option (Int)
  | 0, _, _ => none
  | k1 + 1, i22, i23 =>
    if decide (i23 < (p0.length : Int)) then (idx p0 i23).bind fun e36 => (laws_szIntS e36 i22).bind fun y44 => if decide (y44 < 0) then some (-1) else (laws_szIntSS_L1 p0 k1) y44 (IntKind.i64.wrap (i23 + 1)) else some i22
noncomputable def laws_szIntSS (p0 : List (List Int)) (p1 : Int) : Option (Int) :=
  if decide ((IntKind.i64.wrap (p1 - (p0.length : Int))) < 0) then some (-1) else laws_szIntSS_L1 p0 Fuel (IntKind.i64.wrap (p1 - (p0.length : Int))) 0
noncomputable def laws_szStats (p0 : Tlaws_Stats) (p1 : Int) : Option (Int) :=
  (laws_szIntS p0.Totals_ p1).bind fun y19 => if decide (y19 < 0) then some (-1) else (laws_szIntSS p0.Cells_ y19).bind fun y21 => if decide (y21 < 0) then some (-1) else some y21
noncomputable def laws_szNode (p0 : Tlaws_Node) (p1 : Int) : Option (Int) :=
  (laws_szIntS p0.Kids_ p1).bind fun y43 => if decide (y43 < 0) then some (-1) else (laws_szStats p0.Stats_ y43).bind fun y45 => if decide (y45 < 0) then some (-1) else (laws_szIntS p0.Attrs_ y45).bind fun y47 => if decide (y47 < 0) then some (-1) else some y47
noncomputable def laws_szNodeS_L1 (p0 : List Tlaws_Node) : Nat → Int → Int → Option (Int)
  | 0, _, _ => none
  | k1 + 1, i52, i53 =>
    if decide (i53 < (p0.length : Int)) then (idx p0 i53).bind fun e96 => (laws_szNode e96 i52).bind fun y134 => if decide (y134 < 0) then some (-1) else (laws_szNodeS_L1 p0 k1) y134 (IntKind.i64.wrap (i53 + 1)) else some i52
noncomputable def laws_szNodeS (p0 : List Tlaws_Node) (p1 : Int) : Option (Int) :=
  if decide ((IntKind.i64.wrap (p1 - (p0.length : Int))) < 0) then some (-1) else laws_szNodeS_L1 p0 Fuel (IntKind.i64.wrap (p1 - (p0.length : Int))) 0
noncomputable def laws_szTree (p0 : Tlaws_Tree) (p1 : Int) : Option (Int) :=
  (laws_szNodeS p0.Nodes_ p1).bind fun y17 => if decide (y17 < 0) then some (-1) else some y17
noncomputable def laws_toIntS_L1 (p0 : List Int) : Nat → (List Int) → Int → Option (List Int)
  | 0, _, _ => none
  | k1 + 1, l19, i20 =>
    if decide (i20 < (p0.length : Int)) then (idx p0 i20).bind fun e27 => (idx l19 i20).bind fun _ => (laws_toIntS_L1 p0 k1) (l19.set i20.toNat e27) (IntKind.i64.wrap (i20 + 1)) else some l19
noncomputable def laws_toIntS (p0 : List Int) : Option (List Int) :=
  (mk (0 : Int) (p0.length : Int)).bind fun l10 => laws_toIntS_L1 p0 Fuel l10 0
noncomputable def laws_toStringS_L1 (p0 : List (List UInt8)) : Nat → (List (List UInt8)) → Int → Option (List (List UInt8))
  | 0, _, _ => none
  | k1 + 1, l19, i20 =>
    if decide (i20 < (p0.length : Int)) then (idx p0 i20).bind fun e27 => (idx l19 i20).bind fun _ => (laws_toStringS_L1 p0 k1) (l19.set i20.toNat e27) (IntKind.i64.wrap (i20 + 1)) else some l19
noncomputable def laws_toStringS (p0 : List (List UInt8)) : Option (List (List UInt8)) :=
  (mk ([] : List UInt8) (p0.length : Int)).bind fun l10 => laws_toStringS_L1 p0 Fuel l10 0
noncomputable def laws_toAttr (p0 : Tlaws_Attr) : Option (Timpl_Attr) :=
  (laws_toIntS p0.Cuts_).bind fun y23 => (laws_toStringS p0.Values_).bind fun y32 => some (Timpl_Attr.mk p0.Name_ y23 y32)
noncomputable def laws_toAttrS_L1 (p0 : List Tlaws_Attr) : Nat → (List Timpl_Attr) → Int → Option (List Timpl_Attr)
  | 0, _, _ => none
  | k1 + 1, l63, i65 =>
    if decide (i65 < (p0.length : Int)) then (idx p0 i65).bind fun e116 => (laws_toAttr e116).bind fun y132 => (idx l63 i65).bind fun _ => (laws_toAttrS_L1 p0 k1) (l63.set i65.toNat y132) (IntKind.i64.wrap (i65 + 1)) else some l63
noncomputable def laws_toAttrS (p0 : List Tlaws_Attr) : Option (List Timpl_Attr) :=
  (mk ((Timpl_Attr.mk [] [] []) : Timpl_Attr) (p0.length : Int)).bind fun l10 => laws_toAttrS_L1 p0 Fuel l10 0
noncomputable def laws_toSchema (p0 : Tlaws_Schema) : Option (Timpl_Schema) :=
  (laws_toAttrS p0.Attrs_).bind fun y21 => (laws_toStringS p0.Classes_).bind fun y30 => some (Timpl_Schema.mk y21 y30)
noncomputable def laws_toRule (p0 : Tlaws_Rule) : Option (Timpl_Rule) :=
  some (Timpl_Rule.mk p0.Sure_ p0.Tie_ p0.Grace_ p0.Depth_ p0.Nodes_ p0.Units_ p0.Two_)
noncomputable def laws_toFork (p0 : Tlaws_Fork) : Option (Timpl_Fork) :=
  some (Timpl_Fork.mk p0.Attr_ p0.At_)
noncomputable def laws_toIntSS_L1 (p0 : List (List Int)) : Nat → (List (List Int)) → Int → Option (List (List Int))
  | 0, _, _ => none
  | k1 + 1, l46, i48 =>
    if decide (i48 < (p0.length : Int)) then (idx p0 i48).bind fun e82 => (laws_toIntS e82).bind fun y90 => (idx l46 i48).bind fun _ => (laws_toIntSS_L1 p0 k1) (l46.set i48.toNat y90) (IntKind.i64.wrap (i48 + 1)) else some l46
noncomputable def laws_toIntSS (p0 : List (List Int)) : Option (List (List Int)) :=
  (mk ([] : List Int) (p0.length : Int)).bind fun l10 => laws_toIntSS_L1 p0 Fuel l10 0
noncomputable def laws_toStats (p0 : Tlaws_Stats) : Option (Timpl_Stats) :=
  (laws_toIntS p0.Totals_).bind fun y21 => (laws_toIntSS p0.Cells_).bind fun y30 => some (Timpl_Stats.mk y21 y30)
noncomputable def laws_toNode (p0 : Tlaws_Node) : Option (Timpl_Node) :=
  (laws_toFork p0.Fork_).bind fun y45 => (laws_toIntS p0.Kids_).bind fun y47 => (laws_toStats p0.Stats_).bind fun y56 => (laws_toIntS p0.Attrs_).bind fun y69 => some (Timpl_Node.mk p0.Leaf_ y45 y47 p0.Miss_ y56 p0.Since_ y69 p0.Depth_ p0.Up_ p0.Born_)
noncomputable def laws_toNodeS_L1 (p0 : List Tlaws_Node) : Nat → (List Timpl_Node) → Int → Option (List Timpl_Node)
  | 0, _, _ => none
  | k1 + 1, l99, i101 =>
    if decide (i101 < (p0.length : Int)) then (idx p0 i101).bind fun e188 => (laws_toNode e188).bind fun y226 => (idx l99 i101).bind fun _ => (laws_toNodeS_L1 p0 k1) (l99.set i101.toNat y226) (IntKind.i64.wrap (i101 + 1)) else some l99
noncomputable def laws_toNodeS (p0 : List Tlaws_Node) : Option (List Timpl_Node) :=
  (mk ((Timpl_Node.mk false (Timpl_Fork.mk 0 0) [] 0 (Timpl_Stats.mk [] []) 0 [] 0 0 0) : Timpl_Node) (p0.length : Int)).bind fun l10 => laws_toNodeS_L1 p0 Fuel l10 0
noncomputable def laws_toTree (p0 : Tlaws_Tree) : Option (Timpl_Tree) :=
  (laws_toNodeS p0.Nodes_).bind fun y19 => some (Timpl_Tree.mk y19 p0.Seen_)
noncomputable def spec_l1In (p0 : Int) (p1 : Int) (p2 : Int) : Option (Bool) :=
  some ((decide (p0 ≥ p1)) && (decide (p0 ≤ p2)))
noncomputable def spec_WordOk_L1 (p0 : List UInt8) : Nat → Int → Option (Bool)
  | 0, _ => none
  | k1 + 1, i20 =>
    if decide (i20 < (p0.length : Int)) then (idx p0 i20).bind fun b29 => (if decide ((b29.toNat : Int) < 97) then some true else (idx p0 i20).bind fun b32 => some (decide ((b32.toNat : Int) > 122))).bind fun u31 => if u31 then some false else (spec_WordOk_L1 p0 k1) (IntKind.i64.wrap (i20 + 1)) else some true
noncomputable def spec_WordOk (p0 : List UInt8) : Option (Bool) :=
  (spec_l1In (p0.length : Int) 1 8).bind fun y10 => if (!y10) then some false else spec_WordOk_L1 p0 Fuel 0
noncomputable def spec_l5Words_L2 (i30 : Int) (p0 : List (List UInt8)) (R1 : Int → Option (Bool)) : Nat → Int → Option (Bool)
  | 0, _ => none
  | k2 + 1, i60 =>
    if decide (i60 < i30) then (idx p0 i30).bind fun e66 => (idx p0 i60).bind fun e68 => if (e66 == e68) then some false else (spec_l5Words_L2 i30 p0 R1 k2) (IntKind.i64.wrap (i60 + 1)) else R1 (IntKind.i64.wrap (i30 + 1))
noncomputable def spec_l5Words_L1 (p0 : List (List UInt8)) : Nat → Int → Option (Bool)
  | 0, _ => none
  | k1 + 1, i30 =>
    if decide (i30 < (p0.length : Int)) then (idx p0 i30).bind fun e51 => (spec_WordOk e51).bind fun y53 => if (!y53) then some false else spec_l5Words_L2 i30 p0 (spec_l5Words_L1 p0 k1) Fuel 0 else some true
noncomputable def spec_l5Words (p0 : List (List UInt8)) : Option (Bool) :=
  spec_l5Words_L1 p0 Fuel 0
noncomputable def spec_AttrOk_L1 (p0 : Timpl_Attr) : Nat → Int → Option (Bool)
  | 0, _ => none
  | k1 + 1, i47 =>
    if decide (i47 < (p0.Cuts_.length : Int)) then (idx p0.Cuts_ i47).bind fun e63 => (spec_l1In e63 (-9999) 9998).bind fun y65 => (if (!y65) then some true else (if decide (i47 > 0) then (idx p0.Cuts_ i47).bind fun e69 => (idx p0.Cuts_ (IntKind.i64.wrap (i47 - 1))).bind fun e71 => some (decide (e69 ≤ e71)) else some false).bind fun u68 => some u68).bind fun u67 => if u67 then some false else (spec_AttrOk_L1 p0 k1) (IntKind.i64.wrap (i47 + 1)) else some true
noncomputable def spec_AttrOk (p0 : Timpl_Attr) : Option (Bool) :=
  (spec_WordOk p0.Name_).bind fun y21 => if (!y21) then some false else if ((p0.Cuts_.length : Int) == 0) then (spec_l1In (p0.Values_.length : Int) 2 4).bind fun y23 => (if y23 then (spec_l5Words p0.Values_).bind fun y26 => some y26 else some false).bind fun u25 => some u25 else if ((decide ((p0.Values_.length : Int) > 0)) || (decide ((p0.Cuts_.length : Int) > 3))) then some false else spec_AttrOk_L1 p0 Fuel 0
noncomputable def spec_SchemaOk_L2 (i149 : Int) (p0 : Timpl_Schema) (R1 : Int → Option (Bool)) : Nat → Int → Option (Bool)
  | 0, _ => none
  | k2 + 1, i319 =>
    if decide (i319 < i149) then (idx p0.Attrs_ i149).bind fun e353 => (idx p0.Attrs_ i319).bind fun e369 => if (e353.Name_ == e369.Name_) then some false else (spec_SchemaOk_L2 i149 p0 R1 k2) (IntKind.i64.wrap (i319 + 1)) else R1 (IntKind.i64.wrap (i149 + 1))
noncomputable def spec_SchemaOk_L1 (p0 : Timpl_Schema) : Nat → Int → Option (Bool)
  | 0, _ => none
  | k1 + 1, i149 =>
    if decide (i149 < (p0.Attrs_.length : Int)) then (idx p0.Attrs_ i149).bind fun e268 => (spec_AttrOk e268).bind fun y284 => if (!y284) then some false else spec_SchemaOk_L2 i149 p0 (spec_SchemaOk_L1 p0 k1) Fuel 0 else some true
noncomputable def spec_SchemaOk (p0 : Timpl_Schema) : Option (Bool) :=
  (spec_l1In (p0.Attrs_.length : Int) 1 5).bind fun y19 => (if (!y19) then some true else (spec_l1In (p0.Classes_.length : Int) 2 3).bind fun y22 => some (!y22)).bind fun u21 => (if u21 then some true else (spec_l5Words p0.Classes_).bind fun y27 => some (!y27)).bind fun u26 => if u26 then some false else spec_SchemaOk_L1 p0 Fuel 0
noncomputable def spec_Bins (p0 : Timpl_Attr) : Option (Int) :=
  (spec_AttrOk p0).bind fun y21 => if (!y21) then some 0 else if decide ((p0.Cuts_.length : Int) > 0) then some (IntKind.i64.wrap ((p0.Cuts_.length : Int) + 1)) else some (p0.Values_.length : Int)
noncomputable def spec_StatsOk_L4 (y397 : Int) (p1 : Timpl_Stats) (i218 : Int) (p0 : Timpl_Schema) (i452 : Int) (R3 : Int → Option (Bool)) : Nat → Int → Int → Option (Bool)
  | 0, _, _ => none
  | k4 + 1, i512, i513 =>
    if decide (i513 < y397) then (idx p1.Cells_ i218).bind fun e528 => (idx e528 (IntKind.i64.wrap ((IntKind.i64.wrap (i513 * (p0.Classes_.length : Int))) + i452))).bind fun e536 => (spec_l1In e536 0 999).bind fun y538 => if (!y538) then some false else (spec_StatsOk_L4 y397 p1 i218 p0 i452 R3 k4) (IntKind.i64.wrap (i512 + e536)) (IntKind.i64.wrap (i513 + 1)) else (idx p1.Totals_ i452).bind fun e540 => if decide (i512 > e540) then some false else R3 (IntKind.i64.wrap (i452 + 1))
noncomputable def spec_StatsOk_L3 (p0 : Timpl_Schema) (y397 : Int) (p1 : Timpl_Stats) (i218 : Int) (R2 : Int → Option (Bool)) : Nat → Int → Option (Bool)
  | 0, _ => none
  | k3 + 1, i452 =>
    if decide (i452 < (p0.Classes_.length : Int)) then spec_StatsOk_L4 y397 p1 i218 p0 i452 (spec_StatsOk_L3 p0 y397 p1 i218 R2 k3) Fuel 0 0 else R2 (IntKind.i64.wrap (i218 + 1))
noncomputable def spec_StatsOk_L2 (p1 : Timpl_Stats) (p0 : Timpl_Schema) : Nat → Int → Option (Bool)
  | 0, _ => none
  | k2 + 1, i218 =>
    if decide (i218 < (p1.Cells_.length : Int)) then (idx p0.Attrs_ i218).bind fun e381 => (spec_Bins e381).bind fun y397 => (idx p1.Cells_ i218).bind fun e399 => if ((e399.length : Int) != (IntKind.i64.wrap (y397 * (p0.Classes_.length : Int)))) then some false else spec_StatsOk_L3 p0 y397 p1 i218 (spec_StatsOk_L2 p1 p0 k2) Fuel 0 else some true
noncomputable def spec_StatsOk_L1 (p1 : Timpl_Stats) (p0 : Timpl_Schema) : Nat → Int → Int → Option (Bool)
  | 0, _, _ => none
  | k1 + 1, i40, i41 =>
    if decide (i41 < (p1.Totals_.length : Int)) then (idx p1.Totals_ i41).bind fun e50 => (spec_l1In e50 0 999).bind fun y52 => if (!y52) then some false else (idx p1.Totals_ i41).bind fun e54 => (spec_StatsOk_L1 p1 p0 k1) (IntKind.i64.wrap (i40 + e54)) (IntKind.i64.wrap (i41 + 1)) else if decide (i40 > 999) then some false else if ((p1.Cells_.length : Int) == 0) then some true else if ((p1.Cells_.length : Int) != (p0.Attrs_.length : Int)) then some false else spec_StatsOk_L2 p1 p0 Fuel 0
noncomputable def spec_StatsOk (p0 : Timpl_Schema) (p1 : Timpl_Stats) : Option (Bool) :=
  (spec_SchemaOk p0).bind fun y28 => if ((!y28) || ((p1.Totals_.length : Int) != (p0.Classes_.length : Int))) then some false else spec_StatsOk_L1 p1 p0 Fuel 0 0
noncomputable def spec_AttrsOk_L1 (p1 : List Int) (p0 : Timpl_Schema) : Nat → Int → Option (Bool)
  | 0, _ => none
  | k1 + 1, i38 =>
    if decide (i38 < (p1.length : Int)) then (idx p1 i38).bind fun e54 => (spec_l1In e54 0 (IntKind.i64.wrap ((p0.Attrs_.length : Int) - 1))).bind fun y56 => (if (!y56) then some true else (if decide (i38 > 0) then (idx p1 i38).bind fun e60 => (idx p1 (IntKind.i64.wrap (i38 - 1))).bind fun e62 => some (decide (e60 ≤ e62)) else some false).bind fun u59 => some u59).bind fun u58 => if u58 then some false else (spec_AttrsOk_L1 p1 p0 k1) (IntKind.i64.wrap (i38 + 1)) else some true
noncomputable def spec_AttrsOk (p0 : Timpl_Schema) (p1 : List Int) : Option (Bool) :=
  (spec_SchemaOk p0).bind fun y19 => if ((!y19) || ((p1.length : Int) == 0)) then some false else spec_AttrsOk_L1 p1 p0 Fuel 0
noncomputable def spec_StatsTotal_L1 (p1 : Timpl_Stats) : Nat → Int → Int → Option (Int)
  | 0, _, _ => none
  | k1 + 1, i35, i36 =>
    if decide (i36 < (p1.Totals_.length : Int)) then (idx p1.Totals_ i36).bind fun e41 => (spec_StatsTotal_L1 p1 k1) (IntKind.i64.wrap (i35 + e41)) (IntKind.i64.wrap (i36 + 1)) else some i35
noncomputable def spec_StatsTotal (p0 : Timpl_Schema) (p1 : Timpl_Stats) : Option (Int) :=
  (spec_StatsOk p0 p1).bind fun y28 => if (!y28) then some 0 else spec_StatsTotal_L1 p1 Fuel 0 0
noncomputable def spec_l19Leaf (p0 : Timpl_Schema) (p1 : Timpl_Node) : Option (Bool) :=
  (if (((!(p1.Fork_.Attr_ == 0 && (p1.Fork_.At_ == 0 && true))) || (decide ((p1.Kids_.length : Int) > 0))) || (p1.Miss_ != 0)) then some true else (spec_StatsOk p0 p1.Stats_).bind fun y57 => some (!y57)).bind fun u56 => (if u56 then some true else (spec_AttrsOk p0 p1.Attrs_).bind fun y62 => some (!y62)).bind fun u61 => if u61 then some false else if ((p1.Stats_.Cells_.length : Int) == 0) then some (p1.Since_ == 0) else (spec_StatsTotal p0 p1.Stats_).bind fun y66 => (spec_l1In p1.Since_ 0 y66).bind fun y68 => some y68
noncomputable def spec_ForkOk (p0 : Timpl_Schema) (p1 : Timpl_Fork) : Option (Bool) :=
  (spec_SchemaOk p0).bind fun y20 => (if (!y20) then some true else (spec_l1In p1.Attr_ 0 (IntKind.i64.wrap ((p0.Attrs_.length : Int) - 1))).bind fun y23 => some (!y23)).bind fun u22 => if u22 then some false else (idx p0.Attrs_ p1.Attr_).bind fun e27 => if decide ((e27.Cuts_.length : Int) > 0) then (idx p0.Attrs_ p1.Attr_).bind fun e43 => (spec_Bins e43).bind fun y59 => (spec_l1In p1.At_ (-1) (IntKind.i64.wrap (y59 - 2))).bind fun y61 => some y61 else (idx p0.Attrs_ p1.Attr_).bind fun e63 => (spec_Bins e63).bind fun y79 => (spec_l1In p1.At_ (-1) (IntKind.i64.wrap (y79 - 1))).bind fun y81 => some y81
noncomputable def spec_Branches (p0 : Timpl_Schema) (p1 : Timpl_Fork) : Option (Int) :=
  (spec_ForkOk p0 p1).bind fun y20 => if (!y20) then some 0 else if (p1.At_ == (-1)) then (idx p0.Attrs_ p1.Attr_).bind fun e22 => (spec_Bins e22).bind fun y38 => some y38 else some 2
noncomputable def spec_l19Split_L1 (e26 : Timpl_Node) (p2 : Int) (p1 : Timpl_Tree) : Nat → Int → Option (Bool)
  | 0, _ => none
  | k1 + 1, i149 =>
    if decide (i149 < (e26.Kids_.length : Int)) then (idx e26.Kids_ i149).bind fun e208 => (spec_l1In e208 (IntKind.i64.wrap (p2 + 1)) (IntKind.i64.wrap ((p1.Nodes_.length : Int) - 1))).bind fun y210 => (if (!y210) then some true else (idx e26.Kids_ i149).bind fun e213 => (idx p1.Nodes_ e213).bind fun e215 => some (e215.Up_ != p2)).bind fun u212 => (if u212 then some true else (if decide (i149 > 0) then (idx e26.Kids_ i149).bind fun e257 => (idx e26.Kids_ (IntKind.i64.wrap (i149 - 1))).bind fun e259 => some (decide (e257 ≤ e259)) else some false).bind fun u256 => some u256).bind fun u255 => if u255 then some false else (spec_l19Split_L1 e26 p2 p1 k1) (IntKind.i64.wrap (i149 + 1)) else some true
noncomputable def spec_l19Split (p0 : Timpl_Schema) (p1 : Timpl_Tree) (p2 : Int) : Option (Bool) :=
  (idx p1.Nodes_ p2).bind fun e26 => (spec_ForkOk p0 e26.Fork_).bind fun y65 => (if (!y65) then some true else (spec_Branches p0 e26.Fork_).bind fun y68 => some ((e26.Kids_.length : Int) != y68)).bind fun u67 => (if u67 then some true else (spec_l1In e26.Miss_ 0 (IntKind.i64.wrap ((e26.Kids_.length : Int) - 1))).bind fun y73 => some (!y73)).bind fun u72 => (if u72 then some true else (spec_StatsOk p0 e26.Stats_).bind fun y78 => some (!y78)).bind fun u77 => (if ((u77 || (decide ((e26.Stats_.Cells_.length : Int) > 0))) || (e26.Since_ != 0)) then some true else (spec_AttrsOk p0 e26.Attrs_).bind fun y87 => some (!y87)).bind fun u86 => if u86 then some false else spec_l19Split_L1 e26 p2 p1 Fuel 0
noncomputable def spec_l19Among_L1 (p0 : List Int) (p1 : Int) : Nat → Int → Option (Bool)
  | 0, _ => none
  | k1 + 1, i13 =>
    if decide (i13 < (p0.length : Int)) then (idx p0 i13).bind fun e18 => if (e18 == p1) then some true else (spec_l19Among_L1 p0 p1 k1) (IntKind.i64.wrap (i13 + 1)) else some false
noncomputable def spec_l19Among (p0 : List Int) (p1 : Int) : Option (Bool) :=
  spec_l19Among_L1 p0 p1 Fuel 0
noncomputable def spec_TreeOk_L1 (p1 : Timpl_Tree) (p0 : Timpl_Schema) : Nat → Int → Option (Bool)
  | 0, _ => none
  | k1 + 1, i152 =>
    if decide (i152 < (p1.Nodes_.length : Int)) then (idx p1.Nodes_ i152).bind fun e267 => (spec_l1In e267.Depth_ 0 6).bind fun y306 => (if (!y306) then some true else (spec_l1In e267.Born_ 0 p1.Seen_).bind fun y309 => some (!y309)).bind fun u308 => if u308 then some false else (if e267.Leaf_ then (spec_l19Leaf p0 ({ e267 with Leaf_ := true })).bind fun y314 => some (!y314) else some false).bind fun u313 => (if u313 then some true else (if (!e267.Leaf_) then (spec_l19Split p0 p1 i152).bind fun y320 => some (!y320) else some false).bind fun u319 => some u319).bind fun u318 => if u318 then some false else if (i152 == 0) then if (((e267.Up_ != (-1)) || (e267.Depth_ != 0)) || (e267.Born_ != 0)) then some false else (spec_TreeOk_L1 p1 p0 k1) (IntKind.i64.wrap (i152 + 1)) else (spec_l1In e267.Up_ 0 (IntKind.i64.wrap (i152 - 1))).bind fun y330 => if (!y330) then some false else (idx p1.Nodes_ e267.Up_).bind fun e332 => (if e332.Leaf_ then some true else (spec_l19Among e332.Kids_ i152).bind fun y372 => some (!y372)).bind fun u371 => if ((u371 || ((IntKind.i64.wrap (e332.Depth_ + 1)) != e267.Depth_)) || (decide (e332.Born_ > e267.Born_))) then some false else (spec_TreeOk_L1 p1 p0 k1) (IntKind.i64.wrap (i152 + 1)) else some true
noncomputable def spec_TreeOk (p0 : Timpl_Schema) (p1 : Timpl_Tree) : Option (Bool) :=
  (spec_SchemaOk p0).bind fun y26 => (if (!y26) then some true else (spec_l1In (p1.Nodes_.length : Int) 1 31).bind fun y29 => some (!y29)).bind fun u28 => (if u28 then some true else (spec_l1In p1.Seen_ 0 99999).bind fun y34 => some (!y34)).bind fun u33 => if u33 then some false else spec_TreeOk_L1 p1 p0 Fuel 0
noncomputable def spec_RuleOk (p0 : Timpl_Rule) : Option (Bool) :=
  (spec_l1In p0.Sure_ 1 9).bind fun y11 => (if y11 then (spec_l1In p0.Tie_ 0 999).bind fun y14 => some y14 else some false).bind fun u13 => (if u13 then (spec_l1In p0.Grace_ 1 200).bind fun y19 => some y19 else some false).bind fun u18 => (if u18 then (spec_l1In p0.Depth_ 0 6).bind fun y24 => some y24 else some false).bind fun u23 => (if u23 then (spec_l1In p0.Nodes_ 1 31).bind fun y29 => some y29 else some false).bind fun u28 => (if u28 then (spec_l1In p0.Units_ 62 2000).bind fun y34 => some y34 else some false).bind fun u33 => some u33
noncomputable def spec_l1Min (p0 : Int) (p1 : Int) : Option (Int) :=
  if decide (p0 < p1) then some p0 else some p1
noncomputable def impl_within (p0 : Int) (p1 : Int) (p2 : Int) : Option (Bool) :=
  some ((decide (p0 ≥ p1)) && (decide (p0 ≤ p2)))
noncomputable def impl_WordOk_L1 (p0 : List UInt8) : Nat → Int → Option (Bool)
  | 0, _ => none
  | k1 + 1, i20 =>
    if decide (i20 < (p0.length : Int)) then (idx p0 i20).bind fun b29 => (if decide ((b29.toNat : Int) < 97) then some true else (idx p0 i20).bind fun b32 => some (decide ((b32.toNat : Int) > 122))).bind fun u31 => if u31 then some false else (impl_WordOk_L1 p0 k1) (IntKind.i64.wrap (i20 + 1)) else some true
noncomputable def impl_WordOk (p0 : List UInt8) : Option (Bool) :=
  (impl_within (p0.length : Int) 1 8).bind fun y10 => if (!y10) then some false else impl_WordOk_L1 p0 Fuel 0
noncomputable def lib_slices_Index___string_string__L1 (p0 : List (List UInt8)) (p1 : List UInt8) : Nat → Int → Option (Int)
  | 0, _ => none
  | k1 + 1, i13 =>
    if decide (i13 < (p0.length : Int)) then (idx p0 i13).bind fun e18 => if (p1 == e18) then some i13 else (lib_slices_Index___string_string__L1 p0 p1 k1) (IntKind.i64.wrap (i13 + 1)) else some (-1)
noncomputable def lib_slices_Index___string_string_ (p0 : List (List UInt8)) (p1 : List UInt8) : Option (Int) :=
  lib_slices_Index___string_string__L1 p0 p1 Fuel 0
noncomputable def lib_slices_Contains___string_string_ (p0 : List (List UInt8)) (p1 : List UInt8) : Option (Bool) :=
  (lib_slices_Index___string_string_ p0 p1).bind fun y10 => some (decide (y10 ≥ 0))
noncomputable def impl_distinctWords_L1 (p0 : List (List UInt8)) : Nat → Int → Option (Bool)
  | 0, _ => none
  | k1 + 1, i26 =>
    if decide (i26 < (p0.length : Int)) then (idx p0 i26).bind fun e43 => (impl_WordOk e43).bind fun y45 => (if (!y45) then some true else (sub p0 0 i26).bind fun l48 => (lib_slices_Contains___string_string_ l48 e43).bind fun y54 => some y54).bind fun u47 => if u47 then some false else (impl_distinctWords_L1 p0 k1) (IntKind.i64.wrap (i26 + 1)) else some true
noncomputable def impl_distinctWords (p0 : List (List UInt8)) : Option (Bool) :=
  impl_distinctWords_L1 p0 Fuel 0
noncomputable def impl_ascending_L1 (p0 : List Int) : Nat → Int → Option (Bool)
  | 0, _ => none
  | k1 + 1, i15 =>
    if decide (i15 < (p0.length : Int)) then (idx p0 i15).bind fun e21 => (idx p0 (IntKind.i64.wrap (i15 - 1))).bind fun e23 => if decide (e21 ≤ e23) then some false else (impl_ascending_L1 p0 k1) (IntKind.i64.wrap (i15 + 1)) else some true
noncomputable def impl_ascending (p0 : List Int) : Option (Bool) :=
  impl_ascending_L1 p0 Fuel 1
noncomputable def impl_isCut (p0 : Int) : Option (Bool) :=
  (impl_within p0 (-9999) 9998).bind fun y10 => some y10
noncomputable def impl_CutsOk_1 (p0 : Int) : Option (Bool) :=
  (impl_isCut p0).bind fun y10 => some (!y10)
noncomputable def lib_slices_IndexFunc___int_int___impl_CutsOk_1_L1 (p0 : List Int) : Nat → Int → Option (Int)
  | 0, _ => none
  | k1 + 1, i15 =>
    if decide (i15 < (p0.length : Int)) then (idx p0 i15).bind fun e21 => (impl_CutsOk_1 e21).bind fun y23 => if y23 then some i15 else (lib_slices_IndexFunc___int_int___impl_CutsOk_1_L1 p0 k1) (IntKind.i64.wrap (i15 + 1)) else some (-1)
noncomputable def lib_slices_IndexFunc___int_int___impl_CutsOk_1 (p0 : List Int) : Option (Int) :=
  lib_slices_IndexFunc___int_int___impl_CutsOk_1_L1 p0 Fuel 0
noncomputable def lib_slices_ContainsFunc___int_int___impl_CutsOk_1 (p0 : List Int) : Option (Bool) :=
  (lib_slices_IndexFunc___int_int___impl_CutsOk_1 p0).bind fun y10 => some (decide (y10 ≥ 0))
noncomputable def impl_CutsOk (p0 : List Int) : Option (Bool) :=
  (impl_within (p0.length : Int) 1 3).bind fun y10 => (if y10 then (impl_ascending p0).bind fun y13 => some y13 else some false).bind fun u12 => (if u12 then (lib_slices_ContainsFunc___int_int___impl_CutsOk_1 p0).bind fun y18 => some (!y18) else some false).bind fun u17 => some u17
noncomputable def impl_AttrOk (p0 : Timpl_Attr) : Option (Bool) :=
  (impl_WordOk p0.Name_).bind fun y21 => if (!y21) then some false else if ((p0.Cuts_.length : Int) == 0) then (impl_within (p0.Values_.length : Int) 2 4).bind fun y23 => (if y23 then (impl_distinctWords p0.Values_).bind fun y26 => some y26 else some false).bind fun u25 => some u25 else (if ((p0.Values_.length : Int) == 0) then (impl_CutsOk p0.Cuts_).bind fun y31 => some y31 else some false).bind fun u30 => some u30
noncomputable def impl_SchemaOk_L1 (p0 : Timpl_Schema) : Nat → Int → (List (List UInt8)) → Option (Bool)
  | 0, _, _ => none
  | k1 + 1, i65, l66 =>
    if decide (i65 < (p0.Attrs_.length : Int)) then (idx p0.Attrs_ i65).bind fun e103 => (impl_AttrOk e103).bind fun y120 => if (!y120) then some false else (app l66 ([e103.Name_] : List (List UInt8))).bind fun l123 => (impl_SchemaOk_L1 p0 k1) (IntKind.i64.wrap (i65 + 1)) l123 else (impl_distinctWords l66).bind fun y129 => some y129
noncomputable def impl_SchemaOk (p0 : Timpl_Schema) : Option (Bool) :=
  (impl_within (p0.Attrs_.length : Int) 1 5).bind fun y19 => (if (!y19) then some true else (impl_within (p0.Classes_.length : Int) 2 3).bind fun y22 => some (!y22)).bind fun u21 => (if u21 then some true else (impl_distinctWords p0.Classes_).bind fun y27 => some (!y27)).bind fun u26 => if u26 then some false else impl_SchemaOk_L1 p0 Fuel 0 ([] : List (List UInt8))
noncomputable def impl_weights_1 (p0 : Int) : Option (Bool) :=
  (impl_within p0 0 999).bind fun y10 => some (!y10)
noncomputable def lib_slices_IndexFunc___int_int___impl_weights_1_L1 (p0 : List Int) : Nat → Int → Option (Int)
  | 0, _ => none
  | k1 + 1, i15 =>
    if decide (i15 < (p0.length : Int)) then (idx p0 i15).bind fun e21 => (impl_weights_1 e21).bind fun y23 => if y23 then some i15 else (lib_slices_IndexFunc___int_int___impl_weights_1_L1 p0 k1) (IntKind.i64.wrap (i15 + 1)) else some (-1)
noncomputable def lib_slices_IndexFunc___int_int___impl_weights_1 (p0 : List Int) : Option (Int) :=
  lib_slices_IndexFunc___int_int___impl_weights_1_L1 p0 Fuel 0
noncomputable def lib_slices_ContainsFunc___int_int___impl_weights_1 (p0 : List Int) : Option (Bool) :=
  (lib_slices_IndexFunc___int_int___impl_weights_1 p0).bind fun y10 => some (decide (y10 ≥ 0))
noncomputable def impl_weights (p0 : List Int) (p1 : Int) : Option (Bool) :=
  (if ((p0.length : Int) == p1) then (lib_slices_ContainsFunc___int_int___impl_weights_1 p0).bind fun y11 => some (!y11) else some false).bind fun u10 => some u10
noncomputable def impl_total_L1 (p0 : List Int) : Nat → Int → Int → Option (Int)
  | 0, _, _ => none
  | k1 + 1, i14, i15 =>
    if decide (i15 < (p0.length : Int)) then (idx p0 i15).bind fun e20 => (impl_total_L1 p0 k1) (IntKind.i64.wrap (i14 + e20)) (IntKind.i64.wrap (i15 + 1)) else some i14
noncomputable def impl_total (p0 : List Int) : Option (Int) :=
  impl_total_L1 p0 Fuel 0 0
noncomputable def impl_bins (p0 : Timpl_Attr) : Option (Int) :=
  if decide ((p0.Cuts_.length : Int) > 0) then some (IntKind.i64.wrap ((p0.Cuts_.length : Int) + 1)) else some (p0.Values_.length : Int)
noncomputable def impl_zeros (p0 : Int) : Option (List Int) :=
  (mk (0 : Int) p0).bind fun l10 => some l10
noncomputable def impl_StatsOk_L2 (e225 : List Int) (p0 : Timpl_Schema) (p1 : Timpl_Stats) (R1 : Int → Option (Bool)) (i132 : Int) : Nat → Int → (List Int) → Option (Bool)
  | 0, _, _ => none
  | k2 + 1, i280, l281 =>
    if decide (i280 < (e225.length : Int)) then (idx e225 i280).bind fun e300 => (rem i280 (p0.Classes_.length : Int)).bind fun x302 => (idx l281 x302).bind fun e304 => (idx l281 x302).bind fun _ => (rem i280 (p0.Classes_.length : Int)).bind fun x308 => (idx (l281.set x302.toNat (IntKind.i64.wrap (e304 + e300))) x308).bind fun e310 => (rem i280 (p0.Classes_.length : Int)).bind fun x312 => (idx p1.Totals_ x312).bind fun e314 => if decide (e310 > e314) then some false else (impl_StatsOk_L2 e225 p0 p1 R1 i132 k2) (IntKind.i64.wrap (i280 + 1)) (l281.set x302.toNat (IntKind.i64.wrap (e304 + e300))) else R1 (IntKind.i64.wrap (i132 + 1))
noncomputable def impl_StatsOk_L1 (p1 : Timpl_Stats) (p0 : Timpl_Schema) : Nat → Int → Option (Bool)
  | 0, _ => none
  | k1 + 1, i132 =>
    if decide (i132 < (p1.Cells_.length : Int)) then (idx p1.Cells_ i132).bind fun e225 => (idx p0.Attrs_ i132).bind fun e233 => (impl_bins e233).bind fun y249 => (impl_weights e225 (IntKind.i64.wrap (y249 * (p0.Classes_.length : Int)))).bind fun y251 => if (!y251) then some false else (impl_zeros (p0.Classes_.length : Int)).bind fun y253 => impl_StatsOk_L2 e225 p0 p1 (impl_StatsOk_L1 p1 p0 k1) i132 Fuel 0 y253 else some true
noncomputable def impl_StatsOk (p0 : Timpl_Schema) (p1 : Timpl_Stats) : Option (Bool) :=
  (impl_SchemaOk p0).bind fun y28 => (if (!y28) then some true else (impl_weights p1.Totals_ (p0.Classes_.length : Int)).bind fun y31 => some (!y31)).bind fun u30 => (if u30 then some true else (impl_total p1.Totals_).bind fun y36 => some (decide (y36 > 999))).bind fun u35 => if u35 then some false else if ((p1.Cells_.length : Int) == 0) then some true else if ((p1.Cells_.length : Int) != (p0.Attrs_.length : Int)) then some false else impl_StatsOk_L1 p1 p0 Fuel 0
noncomputable def impl_AttrsOk (p0 : Timpl_Schema) (p1 : List Int) : Option (Bool) :=
  (impl_SchemaOk p0).bind fun y19 => (if (y19 && (decide ((p1.length : Int) > 0))) then (impl_ascending p1).bind fun y24 => some y24 else some false).bind fun u23 => (if u23 then (idx p1 0).bind fun e29 => some (decide (e29 ≥ 0)) else some false).bind fun u28 => (if u28 then (idx p1 (IntKind.i64.wrap ((p1.length : Int) - 1))).bind fun e34 => some (decide (e34 < (p0.Attrs_.length : Int))) else some false).bind fun u33 => some u33
noncomputable def impl_ForkOk (p0 : Timpl_Schema) (p1 : Timpl_Fork) : Option (Bool) :=
  (impl_SchemaOk p0).bind fun y20 => (if (!y20) then some true else (impl_within p1.Attr_ 0 (IntKind.i64.wrap ((p0.Attrs_.length : Int) - 1))).bind fun y23 => some (!y23)).bind fun u22 => if u22 then some false else (idx p0.Attrs_ p1.Attr_).bind fun e27 => (impl_bins e27).bind fun y44 => if decide ((e27.Cuts_.length : Int) > 0) then (impl_within p1.At_ (-1) (IntKind.i64.wrap ((IntKind.i64.wrap (y44 - 1)) - 1))).bind fun y46 => some y46 else (impl_within p1.At_ (-1) (IntKind.i64.wrap (y44 - 1))).bind fun y48 => some y48
noncomputable def impl_Branches (p0 : Timpl_Schema) (p1 : Timpl_Fork) : Option (Int) :=
  (impl_ForkOk p0 p1).bind fun y20 => if (!y20) then some 0 else if (p1.At_ == (-1)) then (idx p0.Attrs_ p1.Attr_).bind fun e22 => (impl_bins e22).bind fun y38 => some y38 else some 2
noncomputable def impl_nodeOk_1 (p0 : Int) (p1 : Int) (p2 : Timpl_Tree) : Option (Bool) :=
  (impl_within p0 (IntKind.i64.wrap (p1 + 1)) (IntKind.i64.wrap ((p2.Nodes_.length : Int) - 1))).bind fun y16 => (if (!y16) then some true else (idx p2.Nodes_ p0).bind fun e19 => some (e19.Up_ != p1)).bind fun u18 => some u18
noncomputable def lib_slices_IndexFunc___int_int___impl_nodeOk_1_L1 (p0 : List Int) (p1_0 : Int) (p1_1 : Timpl_Tree) : Nat → Int → Option (Int)
  | 0, _ => none
  | k1 + 1, i21 =>
    if decide (i21 < (p0.length : Int)) then (idx p0 i21).bind fun e27 => (impl_nodeOk_1 e27 p1_0 p1_1).bind fun y29 => if y29 then some i21 else (lib_slices_IndexFunc___int_int___impl_nodeOk_1_L1 p0 p1_0 p1_1 k1) (IntKind.i64.wrap (i21 + 1)) else some (-1)
noncomputable def lib_slices_IndexFunc___int_int___impl_nodeOk_1 (p0 : List Int) (p1_0 : Int) (p1_1 : Timpl_Tree) : Option (Int) :=
  lib_slices_IndexFunc___int_int___impl_nodeOk_1_L1 p0 p1_0 p1_1 Fuel 0
noncomputable def lib_slices_ContainsFunc___int_int___impl_nodeOk_1 (p0 : List Int) (p1_0 : Int) (p1_1 : Timpl_Tree) : Option (Bool) :=
  (lib_slices_IndexFunc___int_int___impl_nodeOk_1 p0 p1_0 p1_1).bind fun y16 => some (decide (y16 ≥ 0))
noncomputable def impl_nodeOk_J1 (e27 : Timpl_Node) (i85 : Int) : Option (Bool) :=
  (if (((e27.Fork_.Attr_ == 0 && (e27.Fork_.At_ == 0 && true)) && ((e27.Kids_.length : Int) == 0)) && (e27.Miss_ == 0)) then (impl_within e27.Since_ 0 i85).bind fun y91 => some y91 else some false).bind fun u90 => some u90
noncomputable def impl_nodeOk (p0 : Timpl_Schema) (p1 : Timpl_Tree) (p2 : Int) : Option (Bool) :=
  (idx p1.Nodes_ p2).bind fun e27 => (impl_within e27.Depth_ 0 6).bind fun y66 => (if (!y66) then some true else (impl_within e27.Born_ 0 p1.Seen_).bind fun y69 => some (!y69)).bind fun u68 => (if u68 then some true else (impl_StatsOk p0 e27.Stats_).bind fun y74 => some (!y74)).bind fun u73 => (if u73 then some true else (impl_AttrsOk p0 e27.Attrs_).bind fun y79 => some (!y79)).bind fun u78 => if u78 then some false else if e27.Leaf_ then (impl_total e27.Stats_.Totals_).bind fun y83 => if ((e27.Stats_.Cells_.length : Int) == 0) then impl_nodeOk_J1 e27 0 else impl_nodeOk_J1 e27 y83 else (impl_Branches p0 e27.Fork_).bind fun y95 => (if ((y95 == 0) || ((e27.Kids_.length : Int) != y95)) then some true else (impl_ascending e27.Kids_).bind fun y100 => some (!y100)).bind fun u99 => (if u99 then some true else (impl_within e27.Miss_ 0 (IntKind.i64.wrap (y95 - 1))).bind fun y105 => some (!y105)).bind fun u104 => if ((u104 || ((e27.Stats_.Cells_.length : Int) != 0)) || (e27.Since_ != 0)) then some false else (lib_slices_ContainsFunc___int_int___impl_nodeOk_1 e27.Kids_ p2 p1).bind fun y113 => some (!y113)
noncomputable def lib_slices_Index___int_int__L1 (p0 : List Int) (p1 : Int) : Nat → Int → Option (Int)
  | 0, _ => none
  | k1 + 1, i13 =>
    if decide (i13 < (p0.length : Int)) then (idx p0 i13).bind fun e18 => if (p1 == e18) then some i13 else (lib_slices_Index___int_int__L1 p0 p1 k1) (IntKind.i64.wrap (i13 + 1)) else some (-1)
noncomputable def lib_slices_Index___int_int_ (p0 : List Int) (p1 : Int) : Option (Int) :=
  lib_slices_Index___int_int__L1 p0 p1 Fuel 0
noncomputable def lib_slices_Contains___int_int_ (p0 : List Int) (p1 : Int) : Option (Bool) :=
  (lib_slices_Index___int_int_ p0 p1).bind fun y10 => some (decide (y10 ≥ 0))
noncomputable def impl_TreeOk_L1 (p1 : Timpl_Tree) (p0 : Timpl_Schema) : Nat → Int → Option (Bool)
  | 0, _ => none
  | k1 + 1, i134 =>
    if decide (i134 < (p1.Nodes_.length : Int)) then (idx p1.Nodes_ i134).bind fun e231 => (impl_nodeOk p0 p1 i134).bind fun y270 => if (!y270) then some false else if (i134 == 0) then if (((e231.Up_ != (-1)) || (e231.Depth_ != 0)) || (e231.Born_ != 0)) then some false else (impl_TreeOk_L1 p1 p0 k1) (IntKind.i64.wrap (i134 + 1)) else (impl_within e231.Up_ 0 (IntKind.i64.wrap (i134 - 1))).bind fun y276 => if (!y276) then some false else (idx p1.Nodes_ e231.Up_).bind fun e278 => (if e278.Leaf_ then some true else (lib_slices_Contains___int_int_ e278.Kids_ i134).bind fun y318 => some (!y318)).bind fun u317 => if ((u317 || (e278.Depth_ != (IntKind.i64.wrap (e231.Depth_ - 1)))) || (decide (e278.Born_ > e231.Born_))) then some false else (impl_TreeOk_L1 p1 p0 k1) (IntKind.i64.wrap (i134 + 1)) else some true
noncomputable def impl_TreeOk (p0 : Timpl_Schema) (p1 : Timpl_Tree) : Option (Bool) :=
  (impl_SchemaOk p0).bind fun y26 => (if (!y26) then some true else (impl_within (p1.Nodes_.length : Int) 1 31).bind fun y29 => some (!y29)).bind fun u28 => (if u28 then some true else (impl_within p1.Seen_ 0 99999).bind fun y34 => some (!y34)).bind fun u33 => if u33 then some false else impl_TreeOk_L1 p1 p0 Fuel 0
noncomputable def impl_RuleOk (p0 : Timpl_Rule) : Option (Bool) :=
  (impl_within p0.Sure_ 1 9).bind fun y11 => (if y11 then (impl_within p0.Tie_ 0 999).bind fun y14 => some y14 else some false).bind fun u13 => (if u13 then (impl_within p0.Grace_ 1 200).bind fun y19 => some y19 else some false).bind fun u18 => (if u18 then (impl_within p0.Depth_ 0 6).bind fun y24 => some y24 else some false).bind fun u23 => (if u23 then (impl_within p0.Nodes_ 1 31).bind fun y29 => some y29 else some false).bind fun u28 => (if u28 then (impl_within p0.Units_ 62 2000).bind fun y34 => some y34 else some false).bind fun u33 => some u33
noncomputable def lib_slices_Equal___int_int__L1 (p0 : List Int) (p1 : List Int) : Nat → Int → Option (Bool)
  | 0, _ => none
  | k1 + 1, i15 =>
    if decide (i15 < (p0.length : Int)) then (idx p0 i15).bind fun e21 => (idx p1 i15).bind fun e23 => if (e21 != e23) then some false else (lib_slices_Equal___int_int__L1 p0 p1 k1) (IntKind.i64.wrap (i15 + 1)) else some true
noncomputable def lib_slices_Equal___int_int_ (p0 : List Int) (p1 : List Int) : Option (Bool) :=
  if ((p0.length : Int) != (p1.length : Int)) then some false else lib_slices_Equal___int_int__L1 p0 p1 Fuel 0
noncomputable def impl_sameLists_1 (p0 : List Int) (p1 : List Int) : Option (Bool) :=
  (lib_slices_Equal___int_int_ p0 p1).bind fun y10 => some y10
noncomputable def lib_slices_EqualFunc_____int_____int___int___int___impl_sameLists_1_L1 (p0 : List (List Int)) (p1 : List (List Int)) : Nat → Int → Option (Bool)
  | 0, _ => none
  | k1 + 1, i29 =>
    if decide (i29 < (p0.length : Int)) then (idx p0 i29).bind fun e49 => (idx p1 i29).bind fun e57 => (impl_sameLists_1 e49 e57).bind fun y65 => if (!y65) then some false else (lib_slices_EqualFunc_____int_____int___int___int___impl_sameLists_1_L1 p0 p1 k1) (IntKind.i64.wrap (i29 + 1)) else some true
noncomputable def lib_slices_EqualFunc_____int_____int___int___int___impl_sameLists_1 (p0 : List (List Int)) (p1 : List (List Int)) : Option (Bool) :=
  if ((p0.length : Int) != (p1.length : Int)) then some false else lib_slices_EqualFunc_____int_____int___int___int___impl_sameLists_1_L1 p0 p1 Fuel 0
noncomputable def impl_sameLists (p0 : List (List Int)) (p1 : List (List Int)) : Option (Bool) :=
  (lib_slices_EqualFunc_____int_____int___int___int___impl_sameLists_1 p0 p1).bind fun y10 => some y10
noncomputable def impl_StatsSame (p0 : Timpl_Stats) (p1 : Timpl_Stats) : Option (Bool) :=
  (lib_slices_Equal___int_int_ p0.Totals_ p1.Totals_).bind fun y28 => (if y28 then (impl_sameLists p0.Cells_ p1.Cells_).bind fun y31 => some y31 else some false).bind fun u30 => some u30
noncomputable def laws_eqIntS_L1 (p0 : List Int) (p1 : List Int) : Nat → Int → Option (Bool)
  | 0, _ => none
  | k1 + 1, i15 =>
    if decide (i15 < (p0.length : Int)) then (idx p0 i15).bind fun e21 => (idx p1 i15).bind fun e23 => if (e21 != e23) then some false else (laws_eqIntS_L1 p0 p1 k1) (IntKind.i64.wrap (i15 + 1)) else some true
noncomputable def laws_eqIntS (p0 : List Int) (p1 : List Int) : Option (Bool) :=
  if ((p0.length : Int) != (p1.length : Int)) then some false else laws_eqIntS_L1 p0 p1 Fuel 0
noncomputable def laws_eqStringS_L1 (p0 : List (List UInt8)) (p1 : List (List UInt8)) : Nat → Int → Option (Bool)
  | 0, _ => none
  | k1 + 1, i15 =>
    if decide (i15 < (p0.length : Int)) then (idx p0 i15).bind fun e21 => (idx p1 i15).bind fun e23 => if (!(e21 == e23)) then some false else (laws_eqStringS_L1 p0 p1 k1) (IntKind.i64.wrap (i15 + 1)) else some true
noncomputable def laws_eqStringS (p0 : List (List UInt8)) (p1 : List (List UInt8)) : Option (Bool) :=
  if ((p0.length : Int) != (p1.length : Int)) then some false else laws_eqStringS_L1 p0 p1 Fuel 0
noncomputable def laws_eqAttr (p0 : Timpl_Attr) (p1 : Timpl_Attr) : Option (Bool) :=
  if (!(p0.Name_ == p1.Name_)) then some false else (laws_eqIntS p0.Cuts_ p1.Cuts_).bind fun y32 => if (!y32) then some false else (laws_eqStringS p0.Values_ p1.Values_).bind fun y34 => if (!y34) then some false else some true
noncomputable def laws_eqAttrS_L1 (p0 : List Timpl_Attr) (p1 : List Timpl_Attr) : Nat → Int → Option (Bool)
  | 0, _ => none
  | k1 + 1, i45 =>
    if decide (i45 < (p0.length : Int)) then (idx p0 i45).bind fun e81 => (idx p1 i45).bind fun e97 => (laws_eqAttr e81 e97).bind fun y113 => if (!y113) then some false else (laws_eqAttrS_L1 p0 p1 k1) (IntKind.i64.wrap (i45 + 1)) else some true
noncomputable def laws_eqAttrS (p0 : List Timpl_Attr) (p1 : List Timpl_Attr) : Option (Bool) :=
  if ((p0.length : Int) != (p1.length : Int)) then some false else laws_eqAttrS_L1 p0 p1 Fuel 0
noncomputable def laws_eqSchema (p0 : Timpl_Schema) (p1 : Timpl_Schema) : Option (Bool) :=
  (laws_eqAttrS p0.Attrs_ p1.Attrs_).bind fun y28 => if (!y28) then some false else (laws_eqStringS p0.Classes_ p1.Classes_).bind fun y30 => if (!y30) then some false else some true
noncomputable def laws_eqFork (p0 : Timpl_Fork) (p1 : Timpl_Fork) : Option (Bool) :=
  if (p0.Attr_ != p1.Attr_) then some false else if (p0.At_ != p1.At_) then some false else some true
noncomputable def laws_eqIntSS_L1 (p0 : List (List Int)) (p1 : List (List Int)) : Nat → Int → Option (Bool)
  | 0, _ => none
  | k1 + 1, i29 =>
    if decide (i29 < (p0.length : Int)) then (idx p0 i29).bind fun e49 => (idx p1 i29).bind fun e57 => (laws_eqIntS e49 e57).bind fun y65 => if (!y65) then some false else (laws_eqIntSS_L1 p0 p1 k1) (IntKind.i64.wrap (i29 + 1)) else some true
noncomputable def laws_eqIntSS (p0 : List (List Int)) (p1 : List (List Int)) : Option (Bool) :=
  if ((p0.length : Int) != (p1.length : Int)) then some false else laws_eqIntSS_L1 p0 p1 Fuel 0
noncomputable def laws_eqStats (p0 : Timpl_Stats) (p1 : Timpl_Stats) : Option (Bool) :=
  (laws_eqIntS p0.Totals_ p1.Totals_).bind fun y28 => if (!y28) then some false else (laws_eqIntSS p0.Cells_ p1.Cells_).bind fun y30 => if (!y30) then some false else some true
noncomputable def laws_eqNode (p0 : Timpl_Node) (p1 : Timpl_Node) : Option (Bool) :=
  if (p0.Leaf_ != p1.Leaf_) then some false else (laws_eqFork p0.Fork_ p1.Fork_).bind fun y76 => if (!y76) then some false else (laws_eqIntS p0.Kids_ p1.Kids_).bind fun y78 => if (!y78) then some false else if (p0.Miss_ != p1.Miss_) then some false else (laws_eqStats p0.Stats_ p1.Stats_).bind fun y80 => if (!y80) then some false else if (p0.Since_ != p1.Since_) then some false else (laws_eqIntS p0.Attrs_ p1.Attrs_).bind fun y82 => if (!y82) then some false else if (p0.Depth_ != p1.Depth_) then some false else if (p0.Up_ != p1.Up_) then some false else if (p0.Born_ != p1.Born_) then some false else some true
noncomputable def laws_eqNodeS_L1 (p0 : List Timpl_Node) (p1 : List Timpl_Node) : Nat → Int → Option (Bool)
  | 0, _ => none
  | k1 + 1, i89 =>
    if decide (i89 < (p0.length : Int)) then (idx p0 i89).bind fun e169 => (idx p1 i89).bind fun e207 => (laws_eqNode e169 e207).bind fun y245 => if (!y245) then some false else (laws_eqNodeS_L1 p0 p1 k1) (IntKind.i64.wrap (i89 + 1)) else some true
noncomputable def laws_eqNodeS (p0 : List Timpl_Node) (p1 : List Timpl_Node) : Option (Bool) :=
  if ((p0.length : Int) != (p1.length : Int)) then some false else laws_eqNodeS_L1 p0 p1 Fuel 0
noncomputable def laws_eqTree (p0 : Timpl_Tree) (p1 : Timpl_Tree) : Option (Bool) :=
  (laws_eqNodeS p0.Nodes_ p1.Nodes_).bind fun y24 => if (!y24) then some false else if (p0.Seen_ != p1.Seen_) then some false else some true
noncomputable def spec_l16Power_L1 (p0 : Int) : Nat → Int → Int → Option (Int)
  | 0, _, _ => none
  | k1 + 1, i12, i13 =>
    if decide (i13 < p0) then (spec_l16Power_L1 p0 k1) (IntKind.i64.wrap (i12 * 2)) (IntKind.i64.wrap (i13 + 1)) else some i12
noncomputable def spec_l16Power (p0 : Int) : Option (Int) :=
  spec_l16Power_L1 p0 Fuel 1 0
noncomputable def laws_szConf (p0 : Tlaws_Conf) (p1 : Int) : Option (Int) :=
  (laws_szSchema p0.Schema_ p1).bind fun y33 => if decide (y33 < 0) then some (-1) else some y33
noncomputable def laws_szWindow (p0 : Tlaws_Window) (p1 : Int) : Option (Int) :=
  (laws_szIntSS p0.Rows_ p1).bind fun y15 => if decide (y15 < 0) then some (-1) else some y15
noncomputable def laws_szDet (p0 : Tlaws_Det) (p1 : Int) : Option (Int) :=
  (laws_szWindow p0.Warn_ p1).bind fun y23 => if decide (y23 < 0) then some (-1) else (laws_szWindow p0.Drift_ y23).bind fun y25 => if decide (y25 < 0) then some (-1) else some y25
noncomputable def laws_szMember (p0 : Tlaws_Member) (p1 : Int) : Option (Int) :=
  (laws_szTree p0.Tree_ p1).bind fun y43 => if decide (y43 < 0) then some (-1) else (laws_szTree p0.Young_ y43).bind fun y45 => if decide (y45 < 0) then some (-1) else (laws_szDet p0.Det_ y45).bind fun y47 => if decide (y47 < 0) then some (-1) else some y47
noncomputable def laws_szMemberS_L1 (p0 : List Tlaws_Member) : Nat → Int → Int → Option (Int)
  | 0, _, _ => none
  | k1 + 1, i52, i53 =>
    if decide (i53 < (p0.length : Int)) then (idx p0 i53).bind fun e96 => (laws_szMember e96 i52).bind fun y134 => if decide (y134 < 0) then some (-1) else (laws_szMemberS_L1 p0 k1) y134 (IntKind.i64.wrap (i53 + 1)) else some i52
noncomputable def laws_szMemberS (p0 : List Tlaws_Member) (p1 : Int) : Option (Int) :=
  if decide ((IntKind.i64.wrap (p1 - (p0.length : Int))) < 0) then some (-1) else laws_szMemberS_L1 p0 Fuel (IntKind.i64.wrap (p1 - (p0.length : Int))) 0
noncomputable def laws_szForest (p0 : Tlaws_Forest) (p1 : Int) : Option (Int) :=
  (laws_szMemberS p0.Members_ p1).bind fun y15 => if decide (y15 < 0) then some (-1) else some y15
noncomputable def laws_szPairS (p0 : List Tlaws_Pair) (p1 : Int) : Option (Int) :=
  if decide ((IntKind.i64.wrap (p1 - (p0.length : Int))) < 0) then some (-1) else some (IntKind.i64.wrap (p1 - (p0.length : Int)))
noncomputable def laws_szScore (p0 : Tlaws_Score) (p1 : Int) : Option (Int) :=
  (laws_szIntSS p0.Table_ p1).bind fun y19 => if decide (y19 < 0) then some (-1) else (laws_szPairS p0.Last_ y19).bind fun y21 => if decide (y21 < 0) then some (-1) else some y21
noncomputable def laws_szState (p0 : Tlaws_State) (p1 : Int) : Option (Int) :=
  (laws_szConf p0.Conf_ p1).bind fun y51 => if decide (y51 < 0) then some (-1) else (laws_szForest p0.Forest_ y51).bind fun y53 => if decide (y53 < 0) then some (-1) else (laws_szScore p0.Score_ y53).bind fun y55 => if decide (y55 < 0) then some (-1) else some y55
noncomputable def laws_toConf (p0 : Tlaws_Conf) : Option (Timpl_Conf) :=
  (laws_toSchema p0.Schema_).bind fun y35 => (laws_toRule p0.Rule_).bind fun y48 => some (Timpl_Conf.mk y35 y48 p0.Members_ p0.Pick_ p0.Lambda_ p0.Warn_ p0.Drift_)
noncomputable def laws_toWindow (p0 : Tlaws_Window) : Option (Timpl_Window) :=
  (laws_toIntSS p0.Rows_).bind fun y17 => some (Timpl_Window.mk y17)
noncomputable def laws_toDet (p0 : Tlaws_Det) : Option (Timpl_Det) :=
  (laws_toWindow p0.Warn_).bind fun y25 => (laws_toWindow p0.Drift_).bind fun y34 => some (Timpl_Det.mk y25 y34)
noncomputable def laws_toMember (p0 : Tlaws_Member) : Option (Timpl_Member) :=
  (laws_toTree p0.Tree_).bind fun y45 => (laws_toTree p0.Young_).bind fun y54 => (laws_toDet p0.Det_).bind fun y63 => some (Timpl_Member.mk y45 p0.HasYoung_ y54 y63)
noncomputable def laws_toMemberS_L1 (p0 : List Tlaws_Member) : Nat → (List Timpl_Member) → Int → Option (List Timpl_Member)
  | 0, _, _ => none
  | k1 + 1, l99, i101 =>
    if decide (i101 < (p0.length : Int)) then (idx p0 i101).bind fun e188 => (laws_toMember e188).bind fun y226 => (idx l99 i101).bind fun _ => (laws_toMemberS_L1 p0 k1) (l99.set i101.toNat y226) (IntKind.i64.wrap (i101 + 1)) else some l99
noncomputable def laws_toMemberS (p0 : List Tlaws_Member) : Option (List Timpl_Member) :=
  (mk ((Timpl_Member.mk (Timpl_Tree.mk [] 0) false (Timpl_Tree.mk [] 0) (Timpl_Det.mk (Timpl_Window.mk []) (Timpl_Window.mk []))) : Timpl_Member) (p0.length : Int)).bind fun l10 => laws_toMemberS_L1 p0 Fuel l10 0
noncomputable def laws_toForest (p0 : Tlaws_Forest) : Option (Timpl_Forest) :=
  (laws_toMemberS p0.Members_).bind fun y17 => some (Timpl_Forest.mk y17)
noncomputable def laws_toPair (p0 : Tlaws_Pair) : Option (Timpl_Pair) :=
  some (Timpl_Pair.mk p0.Truth_ p0.Said_)
noncomputable def laws_toPairS_L1 (p0 : List Tlaws_Pair) : Nat → (List Timpl_Pair) → Int → Option (List Timpl_Pair)
  | 0, _, _ => none
  | k1 + 1, l30, i33 =>
    if decide (i33 < (p0.length : Int)) then (idx p0 i33).bind fun e51 => (laws_toPair e51).bind fun y53 => (idx l30 i33).bind fun _ => (laws_toPairS_L1 p0 k1) (l30.set i33.toNat y53) (IntKind.i64.wrap (i33 + 1)) else some l30
noncomputable def laws_toPairS (p0 : List Tlaws_Pair) : Option (List Timpl_Pair) :=
  (mk ((Timpl_Pair.mk 0 0) : Timpl_Pair) (p0.length : Int)).bind fun l10 => laws_toPairS_L1 p0 Fuel l10 0
noncomputable def laws_toScore (p0 : Tlaws_Score) : Option (Timpl_Score) :=
  (laws_toIntSS p0.Table_).bind fun y21 => (laws_toPairS p0.Last_).bind fun y30 => some (Timpl_Score.mk y21 y30)
noncomputable def laws_toState (p0 : Tlaws_State) : Option (Timpl_State) :=
  (laws_toConf p0.Conf_).bind fun y53 => (laws_toForest p0.Forest_).bind fun y66 => (laws_toScore p0.Score_).bind fun y75 => some (Timpl_State.mk y53 y66 y75)
noncomputable def spec_Thresholds (p0 : Int) : Option (List Int) :=
  if (p0 == 1) then some ([24109, 48218, 60273, 64291, 65296, 65497, 65530] : List Int) else if (p0 == 6) then some ([162, 1137, 4061, 9909, 18681, 29208, 39734] : List Int) else some ([] : List Int)
noncomputable def spec_ConfOk (p0 : Timpl_Conf) : Option (Bool) :=
  (spec_SchemaOk p0.Schema_).bind fun y33 => (if y33 then (spec_RuleOk p0.Rule_).bind fun y36 => some y36 else some false).bind fun u35 => (if u35 then (spec_l1In p0.Members_ 1 4).bind fun y41 => some y41 else some false).bind fun u40 => (if u40 then (spec_l1In p0.Pick_ 1 (p0.Schema_.Attrs_.length : Int)).bind fun y46 => some y46 else some false).bind fun u45 => (if u45 then (spec_Thresholds p0.Lambda_).bind fun y51 => some (decide ((y51.length : Int) > 0)) else some false).bind fun u50 => (if u50 then (spec_l1In p0.Warn_ 1 9).bind fun y63 => some y63 else some false).bind fun u62 => (if u62 then (spec_l1In p0.Drift_ 1 9).bind fun y68 => some y68 else some false).bind fun u67 => some (u67 && (decide (p0.Warn_ ≤ p0.Drift_)))
noncomputable def spec_DepthOf_L1 (p0 : Timpl_Tree) : Nat → Int → Int → Option (Int)
  | 0, _, _ => none
  | k1 + 1, i98, i99 =>
    if decide (i99 < (p0.Nodes_.length : Int)) then (if (i99 == 0) then some true else (idx p0.Nodes_ i99).bind fun e182 => some (decide (e182.Depth_ > i98))).bind fun u181 => if u181 then (idx p0.Nodes_ i99).bind fun e222 => (spec_DepthOf_L1 p0 k1) e222.Depth_ (IntKind.i64.wrap (i99 + 1)) else (spec_DepthOf_L1 p0 k1) i98 (IntKind.i64.wrap (i99 + 1)) else some i98
noncomputable def spec_DepthOf (p0 : Timpl_Tree) : Option (Int) :=
  spec_DepthOf_L1 p0 Fuel 0 0
noncomputable def spec_UnitsOf_L1 (p0 : Timpl_Node) : Nat → Int → Int → Option (Int)
  | 0, _, _ => none
  | k1 + 1, i53, i54 =>
    if decide (i54 < (p0.Stats_.Cells_.length : Int)) then (idx p0.Stats_.Cells_ i54).bind fun e66 => (spec_UnitsOf_L1 p0 k1) (IntKind.i64.wrap (i53 + (e66.length : Int))) (IntKind.i64.wrap (i54 + 1)) else some i53
noncomputable def spec_UnitsOf (p0 : Timpl_Node) : Option (Int) :=
  if (!p0.Leaf_) then some 1 else spec_UnitsOf_L1 p0 Fuel 2 0
noncomputable def spec_TreeUnits_L1 (p0 : Timpl_Tree) : Nat → Int → Int → Option (Int)
  | 0, _, _ => none
  | k1 + 1, i59, i60 =>
    if decide (i60 < (p0.Nodes_.length : Int)) then (idx p0.Nodes_ i60).bind fun e103 => (spec_UnitsOf e103).bind fun y141 => (spec_TreeUnits_L1 p0 k1) (IntKind.i64.wrap (i59 + y141)) (IntKind.i64.wrap (i60 + 1)) else some i59
noncomputable def spec_TreeUnits (p0 : Timpl_Tree) : Option (Int) :=
  spec_TreeUnits_L1 p0 Fuel 0 0
noncomputable def spec_Fits (p0 : Timpl_Schema) (p1 : Timpl_Rule) (p2 : Timpl_Tree) : Option (Bool) :=
  (spec_TreeOk p0 p2).bind fun y27 => (if y27 then (spec_RuleOk p1).bind fun y30 => some y30 else some false).bind fun u29 => (if (u29 && (decide ((p2.Nodes_.length : Int) ≤ p1.Nodes_))) then (spec_DepthOf p2).bind fun y37 => some (decide (y37 ≤ p1.Depth_)) else some false).bind fun u36 => (if u36 then (spec_TreeUnits p2).bind fun y42 => some (decide (y42 ≤ p1.Units_)) else some false).bind fun u41 => some u41
noncomputable def spec_WindowOk_L2 (p0 : Timpl_Window) (i95 : Int) (R1 : Int → Option (Bool)) : Nat → Int → Option (Bool)
  | 0, _ => none
  | k2 + 1, i209 =>
    (idx p0.Rows_ i95).bind fun e233 => if decide (i209 < (e233.length : Int)) then (idx p0.Rows_ i95).bind fun e241 => (idx e241 i209).bind fun e249 => (spec_l16Power i95).bind fun y251 => (spec_l1In e249 0 y251).bind fun y253 => if (!y253) then some false else (spec_WindowOk_L2 p0 i95 R1 k2) (IntKind.i64.wrap (i209 + 1)) else R1 (IntKind.i64.wrap (i95 + 1))
noncomputable def spec_WindowOk_L1 (p0 : Timpl_Window) : Nat → Int → Option (Bool)
  | 0, _ => none
  | k1 + 1, i95 =>
    if decide (i95 < (p0.Rows_.length : Int)) then (idx p0.Rows_ i95).bind fun e176 => (spec_l1In (e176.length : Int) 1 3).bind fun y184 => if (!y184) then some false else spec_WindowOk_L2 p0 i95 (spec_WindowOk_L1 p0 k1) Fuel 0 else some true
noncomputable def spec_WindowOk (p0 : Timpl_Window) : Option (Bool) :=
  if decide ((p0.Rows_.length : Int) > 8) then some false else spec_WindowOk_L1 p0 Fuel 0
noncomputable def spec_DetOk (p0 : Timpl_Det) : Option (Bool) :=
  (spec_WindowOk p0.Warn_).bind fun y23 => (if y23 then (spec_WindowOk p0.Drift_).bind fun y26 => some y26 else some false).bind fun u25 => some u25
noncomputable def spec_MemberOk (p0 : Timpl_Conf) (p1 : Timpl_Member) : Option (Bool) :=
  (spec_ConfOk p0).bind fun y66 => (if (!y66) then some true else (spec_Fits p0.Schema_ p0.Rule_ p1.Tree_).bind fun y69 => some (!y69)).bind fun u68 => (if u68 then some true else (spec_DetOk p1.Det_).bind fun y74 => some (!y74)).bind fun u73 => if u73 then some false else if p1.HasYoung_ then (spec_Fits p0.Schema_ p0.Rule_ p1.Young_).bind fun y78 => some y78 else some (((p1.Young_.Nodes_.length : Int) == 0) && (p1.Young_.Seen_ == 0))
noncomputable def spec_ForestOk_L1 (p1 : Timpl_Forest) (p0 : Timpl_Conf) : Nat → Int → Option (Bool)
  | 0, _ => none
  | k1 + 1, i83 =>
    if decide (i83 < (p1.Members_.length : Int)) then (idx p1.Members_ i83).bind fun e125 => (spec_MemberOk p0 e125).bind fun y163 => if (!y163) then some false else (spec_ForestOk_L1 p1 p0 k1) (IntKind.i64.wrap (i83 + 1)) else some true
noncomputable def spec_ForestOk (p0 : Timpl_Conf) (p1 : Timpl_Forest) : Option (Bool) :=
  (spec_ConfOk p0).bind fun y38 => if ((!y38) || ((p1.Members_.length : Int) != p0.Members_)) then some false else spec_ForestOk_L1 p1 p0 Fuel 0
noncomputable def spec_l25Pairs_L1 (p0 : List Timpl_Pair) (p1 : Int) (p2 : Int) : Nat → Int → Int → Option (Int)
  | 0, _, _ => none
  | k1 + 1, i19, i20 =>
    if decide (i20 < (p0.length : Int)) then (idx p0 i20).bind fun e30 => (if (e30.Truth_ == p1) then (idx p0 i20).bind fun e34 => some (e34.Said_ == p2) else some false).bind fun u33 => if u33 then (spec_l25Pairs_L1 p0 p1 p2 k1) (IntKind.i64.wrap (i19 + 1)) (IntKind.i64.wrap (i20 + 1)) else (spec_l25Pairs_L1 p0 p1 p2 k1) i19 (IntKind.i64.wrap (i20 + 1)) else some i19
noncomputable def spec_l25Pairs (p0 : List Timpl_Pair) (p1 : Int) (p2 : Int) : Option (Int) :=
  spec_l25Pairs_L1 p0 p1 p2 Fuel 0 0
noncomputable def spec_ScoreOk_L2 (p0 : Int) (p1 : Timpl_Score) (i151 : Int) (R1 : Int → Int → Option (Bool)) : Nat → Int → Int → Option (Bool)
  | 0, _, _ => none
  | k2 + 1, i326, i327 =>
    if decide (i327 < p0) then (idx p1.Table_ i151).bind fun e367 => (idx e367 i327).bind fun e375 => (spec_l1In e375 0 9999).bind fun y377 => (if (!y377) then some true else (spec_l25Pairs p1.Last_ i151 i327).bind fun y380 => (idx p1.Table_ i151).bind fun e382 => (idx e382 i327).bind fun e390 => some (decide (y380 > e390))).bind fun u379 => if u379 then some false else (idx p1.Table_ i151).bind fun e394 => (idx e394 i327).bind fun e402 => (spec_ScoreOk_L2 p0 p1 i151 R1 k2) (IntKind.i64.wrap (i326 + e402)) (IntKind.i64.wrap (i327 + 1)) else R1 i326 (IntKind.i64.wrap (i151 + 1))
noncomputable def spec_ScoreOk_L3 (p1 : Timpl_Score) (p0 : Int) : Nat → Int → Option (Bool)
  | 0, _ => none
  | k3 + 1, i421 =>
    if decide (i421 < (p1.Last_.length : Int)) then (idx p1.Last_ i421).bind fun e434 => (spec_l1In e434.Truth_ 0 (IntKind.i64.wrap (p0 - 1))).bind fun y436 => (if (!y436) then some true else (idx p1.Last_ i421).bind fun e439 => (spec_l1In e439.Said_ 0 (IntKind.i64.wrap (p0 - 1))).bind fun y441 => some (!y441)).bind fun u438 => if u438 then some false else (spec_ScoreOk_L3 p1 p0 k3) (IntKind.i64.wrap (i421 + 1)) else some true
noncomputable def spec_ScoreOk_L1 (p0 : Int) (p1 : Timpl_Score) : Nat → Int → Int → Option (Bool)
  | 0, _, _ => none
  | k1 + 1, i150, i151 =>
    if decide (i151 < p0) then (idx p1.Table_ i151).bind fun e279 => if ((e279.length : Int) != p0) then some false else spec_ScoreOk_L2 p0 p1 i151 (spec_ScoreOk_L1 p0 p1 k1) Fuel i150 0 else (if decide (i150 > 9999) then some true else (spec_l1Min i150 20).bind fun y405 => some ((p1.Last_.length : Int) != y405)).bind fun u404 => if u404 then some false else spec_ScoreOk_L3 p1 p0 Fuel 0
noncomputable def spec_ScoreOk (p0 : Int) (p1 : Timpl_Score) : Option (Bool) :=
  (spec_l1In p0 2 3).bind fun y19 => if ((!y19) || ((p1.Table_.length : Int) != p0)) then some false else spec_ScoreOk_L1 p0 p1 Fuel 0 0
noncomputable def spec_StateOk (p0 : Timpl_State) : Option (Bool) :=
  (spec_ForestOk p0.Conf_ p0.Forest_).bind fun y51 => (if y51 then (spec_ScoreOk (p0.Conf_.Schema_.Classes_.length : Int) p0.Score_).bind fun y54 => some y54 else some false).bind fun u53 => some u53
noncomputable def impl_Thresholds (p0 : Int) : Option ((List Int) × Bool) :=
  if (p0 == 1) then some (([24109, 48218, 60273, 64291, 65296, 65497, 65530] : List Int), false) else if (p0 == 6) then some (([162, 1137, 4061, 9909, 18681, 29208, 39734] : List Int), false) else some (([] : List Int), true)
noncomputable def impl_ConfOk (p0 : Timpl_Conf) : Option (Bool) :=
  (impl_SchemaOk p0.Schema_).bind fun y33 => (if y33 then (impl_RuleOk p0.Rule_).bind fun y36 => some y36 else some false).bind fun u35 => (if u35 then (impl_within p0.Members_ 1 4).bind fun y41 => some y41 else some false).bind fun u40 => (if u40 then (impl_within p0.Pick_ 1 (p0.Schema_.Attrs_.length : Int)).bind fun y46 => some y46 else some false).bind fun u45 => (if u45 then (impl_Thresholds p0.Lambda_).bind fun y51 => some (!y51.2) else some false).bind fun u50 => (if u50 then (impl_within p0.Warn_ 1 9).bind fun y64 => some y64 else some false).bind fun u63 => (if u63 then (impl_within p0.Drift_ 1 9).bind fun y69 => some y69 else some false).bind fun u68 => some (u68 && (decide (p0.Warn_ ≤ p0.Drift_)))
noncomputable def impl_DepthOf_L1 (p0 : Timpl_Tree) : Nat → Int → Int → Option (Int)
  | 0, _, _ => none
  | k1 + 1, i96, i97 =>
    if decide (i96 < (p0.Nodes_.length : Int)) then (idx p0.Nodes_ i96).bind fun e139 => (impl_DepthOf_L1 p0 k1) (IntKind.i64.wrap (i96 + 1)) (if i97 < e139.Depth_ then e139.Depth_ else i97) else some i97
noncomputable def impl_DepthOf (p0 : Timpl_Tree) : Option (Int) :=
  if ((p0.Nodes_.length : Int) == 0) then some 0 else (idx p0.Nodes_ 0).bind fun e17 => impl_DepthOf_L1 p0 Fuel 0 e17.Depth_
noncomputable def impl_UnitsOf_L1 (p0 : Timpl_Node) : Nat → Int → Int → Option (Int)
  | 0, _, _ => none
  | k1 + 1, i53, i54 =>
    if decide (i53 < (p0.Stats_.Cells_.length : Int)) then (idx p0.Stats_.Cells_ i53).bind fun e66 => (impl_UnitsOf_L1 p0 k1) (IntKind.i64.wrap (i53 + 1)) (IntKind.i64.wrap (i54 + (e66.length : Int))) else some i54
noncomputable def impl_UnitsOf (p0 : Timpl_Node) : Option (Int) :=
  if (!p0.Leaf_) then some 1 else impl_UnitsOf_L1 p0 Fuel 0 2
noncomputable def impl_TreeUnits_L1 (p0 : Timpl_Tree) : Nat → Int → Int → Option (Int)
  | 0, _, _ => none
  | k1 + 1, i60, i61 =>
    if decide (i61 < (p0.Nodes_.length : Int)) then (idx p0.Nodes_ i61).bind fun e105 => (impl_UnitsOf e105).bind fun y144 => (impl_TreeUnits_L1 p0 k1) (IntKind.i64.wrap (i60 + y144)) (IntKind.i64.wrap (i61 + 1)) else some i60
noncomputable def impl_TreeUnits (p0 : Timpl_Tree) : Option (Int) :=
  impl_TreeUnits_L1 p0 Fuel 0 0
noncomputable def impl_Fits (p0 : Timpl_Schema) (p1 : Timpl_Rule) (p2 : Timpl_Tree) : Option (Bool) :=
  (impl_TreeOk p0 p2).bind fun y27 => (if y27 then (impl_RuleOk p1).bind fun y30 => some y30 else some false).bind fun u29 => (if (u29 && (decide ((p2.Nodes_.length : Int) ≤ p1.Nodes_))) then (impl_DepthOf p2).bind fun y37 => some (decide (y37 ≤ p1.Depth_)) else some false).bind fun u36 => (if u36 then (impl_TreeUnits p2).bind fun y42 => some (decide (y42 ≤ p1.Units_)) else some false).bind fun u41 => some u41
noncomputable def impl_WindowOk_1 (p0 : Int) (p1 : Int) : Option (Bool) :=
  (shl .i64 1 p1).bind fun x10 => (impl_within p0 0 x10).bind fun y12 => some (!y12)
noncomputable def lib_slices_IndexFunc___int_int___impl_WindowOk_1_L1 (p0 : List Int) (p1_0 : Int) : Nat → Int → Option (Int)
  | 0, _ => none
  | k1 + 1, i15 =>
    if decide (i15 < (p0.length : Int)) then (idx p0 i15).bind fun e21 => (impl_WindowOk_1 e21 p1_0).bind fun y23 => if y23 then some i15 else (lib_slices_IndexFunc___int_int___impl_WindowOk_1_L1 p0 p1_0 k1) (IntKind.i64.wrap (i15 + 1)) else some (-1)
noncomputable def lib_slices_IndexFunc___int_int___impl_WindowOk_1 (p0 : List Int) (p1_0 : Int) : Option (Int) :=
  lib_slices_IndexFunc___int_int___impl_WindowOk_1_L1 p0 p1_0 Fuel 0
noncomputable def lib_slices_ContainsFunc___int_int___impl_WindowOk_1 (p0 : List Int) (p1_0 : Int) : Option (Bool) :=
  (lib_slices_IndexFunc___int_int___impl_WindowOk_1 p0 p1_0).bind fun y10 => some (decide (y10 ≥ 0))
noncomputable def impl_WindowOk_L1 (p0 : Timpl_Window) : Nat → Int → Option (Bool)
  | 0, _ => none
  | k1 + 1, i33 =>
    if decide (i33 < (p0.Rows_.length : Int)) then (idx p0.Rows_ i33).bind fun e51 => (impl_within (e51.length : Int) 1 3).bind fun y60 => (if (!y60) then some true else (lib_slices_ContainsFunc___int_int___impl_WindowOk_1 e51 i33).bind fun y63 => some y63).bind fun u62 => if u62 then some false else (impl_WindowOk_L1 p0 k1) (IntKind.i64.wrap (i33 + 1)) else some true
noncomputable def impl_WindowOk (p0 : Timpl_Window) : Option (Bool) :=
  if decide ((p0.Rows_.length : Int) > 8) then some false else impl_WindowOk_L1 p0 Fuel 0
noncomputable def impl_DetOk (p0 : Timpl_Det) : Option (Bool) :=
  (impl_WindowOk p0.Warn_).bind fun y23 => (if y23 then (impl_WindowOk p0.Drift_).bind fun y26 => some y26 else some false).bind fun u25 => some u25
noncomputable def impl_NodeSame (p0 : Timpl_Node) (p1 : Timpl_Node) : Option (Bool) :=
  (if ((p0.Leaf_ == p1.Leaf_) && (p0.Fork_.Attr_ == p1.Fork_.Attr_ && (p0.Fork_.At_ == p1.Fork_.At_ && true))) then (lib_slices_Equal___int_int_ p0.Kids_ p1.Kids_).bind fun y79 => some y79 else some false).bind fun u78 => (if (u78 && (p0.Miss_ == p1.Miss_)) then (impl_StatsSame p0.Stats_ p1.Stats_).bind fun y86 => some y86 else some false).bind fun u85 => (if (u85 && (p0.Since_ == p1.Since_)) then (lib_slices_Equal___int_int_ p0.Attrs_ p1.Attrs_).bind fun y93 => some y93 else some false).bind fun u92 => some (((u92 && (p0.Depth_ == p1.Depth_)) && (p0.Up_ == p1.Up_)) && (p0.Born_ == p1.Born_))
noncomputable def lib_slices_EqualFunc___impl_Node___impl_Node_impl_Node_impl_Node___impl_NodeSame_L1 (p0 : List Timpl_Node) (p1 : List Timpl_Node) : Nat → Int → Option (Bool)
  | 0, _ => none
  | k1 + 1, i91 =>
    if decide (i91 < (p0.length : Int)) then (idx p0 i91).bind fun e173 => (idx p1 i91).bind fun e212 => (impl_NodeSame e173 e212).bind fun y251 => if (!y251) then some false else (lib_slices_EqualFunc___impl_Node___impl_Node_impl_Node_impl_Node___impl_NodeSame_L1 p0 p1 k1) (IntKind.i64.wrap (i91 + 1)) else some true
noncomputable def lib_slices_EqualFunc___impl_Node___impl_Node_impl_Node_impl_Node___impl_NodeSame (p0 : List Timpl_Node) (p1 : List Timpl_Node) : Option (Bool) :=
  if ((p0.length : Int) != (p1.length : Int)) then some false else lib_slices_EqualFunc___impl_Node___impl_Node_impl_Node_impl_Node___impl_NodeSame_L1 p0 p1 Fuel 0
noncomputable def impl_TreeSame (p0 : Timpl_Tree) (p1 : Timpl_Tree) : Option (Bool) :=
  (if (p0.Seen_ == p1.Seen_) then (lib_slices_EqualFunc___impl_Node___impl_Node_impl_Node_impl_Node___impl_NodeSame p0.Nodes_ p1.Nodes_).bind fun y25 => some y25 else some false).bind fun u24 => some u24
noncomputable def impl_MemberOk (p0 : Timpl_Conf) (p1 : Timpl_Member) : Option (Bool) :=
  (impl_ConfOk p0).bind fun y66 => (if (!y66) then some true else (impl_Fits p0.Schema_ p0.Rule_ p1.Tree_).bind fun y69 => some (!y69)).bind fun u68 => (if u68 then some true else (impl_DetOk p1.Det_).bind fun y74 => some (!y74)).bind fun u73 => if u73 then some false else if p1.HasYoung_ then (impl_Fits p0.Schema_ p0.Rule_ p1.Young_).bind fun y78 => some y78 else (impl_TreeSame p1.Young_ (Timpl_Tree.mk ([] : List Timpl_Node) 0)).bind fun y80 => some y80
noncomputable def impl_ForestOk_1 (p0 : Timpl_Member) (p1 : Timpl_Conf) : Option (Bool) :=
  (impl_MemberOk p1 p0).bind fun y65 => some (!y65)
noncomputable def lib_slices_IndexFunc___impl_Member_impl_Member___impl_ForestOk_1_L1 (p0 : List Timpl_Member) (p1_0 : Timpl_Conf) : Nat → Int → Option (Int)
  | 0, _ => none
  | k1 + 1, i73 =>
    if decide (i73 < (p0.length : Int)) then (idx p0 i73).bind fun e115 => (impl_ForestOk_1 e115 p1_0).bind fun y153 => if y153 then some i73 else (lib_slices_IndexFunc___impl_Member_impl_Member___impl_ForestOk_1_L1 p0 p1_0 k1) (IntKind.i64.wrap (i73 + 1)) else some (-1)
noncomputable def lib_slices_IndexFunc___impl_Member_impl_Member___impl_ForestOk_1 (p0 : List Timpl_Member) (p1_0 : Timpl_Conf) : Option (Int) :=
  lib_slices_IndexFunc___impl_Member_impl_Member___impl_ForestOk_1_L1 p0 p1_0 Fuel 0
noncomputable def lib_slices_ContainsFunc___impl_Member_impl_Member___impl_ForestOk_1 (p0 : List Timpl_Member) (p1_0 : Timpl_Conf) : Option (Bool) :=
  (lib_slices_IndexFunc___impl_Member_impl_Member___impl_ForestOk_1 p0 p1_0).bind fun y32 => some (decide (y32 ≥ 0))
noncomputable def impl_ForestOk (p0 : Timpl_Conf) (p1 : Timpl_Forest) : Option (Bool) :=
  (impl_ConfOk p0).bind fun y38 => (if (y38 && ((p1.Members_.length : Int) == p0.Members_)) then (lib_slices_ContainsFunc___impl_Member_impl_Member___impl_ForestOk_1 p1.Members_ p0).bind fun y43 => some (!y43) else some false).bind fun u42 => some u42
noncomputable def impl_ScoreOk_1 (p0 : Int) : Option (Bool) :=
  (impl_within p0 0 9999).bind fun y10 => some (!y10)
noncomputable def impl_tableSum_L1 (p0 : List (List Int)) : Nat → Int → Int → Option (Int)
  | 0, _, _ => none
  | k1 + 1, i22, i23 =>
    if decide (i23 < (p0.length : Int)) then (idx p0 i23).bind fun e36 => (impl_total e36).bind fun y44 => (impl_tableSum_L1 p0 k1) (IntKind.i64.wrap (i22 + y44)) (IntKind.i64.wrap (i23 + 1)) else some i22
noncomputable def impl_tableSum (p0 : List (List Int)) : Option (Int) :=
  impl_tableSum_L1 p0 Fuel 0 0
noncomputable def lib_slices_IndexFunc___int_int___impl_ScoreOk_1_L1 (p0 : List Int) : Nat → Int → Option (Int)
  | 0, _ => none
  | k1 + 1, i15 =>
    if decide (i15 < (p0.length : Int)) then (idx p0 i15).bind fun e21 => (impl_ScoreOk_1 e21).bind fun y23 => if y23 then some i15 else (lib_slices_IndexFunc___int_int___impl_ScoreOk_1_L1 p0 k1) (IntKind.i64.wrap (i15 + 1)) else some (-1)
noncomputable def lib_slices_IndexFunc___int_int___impl_ScoreOk_1 (p0 : List Int) : Option (Int) :=
  lib_slices_IndexFunc___int_int___impl_ScoreOk_1_L1 p0 Fuel 0
noncomputable def lib_slices_ContainsFunc___int_int___impl_ScoreOk_1 (p0 : List Int) : Option (Bool) :=
  (lib_slices_IndexFunc___int_int___impl_ScoreOk_1 p0).bind fun y10 => some (decide (y10 ≥ 0))
noncomputable def impl_ScoreOk_L2 (p1 : Timpl_Score) (p0 : Int) : Nat → Int → (List (Timpl_Pair × Int)) → Option (Bool)
  | 0, _, _ => none
  | k2 + 1, i95, m96 =>
    if decide (i95 < (p1.Last_.length : Int)) then (idx p1.Last_ i95).bind fun e122 => (impl_within e122.Truth_ 0 (IntKind.i64.wrap (p0 - 1))).bind fun y125 => (if (!y125) then some true else (impl_within e122.Said_ 0 (IntKind.i64.wrap (p0 - 1))).bind fun y128 => some (!y128)).bind fun u127 => (if u127 then some true else (idx p1.Table_ e122.Truth_).bind fun e133 => (idx e133 e122.Said_).bind fun e141 => some (decide ((mGet (mPut m96 e122 (IntKind.i64.wrap ((mGet m96 e122) + 1))) e122) > e141))).bind fun u132 => if u132 then some false else (impl_ScoreOk_L2 p1 p0 k2) (IntKind.i64.wrap (i95 + 1)) (mPut m96 e122 (IntKind.i64.wrap ((mGet m96 e122) + 1))) else some true
noncomputable def impl_ScoreOk_L1 (p1 : Timpl_Score) (p0 : Int) : Nat → Int → Option (Bool)
  | 0, _ => none
  | k1 + 1, i37 =>
    if decide (i37 < (p1.Table_.length : Int)) then (idx p1.Table_ i37).bind fun e52 => (if ((e52.length : Int) != p0) then some true else (lib_slices_ContainsFunc___int_int___impl_ScoreOk_1 e52).bind fun y61 => some y61).bind fun u60 => if u60 then some false else (impl_ScoreOk_L1 p1 p0 k1) (IntKind.i64.wrap (i37 + 1)) else (impl_tableSum p1.Table_).bind fun y65 => if ((decide (y65 > 9999)) || ((p1.Last_.length : Int) != (if 20 < y65 then 20 else y65))) then some false else impl_ScoreOk_L2 p1 p0 Fuel 0 ([] : List (Timpl_Pair × Int))
noncomputable def impl_ScoreOk (p0 : Int) (p1 : Timpl_Score) : Option (Bool) :=
  (impl_within p0 2 3).bind fun y19 => if ((!y19) || ((p1.Table_.length : Int) != p0)) then some false else impl_ScoreOk_L1 p1 p0 Fuel 0
noncomputable def impl_StateOk (p0 : Timpl_State) : Option (Bool) :=
  (impl_ForestOk p0.Conf_ p0.Forest_).bind fun y51 => (if y51 then (impl_ScoreOk (p0.Conf_.Schema_.Classes_.length : Int) p0.Score_).bind fun y54 => some y54 else some false).bind fun u53 => some u53
noncomputable def laws_eqRule (p0 : Timpl_Rule) (p1 : Timpl_Rule) : Option (Bool) :=
  if (p0.Sure_ != p1.Sure_) then some false else if (p0.Tie_ != p1.Tie_) then some false else if (p0.Grace_ != p1.Grace_) then some false else if (p0.Depth_ != p1.Depth_) then some false else if (p0.Nodes_ != p1.Nodes_) then some false else if (p0.Units_ != p1.Units_) then some false else if (p0.Two_ != p1.Two_) then some false else some true
noncomputable def laws_eqConf (p0 : Timpl_Conf) (p1 : Timpl_Conf) : Option (Bool) :=
  (laws_eqSchema p0.Schema_ p1.Schema_).bind fun y56 => if (!y56) then some false else (laws_eqRule p0.Rule_ p1.Rule_).bind fun y58 => if (!y58) then some false else if (p0.Members_ != p1.Members_) then some false else if (p0.Pick_ != p1.Pick_) then some false else if (p0.Lambda_ != p1.Lambda_) then some false else if (p0.Warn_ != p1.Warn_) then some false else if (p0.Drift_ != p1.Drift_) then some false else some true
noncomputable def laws_eqWindow (p0 : Timpl_Window) (p1 : Timpl_Window) : Option (Bool) :=
  (laws_eqIntSS p0.Rows_ p1.Rows_).bind fun y20 => if (!y20) then some false else some true
noncomputable def laws_eqDet (p0 : Timpl_Det) (p1 : Timpl_Det) : Option (Bool) :=
  (laws_eqWindow p0.Warn_ p1.Warn_).bind fun y36 => if (!y36) then some false else (laws_eqWindow p0.Drift_ p1.Drift_).bind fun y38 => if (!y38) then some false else some true
noncomputable def laws_eqMember (p0 : Timpl_Member) (p1 : Timpl_Member) : Option (Bool) :=
  (laws_eqTree p0.Tree_ p1.Tree_).bind fun y76 => if (!y76) then some false else if (p0.HasYoung_ != p1.HasYoung_) then some false else (laws_eqTree p0.Young_ p1.Young_).bind fun y78 => if (!y78) then some false else (laws_eqDet p0.Det_ p1.Det_).bind fun y80 => if (!y80) then some false else some true
noncomputable def laws_eqMemberS_L1 (p0 : List Timpl_Member) (p1 : List Timpl_Member) : Nat → Int → Option (Bool)
  | 0, _ => none
  | k1 + 1, i89 =>
    if decide (i89 < (p0.length : Int)) then (idx p0 i89).bind fun e169 => (idx p1 i89).bind fun e207 => (laws_eqMember e169 e207).bind fun y245 => if (!y245) then some false else (laws_eqMemberS_L1 p0 p1 k1) (IntKind.i64.wrap (i89 + 1)) else some true
noncomputable def laws_eqMemberS (p0 : List Timpl_Member) (p1 : List Timpl_Member) : Option (Bool) :=
  if ((p0.length : Int) != (p1.length : Int)) then some false else laws_eqMemberS_L1 p0 p1 Fuel 0
noncomputable def laws_eqForest (p0 : Timpl_Forest) (p1 : Timpl_Forest) : Option (Bool) :=
  (laws_eqMemberS p0.Members_ p1.Members_).bind fun y20 => if (!y20) then some false else some true
noncomputable def laws_eqPair (p0 : Timpl_Pair) (p1 : Timpl_Pair) : Option (Bool) :=
  if (p0.Truth_ != p1.Truth_) then some false else if (p0.Said_ != p1.Said_) then some false else some true
noncomputable def laws_eqPairS_L1 (p0 : List Timpl_Pair) (p1 : List Timpl_Pair) : Nat → Int → Option (Bool)
  | 0, _ => none
  | k1 + 1, i18 =>
    if decide (i18 < (p0.length : Int)) then (idx p0 i18).bind fun e26 => (idx p1 i18).bind fun e28 => (laws_eqPair e26 e28).bind fun y30 => if (!y30) then some false else (laws_eqPairS_L1 p0 p1 k1) (IntKind.i64.wrap (i18 + 1)) else some true
noncomputable def laws_eqPairS (p0 : List Timpl_Pair) (p1 : List Timpl_Pair) : Option (Bool) :=
  if ((p0.length : Int) != (p1.length : Int)) then some false else laws_eqPairS_L1 p0 p1 Fuel 0
noncomputable def laws_eqScore (p0 : Timpl_Score) (p1 : Timpl_Score) : Option (Bool) :=
  (laws_eqIntSS p0.Table_ p1.Table_).bind fun y28 => if (!y28) then some false else (laws_eqPairS p0.Last_ p1.Last_).bind fun y30 => if (!y30) then some false else some true
noncomputable def laws_eqState (p0 : Timpl_State) (p1 : Timpl_State) : Option (Bool) :=
  (laws_eqConf p0.Conf_ p1.Conf_).bind fun y92 => if (!y92) then some false else (laws_eqForest p0.Forest_ p1.Forest_).bind fun y94 => if (!y94) then some false else (laws_eqScore p0.Score_ p1.Score_).bind fun y96 => if (!y96) then some false else some true
noncomputable def laws_FnExactStateOk (p0 : Tlaws_State) : Option (Bool) :=
  (laws_szState p0 1048576).bind fun y51 => if decide (y51 < 0) then some true else (laws_toState p0).bind fun y53 => (spec_StateOk y53).bind fun y78 => (laws_toState p0).bind fun y80 => (impl_StateOk y80).bind fun y106 => if (y106 != y78) then some false else (laws_toState p0).bind fun y133 => (laws_eqState y80 y133).bind fun y158 => if (!y158) then some false else some true
end Go.Vk
