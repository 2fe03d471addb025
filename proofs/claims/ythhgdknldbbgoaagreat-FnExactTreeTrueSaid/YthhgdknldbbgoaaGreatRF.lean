/- The functions of the code, as functions of data. Printed by program. -/
import Derived.Test.YthhgdknldbbgoaaGreatVkM
namespace Go.Vk
structure Tlaws_Attr where
  Name_ : List UInt8
  Cuts_ : List Int
  Values_ : List (List UInt8)
  deriving DecidableEq, Inhabited
structure Tlaws_Schema where
  Attrs_ : List Tlaws_Attr
  Classes_ : List (List UInt8)
  deriving DecidableEq, Inhabited
structure Tlaws_Stats where
  Totals_ : List Int
  Cells_ : List (List Int)
  deriving DecidableEq, Inhabited
structure Tlaws_Fork where
  Attr_ : Int
  At_ : Int
  deriving DecidableEq, Inhabited
structure Tlaws_Node where
  Leaf_ : Bool
  Fork_ : Tlaws_Fork
  Kids_ : List Int
  Miss_ : Int
  Stats_ : Tlaws_Stats
  Since_ : Int
  Attrs_ : List Int
  Depth_ : Int
  Up_ : Int
  Born_ : Int
  deriving DecidableEq, Inhabited
structure Tlaws_Tree where
  Nodes_ : List Tlaws_Node
  Seen_ : Int
  deriving DecidableEq, Inhabited
structure Tlaws_Ex where
  Bins_ : List Int
  Class_ : Int
  deriving DecidableEq, Inhabited
structure Tlaws_Entry where
  Ex_ : Tlaws_Ex
  Weight_ : Int
  deriving DecidableEq, Inhabited
structure Timpl_Attr where
  Name_ : List UInt8
  Cuts_ : List Int
  Values_ : List (List UInt8)
  deriving DecidableEq, Inhabited
structure Timpl_Schema where
  Attrs_ : List Timpl_Attr
  Classes_ : List (List UInt8)
  deriving DecidableEq, Inhabited
structure Timpl_Rule where
  Sure_ : Int
  Tie_ : Int
  Grace_ : Int
  Depth_ : Int
  Nodes_ : Int
  Units_ : Int
  Two_ : Bool
  deriving DecidableEq, Inhabited
structure Tlaws_Rule where
  Sure_ : Int
  Tie_ : Int
  Grace_ : Int
  Depth_ : Int
  Nodes_ : Int
  Units_ : Int
  Two_ : Bool
  deriving DecidableEq, Inhabited
structure Timpl_Fork where
  Attr_ : Int
  At_ : Int
  deriving DecidableEq, Inhabited
structure Timpl_Stats where
  Totals_ : List Int
  Cells_ : List (List Int)
  deriving DecidableEq, Inhabited
structure Timpl_Node where
  Leaf_ : Bool
  Fork_ : Timpl_Fork
  Kids_ : List Int
  Miss_ : Int
  Stats_ : Timpl_Stats
  Since_ : Int
  Attrs_ : List Int
  Depth_ : Int
  Up_ : Int
  Born_ : Int
  deriving DecidableEq, Inhabited
structure Timpl_Tree where
  Nodes_ : List Timpl_Node
  Seen_ : Int
  deriving DecidableEq, Inhabited
structure Timpl_Ex where
  Bins_ : List Int
  Class_ : Int
  deriving DecidableEq, Inhabited
structure Timpl_Entry where
  Ex_ : Timpl_Ex
  Weight_ : Int
  deriving DecidableEq, Inhabited
structure Timpl_checkpoint where
  entry_ : Int
  deriving DecidableEq, Inhabited
noncomputable def laws_szIntS (p0 : List Int) (p1 : Int) : Option (Int) :=
  if decide ((IntKind.i64.wrap (p1 - (p0.length : Int))) < 0) then some (-1) else some (IntKind.i64.wrap (p1 - (p0.length : Int)))
noncomputable def laws_szStringS_L1 (p0 : List (List UInt8)) : Nat → Int → Int → Option (Int)
  | 0, _, _ => none
  | k1 + 1, i14, i15 =>
    if decide (i15 < (p0.length : Int)) then (idx p0 i15).bind fun e20 => if decide ((IntKind.i64.wrap (i14 - (e20.length : Int))) < 0) then some (-1) else (laws_szStringS_L1 p0 k1) (IntKind.i64.wrap (i14 - (e20.length : Int))) (IntKind.i64.wrap (i15 + 1)) else some i14
noncomputable def laws_szStringS (p0 : List (List UInt8)) (p1 : Int) : Option (Int) :=
  if decide ((IntKind.i64.wrap (p1 - (p0.length : Int))) < 0) then some (-1) else laws_szStringS_L1 p0 Fuel (IntKind.i64.wrap (p1 - (p0.length : Int))) 0
noncomputable def laws_szAttr (p0 : Tlaws_Attr) (p1 : Int) : Option (Int) :=
  if decide ((IntKind.i64.wrap (p1 - (p0.Name_.length : Int))) < 0) then some (-1) else (laws_szIntS p0.Cuts_ (IntKind.i64.wrap (p1 - (p0.Name_.length : Int)))).bind fun y21 => if decide (y21 < 0) then some (-1) else (laws_szStringS p0.Values_ y21).bind fun y23 => if decide (y23 < 0) then some (-1) else some y23
noncomputable def laws_szAttrS_L1 (p0 : List Tlaws_Attr) : Nat → Int → Int → Option (Int)
  | 0, _, _ => none
  | k1 + 1, i30, i31 =>
    if decide (i31 < (p0.length : Int)) then (idx p0 i31).bind fun e52 => (laws_szAttr e52 i30).bind fun y68 => if decide (y68 < 0) then some (-1) else (laws_szAttrS_L1 p0 k1) y68 (IntKind.i64.wrap (i31 + 1)) else some i30
noncomputable def laws_szAttrS (p0 : List Tlaws_Attr) (p1 : Int) : Option (Int) :=
  if decide ((IntKind.i64.wrap (p1 - (p0.length : Int))) < 0) then some (-1) else laws_szAttrS_L1 p0 Fuel (IntKind.i64.wrap (p1 - (p0.length : Int))) 0
noncomputable def laws_szSchema (p0 : Tlaws_Schema) (p1 : Int) : Option (Int) :=
  (laws_szAttrS p0.Attrs_ p1).bind fun y19 => if decide (y19 < 0) then some (-1) else (laws_szStringS p0.Classes_ y19).bind fun y21 => if decide (y21 < 0) then some (-1) else some y21
noncomputable def laws_szIntSS_L1 (p0 : List (List Int)) : Nat → Int → Int → Option (Int)
  | 0, _, _ => none
  | k1 + 1, i22, i23 =>
    if decide (i23 < (p0.length : Int)) then (idx p0 i23).bind fun e36 => (laws_szIntS e36 i22).bind fun y44 => if decide (y44 < 0) then some (-1) else (laws_szIntSS_L1 p0 k1) y44 (IntKind.i64.wrap (i23 + 1)) else some i22
noncomputable def laws_szIntSS (p0 : List (List Int)) (p1 : Int) : Option (Int) :=
  if decide ((IntKind.i64.wrap (p1 - (p0.length : Int))) < 0) then some (-1) else laws_szIntSS_L1 p0 Fuel (IntKind.i64.wrap (p1 - (p0.length : Int))) 0
noncomputable def laws_szStats (p0 : Tlaws_Stats) (p1 : Int) : Option (Int) :=
  (laws_szIntS p0.Totals_ p1).bind fun y19 => if decide (y19 < 0) then some (-1) else (laws_szIntSS p0.Cells_ y19).bind fun y21 => if decide (y21 < 0) then some (-1) else some y21
noncomputable def laws_szNode (p0 : Tlaws_Node) (p1 : Int) : Option (Int) :=
  (laws_szIntS p0.Kids_ p1).bind fun y43 => if decide (y43 < 0) then some (-1) else (laws_szStats p0.Stats_ y43).bind fun y45 => if decide (y45 < 0) then some (-1) else (laws_szIntS p0.Attrs_ y45).bind fun y47 => if decide (y47 < 0) then some (-1) else some y47
noncomputable def laws_szNodeS_L1 (p0 : List Tlaws_Node) : Nat → Int → Int → Option (Int)
  | 0, _, _ => none
  | k1 + 1, i52, i53 =>
    if decide (i53 < (p0.length : Int)) then (idx p0 i53).bind fun e96 => (laws_szNode e96 i52).bind fun y134 => if decide (y134 < 0) then some (-1) else (laws_szNodeS_L1 p0 k1) y134 (IntKind.i64.wrap (i53 + 1)) else some i52
noncomputable def laws_szNodeS (p0 : List Tlaws_Node) (p1 : Int) : Option (Int) :=
  if decide ((IntKind.i64.wrap (p1 - (p0.length : Int))) < 0) then some (-1) else laws_szNodeS_L1 p0 Fuel (IntKind.i64.wrap (p1 - (p0.length : Int))) 0
noncomputable def laws_szTree (p0 : Tlaws_Tree) (p1 : Int) : Option (Int) :=
  (laws_szNodeS p0.Nodes_ p1).bind fun y17 => if decide (y17 < 0) then some (-1) else some y17
noncomputable def laws_szEx (p0 : Tlaws_Ex) (p1 : Int) : Option (Int) :=
  (laws_szIntS p0.Bins_ p1).bind fun y17 => if decide (y17 < 0) then some (-1) else some y17
noncomputable def laws_szEntry (p0 : Tlaws_Entry) (p1 : Int) : Option (Int) :=
  (laws_szEx p0.Ex_ p1).bind fun y21 => if decide (y21 < 0) then some (-1) else some y21
noncomputable def laws_szEntryS_L1 (p0 : List Tlaws_Entry) : Nat → Int → Int → Option (Int)
  | 0, _, _ => none
  | k1 + 1, i30, i31 =>
    if decide (i31 < (p0.length : Int)) then (idx p0 i31).bind fun e52 => (laws_szEntry e52 i30).bind fun y68 => if decide (y68 < 0) then some (-1) else (laws_szEntryS_L1 p0 k1) y68 (IntKind.i64.wrap (i31 + 1)) else some i30
noncomputable def laws_szEntryS (p0 : List Tlaws_Entry) (p1 : Int) : Option (Int) :=
  if decide ((IntKind.i64.wrap (p1 - (p0.length : Int))) < 0) then some (-1) else laws_szEntryS_L1 p0 Fuel (IntKind.i64.wrap (p1 - (p0.length : Int))) 0
noncomputable def laws_toIntS_L1 (p0 : List Int) : Nat → (List Int) → Int → Option (List Int)
  | 0, _, _ => none
  | k1 + 1, l19, i20 =>
    if decide (i20 < (p0.length : Int)) then (idx p0 i20).bind fun e27 => (idx l19 i20).bind fun _ => (laws_toIntS_L1 p0 k1) (l19.set i20.toNat e27) (IntKind.i64.wrap (i20 + 1)) else some l19
noncomputable def laws_toIntS (p0 : List Int) : Option (List Int) :=
  (mk (0 : Int) (p0.length : Int)).bind fun l10 => laws_toIntS_L1 p0 Fuel l10 0
noncomputable def laws_toStringS_L1 (p0 : List (List UInt8)) : Nat → (List (List UInt8)) → Int → Option (List (List UInt8))
  | 0, _, _ => none
  | k1 + 1, l19, i20 =>
    if decide (i20 < (p0.length : Int)) then (idx p0 i20).bind fun e27 => (idx l19 i20).bind fun _ => (laws_toStringS_L1 p0 k1) (l19.set i20.toNat e27) (IntKind.i64.wrap (i20 + 1)) else some l19
noncomputable def laws_toStringS (p0 : List (List UInt8)) : Option (List (List UInt8)) :=
  (mk ([] : List UInt8) (p0.length : Int)).bind fun l10 => laws_toStringS_L1 p0 Fuel l10 0
noncomputable def laws_toAttr (p0 : Tlaws_Attr) : Option (Timpl_Attr) :=
  (laws_toIntS p0.Cuts_).bind fun y23 => (laws_toStringS p0.Values_).bind fun y32 => some (Timpl_Attr.mk p0.Name_ y23 y32)
noncomputable def laws_toAttrS_L1 (p0 : List Tlaws_Attr) : Nat → (List Timpl_Attr) → Int → Option (List Timpl_Attr)
  | 0, _, _ => none
  | k1 + 1, l63, i65 =>
    if decide (i65 < (p0.length : Int)) then (idx p0 i65).bind fun e116 => (laws_toAttr e116).bind fun y132 => (idx l63 i65).bind fun _ => (laws_toAttrS_L1 p0 k1) (l63.set i65.toNat y132) (IntKind.i64.wrap (i65 + 1)) else some l63
noncomputable def laws_toAttrS (p0 : List Tlaws_Attr) : Option (List Timpl_Attr) :=
  (mk ((Timpl_Attr.mk [] [] []) : Timpl_Attr) (p0.length : Int)).bind fun l10 => laws_toAttrS_L1 p0 Fuel l10 0
noncomputable def laws_toSchema (p0 : Tlaws_Schema) : Option (Timpl_Schema) :=
  (laws_toAttrS p0.Attrs_).bind fun y21 => (laws_toStringS p0.Classes_).bind fun y30 => some (Timpl_Schema.mk y21 y30)
noncomputable def laws_toRule (p0 : Tlaws_Rule) : Option (Timpl_Rule) :=
  some (Timpl_Rule.mk p0.Sure_ p0.Tie_ p0.Grace_ p0.Depth_ p0.Nodes_ p0.Units_ p0.Two_)
noncomputable def laws_toFork (p0 : Tlaws_Fork) : Option (Timpl_Fork) :=
  some (Timpl_Fork.mk p0.Attr_ p0.At_)
noncomputable def laws_toIntSS_L1 (p0 : List (List Int)) : Nat → (List (List Int)) → Int → Option (List (List Int))
  | 0, _, _ => none
  | k1 + 1, l46, i48 =>
    if decide (i48 < (p0.length : Int)) then (idx p0 i48).bind fun e82 => (laws_toIntS e82).bind fun y90 => (idx l46 i48).bind fun _ => (laws_toIntSS_L1 p0 k1) (l46.set i48.toNat y90) (IntKind.i64.wrap (i48 + 1)) else some l46
noncomputable def laws_toIntSS (p0 : List (List Int)) : Option (List (List Int)) :=
  (mk ([] : List Int) (p0.length : Int)).bind fun l10 => laws_toIntSS_L1 p0 Fuel l10 0
noncomputable def laws_toStats (p0 : Tlaws_Stats) : Option (Timpl_Stats) :=
  (laws_toIntS p0.Totals_).bind fun y21 => (laws_toIntSS p0.Cells_).bind fun y30 => some (Timpl_Stats.mk y21 y30)
noncomputable def laws_toNode (p0 : Tlaws_Node) : Option (Timpl_Node) :=
  (laws_toFork p0.Fork_).bind fun y45 => (laws_toIntS p0.Kids_).bind fun y47 => (laws_toStats p0.Stats_).bind fun y56 => (laws_toIntS p0.Attrs_).bind fun y69 => some (Timpl_Node.mk p0.Leaf_ y45 y47 p0.Miss_ y56 p0.Since_ y69 p0.Depth_ p0.Up_ p0.Born_)
noncomputable def laws_toNodeS_L1 (p0 : List Tlaws_Node) : Nat → (List Timpl_Node) → Int → Option (List Timpl_Node)
  | 0, _, _ => none
  | k1 + 1, l99, i101 =>
    if decide (i101 < (p0.length : Int)) then (idx p0 i101).bind fun e188 => (laws_toNode e188).bind fun y226 => (idx l99 i101).bind fun _ => (laws_toNodeS_L1 p0 k1) (l99.set i101.toNat y226) (IntKind.i64.wrap (i101 + 1)) else some l99
noncomputable def laws_toNodeS (p0 : List Tlaws_Node) : Option (List Timpl_Node) :=
  (mk ((Timpl_Node.mk false (Timpl_Fork.mk 0 0) [] 0 (Timpl_Stats.mk [] []) 0 [] 0 0 0) : Timpl_Node) (p0.length : Int)).bind fun l10 => laws_toNodeS_L1 p0 Fuel l10 0
noncomputable def laws_toTree (p0 : Tlaws_Tree) : Option (Timpl_Tree) :=
  (laws_toNodeS p0.Nodes_).bind fun y19 => some (Timpl_Tree.mk y19 p0.Seen_)
noncomputable def laws_toEx (p0 : Tlaws_Ex) : Option (Timpl_Ex) :=
  (laws_toIntS p0.Bins_).bind fun y19 => some (Timpl_Ex.mk y19 p0.Class_)
noncomputable def laws_toEntry (p0 : Tlaws_Entry) : Option (Timpl_Entry) :=
  (laws_toEx p0.Ex_).bind fun y23 => some (Timpl_Entry.mk y23 p0.Weight_)
noncomputable def laws_toEntryS_L1 (p0 : List Tlaws_Entry) : Nat → (List Timpl_Entry) → Int → Option (List Timpl_Entry)
  | 0, _, _ => none
  | k1 + 1, l56, i58 =>
    if decide (i58 < (p0.length : Int)) then (idx p0 i58).bind fun e102 => (laws_toEntry e102).bind fun y118 => (idx l56 i58).bind fun _ => (laws_toEntryS_L1 p0 k1) (l56.set i58.toNat y118) (IntKind.i64.wrap (i58 + 1)) else some l56
noncomputable def laws_toEntryS (p0 : List Tlaws_Entry) : Option (List Timpl_Entry) :=
  (mk ((Timpl_Entry.mk (Timpl_Ex.mk [] 0) 0) : Timpl_Entry) (p0.length : Int)).bind fun l10 => laws_toEntryS_L1 p0 Fuel l10 0
noncomputable def spec_l1In (p0 : Int) (p1 : Int) (p2 : Int) : Option (Bool) :=
  some ((decide (p0 ≥ p1)) && (decide (p0 ≤ p2)))
noncomputable def spec_WordOk_L1 (p0 : List UInt8) : Nat → Int → Option (Bool)
  | 0, _ => none
  | k1 + 1, i20 =>
    if decide (i20 < (p0.length : Int)) then (idx p0 i20).bind fun b29 => (if decide ((b29.toNat : Int) < 97) then some true else (idx p0 i20).bind fun b32 => some (decide ((b32.toNat : Int) > 122))).bind fun u31 => if u31 then some false else (spec_WordOk_L1 p0 k1) (IntKind.i64.wrap (i20 + 1)) else some true
noncomputable def spec_WordOk (p0 : List UInt8) : Option (Bool) :=
  (spec_l1In (p0.length : Int) 1 8).bind fun y10 => if (!y10) then some false else spec_WordOk_L1 p0 Fuel 0
noncomputable def spec_l5Words_L2 (i30 : Int) (p0 : List (List UInt8)) (R1 : Int → Option (Bool)) : Nat → Int → Option (Bool)
  | 0, _ => none
  | k2 + 1, i60 =>
    if decide (i60 < i30) then (idx p0 i30).bind fun e66 => (idx p0 i60).bind fun e68 => if (e66 == e68) then some false else (spec_l5Words_L2 i30 p0 R1 k2) (IntKind.i64.wrap (i60 + 1)) else R1 (IntKind.i64.wrap (i30 + 1))
noncomputable def spec_l5Words_L1 (p0 : List (List UInt8)) : Nat → Int → Option (Bool)
  | 0, _ => none
  | k1 + 1, i30 =>
    if decide (i30 < (p0.length : Int)) then (idx p0 i30).bind fun e51 => (spec_WordOk e51).bind fun y53 => if (!y53) then some false else spec_l5Words_L2 i30 p0 (spec_l5Words_L1 p0 k1) Fuel 0 else some true
noncomputable def spec_l5Words (p0 : List (List UInt8)) : Option (Bool) :=
  spec_l5Words_L1 p0 Fuel 0
noncomputable def spec_AttrOk_L1 (p0 : Timpl_Attr) : Nat → Int → Option (Bool)
  | 0, _ => none
  | k1 + 1, i47 =>
    if decide (i47 < (p0.Cuts_.length : Int)) then (idx p0.Cuts_ i47).bind fun e63 => (spec_l1In e63 (-9999) 9998).bind fun y65 => (if (!y65) then some true else (if decide (i47 > 0) then (idx p0.Cuts_ i47).bind fun e69 => (idx p0.Cuts_ (IntKind.i64.wrap (i47 - 1))).bind fun e71 => some (decide (e69 ≤ e71)) else some false).bind fun u68 => some u68).bind fun u67 => if u67 then some false else (spec_AttrOk_L1 p0 k1) (IntKind.i64.wrap (i47 + 1)) else some true
noncomputable def spec_AttrOk (p0 : Timpl_Attr) : Option (Bool) :=
  (spec_WordOk p0.Name_).bind fun y21 => if (!y21) then some false else if ((p0.Cuts_.length : Int) == 0) then (spec_l1In (p0.Values_.length : Int) 2 4).bind fun y23 => (if y23 then (spec_l5Words p0.Values_).bind fun y26 => some y26 else some false).bind fun u25 => some u25 else if ((decide ((p0.Values_.length : Int) > 0)) || (decide ((p0.Cuts_.length : Int) > 3))) then some false else spec_AttrOk_L1 p0 Fuel 0
noncomputable def spec_SchemaOk_L2 (i149 : Int) (p0 : Timpl_Schema) (R1 : Int → Option (Bool)) : Nat → Int → Option (Bool)
  | 0, _ => none
  | k2 + 1, i319 =>
    if decide (i319 < i149) then (idx p0.Attrs_ i149).bind fun e353 => (idx p0.Attrs_ i319).bind fun e369 => if (e353.Name_ == e369.Name_) then some false else (spec_SchemaOk_L2 i149 p0 R1 k2) (IntKind.i64.wrap (i319 + 1)) else R1 (IntKind.i64.wrap (i149 + 1))
noncomputable def spec_SchemaOk_L1 (p0 : Timpl_Schema) : Nat → Int → Option (Bool)
  | 0, _ => none
  | k1 + 1, i149 =>
    if decide (i149 < (p0.Attrs_.length : Int)) then (idx p0.Attrs_ i149).bind fun e268 => (spec_AttrOk e268).bind fun y284 => if (!y284) then some false else spec_SchemaOk_L2 i149 p0 (spec_SchemaOk_L1 p0 k1) Fuel 0 else some true
noncomputable def spec_SchemaOk (p0 : Timpl_Schema) : Option (Bool) :=
  (spec_l1In (p0.Attrs_.length : Int) 1 5).bind fun y19 => (if (!y19) then some true else (spec_l1In (p0.Classes_.length : Int) 2 3).bind fun y22 => some (!y22)).bind fun u21 => (if u21 then some true else (spec_l5Words p0.Classes_).bind fun y27 => some (!y27)).bind fun u26 => if u26 then some false else spec_SchemaOk_L1 p0 Fuel 0
noncomputable def spec_Bins (p0 : Timpl_Attr) : Option (Int) :=
  (spec_AttrOk p0).bind fun y21 => if (!y21) then some 0 else if decide ((p0.Cuts_.length : Int) > 0) then some (IntKind.i64.wrap ((p0.Cuts_.length : Int) + 1)) else some (p0.Values_.length : Int)
noncomputable def spec_StatsOk_L4 (y397 : Int) (p1 : Timpl_Stats) (i218 : Int) (p0 : Timpl_Schema) (i452 : Int) (R3 : Int → Option (Bool)) : Nat → Int → Int → Option (Bool)
  | 0, _, _ => none
  | k4 + 1, i512, i513 =>
    if decide (i513 < y397) then (idx p1.Cells_ i218).bind fun e528 => (idx e528 (IntKind.i64.wrap ((IntKind.i64.wrap (i513 * (p0.Classes_.length : Int))) + i452))).bind fun e536 => (spec_l1In e536 0 999).bind fun y538 => if (!y538) then some false else (spec_StatsOk_L4 y397 p1 i218 p0 i452 R3 k4) (IntKind.i64.wrap (i512 + e536)) (IntKind.i64.wrap (i513 + 1)) else (idx p1.Totals_ i452).bind fun e540 => if decide (i512 > e540) then some false else R3 (IntKind.i64.wrap (i452 + 1))
noncomputable def spec_StatsOk_L3 (p0 : Timpl_Schema) (y397 : Int) (p1 : Timpl_Stats) (i218 : Int) (R2 : Int → Option (Bool)) : Nat → Int → Option (Bool)
  | 0, _ => none
  | k3 + 1, i452 =>
    if decide (i452 < (p0.Classes_.length : Int)) then spec_StatsOk_L4 y397 p1 i218 p0 i452 (spec_StatsOk_L3 p0 y397 p1 i218 R2 k3) Fuel 0 0 else R2 (IntKind.i64.wrap (i218 + 1))
noncomputable def spec_StatsOk_L2 (p1 : Timpl_Stats) (p0 : Timpl_Schema) : Nat → Int → Option (Bool)
  | 0, _ => none
  | k2 + 1, i218 =>
    if decide (i218 < (p1.Cells_.length : Int)) then (idx p0.Attrs_ i218).bind fun e381 => (spec_Bins e381).bind fun y397 => (idx p1.Cells_ i218).bind fun e399 => if ((e399.length : Int) != (IntKind.i64.wrap (y397 * (p0.Classes_.length : Int)))) then some false else spec_StatsOk_L3 p0 y397 p1 i218 (spec_StatsOk_L2 p1 p0 k2) Fuel 0 else some true
noncomputable def spec_StatsOk_L1 (p1 : Timpl_Stats) (p0 : Timpl_Schema) : Nat → Int → Int → Option (Bool)
  | 0, _, _ => none
  | k1 + 1, i40, i41 =>
    if decide (i41 < (p1.Totals_.length : Int)) then (idx p1.Totals_ i41).bind fun e50 => (spec_l1In e50 0 999).bind fun y52 => if (!y52) then some false else (idx p1.Totals_ i41).bind fun e54 => (spec_StatsOk_L1 p1 p0 k1) (IntKind.i64.wrap (i40 + e54)) (IntKind.i64.wrap (i41 + 1)) else if decide (i40 > 999) then some false else if ((p1.Cells_.length : Int) == 0) then some true else if ((p1.Cells_.length : Int) != (p0.Attrs_.length : Int)) then some false else spec_StatsOk_L2 p1 p0 Fuel 0
noncomputable def spec_StatsOk (p0 : Timpl_Schema) (p1 : Timpl_Stats) : Option (Bool) :=
  (spec_SchemaOk p0).bind fun y28 => if ((!y28) || ((p1.Totals_.length : Int) != (p0.Classes_.length : Int))) then some false else spec_StatsOk_L1 p1 p0 Fuel 0 0
noncomputable def spec_AttrsOk_L1 (p1 : List Int) (p0 : Timpl_Schema) : Nat → Int → Option (Bool)
  | 0, _ => none
  | k1 + 1, i38 =>
    if decide (i38 < (p1.length : Int)) then (idx p1 i38).bind fun e54 => (spec_l1In e54 0 (IntKind.i64.wrap ((p0.Attrs_.length : Int) - 1))).bind fun y56 => (if (!y56) then some true else (if decide (i38 > 0) then (idx p1 i38).bind fun e60 => (idx p1 (IntKind.i64.wrap (i38 - 1))).bind fun e62 => some (decide (e60 ≤ e62)) else some false).bind fun u59 => some u59).bind fun u58 => if u58 then some false else (spec_AttrsOk_L1 p1 p0 k1) (IntKind.i64.wrap (i38 + 1)) else some true
noncomputable def spec_AttrsOk (p0 : Timpl_Schema) (p1 : List Int) : Option (Bool) :=
  (spec_SchemaOk p0).bind fun y19 => if ((!y19) || ((p1.length : Int) == 0)) then some false else spec_AttrsOk_L1 p1 p0 Fuel 0
noncomputable def spec_StatsTotal_L1 (p1 : Timpl_Stats) : Nat → Int → Int → Option (Int)
  | 0, _, _ => none
  | k1 + 1, i35, i36 =>
    if decide (i36 < (p1.Totals_.length : Int)) then (idx p1.Totals_ i36).bind fun e41 => (spec_StatsTotal_L1 p1 k1) (IntKind.i64.wrap (i35 + e41)) (IntKind.i64.wrap (i36 + 1)) else some i35
noncomputable def spec_StatsTotal (p0 : Timpl_Schema) (p1 : Timpl_Stats) : Option (Int) :=
  (spec_StatsOk p0 p1).bind fun y28 => if (!y28) then some 0 else spec_StatsTotal_L1 p1 Fuel 0 0
noncomputable def spec_l19Leaf (p0 : Timpl_Schema) (p1 : Timpl_Node) : Option (Bool) :=
  (if (((!(p1.Fork_.Attr_ == 0 && (p1.Fork_.At_ == 0 && true))) || (decide ((p1.Kids_.length : Int) > 0))) || (p1.Miss_ != 0)) then some true else (spec_StatsOk p0 p1.Stats_).bind fun y57 => some (!y57)).bind fun u56 => (if u56 then some true else (spec_AttrsOk p0 p1.Attrs_).bind fun y62 => some (!y62)).bind fun u61 => if u61 then some false else if ((p1.Stats_.Cells_.length : Int) == 0) then some (p1.Since_ == 0) else (spec_StatsTotal p0 p1.Stats_).bind fun y66 => (spec_l1In p1.Since_ 0 y66).bind fun y68 => some y68
noncomputable def spec_ForkOk (p0 : Timpl_Schema) (p1 : Timpl_Fork) : Option (Bool) :=
  (spec_SchemaOk p0).bind fun y20 => (if (!y20) then some true else (spec_l1In p1.Attr_ 0 (IntKind.i64.wrap ((p0.Attrs_.length : Int) - 1))).bind fun y23 => some (!y23)).bind fun u22 => if u22 then some false else (idx p0.Attrs_ p1.Attr_).bind fun e27 => if decide ((e27.Cuts_.length : Int) > 0) then (idx p0.Attrs_ p1.Attr_).bind fun e43 => (spec_Bins e43).bind fun y59 => (spec_l1In p1.At_ (-1) (IntKind.i64.wrap (y59 - 2))).bind fun y61 => some y61 else (idx p0.Attrs_ p1.Attr_).bind fun e63 => (spec_Bins e63).bind fun y79 => (spec_l1In p1.At_ (-1) (IntKind.i64.wrap (y79 - 1))).bind fun y81 => some y81
noncomputable def spec_Branches (p0 : Timpl_Schema) (p1 : Timpl_Fork) : Option (Int) :=
  (spec_ForkOk p0 p1).bind fun y20 => if (!y20) then some 0 else if (p1.At_ == (-1)) then (idx p0.Attrs_ p1.Attr_).bind fun e22 => (spec_Bins e22).bind fun y38 => some y38 else some 2
noncomputable def spec_l19Split_L1 (e26 : Timpl_Node) (p2 : Int) (p1 : Timpl_Tree) : Nat → Int → Option (Bool)
  | 0, _ => none
  | k1 + 1, i149 =>
    if decide (i149 < (e26.Kids_.length : Int)) then (idx e26.Kids_ i149).bind fun e208 => (spec_l1In e208 (IntKind.i64.wrap (p2 + 1)) (IntKind.i64.wrap ((p1.Nodes_.length : Int) - 1))).bind fun y210 => (if (!y210) then some true else (idx e26.Kids_ i149).bind fun e213 => (idx p1.Nodes_ e213).bind fun e215 => some (e215.Up_ != p2)).bind fun u212 => (if u212 then some true else (if decide (i149 > 0) then (idx e26.Kids_ i149).bind fun e257 => (idx e26.Kids_ (IntKind.i64.wrap (i149 - 1))).bind fun e259 => some (decide (e257 ≤ e259)) else some false).bind fun u256 => some u256).bind fun u255 => if u255 then some false else (spec_l19Split_L1 e26 p2 p1 k1) (IntKind.i64.wrap (i149 + 1)) else some true
noncomputable def spec_l19Split (p0 : Timpl_Schema) (p1 : Timpl_Tree) (p2 : Int) : Option (Bool) :=
  (idx p1.Nodes_ p2).bind fun e26 => (spec_ForkOk p0 e26.Fork_).bind fun y65 => (if (!y65) then some true else (spec_Branches p0 e26.Fork_).bind fun y68 => some ((e26.Kids_.length : Int) != y68)).bind fun u67 => (if u67 then some true else (spec_l1In e26.Miss_ 0 (IntKind.i64.wrap ((e26.Kids_.length : Int) - 1))).bind fun y73 => some (!y73)).bind fun u72 => (if u72 then some true else (spec_StatsOk p0 e26.Stats_).bind fun y78 => some (!y78)).bind fun u77 => (if ((u77 || (decide ((e26.Stats_.Cells_.length : Int) > 0))) || (e26.Since_ != 0)) then some true else (spec_AttrsOk p0 e26.Attrs_).bind fun y87 => some (!y87)).bind fun u86 => if u86 then some false else spec_l19Split_L1 e26 p2 p1 Fuel 0
noncomputable def spec_l19Among_L1 (p0 : List Int) (p1 : Int) : Nat → Int → Option (Bool)
  | 0, _ => none
  | k1 + 1, i13 =>
    if decide (i13 < (p0.length : Int)) then (idx p0 i13).bind fun e18 => if (e18 == p1) then some true else (spec_l19Among_L1 p0 p1 k1) (IntKind.i64.wrap (i13 + 1)) else some false
noncomputable def spec_l19Among (p0 : List Int) (p1 : Int) : Option (Bool) :=
  spec_l19Among_L1 p0 p1 Fuel 0
noncomputable def spec_TreeOk_L1 (p1 : Timpl_Tree) (p0 : Timpl_Schema) : Nat → Int → Option (Bool)
  | 0, _ => none
  | k1 + 1, i152 =>
    if decide (i152 < (p1.Nodes_.length : Int)) then (idx p1.Nodes_ i152).bind fun e267 => (spec_l1In e267.Depth_ 0 6).bind fun y306 => (if (!y306) then some true else (spec_l1In e267.Born_ 0 p1.Seen_).bind fun y309 => some (!y309)).bind fun u308 => if u308 then some false else (if e267.Leaf_ then (spec_l19Leaf p0 ({ e267 with Leaf_ := true })).bind fun y314 => some (!y314) else some false).bind fun u313 => (if u313 then some true else (if (!e267.Leaf_) then (spec_l19Split p0 p1 i152).bind fun y320 => some (!y320) else some false).bind fun u319 => some u319).bind fun u318 => if u318 then some false else if (i152 == 0) then if (((e267.Up_ != (-1)) || (e267.Depth_ != 0)) || (e267.Born_ != 0)) then some false else (spec_TreeOk_L1 p1 p0 k1) (IntKind.i64.wrap (i152 + 1)) else (spec_l1In e267.Up_ 0 (IntKind.i64.wrap (i152 - 1))).bind fun y330 => if (!y330) then some false else (idx p1.Nodes_ e267.Up_).bind fun e332 => (if e332.Leaf_ then some true else (spec_l19Among e332.Kids_ i152).bind fun y372 => some (!y372)).bind fun u371 => if ((u371 || ((IntKind.i64.wrap (e332.Depth_ + 1)) != e267.Depth_)) || (decide (e332.Born_ > e267.Born_))) then some false else (spec_TreeOk_L1 p1 p0 k1) (IntKind.i64.wrap (i152 + 1)) else some true
noncomputable def spec_TreeOk (p0 : Timpl_Schema) (p1 : Timpl_Tree) : Option (Bool) :=
  (spec_SchemaOk p0).bind fun y26 => (if (!y26) then some true else (spec_l1In (p1.Nodes_.length : Int) 1 31).bind fun y29 => some (!y29)).bind fun u28 => (if u28 then some true else (spec_l1In p1.Seen_ 0 99999).bind fun y34 => some (!y34)).bind fun u33 => if u33 then some false else spec_TreeOk_L1 p1 p0 Fuel 0
noncomputable def spec_RuleOk (p0 : Timpl_Rule) : Option (Bool) :=
  (spec_l1In p0.Sure_ 1 9).bind fun y11 => (if y11 then (spec_l1In p0.Tie_ 0 999).bind fun y14 => some y14 else some false).bind fun u13 => (if u13 then (spec_l1In p0.Grace_ 1 200).bind fun y19 => some y19 else some false).bind fun u18 => (if u18 then (spec_l1In p0.Depth_ 0 6).bind fun y24 => some y24 else some false).bind fun u23 => (if u23 then (spec_l1In p0.Nodes_ 1 31).bind fun y29 => some y29 else some false).bind fun u28 => (if u28 then (spec_l1In p0.Units_ 62 2000).bind fun y34 => some y34 else some false).bind fun u33 => some u33
noncomputable def spec_ExOk_L1 (p1 : Timpl_Ex) (p0 : Timpl_Schema) : Nat → Int → Option (Bool)
  | 0, _ => none
  | k1 + 1, i58 =>
    if decide (i58 < (p1.Bins_.length : Int)) then (idx p1.Bins_ i58).bind fun e82 => (idx p0.Attrs_ i58).bind fun e84 => (spec_Bins e84).bind fun y100 => (spec_l1In e82 (-1) (IntKind.i64.wrap (y100 - 1))).bind fun y102 => if (!y102) then some false else (spec_ExOk_L1 p1 p0 k1) (IntKind.i64.wrap (i58 + 1)) else some true
noncomputable def spec_ExOk (p0 : Timpl_Schema) (p1 : Timpl_Ex) : Option (Bool) :=
  (spec_SchemaOk p0).bind fun y26 => (if ((!y26) || ((p1.Bins_.length : Int) != (p0.Attrs_.length : Int))) then some true else (spec_l1In p1.Class_ (-1) (IntKind.i64.wrap ((p0.Classes_.length : Int) - 1))).bind fun y31 => some (!y31)).bind fun u30 => if u30 then some false else spec_ExOk_L1 p1 p0 Fuel 0
noncomputable def spec_EntriesOk_L1 (p1 : List Timpl_Entry) (p0 : Timpl_Schema) : Nat → Int → Option (Bool)
  | 0, _ => none
  | k1 + 1, i80 =>
    if decide (i80 < (p1.length : Int)) then (idx p1 i80).bind fun e140 => (spec_ExOk p0 e140.Ex_).bind fun y156 => (if (!y156) then some true else (idx p1 i80).bind fun e159 => some (decide (e159.Ex_.Class_ < 0))).bind fun u158 => (if u158 then some true else (idx p1 i80).bind fun e178 => (spec_l1In e178.Weight_ 1 7).bind fun y194 => some (!y194)).bind fun u177 => if u177 then some false else (spec_EntriesOk_L1 p1 p0 k1) (IntKind.i64.wrap (i80 + 1)) else some true
noncomputable def spec_EntriesOk (p0 : Timpl_Schema) (p1 : List Timpl_Entry) : Option (Bool) :=
  (spec_SchemaOk p0).bind fun y19 => if (!y19) then some false else spec_EntriesOk_L1 p1 p0 Fuel 0
noncomputable def spec_StatsNew_L1 (p0 : Timpl_Schema) (l22 : List Int) : Nat → (List (List Int)) → Int → Option (Timpl_Stats)
  | 0, _, _ => none
  | k1 + 1, l80, i84 =>
    if decide (i84 < (p0.Attrs_.length : Int)) then (idx p0.Attrs_ i84).bind fun e161 => (spec_Bins e161).bind fun y177 => (mk (0 : Int) (IntKind.i64.wrap (y177 * (p0.Classes_.length : Int)))).bind fun l179 => (app l80 [l179]).bind fun l183 => (spec_StatsNew_L1 p0 l22 k1) l183 (IntKind.i64.wrap (i84 + 1)) else some (Timpl_Stats.mk l22 l80)
noncomputable def spec_StatsNew (p0 : Timpl_Schema) : Option (Timpl_Stats) :=
  (spec_SchemaOk p0).bind fun y20 => if (!y20) then some (Timpl_Stats.mk ([] : List Int) ([] : List (List Int))) else (mk (0 : Int) (p0.Classes_.length : Int)).bind fun l22 => spec_StatsNew_L1 p0 l22 Fuel ([] : List (List Int)) 0
noncomputable def spec_l1Min (p0 : Int) (p1 : Int) : Option (Int) :=
  if decide (p0 < p1) then some p0 else some p1
noncomputable def spec_l30End (p0 : Timpl_Tree) (p1 : List Timpl_Entry) (p2 : Int) : Option (Int) :=
  (idx p0.Nodes_ p2).bind fun e17 => if e17.Leaf_ then some (p1.length : Int) else (idx p0.Nodes_ p2).bind fun e55 => (idx e55.Kids_ 0).bind fun e93 => (idx p0.Nodes_ e93).bind fun e95 => (spec_l1Min e95.Born_ (p1.length : Int)).bind fun y133 => some y133
noncomputable def spec_l1Bit (p0 : Bool) : Option (Int) :=
  if p0 then some 1 else some 0
noncomputable def spec_BranchOf (p0 : Timpl_Schema) (p1 : Timpl_Fork) (p2 : Int) : Option (Int) :=
  (spec_ForkOk p0 p1).bind fun y20 => (if (!y20) then some true else (idx p0.Attrs_ p1.Attr_).bind fun e23 => (spec_Bins e23).bind fun y39 => (spec_l1In p2 0 (IntKind.i64.wrap (y39 - 1))).bind fun y41 => some (!y41)).bind fun u22 => if u22 then some (-1) else if (p1.At_ == (-1)) then some p2 else (idx p0.Attrs_ p1.Attr_).bind fun e45 => if decide ((e45.Cuts_.length : Int) > 0) then (spec_l1Bit (decide (p2 > p1.At_))).bind fun y61 => some y61 else (spec_l1Bit (p2 != p1.At_)).bind fun y63 => some y63
noncomputable def spec_l19Walk_L1 (p1 : Timpl_Tree) (p2 : Timpl_Ex) (p0 : Timpl_Schema) : Nat → (List Int) → Int → Option (List Int)
  | 0, _, _ => none
  | k1 + 1, l134, i139 =>
    (idx p1.Nodes_ i139).bind fun e240 => if (!e240.Leaf_) then (app l134 ([i139] : List Int)).bind fun l279 => (idx p1.Nodes_ i139).bind fun e285 => (idx p2.Bins_ e285.Fork_.Attr_).bind fun e324 => if decide (e324 ≥ 0) then (idx p2.Bins_ e285.Fork_.Attr_).bind fun e326 => (spec_BranchOf p0 e285.Fork_ e326).bind fun y328 => (idx e285.Kids_ y328).bind fun e330 => (spec_l19Walk_L1 p1 p2 p0 k1) l279 e330 else (idx e285.Kids_ e285.Miss_).bind fun e332 => (spec_l19Walk_L1 p1 p2 p0 k1) l279 e332 else (app l134 ([i139] : List Int)).bind fun l335 => some l335
noncomputable def spec_l19Walk (p0 : Timpl_Schema) (p1 : Timpl_Tree) (p2 : Timpl_Ex) : Option (List Int) :=
  spec_l19Walk_L1 p1 p2 p0 Fuel ([] : List Int) 0
noncomputable def spec_l30Own_L1 (p1 : Timpl_Tree) (p2 : List Timpl_Entry) (p3 : Int) (p0 : Timpl_Schema) : Nat → Int → (List Int) → Option (List Int)
  | 0, _, _ => none
  | k1 + 1, i132, l133 =>
    (spec_l30End p1 p2 p3).bind fun y205 => if decide (i132 < y205) then (idx p2 i132).bind fun e232 => (spec_l19Walk p0 p1 e232.Ex_).bind fun y248 => (spec_l19Among y248 p3).bind fun y257 => if y257 then (app l133 ([i132] : List Int)).bind fun l260 => (spec_l30Own_L1 p1 p2 p3 p0 k1) (IntKind.i64.wrap (i132 + 1)) l260 else (spec_l30Own_L1 p1 p2 p3 p0 k1) (IntKind.i64.wrap (i132 + 1)) l133 else some l133
noncomputable def spec_l30Own (p0 : Timpl_Schema) (p1 : Timpl_Tree) (p2 : List Timpl_Entry) (p3 : Int) : Option (List Int) :=
  (idx p1.Nodes_ p3).bind fun e27 => spec_l30Own_L1 p1 p2 p3 p0 Fuel e27.Born_ ([] : List Int)
noncomputable def spec_l8Copy_L1 (p0 : Timpl_Stats) (l21 : List Int) : Nat → (List (List Int)) → Int → Option (Timpl_Stats)
  | 0, _, _ => none
  | k1 + 1, l67, i71 =>
    if decide (i71 < (p0.Cells_.length : Int)) then (idx p0.Cells_ i71).bind fun e127 => (app ([] : List Int) e127).bind fun l136 => (app l67 [l136]).bind fun l142 => (spec_l8Copy_L1 p0 l21 k1) l142 (IntKind.i64.wrap (i71 + 1)) else some (Timpl_Stats.mk l21 l67)
noncomputable def spec_l8Copy (p0 : Timpl_Stats) : Option (Timpl_Stats) :=
  (app ([] : List Int) p0.Totals_).bind fun l21 => spec_l8Copy_L1 p0 l21 Fuel ([] : List (List Int)) 0
noncomputable def spec_StatsAdd_L1 (y36 : Timpl_Stats) (p2 : Timpl_Ex) (p0 : Timpl_Schema) (p3 : Int) (e70 : Int) : Nat → (List (List Int)) → Int → Option (Timpl_Stats × Bool)
  | 0, _, _ => none
  | k1 + 1, l98, i100 =>
    if decide (i100 < (y36.Cells_.length : Int)) then (idx p2.Bins_ i100).bind fun e125 => if decide (e125 ≥ 0) then (idx p2.Bins_ i100).bind fun e127 => (idx l98 i100).bind fun e129 => (idx e129 (IntKind.i64.wrap ((IntKind.i64.wrap (e127 * (p0.Classes_.length : Int))) + p2.Class_))).bind fun e141 => (idx e129 (IntKind.i64.wrap ((IntKind.i64.wrap (e127 * (p0.Classes_.length : Int))) + p2.Class_))).bind fun _ => (spec_StatsAdd_L1 y36 p2 p0 p3 e70 k1) (l98.set i100.toNat (e129.set (IntKind.i64.wrap ((IntKind.i64.wrap (e127 * (p0.Classes_.length : Int))) + p2.Class_)).toNat (IntKind.i64.wrap (e141 + p3)))) (IntKind.i64.wrap (i100 + 1)) else (spec_StatsAdd_L1 y36 p2 p0 p3 e70 k1) l98 (IntKind.i64.wrap (i100 + 1)) else some ((Timpl_Stats.mk (y36.Totals_.set p2.Class_.toNat (IntKind.i64.wrap (e70 + p3))) l98), true)
noncomputable def spec_StatsAdd (p0 : Timpl_Schema) (p1 : Timpl_Stats) (p2 : Timpl_Ex) (p3 : Int) : Option (Timpl_Stats × Bool) :=
  (spec_l8Copy p1).bind fun y36 => (spec_StatsOk p0 p1).bind fun y50 => (if (!y50) then some true else (spec_ExOk p0 p2).bind fun y53 => some (!y53)).bind fun u52 => (if (u52 || (decide (p2.Class_ < 0))) then some true else (spec_l1In p3 1 7).bind fun y60 => some (!y60)).bind fun u59 => (if u59 then some true else (spec_StatsTotal p0 p1).bind fun y66 => some (decide ((IntKind.i64.wrap (y66 + p3)) > 999))).bind fun u65 => if u65 then some (y36, false) else (idx y36.Totals_ p2.Class_).bind fun e70 => (idx y36.Totals_ p2.Class_).bind fun _ => spec_StatsAdd_L1 y36 p2 p0 p3 e70 Fuel y36.Cells_ 0
noncomputable def spec_NodeTruth_L1 (y53 : List Int) (p2 : List Timpl_Entry) (p0 : Timpl_Schema) : Nat → Int → (List Int) → (List (List Int)) → Option (Timpl_Stats)
  | 0, _, _, _ => none
  | k1 + 1, i169, l170, l174 =>
    if decide (i169 < (y53.length : Int)) then (idx y53 i169).bind fun e334 => (idx p2 e334).bind fun e336 => (idx y53 i169).bind fun e352 => (idx p2 e352).bind fun e354 => (spec_StatsAdd p0 (Timpl_Stats.mk l170 l174) e336.Ex_ e354.Weight_).bind fun y370 => (spec_NodeTruth_L1 y53 p2 p0 k1) (IntKind.i64.wrap (i169 + 1)) y370.1.Totals_ y370.1.Cells_ else some (Timpl_Stats.mk l170 l174)
noncomputable def spec_NodeTruth (p0 : Timpl_Schema) (p1 : Timpl_Tree) (p2 : List Timpl_Entry) (p3 : Int) : Option (Timpl_Stats) :=
  (spec_TreeOk p0 p1).bind fun y27 => (if (!y27) then some true else (spec_EntriesOk p0 p2).bind fun y30 => some (!y30)).bind fun u29 => (if u29 then some true else (spec_l1In p3 0 (IntKind.i64.wrap ((p1.Nodes_.length : Int) - 1))).bind fun y35 => some (!y35)).bind fun u34 => if u34 then some (Timpl_Stats.mk ([] : List Int) ([] : List (List Int))) else (spec_StatsNew p0).bind fun y39 => (spec_l30Own p0 p1 p2 p3).bind fun y53 => spec_NodeTruth_L1 y53 p2 p0 Fuel 0 y39.Totals_ y39.Cells_
noncomputable def spec_l5SameInts_L1 (p0 : List Int) (p1 : List Int) : Nat → Int → Option (Bool)
  | 0, _ => none
  | k1 + 1, i15 =>
    if decide (i15 < (p0.length : Int)) then (idx p0 i15).bind fun e21 => (idx p1 i15).bind fun e23 => if (e21 != e23) then some false else (spec_l5SameInts_L1 p0 p1 k1) (IntKind.i64.wrap (i15 + 1)) else some true
noncomputable def spec_l5SameInts (p0 : List Int) (p1 : List Int) : Option (Bool) :=
  if ((p0.length : Int) != (p1.length : Int)) then some false else spec_l5SameInts_L1 p0 p1 Fuel 0
noncomputable def spec_l30Checks_L1 (p2 : List Int) (p1 : List Timpl_Entry) (p0 : Timpl_Rule) : Nat → Int → (List Bool) → Int → Option ((List Bool) × Int)
  | 0, _, _, _ => none
  | k1 + 1, i44, l45, i50 =>
    if decide (i44 < (p2.length : Int)) then (idx p2 i44).bind fun e83 => (idx p1 e83).bind fun e85 => (app l45 ([decide ((IntKind.i64.wrap (i50 + e85.Weight_)) ≥ p0.Grace_)] : List Bool)).bind fun l102 => if decide ((IntKind.i64.wrap (i50 + e85.Weight_)) ≥ p0.Grace_) then (spec_l30Checks_L1 p2 p1 p0 k1) (IntKind.i64.wrap (i44 + 1)) l102 0 else (spec_l30Checks_L1 p2 p1 p0 k1) (IntKind.i64.wrap (i44 + 1)) l102 (IntKind.i64.wrap (i50 + e85.Weight_)) else some (l45, i50)
noncomputable def spec_l30Checks (p0 : Timpl_Rule) (p1 : List Timpl_Entry) (p2 : List Int) : Option ((List Bool) × Int) :=
  spec_l30Checks_L1 p2 p1 p0 Fuel 0 ([] : List Bool) 0
noncomputable def spec_StatsSame_L1 (p0 : Timpl_Stats) (p1 : Timpl_Stats) : Nat → Int → Option (Bool)
  | 0, _ => none
  | k1 + 1, i51 =>
    if decide (i51 < (p0.Cells_.length : Int)) then (idx p0.Cells_ i51).bind fun e71 => (idx p1.Cells_ i51).bind fun e79 => (spec_l5SameInts e71 e79).bind fun y87 => if (!y87) then some false else (spec_StatsSame_L1 p0 p1 k1) (IntKind.i64.wrap (i51 + 1)) else some true
noncomputable def spec_StatsSame (p0 : Timpl_Stats) (p1 : Timpl_Stats) : Option (Bool) :=
  (spec_l5SameInts p0.Totals_ p1.Totals_).bind fun y28 => if ((!y28) || ((p0.Cells_.length : Int) != (p1.Cells_.length : Int))) then some false else spec_StatsSame_L1 p0 p1 Fuel 0
noncomputable def spec_TreeTrue_L1 (p2 : Timpl_Tree) (p0 : Timpl_Schema) (p3 : List Timpl_Entry) (p1 : Timpl_Rule) : Nat → Int → Option (Bool)
  | 0, _ => none
  | k1 + 1, i139 =>
    if decide (i139 < (p2.Nodes_.length : Int)) then (idx p2.Nodes_ i139).bind fun e238 => (spec_NodeTruth p0 p2 p3 i139).bind fun y277 => (spec_l5SameInts e238.Stats_.Totals_ y277.Totals_).bind fun y291 => if (!y291) then some false else if (e238.Leaf_ && (decide ((e238.Stats_.Cells_.length : Int) > 0))) then (spec_l30Own p0 p2 p3 i139).bind fun y313 => (spec_l30Checks p1 p3 y313).bind fun y322 => (spec_StatsSame e238.Stats_ y277).bind fun y331 => if ((!y331) || (e238.Since_ != y322.2)) then some false else (spec_TreeTrue_L1 p2 p0 p3 p1 k1) (IntKind.i64.wrap (i139 + 1)) else (spec_TreeTrue_L1 p2 p0 p3 p1 k1) (IntKind.i64.wrap (i139 + 1)) else some true
noncomputable def spec_TreeTrue (p0 : Timpl_Schema) (p1 : Timpl_Rule) (p2 : Timpl_Tree) (p3 : List Timpl_Entry) : Option (Bool) :=
  (spec_TreeOk p0 p2).bind fun y27 => (if (!y27) then some true else (spec_RuleOk p1).bind fun y30 => some (!y30)).bind fun u29 => (if u29 then some true else (spec_EntriesOk p0 p3).bind fun y35 => some (!y35)).bind fun u34 => if (u34 || (p2.Seen_ != (p3.length : Int))) then some false else spec_TreeTrue_L1 p2 p0 p3 p1 Fuel 0
noncomputable def impl_within (p0 : Int) (p1 : Int) (p2 : Int) : Option (Bool) :=
  some ((decide (p0 ≥ p1)) && (decide (p0 ≤ p2)))
noncomputable def impl_WordOk_L1 (p0 : List UInt8) : Nat → Int → Option (Bool)
  | 0, _ => none
  | k1 + 1, i20 =>
    if decide (i20 < (p0.length : Int)) then (idx p0 i20).bind fun b29 => (if decide ((b29.toNat : Int) < 97) then some true else (idx p0 i20).bind fun b32 => some (decide ((b32.toNat : Int) > 122))).bind fun u31 => if u31 then some false else (impl_WordOk_L1 p0 k1) (IntKind.i64.wrap (i20 + 1)) else some true
noncomputable def impl_WordOk (p0 : List UInt8) : Option (Bool) :=
  (impl_within (p0.length : Int) 1 8).bind fun y10 => if (!y10) then some false else impl_WordOk_L1 p0 Fuel 0
noncomputable def lib_slices_Index___string_string__L1 (p0 : List (List UInt8)) (p1 : List UInt8) : Nat → Int → Option (Int)
  | 0, _ => none
  | k1 + 1, i13 =>
    if decide (i13 < (p0.length : Int)) then (idx p0 i13).bind fun e18 => if (p1 == e18) then some i13 else (lib_slices_Index___string_string__L1 p0 p1 k1) (IntKind.i64.wrap (i13 + 1)) else some (-1)
noncomputable def lib_slices_Index___string_string_ (p0 : List (List UInt8)) (p1 : List UInt8) : Option (Int) :=
  lib_slices_Index___string_string__L1 p0 p1 Fuel 0
noncomputable def lib_slices_Contains___string_string_ (p0 : List (List UInt8)) (p1 : List UInt8) : Option (Bool) :=
  (lib_slices_Index___string_string_ p0 p1).bind fun y10 => some (decide (y10 ≥ 0))
noncomputable def impl_distinctWords_L1 (p0 : List (List UInt8)) : Nat → Int → Option (Bool)
  | 0, _ => none
  | k1 + 1, i26 =>
    if decide (i26 < (p0.length : Int)) then (idx p0 i26).bind fun e43 => (impl_WordOk e43).bind fun y45 => (if (!y45) then some true else (sub p0 0 i26).bind fun l48 => (lib_slices_Contains___string_string_ l48 e43).bind fun y54 => some y54).bind fun u47 => if u47 then some false else (impl_distinctWords_L1 p0 k1) (IntKind.i64.wrap (i26 + 1)) else some true
noncomputable def impl_distinctWords (p0 : List (List UInt8)) : Option (Bool) :=
  impl_distinctWords_L1 p0 Fuel 0
noncomputable def impl_ascending_L1 (p0 : List Int) : Nat → Int → Option (Bool)
  | 0, _ => none
  | k1 + 1, i15 =>
    if decide (i15 < (p0.length : Int)) then (idx p0 i15).bind fun e21 => (idx p0 (IntKind.i64.wrap (i15 - 1))).bind fun e23 => if decide (e21 ≤ e23) then some false else (impl_ascending_L1 p0 k1) (IntKind.i64.wrap (i15 + 1)) else some true
noncomputable def impl_ascending (p0 : List Int) : Option (Bool) :=
  impl_ascending_L1 p0 Fuel 1
noncomputable def impl_isCut (p0 : Int) : Option (Bool) :=
  (impl_within p0 (-9999) 9998).bind fun y10 => some y10
noncomputable def impl_CutsOk_1 (p0 : Int) : Option (Bool) :=
  (impl_isCut p0).bind fun y10 => some (!y10)
noncomputable def lib_slices_IndexFunc___int_int___impl_CutsOk_1_L1 (p0 : List Int) : Nat → Int → Option (Int)
  | 0, _ => none
  | k1 + 1, i15 =>
    if decide (i15 < (p0.length : Int)) then (idx p0 i15).bind fun e21 => (impl_CutsOk_1 e21).bind fun y23 => if y23 then some i15 else (lib_slices_IndexFunc___int_int___impl_CutsOk_1_L1 p0 k1) (IntKind.i64.wrap (i15 + 1)) else some (-1)
noncomputable def lib_slices_IndexFunc___int_int___impl_CutsOk_1 (p0 : List Int) : Option (Int) :=
  lib_slices_IndexFunc___int_int___impl_CutsOk_1_L1 p0 Fuel 0
noncomputable def lib_slices_ContainsFunc___int_int___impl_CutsOk_1 (p0 : List Int) : Option (Bool) :=
  (lib_slices_IndexFunc___int_int___impl_CutsOk_1 p0).bind fun y10 => some (decide (y10 ≥ 0))
noncomputable def impl_CutsOk (p0 : List Int) : Option (Bool) :=
  (impl_within (p0.length : Int) 1 3).bind fun y10 => (if y10 then (impl_ascending p0).bind fun y13 => some y13 else some false).bind fun u12 => (if u12 then (lib_slices_ContainsFunc___int_int___impl_CutsOk_1 p0).bind fun y18 => some (!y18) else some false).bind fun u17 => some u17
noncomputable def impl_AttrOk (p0 : Timpl_Attr) : Option (Bool) :=
  (impl_WordOk p0.Name_).bind fun y21 => if (!y21) then some false else if ((p0.Cuts_.length : Int) == 0) then (impl_within (p0.Values_.length : Int) 2 4).bind fun y23 => (if y23 then (impl_distinctWords p0.Values_).bind fun y26 => some y26 else some false).bind fun u25 => some u25 else (if ((p0.Values_.length : Int) == 0) then (impl_CutsOk p0.Cuts_).bind fun y31 => some y31 else some false).bind fun u30 => some u30
noncomputable def impl_SchemaOk_L1 (p0 : Timpl_Schema) : Nat → Int → (List (List UInt8)) → Option (Bool)
  | 0, _, _ => none
  | k1 + 1, i65, l66 =>
    if decide (i65 < (p0.Attrs_.length : Int)) then (idx p0.Attrs_ i65).bind fun e103 => (impl_AttrOk e103).bind fun y120 => if (!y120) then some false else (app l66 ([e103.Name_] : List (List UInt8))).bind fun l123 => (impl_SchemaOk_L1 p0 k1) (IntKind.i64.wrap (i65 + 1)) l123 else (impl_distinctWords l66).bind fun y129 => some y129
noncomputable def impl_SchemaOk (p0 : Timpl_Schema) : Option (Bool) :=
  (impl_within (p0.Attrs_.length : Int) 1 5).bind fun y19 => (if (!y19) then some true else (impl_within (p0.Classes_.length : Int) 2 3).bind fun y22 => some (!y22)).bind fun u21 => (if u21 then some true else (impl_distinctWords p0.Classes_).bind fun y27 => some (!y27)).bind fun u26 => if u26 then some false else impl_SchemaOk_L1 p0 Fuel 0 ([] : List (List UInt8))
noncomputable def impl_weights_1 (p0 : Int) : Option (Bool) :=
  (impl_within p0 0 999).bind fun y10 => some (!y10)
noncomputable def lib_slices_IndexFunc___int_int___impl_weights_1_L1 (p0 : List Int) : Nat → Int → Option (Int)
  | 0, _ => none
  | k1 + 1, i15 =>
    if decide (i15 < (p0.length : Int)) then (idx p0 i15).bind fun e21 => (impl_weights_1 e21).bind fun y23 => if y23 then some i15 else (lib_slices_IndexFunc___int_int___impl_weights_1_L1 p0 k1) (IntKind.i64.wrap (i15 + 1)) else some (-1)
noncomputable def lib_slices_IndexFunc___int_int___impl_weights_1 (p0 : List Int) : Option (Int) :=
  lib_slices_IndexFunc___int_int___impl_weights_1_L1 p0 Fuel 0
noncomputable def lib_slices_ContainsFunc___int_int___impl_weights_1 (p0 : List Int) : Option (Bool) :=
  (lib_slices_IndexFunc___int_int___impl_weights_1 p0).bind fun y10 => some (decide (y10 ≥ 0))
noncomputable def impl_weights (p0 : List Int) (p1 : Int) : Option (Bool) :=
  (if ((p0.length : Int) == p1) then (lib_slices_ContainsFunc___int_int___impl_weights_1 p0).bind fun y11 => some (!y11) else some false).bind fun u10 => some u10
noncomputable def impl_total_L1 (p0 : List Int) : Nat → Int → Int → Option (Int)
  | 0, _, _ => none
  | k1 + 1, i14, i15 =>
    if decide (i15 < (p0.length : Int)) then (idx p0 i15).bind fun e20 => (impl_total_L1 p0 k1) (IntKind.i64.wrap (i14 + e20)) (IntKind.i64.wrap (i15 + 1)) else some i14
noncomputable def impl_total (p0 : List Int) : Option (Int) :=
  impl_total_L1 p0 Fuel 0 0
noncomputable def impl_bins (p0 : Timpl_Attr) : Option (Int) :=
  if decide ((p0.Cuts_.length : Int) > 0) then some (IntKind.i64.wrap ((p0.Cuts_.length : Int) + 1)) else some (p0.Values_.length : Int)
noncomputable def impl_zeros (p0 : Int) : Option (List Int) :=
  (mk (0 : Int) p0).bind fun l10 => some l10
noncomputable def impl_StatsOk_L2 (e225 : List Int) (p0 : Timpl_Schema) (p1 : Timpl_Stats) (R1 : Int → Option (Bool)) (i132 : Int) : Nat → Int → (List Int) → Option (Bool)
  | 0, _, _ => none
  | k2 + 1, i280, l281 =>
    if decide (i280 < (e225.length : Int)) then (idx e225 i280).bind fun e300 => (rem i280 (p0.Classes_.length : Int)).bind fun x302 => (idx l281 x302).bind fun e304 => (idx l281 x302).bind fun _ => (rem i280 (p0.Classes_.length : Int)).bind fun x308 => (idx (l281.set x302.toNat (IntKind.i64.wrap (e304 + e300))) x308).bind fun e310 => (rem i280 (p0.Classes_.length : Int)).bind fun x312 => (idx p1.Totals_ x312).bind fun e314 => if decide (e310 > e314) then some false else (impl_StatsOk_L2 e225 p0 p1 R1 i132 k2) (IntKind.i64.wrap (i280 + 1)) (l281.set x302.toNat (IntKind.i64.wrap (e304 + e300))) else R1 (IntKind.i64.wrap (i132 + 1))
noncomputable def impl_StatsOk_L1 (p1 : Timpl_Stats) (p0 : Timpl_Schema) : Nat → Int → Option (Bool)
  | 0, _ => none
  | k1 + 1, i132 =>
    if decide (i132 < (p1.Cells_.length : Int)) then (idx p1.Cells_ i132).bind fun e225 => (idx p0.Attrs_ i132).bind fun e233 => (impl_bins e233).bind fun y249 => (impl_weights e225 (IntKind.i64.wrap (y249 * (p0.Classes_.length : Int)))).bind fun y251 => if (!y251) then some false else (impl_zeros (p0.Classes_.length : Int)).bind fun y253 => impl_StatsOk_L2 e225 p0 p1 (impl_StatsOk_L1 p1 p0 k1) i132 Fuel 0 y253 else some true
noncomputable def impl_StatsOk (p0 : Timpl_Schema) (p1 : Timpl_Stats) : Option (Bool) :=
  (impl_SchemaOk p0).bind fun y28 => (if (!y28) then some true else (impl_weights p1.Totals_ (p0.Classes_.length : Int)).bind fun y31 => some (!y31)).bind fun u30 => (if u30 then some true else (impl_total p1.Totals_).bind fun y36 => some (decide (y36 > 999))).bind fun u35 => if u35 then some false else if ((p1.Cells_.length : Int) == 0) then some true else if ((p1.Cells_.length : Int) != (p0.Attrs_.length : Int)) then some false else impl_StatsOk_L1 p1 p0 Fuel 0
noncomputable def impl_AttrsOk (p0 : Timpl_Schema) (p1 : List Int) : Option (Bool) :=
  (impl_SchemaOk p0).bind fun y19 => (if (y19 && (decide ((p1.length : Int) > 0))) then (impl_ascending p1).bind fun y24 => some y24 else some false).bind fun u23 => (if u23 then (idx p1 0).bind fun e29 => some (decide (e29 ≥ 0)) else some false).bind fun u28 => (if u28 then (idx p1 (IntKind.i64.wrap ((p1.length : Int) - 1))).bind fun e34 => some (decide (e34 < (p0.Attrs_.length : Int))) else some false).bind fun u33 => some u33
noncomputable def impl_ForkOk (p0 : Timpl_Schema) (p1 : Timpl_Fork) : Option (Bool) :=
  (impl_SchemaOk p0).bind fun y20 => (if (!y20) then some true else (impl_within p1.Attr_ 0 (IntKind.i64.wrap ((p0.Attrs_.length : Int) - 1))).bind fun y23 => some (!y23)).bind fun u22 => if u22 then some false else (idx p0.Attrs_ p1.Attr_).bind fun e27 => (impl_bins e27).bind fun y44 => if decide ((e27.Cuts_.length : Int) > 0) then (impl_within p1.At_ (-1) (IntKind.i64.wrap ((IntKind.i64.wrap (y44 - 1)) - 1))).bind fun y46 => some y46 else (impl_within p1.At_ (-1) (IntKind.i64.wrap (y44 - 1))).bind fun y48 => some y48
noncomputable def impl_Branches (p0 : Timpl_Schema) (p1 : Timpl_Fork) : Option (Int) :=
  (impl_ForkOk p0 p1).bind fun y20 => if (!y20) then some 0 else if (p1.At_ == (-1)) then (idx p0.Attrs_ p1.Attr_).bind fun e22 => (impl_bins e22).bind fun y38 => some y38 else some 2
noncomputable def impl_nodeOk_1 (p0 : Int) (p1 : Int) (p2 : Timpl_Tree) : Option (Bool) :=
  (impl_within p0 (IntKind.i64.wrap (p1 + 1)) (IntKind.i64.wrap ((p2.Nodes_.length : Int) - 1))).bind fun y16 => (if (!y16) then some true else (idx p2.Nodes_ p0).bind fun e19 => some (e19.Up_ != p1)).bind fun u18 => some u18
noncomputable def lib_slices_IndexFunc___int_int___impl_nodeOk_1_L1 (p0 : List Int) (p1_0 : Int) (p1_1 : Timpl_Tree) : Nat → Int → Option (Int)
  | 0, _ => none
  | k1 + 1, i21 =>
    if decide (i21 < (p0.length : Int)) then (idx p0 i21).bind fun e27 => (impl_nodeOk_1 e27 p1_0 p1_1).bind fun y29 => if y29 then some i21 else (lib_slices_IndexFunc___int_int___impl_nodeOk_1_L1 p0 p1_0 p1_1 k1) (IntKind.i64.wrap (i21 + 1)) else some (-1)
noncomputable def lib_slices_IndexFunc___int_int___impl_nodeOk_1 (p0 : List Int) (p1_0 : Int) (p1_1 : Timpl_Tree) : Option (Int) :=
  lib_slices_IndexFunc___int_int___impl_nodeOk_1_L1 p0 p1_0 p1_1 Fuel 0
noncomputable def lib_slices_ContainsFunc___int_int___impl_nodeOk_1 (p0 : List Int) (p1_0 : Int) (p1_1 : Timpl_Tree) : Option (Bool) :=
  (lib_slices_IndexFunc___int_int___impl_nodeOk_1 p0 p1_0 p1_1).bind fun y16 => some (decide (y16 ≥ 0))
noncomputable def impl_nodeOk_J1 (e27 : Timpl_Node) (i85 : Int) : Option (Bool) :=
  (if (((e27.Fork_.Attr_ == 0 && (e27.Fork_.At_ == 0 && true)) && ((e27.Kids_.length : Int) == 0)) && (e27.Miss_ == 0)) then (impl_within e27.Since_ 0 i85).bind fun y91 => some y91 else some false).bind fun u90 => some u90
noncomputable def impl_nodeOk (p0 : Timpl_Schema) (p1 : Timpl_Tree) (p2 : Int) : Option (Bool) :=
  (idx p1.Nodes_ p2).bind fun e27 => (impl_within e27.Depth_ 0 6).bind fun y66 => (if (!y66) then some true else (impl_within e27.Born_ 0 p1.Seen_).bind fun y69 => some (!y69)).bind fun u68 => (if u68 then some true else (impl_StatsOk p0 e27.Stats_).bind fun y74 => some (!y74)).bind fun u73 => (if u73 then some true else (impl_AttrsOk p0 e27.Attrs_).bind fun y79 => some (!y79)).bind fun u78 => if u78 then some false else if e27.Leaf_ then (impl_total e27.Stats_.Totals_).bind fun y83 => if ((e27.Stats_.Cells_.length : Int) == 0) then impl_nodeOk_J1 e27 0 else impl_nodeOk_J1 e27 y83 else (impl_Branches p0 e27.Fork_).bind fun y95 => (if ((y95 == 0) || ((e27.Kids_.length : Int) != y95)) then some true else (impl_ascending e27.Kids_).bind fun y100 => some (!y100)).bind fun u99 => (if u99 then some true else (impl_within e27.Miss_ 0 (IntKind.i64.wrap (y95 - 1))).bind fun y105 => some (!y105)).bind fun u104 => if ((u104 || ((e27.Stats_.Cells_.length : Int) != 0)) || (e27.Since_ != 0)) then some false else (lib_slices_ContainsFunc___int_int___impl_nodeOk_1 e27.Kids_ p2 p1).bind fun y113 => some (!y113)
noncomputable def lib_slices_Index___int_int__L1 (p0 : List Int) (p1 : Int) : Nat → Int → Option (Int)
  | 0, _ => none
  | k1 + 1, i13 =>
    if decide (i13 < (p0.length : Int)) then (idx p0 i13).bind fun e18 => if (p1 == e18) then some i13 else (lib_slices_Index___int_int__L1 p0 p1 k1) (IntKind.i64.wrap (i13 + 1)) else some (-1)
noncomputable def lib_slices_Index___int_int_ (p0 : List Int) (p1 : Int) : Option (Int) :=
  lib_slices_Index___int_int__L1 p0 p1 Fuel 0
noncomputable def lib_slices_Contains___int_int_ (p0 : List Int) (p1 : Int) : Option (Bool) :=
  (lib_slices_Index___int_int_ p0 p1).bind fun y10 => some (decide (y10 ≥ 0))
noncomputable def impl_TreeOk_L1 (p1 : Timpl_Tree) (p0 : Timpl_Schema) : Nat → Int → Option (Bool)
  | 0, _ => none
  | k1 + 1, i134 =>
    if decide (i134 < (p1.Nodes_.length : Int)) then (idx p1.Nodes_ i134).bind fun e231 => (impl_nodeOk p0 p1 i134).bind fun y270 => if (!y270) then some false else if (i134 == 0) then if (((e231.Up_ != (-1)) || (e231.Depth_ != 0)) || (e231.Born_ != 0)) then some false else (impl_TreeOk_L1 p1 p0 k1) (IntKind.i64.wrap (i134 + 1)) else (impl_within e231.Up_ 0 (IntKind.i64.wrap (i134 - 1))).bind fun y276 => if (!y276) then some false else (idx p1.Nodes_ e231.Up_).bind fun e278 => (if e278.Leaf_ then some true else (lib_slices_Contains___int_int_ e278.Kids_ i134).bind fun y318 => some (!y318)).bind fun u317 => if ((u317 || (e278.Depth_ != (IntKind.i64.wrap (e231.Depth_ - 1)))) || (decide (e278.Born_ > e231.Born_))) then some false else (impl_TreeOk_L1 p1 p0 k1) (IntKind.i64.wrap (i134 + 1)) else some true
noncomputable def impl_TreeOk (p0 : Timpl_Schema) (p1 : Timpl_Tree) : Option (Bool) :=
  (impl_SchemaOk p0).bind fun y26 => (if (!y26) then some true else (impl_within (p1.Nodes_.length : Int) 1 31).bind fun y29 => some (!y29)).bind fun u28 => (if u28 then some true else (impl_within p1.Seen_ 0 99999).bind fun y34 => some (!y34)).bind fun u33 => if u33 then some false else impl_TreeOk_L1 p1 p0 Fuel 0
noncomputable def impl_RuleOk (p0 : Timpl_Rule) : Option (Bool) :=
  (impl_within p0.Sure_ 1 9).bind fun y11 => (if y11 then (impl_within p0.Tie_ 0 999).bind fun y14 => some y14 else some false).bind fun u13 => (if u13 then (impl_within p0.Grace_ 1 200).bind fun y19 => some y19 else some false).bind fun u18 => (if u18 then (impl_within p0.Depth_ 0 6).bind fun y24 => some y24 else some false).bind fun u23 => (if u23 then (impl_within p0.Nodes_ 1 31).bind fun y29 => some y29 else some false).bind fun u28 => (if u28 then (impl_within p0.Units_ 62 2000).bind fun y34 => some y34 else some false).bind fun u33 => some u33
noncomputable def impl_ExOk_L1 (p1 : Timpl_Ex) (p0 : Timpl_Schema) : Nat → Int → Option (Bool)
  | 0, _ => none
  | k1 + 1, i58 =>
    if decide (i58 < (p1.Bins_.length : Int)) then (idx p1.Bins_ i58).bind fun e82 => (idx p0.Attrs_ i58).bind fun e84 => (impl_bins e84).bind fun y100 => (impl_within e82 (-1) (IntKind.i64.wrap (y100 - 1))).bind fun y102 => if (!y102) then some false else (impl_ExOk_L1 p1 p0 k1) (IntKind.i64.wrap (i58 + 1)) else some true
noncomputable def impl_ExOk (p0 : Timpl_Schema) (p1 : Timpl_Ex) : Option (Bool) :=
  (impl_SchemaOk p0).bind fun y26 => (if ((!y26) || ((p1.Bins_.length : Int) != (p0.Attrs_.length : Int))) then some true else (impl_within p1.Class_ (-1) (IntKind.i64.wrap ((p0.Classes_.length : Int) - 1))).bind fun y31 => some (!y31)).bind fun u30 => if u30 then some false else impl_ExOk_L1 p1 p0 Fuel 0
noncomputable def impl_EntriesOk_1 (p0 : Timpl_Entry) (p1 : Timpl_Schema) : Option (Bool) :=
  (impl_ExOk p1 p0.Ex_).bind fun y29 => (if ((!y29) || (decide (p0.Ex_.Class_ < 0))) then some true else (impl_within p0.Weight_ 1 7).bind fun y34 => some (!y34)).bind fun u33 => some u33
noncomputable def lib_slices_IndexFunc___impl_Entry_impl_Entry___impl_EntriesOk_1_L1 (p0 : List Timpl_Entry) (p1_0 : Timpl_Schema) : Nat → Int → Option (Int)
  | 0, _ => none
  | k1 + 1, i37 =>
    if decide (i37 < (p0.length : Int)) then (idx p0 i37).bind fun e57 => (impl_EntriesOk_1 e57 p1_0).bind fun y73 => if y73 then some i37 else (lib_slices_IndexFunc___impl_Entry_impl_Entry___impl_EntriesOk_1_L1 p0 p1_0 k1) (IntKind.i64.wrap (i37 + 1)) else some (-1)
noncomputable def lib_slices_IndexFunc___impl_Entry_impl_Entry___impl_EntriesOk_1 (p0 : List Timpl_Entry) (p1_0 : Timpl_Schema) : Option (Int) :=
  lib_slices_IndexFunc___impl_Entry_impl_Entry___impl_EntriesOk_1_L1 p0 p1_0 Fuel 0
noncomputable def lib_slices_ContainsFunc___impl_Entry_impl_Entry___impl_EntriesOk_1 (p0 : List Timpl_Entry) (p1_0 : Timpl_Schema) : Option (Bool) :=
  (lib_slices_IndexFunc___impl_Entry_impl_Entry___impl_EntriesOk_1 p0 p1_0).bind fun y18 => some (decide (y18 ≥ 0))
noncomputable def impl_EntriesOk (p0 : Timpl_Schema) (p1 : List Timpl_Entry) : Option (Bool) :=
  (impl_SchemaOk p0).bind fun y19 => (if y19 then (lib_slices_ContainsFunc___impl_Entry_impl_Entry___impl_EntriesOk_1 p1 p0).bind fun y22 => some (!y22) else some false).bind fun u21 => some u21
noncomputable def impl_StatsNew_L1 (p0 : Timpl_Schema) (y22 : List Int) : Nat → Int → (List (List Int)) → Option (Timpl_Stats)
  | 0, _, _ => none
  | k1 + 1, i85, l86 =>
    if decide (i85 < (p0.Attrs_.length : Int)) then (idx p0.Attrs_ i85).bind fun e141 => (impl_bins e141).bind fun y170 => (impl_zeros (IntKind.i64.wrap (y170 * (p0.Classes_.length : Int)))).bind fun y172 => (app l86 [y172]).bind fun l182 => (impl_StatsNew_L1 p0 y22 k1) (IntKind.i64.wrap (i85 + 1)) l182 else some (Timpl_Stats.mk y22 l86)
noncomputable def impl_StatsNew (p0 : Timpl_Schema) : Option (Timpl_Stats) :=
  (impl_SchemaOk p0).bind fun y20 => if (!y20) then some (Timpl_Stats.mk ([] : List Int) ([] : List (List Int))) else (impl_zeros (p0.Classes_.length : Int)).bind fun y22 => impl_StatsNew_L1 p0 y22 Fuel 0 ([] : List (List Int))
noncomputable def impl_BranchOf (p0 : Timpl_Schema) (p1 : Timpl_Fork) (p2 : Int) : Option (Int) :=
  (impl_ForkOk p0 p1).bind fun y20 => (if (!y20) then some true else (idx p0.Attrs_ p1.Attr_).bind fun e23 => (impl_bins e23).bind fun y39 => (impl_within p2 0 (IntKind.i64.wrap (y39 - 1))).bind fun y41 => some (!y41)).bind fun u22 => if u22 then some (-1) else if (p1.At_ == (-1)) then some p2 else (if (p2 == p1.At_) then some true else (idx p0.Attrs_ p1.Attr_).bind fun e46 => some ((decide ((e46.Cuts_.length : Int) > 0)) && (decide (p2 < p1.At_)))).bind fun u45 => if u45 then some 0 else some 1
noncomputable def impl_pathTo_J1 (e292 : Timpl_Node) (l139 : List Int) (R1 : (List Int) → Option ((List Int) × Bool)) (i335 : Int) : Option ((List Int) × Bool) :=
  (idx e292.Kids_ i335).bind fun e336 => (app l139 ([e336] : List Int)).bind fun l339 => R1 l339
noncomputable def impl_pathTo_L1 (p1 : Timpl_Tree) (p2 : Timpl_Ex) (p0 : Timpl_Schema) : Nat → (List Int) → Option ((List Int) × Bool)
  | 0, _ => none
  | k1 + 1, l139 =>
    (idx l139 (IntKind.i64.wrap ((l139.length : Int) - 1))).bind fun e290 => (idx p1.Nodes_ e290).bind fun e292 => if e292.Leaf_ then some (l139, false) else (idx p2.Bins_ e292.Fork_.Attr_).bind fun e345 => if decide (e345 ≥ 0) then (impl_BranchOf p0 e292.Fork_ e345).bind fun y347 => impl_pathTo_J1 e292 l139 (impl_pathTo_L1 p1 p2 p0 k1) y347 else impl_pathTo_J1 e292 l139 (impl_pathTo_L1 p1 p2 p0 k1) e292.Miss_
noncomputable def impl_pathTo (p0 : Timpl_Schema) (p1 : Timpl_Tree) (p2 : Timpl_Ex) : Option ((List Int) × Bool) :=
  impl_pathTo_L1 p1 p2 p0 Fuel ([0] : List Int)
noncomputable def impl_ownEntries_L1 (i105 : Int) (p2 : List Timpl_Entry) (p0 : Timpl_Schema) (p1 : Timpl_Tree) (p3 : Int) : Nat → (List Int) → Int → Option (List Int)
  | 0, _, _ => none
  | k1 + 1, l174, i179 =>
    if decide (i179 < i105) then (idx p2 i179).bind fun e273 => (impl_pathTo p0 p1 e273.Ex_).bind fun y289 => (lib_slices_Contains___int_int_ y289.1 p3).bind fun y299 => if y299 then (app l174 ([i179] : List Int)).bind fun l302 => (impl_ownEntries_L1 i105 p2 p0 p1 p3 k1) l302 (IntKind.i64.wrap (i179 + 1)) else (impl_ownEntries_L1 i105 p2 p0 p1 p3 k1) l174 (IntKind.i64.wrap (i179 + 1)) else some l174
noncomputable def impl_ownEntries_J1 (p2 : List Timpl_Entry) (p0 : Timpl_Schema) (p1 : Timpl_Tree) (p3 : Int) (e26 : Timpl_Node) (i105 : Int) : Option (List Int) :=
  impl_ownEntries_L1 i105 p2 p0 p1 p3 Fuel ([] : List Int) e26.Born_
noncomputable def impl_ownEntries (p0 : Timpl_Schema) (p1 : Timpl_Tree) (p2 : List Timpl_Entry) (p3 : Int) : Option (List Int) :=
  (idx p1.Nodes_ p3).bind fun e26 => if (!e26.Leaf_) then (idx e26.Kids_ 0).bind fun e308 => (idx p1.Nodes_ e308).bind fun e310 => impl_ownEntries_J1 p2 p0 p1 p3 e26 (if e310.Born_ < (p2.length : Int) then e310.Born_ else (p2.length : Int)) else impl_ownEntries_J1 p2 p0 p1 p3 e26 (p2.length : Int)
noncomputable def lib_slices_Clone___int_int_ (p0 : List Int) : Option (List Int) :=
  (app ([] : List Int) p0).bind fun l11 => some l11
noncomputable def impl_cloneLists_L1 (p0 : List (List Int)) : Nat → (List (List Int)) → Int → Option (List (List Int))
  | 0, _, _ => none
  | k1 + 1, l38, i42 =>
    if decide (i42 < (p0.length : Int)) then (idx p0 i42).bind fun e71 => (lib_slices_Clone___int_int_ e71).bind fun y79 => (app l38 [y79]).bind fun l89 => (impl_cloneLists_L1 p0 k1) l89 (IntKind.i64.wrap (i42 + 1)) else some l38
noncomputable def impl_cloneLists (p0 : List (List Int)) : Option (List (List Int)) :=
  impl_cloneLists_L1 p0 Fuel ([] : List (List Int)) 0
noncomputable def impl_cloneStats (p0 : Timpl_Stats) : Option (Timpl_Stats) :=
  (lib_slices_Clone___int_int_ p0.Totals_).bind fun y29 => (impl_cloneLists p0.Cells_).bind fun y38 => some (Timpl_Stats.mk y29 y38)
noncomputable def impl_StatsAdd_L1 (y36 : Timpl_Stats) (p2 : Timpl_Ex) (p0 : Timpl_Schema) (p3 : Int) (e70 : Int) : Nat → (List (List Int)) → Int → Option (Timpl_Stats × Bool)
  | 0, _, _ => none
  | k1 + 1, l99, i101 =>
    if decide (i101 < (y36.Cells_.length : Int)) then (idx l99 i101).bind fun e127 => (idx p2.Bins_ i101).bind fun e139 => if decide (e139 ≥ 0) then (idx p2.Bins_ i101).bind fun e141 => (idx e127 (IntKind.i64.wrap ((IntKind.i64.wrap (e141 * (p0.Classes_.length : Int))) + p2.Class_))).bind fun e143 => (idx e127 (IntKind.i64.wrap ((IntKind.i64.wrap (e141 * (p0.Classes_.length : Int))) + p2.Class_))).bind fun _ => (impl_StatsAdd_L1 y36 p2 p0 p3 e70 k1) (l99.set i101.toNat (e127.set (IntKind.i64.wrap ((IntKind.i64.wrap (e141 * (p0.Classes_.length : Int))) + p2.Class_)).toNat (IntKind.i64.wrap (e143 + p3)))) (IntKind.i64.wrap (i101 + 1)) else (impl_StatsAdd_L1 y36 p2 p0 p3 e70 k1) l99 (IntKind.i64.wrap (i101 + 1)) else some ((Timpl_Stats.mk (y36.Totals_.set p2.Class_.toNat (IntKind.i64.wrap (e70 + p3))) l99), true)
noncomputable def impl_StatsAdd (p0 : Timpl_Schema) (p1 : Timpl_Stats) (p2 : Timpl_Ex) (p3 : Int) : Option (Timpl_Stats × Bool) :=
  (impl_cloneStats p1).bind fun y36 => (impl_StatsOk p0 p1).bind fun y50 => (if (!y50) then some true else (impl_ExOk p0 p2).bind fun y53 => some (!y53)).bind fun u52 => (if (u52 || (p2.Class_ == (-1))) then some true else (impl_within p3 1 7).bind fun y60 => some (!y60)).bind fun u59 => (if u59 then some true else (impl_total p1.Totals_).bind fun y66 => some (decide ((IntKind.i64.wrap (y66 + p3)) > 999))).bind fun u65 => if u65 then some (y36, false) else (idx y36.Totals_ p2.Class_).bind fun e70 => (idx y36.Totals_ p2.Class_).bind fun _ => impl_StatsAdd_L1 y36 p2 p0 p3 e70 Fuel y36.Cells_ 0
noncomputable def impl_history_L1 (y43 : List Int) (p3 : List Timpl_Entry) (p0 : Timpl_Schema) (p1 : Timpl_Rule) : Nat → (List Int) → (List (List Int)) → Int → (List Timpl_checkpoint) → Int → Option (Timpl_Stats × Int × (List Timpl_checkpoint))
  | 0, _, _, _, _, _ => none
  | k1 + 1, l180, l184, i188, l189, i193 =>
    if decide (i193 < (y43.length : Int)) then (idx y43 i193).bind fun e322 => (idx p3 e322).bind fun e369 => (idx p3 e322).bind fun e385 => (impl_StatsAdd p0 (Timpl_Stats.mk l180 l184) e369.Ex_ e385.Weight_).bind fun y401 => (idx p3 e322).bind fun e414 => if decide ((IntKind.i64.wrap (i188 + e414.Weight_)) ≥ p1.Grace_) then (app l189 [(Timpl_checkpoint.mk e322)]).bind fun l431 => (impl_history_L1 y43 p3 p0 p1 k1) y401.1.Totals_ y401.1.Cells_ 0 l431 (IntKind.i64.wrap (i193 + 1)) else (impl_history_L1 y43 p3 p0 p1 k1) y401.1.Totals_ y401.1.Cells_ (IntKind.i64.wrap (i188 + e414.Weight_)) l189 (IntKind.i64.wrap (i193 + 1)) else some ((Timpl_Stats.mk l180 l184), i188, l189)
noncomputable def impl_history (p0 : Timpl_Schema) (p1 : Timpl_Rule) (p2 : Timpl_Tree) (p3 : List Timpl_Entry) (p4 : Int) : Option (Timpl_Stats × Int × (List Timpl_checkpoint)) :=
  (impl_StatsNew p0).bind fun y28 => (impl_ownEntries p0 p2 p3 p4).bind fun y43 => impl_history_L1 y43 p3 p0 p1 Fuel y28.Totals_ y28.Cells_ 0 ([] : List Timpl_checkpoint) 0
noncomputable def lib_slices_Equal___int_int__L1 (p0 : List Int) (p1 : List Int) : Nat → Int → Option (Bool)
  | 0, _ => none
  | k1 + 1, i15 =>
    if decide (i15 < (p0.length : Int)) then (idx p0 i15).bind fun e21 => (idx p1 i15).bind fun e23 => if (e21 != e23) then some false else (lib_slices_Equal___int_int__L1 p0 p1 k1) (IntKind.i64.wrap (i15 + 1)) else some true
noncomputable def lib_slices_Equal___int_int_ (p0 : List Int) (p1 : List Int) : Option (Bool) :=
  if ((p0.length : Int) != (p1.length : Int)) then some false else lib_slices_Equal___int_int__L1 p0 p1 Fuel 0
noncomputable def impl_active (p0 : Timpl_Node) : Option (Bool) :=
  some (p0.Leaf_ && (decide ((p0.Stats_.Cells_.length : Int) > 0)))
noncomputable def impl_sameLists_1 (p0 : List Int) (p1 : List Int) : Option (Bool) :=
  (lib_slices_Equal___int_int_ p0 p1).bind fun y10 => some y10
noncomputable def lib_slices_EqualFunc_____int_____int___int___int___impl_sameLists_1_L1 (p0 : List (List Int)) (p1 : List (List Int)) : Nat → Int → Option (Bool)
  | 0, _ => none
  | k1 + 1, i29 =>
    if decide (i29 < (p0.length : Int)) then (idx p0 i29).bind fun e49 => (idx p1 i29).bind fun e57 => (impl_sameLists_1 e49 e57).bind fun y65 => if (!y65) then some false else (lib_slices_EqualFunc_____int_____int___int___int___impl_sameLists_1_L1 p0 p1 k1) (IntKind.i64.wrap (i29 + 1)) else some true
noncomputable def lib_slices_EqualFunc_____int_____int___int___int___impl_sameLists_1 (p0 : List (List Int)) (p1 : List (List Int)) : Option (Bool) :=
  if ((p0.length : Int) != (p1.length : Int)) then some false else lib_slices_EqualFunc_____int_____int___int___int___impl_sameLists_1_L1 p0 p1 Fuel 0
noncomputable def impl_sameLists (p0 : List (List Int)) (p1 : List (List Int)) : Option (Bool) :=
  (lib_slices_EqualFunc_____int_____int___int___int___impl_sameLists_1 p0 p1).bind fun y10 => some y10
noncomputable def impl_StatsSame (p0 : Timpl_Stats) (p1 : Timpl_Stats) : Option (Bool) :=
  (lib_slices_Equal___int_int_ p0.Totals_ p1.Totals_).bind fun y28 => (if y28 then (impl_sameLists p0.Cells_ p1.Cells_).bind fun y31 => some y31 else some false).bind fun u30 => some u30
noncomputable def impl_TreeTrue_L1 (p2 : Timpl_Tree) (p0 : Timpl_Schema) (p1 : Timpl_Rule) (p3 : List Timpl_Entry) : Nat → Int → Option (Bool)
  | 0, _ => none
  | k1 + 1, i110 =>
    if decide (i110 < (p2.Nodes_.length : Int)) then (idx p2.Nodes_ i110).bind fun e180 => (impl_history p0 p1 p2 p3 i110).bind fun y219 => (lib_slices_Equal___int_int_ e180.Stats_.Totals_ y219.1.Totals_).bind fun y237 => if (!y237) then some false else (impl_active e180).bind fun y239 => (if y239 then (impl_StatsSame e180.Stats_ y219.1).bind fun y242 => some ((!y242) || (e180.Since_ != y219.2.1)) else some false).bind fun u241 => if u241 then some false else (impl_TreeTrue_L1 p2 p0 p1 p3 k1) (IntKind.i64.wrap (i110 + 1)) else some true
noncomputable def impl_TreeTrue (p0 : Timpl_Schema) (p1 : Timpl_Rule) (p2 : Timpl_Tree) (p3 : List Timpl_Entry) : Option (Bool) :=
  (impl_TreeOk p0 p2).bind fun y27 => (if (!y27) then some true else (impl_RuleOk p1).bind fun y30 => some (!y30)).bind fun u29 => (if u29 then some true else (impl_EntriesOk p0 p3).bind fun y35 => some (!y35)).bind fun u34 => if (u34 || (p2.Seen_ != (p3.length : Int))) then some false else impl_TreeTrue_L1 p2 p0 p1 p3 Fuel 0
noncomputable def laws_eqIntS_L1 (p0 : List Int) (p1 : List Int) : Nat → Int → Option (Bool)
  | 0, _ => none
  | k1 + 1, i15 =>
    if decide (i15 < (p0.length : Int)) then (idx p0 i15).bind fun e21 => (idx p1 i15).bind fun e23 => if (e21 != e23) then some false else (laws_eqIntS_L1 p0 p1 k1) (IntKind.i64.wrap (i15 + 1)) else some true
noncomputable def laws_eqIntS (p0 : List Int) (p1 : List Int) : Option (Bool) :=
  if ((p0.length : Int) != (p1.length : Int)) then some false else laws_eqIntS_L1 p0 p1 Fuel 0
noncomputable def laws_eqStringS_L1 (p0 : List (List UInt8)) (p1 : List (List UInt8)) : Nat → Int → Option (Bool)
  | 0, _ => none
  | k1 + 1, i15 =>
    if decide (i15 < (p0.length : Int)) then (idx p0 i15).bind fun e21 => (idx p1 i15).bind fun e23 => if (!(e21 == e23)) then some false else (laws_eqStringS_L1 p0 p1 k1) (IntKind.i64.wrap (i15 + 1)) else some true
noncomputable def laws_eqStringS (p0 : List (List UInt8)) (p1 : List (List UInt8)) : Option (Bool) :=
  if ((p0.length : Int) != (p1.length : Int)) then some false else laws_eqStringS_L1 p0 p1 Fuel 0
noncomputable def laws_eqAttr (p0 : Timpl_Attr) (p1 : Timpl_Attr) : Option (Bool) :=
  if (!(p0.Name_ == p1.Name_)) then some false else (laws_eqIntS p0.Cuts_ p1.Cuts_).bind fun y32 => if (!y32) then some false else (laws_eqStringS p0.Values_ p1.Values_).bind fun y34 => if (!y34) then some false else some true
noncomputable def laws_eqAttrS_L1 (p0 : List Timpl_Attr) (p1 : List Timpl_Attr) : Nat → Int → Option (Bool)
  | 0, _ => none
  | k1 + 1, i45 =>
    if decide (i45 < (p0.length : Int)) then (idx p0 i45).bind fun e81 => (idx p1 i45).bind fun e97 => (laws_eqAttr e81 e97).bind fun y113 => if (!y113) then some false else (laws_eqAttrS_L1 p0 p1 k1) (IntKind.i64.wrap (i45 + 1)) else some true
noncomputable def laws_eqAttrS (p0 : List Timpl_Attr) (p1 : List Timpl_Attr) : Option (Bool) :=
  if ((p0.length : Int) != (p1.length : Int)) then some false else laws_eqAttrS_L1 p0 p1 Fuel 0
noncomputable def laws_eqSchema (p0 : Timpl_Schema) (p1 : Timpl_Schema) : Option (Bool) :=
  (laws_eqAttrS p0.Attrs_ p1.Attrs_).bind fun y28 => if (!y28) then some false else (laws_eqStringS p0.Classes_ p1.Classes_).bind fun y30 => if (!y30) then some false else some true
noncomputable def laws_eqFork (p0 : Timpl_Fork) (p1 : Timpl_Fork) : Option (Bool) :=
  if (p0.Attr_ != p1.Attr_) then some false else if (p0.At_ != p1.At_) then some false else some true
noncomputable def laws_eqIntSS_L1 (p0 : List (List Int)) (p1 : List (List Int)) : Nat → Int → Option (Bool)
  | 0, _ => none
  | k1 + 1, i29 =>
    if decide (i29 < (p0.length : Int)) then (idx p0 i29).bind fun e49 => (idx p1 i29).bind fun e57 => (laws_eqIntS e49 e57).bind fun y65 => if (!y65) then some false else (laws_eqIntSS_L1 p0 p1 k1) (IntKind.i64.wrap (i29 + 1)) else some true
noncomputable def laws_eqIntSS (p0 : List (List Int)) (p1 : List (List Int)) : Option (Bool) :=
  if ((p0.length : Int) != (p1.length : Int)) then some false else laws_eqIntSS_L1 p0 p1 Fuel 0
noncomputable def laws_eqStats (p0 : Timpl_Stats) (p1 : Timpl_Stats) : Option (Bool) :=
  (laws_eqIntS p0.Totals_ p1.Totals_).bind fun y28 => if (!y28) then some false else (laws_eqIntSS p0.Cells_ p1.Cells_).bind fun y30 => if (!y30) then some false else some true
noncomputable def laws_eqNode (p0 : Timpl_Node) (p1 : Timpl_Node) : Option (Bool) :=
  if (p0.Leaf_ != p1.Leaf_) then some false else (laws_eqFork p0.Fork_ p1.Fork_).bind fun y76 => if (!y76) then some false else (laws_eqIntS p0.Kids_ p1.Kids_).bind fun y78 => if (!y78) then some false else if (p0.Miss_ != p1.Miss_) then some false else (laws_eqStats p0.Stats_ p1.Stats_).bind fun y80 => if (!y80) then some false else if (p0.Since_ != p1.Since_) then some false else (laws_eqIntS p0.Attrs_ p1.Attrs_).bind fun y82 => if (!y82) then some false else if (p0.Depth_ != p1.Depth_) then some false else if (p0.Up_ != p1.Up_) then some false else if (p0.Born_ != p1.Born_) then some false else some true
noncomputable def laws_eqNodeS_L1 (p0 : List Timpl_Node) (p1 : List Timpl_Node) : Nat → Int → Option (Bool)
  | 0, _ => none
  | k1 + 1, i89 =>
    if decide (i89 < (p0.length : Int)) then (idx p0 i89).bind fun e169 => (idx p1 i89).bind fun e207 => (laws_eqNode e169 e207).bind fun y245 => if (!y245) then some false else (laws_eqNodeS_L1 p0 p1 k1) (IntKind.i64.wrap (i89 + 1)) else some true
noncomputable def laws_eqNodeS (p0 : List Timpl_Node) (p1 : List Timpl_Node) : Option (Bool) :=
  if ((p0.length : Int) != (p1.length : Int)) then some false else laws_eqNodeS_L1 p0 p1 Fuel 0
noncomputable def laws_eqTree (p0 : Timpl_Tree) (p1 : Timpl_Tree) : Option (Bool) :=
  (laws_eqNodeS p0.Nodes_ p1.Nodes_).bind fun y24 => if (!y24) then some false else if (p0.Seen_ != p1.Seen_) then some false else some true
noncomputable def laws_eqEx (p0 : Timpl_Ex) (p1 : Timpl_Ex) : Option (Bool) :=
  (laws_eqIntS p0.Bins_ p1.Bins_).bind fun y24 => if (!y24) then some false else if (p0.Class_ != p1.Class_) then some false else some true
noncomputable def laws_eqEntry (p0 : Timpl_Entry) (p1 : Timpl_Entry) : Option (Bool) :=
  (laws_eqEx p0.Ex_ p1.Ex_).bind fun y32 => if (!y32) then some false else if (p0.Weight_ != p1.Weight_) then some false else some true
noncomputable def laws_eqEntryS_L1 (p0 : List Timpl_Entry) (p1 : List Timpl_Entry) : Nat → Int → Option (Bool)
  | 0, _ => none
  | k1 + 1, i45 =>
    if decide (i45 < (p0.length : Int)) then (idx p0 i45).bind fun e81 => (idx p1 i45).bind fun e97 => (laws_eqEntry e81 e97).bind fun y113 => if (!y113) then some false else (laws_eqEntryS_L1 p0 p1 k1) (IntKind.i64.wrap (i45 + 1)) else some true
noncomputable def laws_eqEntryS (p0 : List Timpl_Entry) (p1 : List Timpl_Entry) : Option (Bool) :=
  if ((p0.length : Int) != (p1.length : Int)) then some false else laws_eqEntryS_L1 p0 p1 Fuel 0
noncomputable def laws_FnExactTreeTrue (p0 : Tlaws_Schema) (p1 : Tlaws_Rule) (p2 : Tlaws_Tree) (p3 : List Tlaws_Entry) : Option (Bool) :=
  (laws_szSchema p0 1048576).bind fun y27 => if decide (y27 < 0) then some true else (laws_szTree p2 y27).bind fun y29 => if decide (y29 < 0) then some true else (laws_szEntryS p3 y29).bind fun y31 => if decide (y31 < 0) then some true else (laws_toSchema p0).bind fun y57 => (laws_toRule p1).bind fun y70 => (laws_toTree p2).bind fun y72 => (laws_toEntryS p3).bind fun y81 => (spec_TreeTrue y57 y70 y72 y81).bind fun y90 => (laws_toSchema p0).bind fun y92 => (laws_toTree p2).bind fun y106 => (laws_toEntryS p3).bind fun y116 => (laws_toRule p1).bind fun y125 => (impl_TreeTrue y92 y125 y106 y116).bind fun y127 => if (y127 != y90) then some false else (laws_toSchema p0).bind fun y142 => (laws_eqSchema y92 y142).bind fun y155 => if (!y155) then some false else (laws_toTree p2).bind fun y166 => (laws_eqTree y106 y166).bind fun y175 => if (!y175) then some false else (laws_toEntryS p3).bind fun y177 => (laws_eqEntryS y116 y177).bind fun y186 => if (!y186) then some false else some true
end Go.Vk
