/- The functions of the code, as functions of data. Printed by program. -/

import Derived.Test.YtddoligbabahbaaVkDu

namespace Go.Vk



structure Tlaws_Attr where
  Name_ : List UInt8
  Cuts_ : List Int
  Values_ : List (List UInt8)
  deriving DecidableEq, Inhabited

structure Tlaws_Schema where
  Attrs_ : List Tlaws_Attr
  Classes_ : List (List UInt8)
  deriving DecidableEq, Inhabited

structure Tlaws_Rule where
  Sure_ : Int
  Tie_ : Int
  Grace_ : Int
  Depth_ : Int
  Nodes_ : Int
  Units_ : Int
  Two_ : Bool
  deriving DecidableEq, Inhabited

structure Tlaws_Conf where
  Schema_ : Tlaws_Schema
  Rule_ : Tlaws_Rule
  Members_ : Int
  Pick_ : Int
  Lambda_ : Int
  Warn_ : Int
  Drift_ : Int
  deriving DecidableEq, Inhabited

structure Tlaws_Stats where
  Totals_ : List Int
  Cells_ : List (List Int)
  deriving DecidableEq, Inhabited

structure Tlaws_Fork where
  Attr_ : Int
  At_ : Int
  deriving DecidableEq, Inhabited

structure Tlaws_Node where
  Leaf_ : Bool
  Fork_ : Tlaws_Fork
  Kids_ : List Int
  Miss_ : Int
  Stats_ : Tlaws_Stats
  Since_ : Int
  Attrs_ : List Int
  Depth_ : Int
  Up_ : Int
  Born_ : Int
  deriving DecidableEq, Inhabited

structure Tlaws_Tree where
  Nodes_ : List Tlaws_Node
  Seen_ : Int
  deriving DecidableEq, Inhabited

structure Tlaws_Window where
  Rows_ : List (List Int)
  deriving DecidableEq, Inhabited

structure Tlaws_Det where
  Warn_ : Tlaws_Window
  Drift_ : Tlaws_Window
  deriving DecidableEq, Inhabited

structure Tlaws_Member where
  Tree_ : Tlaws_Tree
  HasYoung_ : Bool
  Young_ : Tlaws_Tree
  Det_ : Tlaws_Det
  deriving DecidableEq, Inhabited

structure Tlaws_Forest where
  Members_ : List Tlaws_Member
  deriving DecidableEq, Inhabited

structure Tlaws_Pair where
  Truth_ : Int
  Said_ : Int
  deriving DecidableEq, Inhabited

structure Tlaws_Score where
  Table_ : List (List Int)
  Last_ : List Tlaws_Pair
  deriving DecidableEq, Inhabited

structure Tlaws_State where
  Conf_ : Tlaws_Conf
  Forest_ : Tlaws_Forest
  Score_ : Tlaws_Score
  deriving DecidableEq, Inhabited

structure Timpl_Attr where
  Name_ : List UInt8
  Cuts_ : List Int
  Values_ : List (List UInt8)
  deriving DecidableEq, Inhabited

structure Timpl_Schema where
  Attrs_ : List Timpl_Attr
  Classes_ : List (List UInt8)
  deriving DecidableEq, Inhabited

structure Timpl_Rule where
  Sure_ : Int
  Tie_ : Int
  Grace_ : Int
  Depth_ : Int
  Nodes_ : Int
  Units_ : Int
  Two_ : Bool
  deriving DecidableEq, Inhabited

structure Timpl_Conf where
  Schema_ : Timpl_Schema
  Rule_ : Timpl_Rule
  Members_ : Int
  Pick_ : Int
  Lambda_ : Int
  Warn_ : Int
  Drift_ : Int
  deriving DecidableEq, Inhabited

structure Timpl_Fork where
  Attr_ : Int
  At_ : Int
  deriving DecidableEq, Inhabited

structure Timpl_Stats where
  Totals_ : List Int
  Cells_ : List (List Int)
  deriving DecidableEq, Inhabited

structure Timpl_Node where
  Leaf_ : Bool
  Fork_ : Timpl_Fork
  Kids_ : List Int
  Miss_ : Int
  Stats_ : Timpl_Stats
  Since_ : Int
  Attrs_ : List Int
  Depth_ : Int
  Up_ : Int
  Born_ : Int
  deriving DecidableEq, Inhabited

structure Timpl_Tree where
  Nodes_ : List Timpl_Node
  Seen_ : Int
  deriving DecidableEq, Inhabited

structure Timpl_Window where
  Rows_ : List (List Int)
  deriving DecidableEq, Inhabited

structure Timpl_Det where
  Warn_ : Timpl_Window
  Drift_ : Timpl_Window
  deriving DecidableEq, Inhabited

structure Timpl_Member where
  Tree_ : Timpl_Tree
  HasYoung_ : Bool
  Young_ : Timpl_Tree
  Det_ : Timpl_Det
  deriving DecidableEq, Inhabited

structure Timpl_Forest where
  Members_ : List Timpl_Member
  deriving DecidableEq, Inhabited

structure Timpl_Pair where
  Truth_ : Int
  Said_ : Int
  deriving DecidableEq, Inhabited

structure Timpl_Score where
  Table_ : List (List Int)
  Last_ : List Timpl_Pair
  deriving DecidableEq, Inhabited

structure Timpl_State where
  Conf_ : Timpl_Conf
  Forest_ : Timpl_Forest
  Score_ : Timpl_Score
  deriving DecidableEq, Inhabited

noncomputable def laws_szIntS (p0 : List Int) (p1 : Int) : Option (Int) :=
  if decide ((IntKind.i64.wrap (p1 - (p0.length : Int))) < 0) then some (-1) else some (IntKind.i64.wrap (p1 - (p0.length : Int)))


noncomputable def laws_szStringS_L1 (p0 : List (List UInt8)) : Nat → Int → Int → Option (Int)
  | 0, _, _ => none
  | k1 + 1, i5, i6 =>
    if decide (i6 < (p0.length : Int)) then (idx p0 i6).bind fun e11 => if decide ((IntKind.i64.wrap (i5 - (e11.length : Int))) < 0) then some (-1) else (laws_szStringS_L1 p0 k1) (IntKind.i64.wrap (i5 - (e11.length : Int))) (IntKind.i64.wrap (i6 + 1)) else some i5

theorem laws_szStringS_L1_ind (p0 : List (List UInt8)) {P : Int → Int → Option (Int) → Prop} (μ : Int → Int → Nat) (h : ∀ (i5 : Int) (i6 : Int) (R : Int → Int → Option (Int)), (∀ i5' i6', μ i5' i6' < μ i5 i6 → P i5' i6' (R i5' i6')) → P i5 i6 (if decide (i6 < (p0.length : Int)) then (idx p0 i6).bind fun e11 => if decide ((IntKind.i64.wrap (i5 - (e11.length : Int))) < 0) then some (-1) else (R) (IntKind.i64.wrap (i5 - (e11.length : Int))) (IntKind.i64.wrap (i6 + 1)) else some i5)) : ∀ k i5 i6, μ i5 i6 < k → P i5 i6 (laws_szStringS_L1 p0 k i5 i6) := by
  intro k
  induction k with
  | zero => intro i5 i6 hk; exact absurd hk (Nat.not_lt_zero _)
  | succ k ih => intro i5 i6 hk; unfold laws_szStringS_L1; exact h i5 i6 (laws_szStringS_L1 p0 k) (fun i5' i6' hs => ih i5' i6' (Nat.lt_of_lt_of_le hs (Nat.le_of_lt_succ hk)))

noncomputable def laws_szStringS (p0 : List (List UInt8)) (p1 : Int) : Option (Int) :=
  if decide ((IntKind.i64.wrap (p1 - (p0.length : Int))) < 0) then some (-1) else laws_szStringS_L1 p0 Fuel (IntKind.i64.wrap (p1 - (p0.length : Int))) 0


noncomputable def laws_szAttr (p0 : Tlaws_Attr) (p1 : Int) : Option (Int) :=
  if decide ((IntKind.i64.wrap (p1 - (p0.Name_.length : Int))) < 0) then some (-1) else (laws_szIntS p0.Cuts_ (IntKind.i64.wrap (p1 - (p0.Name_.length : Int)))).bind fun y12 => if decide (y12 < 0) then some (-1) else (laws_szStringS p0.Values_ y12).bind fun y14 => if decide (y14 < 0) then some (-1) else some y14


noncomputable def laws_szAttrS_L1 (p0 : List Tlaws_Attr) : Nat → Int → Int → Option (Int)
  | 0, _, _ => none
  | k1 + 1, i21, i22 =>
    if decide (i22 < (p0.length : Int)) then (idx p0 i22).bind fun e43 => (laws_szAttr e43 i21).bind fun y59 => if decide (y59 < 0) then some (-1) else (laws_szAttrS_L1 p0 k1) y59 (IntKind.i64.wrap (i22 + 1)) else some i21

theorem laws_szAttrS_L1_ind (p0 : List Tlaws_Attr) {P : Int → Int → Option (Int) → Prop} (μ : Int → Int → Nat) (h : ∀ (i21 : Int) (i22 : Int) (R : Int → Int → Option (Int)), (∀ i21' i22', μ i21' i22' < μ i21 i22 → P i21' i22' (R i21' i22')) → P i21 i22 (if decide (i22 < (p0.length : Int)) then (idx p0 i22).bind fun e43 => (laws_szAttr e43 i21).bind fun y59 => if decide (y59 < 0) then some (-1) else (R) y59 (IntKind.i64.wrap (i22 + 1)) else some i21)) : ∀ k i21 i22, μ i21 i22 < k → P i21 i22 (laws_szAttrS_L1 p0 k i21 i22) := by
  intro k
  induction k with
  | zero => intro i21 i22 hk; exact absurd hk (Nat.not_lt_zero _)
  | succ k ih => intro i21 i22 hk; unfold laws_szAttrS_L1; exact h i21 i22 (laws_szAttrS_L1 p0 k) (fun i21' i22' hs => ih i21' i22' (Nat.lt_of_lt_of_le hs (Nat.le_of_lt_succ hk)))

noncomputable def laws_szAttrS (p0 : List Tlaws_Attr) (p1 : Int) : Option (Int) :=
  if decide ((IntKind.i64.wrap (p1 - (p0.length : Int))) < 0) then some (-1) else laws_szAttrS_L1 p0 Fuel (IntKind.i64.wrap (p1 - (p0.length : Int))) 0


noncomputable def laws_szSchema (p0 : Tlaws_Schema) (p1 : Int) : Option (Int) :=
  (laws_szAttrS p0.Attrs_ p1).bind fun y10 => if decide (y10 < 0) then some (-1) else (laws_szStringS p0.Classes_ y10).bind fun y12 => if decide (y12 < 0) then some (-1) else some y12


noncomputable def laws_szConf (p0 : Tlaws_Conf) (p1 : Int) : Option (Int) :=
  (laws_szSchema p0.Schema_ p1).bind fun y24 => if decide (y24 < 0) then some (-1) else some y24


noncomputable def laws_szIntSS_L1 (p0 : List (List Int)) : Nat → Int → Int → Option (Int)
  | 0, _, _ => none
  | k1 + 1, i13, i14 =>
    if decide (i14 < (p0.length : Int)) then (idx p0 i14).bind fun e27 => (laws_szIntS e27 i13).bind fun y35 => if decide (y35 < 0) then some (-1) else (laws_szIntSS_L1 p0 k1) y35 (IntKind.i64.wrap (i14 + 1)) else some i13

theorem laws_szIntSS_L1_ind (p0 : List (List Int)) {P : Int → Int → Option (Int) → Prop} (μ : Int → Int → Nat) (h : ∀ (i13 : Int) (i14 : Int) (R : Int → Int → Option (Int)), (∀ i13' i14', μ i13' i14' < μ i13 i14 → P i13' i14' (R i13' i14')) → P i13 i14 (if decide (i14 < (p0.length : Int)) then (idx p0 i14).bind fun e27 => (laws_szIntS e27 i13).bind fun y35 => if decide (y35 < 0) then some (-1) else (R) y35 (IntKind.i64.wrap (i14 + 1)) else some i13)) : ∀ k i13 i14, μ i13 i14 < k → P i13 i14 (laws_szIntSS_L1 p0 k i13 i14) := by
  intro k
  induction k with
  | zero => intro i13 i14 hk; exact absurd hk (Nat.not_lt_zero _)
  | succ k ih => intro i13 i14 hk; unfold laws_szIntSS_L1; exact h i13 i14 (laws_szIntSS_L1 p0 k) (fun i13' i14' hs => ih i13' i14' (Nat.lt_of_lt_of_le hs (Nat.le_of_lt_succ hk)))

noncomputable def laws_szIntSS (p0 : List (List Int)) (p1 : Int) : Option (Int) :=
  if decide ((IntKind.i64.wrap (p1 - (p0.length : Int))) < 0) then some (-1) else laws_szIntSS_L1 p0 Fuel (IntKind.i64.wrap (p1 - (p0.length : Int))) 0


noncomputable def laws_szStats (p0 : Tlaws_Stats) (p1 : Int) : Option (Int) :=
  (laws_szIntS p0.Totals_ p1).bind fun y10 => if decide (y10 < 0) then some (-1) else (laws_szIntSS p0.Cells_ y10).bind fun y12 => if decide (y12 < 0) then some (-1) else some y12


noncomputable def laws_szNode (p0 : Tlaws_Node) (p1 : Int) : Option (Int) :=
  (laws_szIntS p0.Kids_ p1).bind fun y34 => if decide (y34 < 0) then some (-1) else (laws_szStats p0.Stats_ y34).bind fun y36 => if decide (y36 < 0) then some (-1) else (laws_szIntS p0.Attrs_ y36).bind fun y38 => if decide (y38 < 0) then some (-1) else some y38


noncomputable def laws_szNodeS_L1 (p0 : List Tlaws_Node) : Nat → Int → Int → Option (Int)
  | 0, _, _ => none
  | k1 + 1, i43, i44 =>
    if decide (i44 < (p0.length : Int)) then (idx p0 i44).bind fun e87 => (laws_szNode e87 i43).bind fun y125 => if decide (y125 < 0) then some (-1) else (laws_szNodeS_L1 p0 k1) y125 (IntKind.i64.wrap (i44 + 1)) else some i43

theorem laws_szNodeS_L1_ind (p0 : List Tlaws_Node) {P : Int → Int → Option (Int) → Prop} (μ : Int → Int → Nat) (h : ∀ (i43 : Int) (i44 : Int) (R : Int → Int → Option (Int)), (∀ i43' i44', μ i43' i44' < μ i43 i44 → P i43' i44' (R i43' i44')) → P i43 i44 (if decide (i44 < (p0.length : Int)) then (idx p0 i44).bind fun e87 => (laws_szNode e87 i43).bind fun y125 => if decide (y125 < 0) then some (-1) else (R) y125 (IntKind.i64.wrap (i44 + 1)) else some i43)) : ∀ k i43 i44, μ i43 i44 < k → P i43 i44 (laws_szNodeS_L1 p0 k i43 i44) := by
  intro k
  induction k with
  | zero => intro i43 i44 hk; exact absurd hk (Nat.not_lt_zero _)
  | succ k ih => intro i43 i44 hk; unfold laws_szNodeS_L1; exact h i43 i44 (laws_szNodeS_L1 p0 k) (fun i43' i44' hs => ih i43' i44' (Nat.lt_of_lt_of_le hs (Nat.le_of_lt_succ hk)))

noncomputable def laws_szNodeS (p0 : List Tlaws_Node) (p1 : Int) : Option (Int) :=
  if decide ((IntKind.i64.wrap (p1 - (p0.length : Int))) < 0) then some (-1) else laws_szNodeS_L1 p0 Fuel (IntKind.i64.wrap (p1 - (p0.length : Int))) 0


noncomputable def laws_szTree (p0 : Tlaws_Tree) (p1 : Int) : Option (Int) :=
  (laws_szNodeS p0.Nodes_ p1).bind fun y8 => if decide (y8 < 0) then some (-1) else some y8


noncomputable def laws_szWindow (p0 : Tlaws_Window) (p1 : Int) : Option (Int) :=
  (laws_szIntSS p0.Rows_ p1).bind fun y6 => if decide (y6 < 0) then some (-1) else some y6


noncomputable def laws_szDet (p0 : Tlaws_Det) (p1 : Int) : Option (Int) :=
  (laws_szWindow p0.Warn_ p1).bind fun y14 => if decide (y14 < 0) then some (-1) else (laws_szWindow p0.Drift_ y14).bind fun y16 => if decide (y16 < 0) then some (-1) else some y16


noncomputable def laws_szMember (p0 : Tlaws_Member) (p1 : Int) : Option (Int) :=
  (laws_szTree p0.Tree_ p1).bind fun y34 => if decide (y34 < 0) then some (-1) else (laws_szTree p0.Young_ y34).bind fun y36 => if decide (y36 < 0) then some (-1) else (laws_szDet p0.Det_ y36).bind fun y38 => if decide (y38 < 0) then some (-1) else some y38


noncomputable def laws_szMemberS_L1 (p0 : List Tlaws_Member) : Nat → Int → Int → Option (Int)
  | 0, _, _ => none
  | k1 + 1, i43, i44 =>
    if decide (i44 < (p0.length : Int)) then (idx p0 i44).bind fun e87 => (laws_szMember e87 i43).bind fun y125 => if decide (y125 < 0) then some (-1) else (laws_szMemberS_L1 p0 k1) y125 (IntKind.i64.wrap (i44 + 1)) else some i43

theorem laws_szMemberS_L1_ind (p0 : List Tlaws_Member) {P : Int → Int → Option (Int) → Prop} (μ : Int → Int → Nat) (h : ∀ (i43 : Int) (i44 : Int) (R : Int → Int → Option (Int)), (∀ i43' i44', μ i43' i44' < μ i43 i44 → P i43' i44' (R i43' i44')) → P i43 i44 (if decide (i44 < (p0.length : Int)) then (idx p0 i44).bind fun e87 => (laws_szMember e87 i43).bind fun y125 => if decide (y125 < 0) then some (-1) else (R) y125 (IntKind.i64.wrap (i44 + 1)) else some i43)) : ∀ k i43 i44, μ i43 i44 < k → P i43 i44 (laws_szMemberS_L1 p0 k i43 i44) := by
  intro k
  induction k with
  | zero => intro i43 i44 hk; exact absurd hk (Nat.not_lt_zero _)
  | succ k ih => intro i43 i44 hk; unfold laws_szMemberS_L1; exact h i43 i44 (laws_szMemberS_L1 p0 k) (fun i43' i44' hs => ih i43' i44' (Nat.lt_of_lt_of_le hs (Nat.le_of_lt_succ hk)))

noncomputable def laws_szMemberS (p0 : List Tlaws_Member) (p1 : Int) : Option (Int) :=
  if decide ((IntKind.i64.wrap (p1 - (p0.length : Int))) < 0) then some (-1) else laws_szMemberS_L1 p0 Fuel (IntKind.i64.wrap (p1 - (p0.length : Int))) 0


noncomputable def laws_szForest (p0 : Tlaws_Forest) (p1 : Int) : Option (Int) :=
  (laws_szMemberS p0.Members_ p1).bind fun y6 => if decide (y6 < 0) then some (-1) else some y6


noncomputable def laws_szPairS (p0 : List Tlaws_Pair) (p1 : Int) : Option (Int) :=
  if decide ((IntKind.i64.wrap (p1 - (p0.length : Int))) < 0) then some (-1) else some (IntKind.i64.wrap (p1 - (p0.length : Int)))


noncomputable def laws_szScore (p0 : Tlaws_Score) (p1 : Int) : Option (Int) :=
  (laws_szIntSS p0.Table_ p1).bind fun y10 => if decide (y10 < 0) then some (-1) else (laws_szPairS p0.Last_ y10).bind fun y12 => if decide (y12 < 0) then some (-1) else some y12


noncomputable def laws_szState (p0 : Tlaws_State) (p1 : Int) : Option (Int) :=
  (laws_szConf p0.Conf_ p1).bind fun y42 => if decide (y42 < 0) then some (-1) else (laws_szForest p0.Forest_ y42).bind fun y44 => if decide (y44 < 0) then some (-1) else (laws_szScore p0.Score_ y44).bind fun y46 => if decide (y46 < 0) then some (-1) else some y46


noncomputable def laws_toIntS_L1 (p0 : List Int) : Nat → (List Int) → Int → Option (List Int)
  | 0, _, _ => none
  | k1 + 1, l10, i11 =>
    if decide (i11 < (p0.length : Int)) then (idx p0 i11).bind fun e18 => (idx l10 i11).bind fun _ => (laws_toIntS_L1 p0 k1) (l10.set i11.toNat e18) (IntKind.i64.wrap (i11 + 1)) else some l10

theorem laws_toIntS_L1_ind (p0 : List Int) {P : (List Int) → Int → Option (List Int) → Prop} (μ : (List Int) → Int → Nat) (h : ∀ (l10 : List Int) (i11 : Int) (R : (List Int) → Int → Option (List Int)), (∀ l10' i11', μ l10' i11' < μ l10 i11 → P l10' i11' (R l10' i11')) → P l10 i11 (if decide (i11 < (p0.length : Int)) then (idx p0 i11).bind fun e18 => (idx l10 i11).bind fun _ => (R) (l10.set i11.toNat e18) (IntKind.i64.wrap (i11 + 1)) else some l10)) : ∀ k l10 i11, μ l10 i11 < k → P l10 i11 (laws_toIntS_L1 p0 k l10 i11) := by
  intro k
  induction k with
  | zero => intro l10 i11 hk; exact absurd hk (Nat.not_lt_zero _)
  | succ k ih => intro l10 i11 hk; unfold laws_toIntS_L1; exact h l10 i11 (laws_toIntS_L1 p0 k) (fun l10' i11' hs => ih l10' i11' (Nat.lt_of_lt_of_le hs (Nat.le_of_lt_succ hk)))

noncomputable def laws_toIntS (p0 : List Int) : Option (List Int) :=
  (mk (0 : Int) (p0.length : Int)).bind fun l1 => laws_toIntS_L1 p0 Fuel l1 0


noncomputable def laws_toStringS_L1 (p0 : List (List UInt8)) : Nat → (List (List UInt8)) → Int → Option (List (List UInt8))
  | 0, _, _ => none
  | k1 + 1, l10, i11 =>
    if decide (i11 < (p0.length : Int)) then (idx p0 i11).bind fun e18 => (idx l10 i11).bind fun _ => (laws_toStringS_L1 p0 k1) (l10.set i11.toNat e18) (IntKind.i64.wrap (i11 + 1)) else some l10

theorem laws_toStringS_L1_ind (p0 : List (List UInt8)) {P : (List (List UInt8)) → Int → Option (List (List UInt8)) → Prop} (μ : (List (List UInt8)) → Int → Nat) (h : ∀ (l10 : List (List UInt8)) (i11 : Int) (R : (List (List UInt8)) → Int → Option (List (List UInt8))), (∀ l10' i11', μ l10' i11' < μ l10 i11 → P l10' i11' (R l10' i11')) → P l10 i11 (if decide (i11 < (p0.length : Int)) then (idx p0 i11).bind fun e18 => (idx l10 i11).bind fun _ => (R) (l10.set i11.toNat e18) (IntKind.i64.wrap (i11 + 1)) else some l10)) : ∀ k l10 i11, μ l10 i11 < k → P l10 i11 (laws_toStringS_L1 p0 k l10 i11) := by
  intro k
  induction k with
  | zero => intro l10 i11 hk; exact absurd hk (Nat.not_lt_zero _)
  | succ k ih => intro l10 i11 hk; unfold laws_toStringS_L1; exact h l10 i11 (laws_toStringS_L1 p0 k) (fun l10' i11' hs => ih l10' i11' (Nat.lt_of_lt_of_le hs (Nat.le_of_lt_succ hk)))

noncomputable def laws_toStringS (p0 : List (List UInt8)) : Option (List (List UInt8)) :=
  (mk ([] : List UInt8) (p0.length : Int)).bind fun l1 => laws_toStringS_L1 p0 Fuel l1 0


noncomputable def laws_toAttr (p0 : Tlaws_Attr) : Option (Timpl_Attr) :=
  (laws_toIntS p0.Cuts_).bind fun y14 => (laws_toStringS p0.Values_).bind fun y23 => some (Timpl_Attr.mk p0.Name_ y14 y23)


noncomputable def laws_toAttrS_L1 (p0 : List Tlaws_Attr) : Nat → (List Timpl_Attr) → Int → Option (List Timpl_Attr)
  | 0, _, _ => none
  | k1 + 1, l54, i56 =>
    if decide (i56 < (p0.length : Int)) then (idx p0 i56).bind fun e107 => (laws_toAttr e107).bind fun y123 => (idx l54 i56).bind fun _ => (laws_toAttrS_L1 p0 k1) (l54.set i56.toNat y123) (IntKind.i64.wrap (i56 + 1)) else some l54

theorem laws_toAttrS_L1_ind (p0 : List Tlaws_Attr) {P : (List Timpl_Attr) → Int → Option (List Timpl_Attr) → Prop} (μ : (List Timpl_Attr) → Int → Nat) (h : ∀ (l54 : List Timpl_Attr) (i56 : Int) (R : (List Timpl_Attr) → Int → Option (List Timpl_Attr)), (∀ l54' i56', μ l54' i56' < μ l54 i56 → P l54' i56' (R l54' i56')) → P l54 i56 (if decide (i56 < (p0.length : Int)) then (idx p0 i56).bind fun e107 => (laws_toAttr e107).bind fun y123 => (idx l54 i56).bind fun _ => (R) (l54.set i56.toNat y123) (IntKind.i64.wrap (i56 + 1)) else some l54)) : ∀ k l54 i56, μ l54 i56 < k → P l54 i56 (laws_toAttrS_L1 p0 k l54 i56) := by
  intro k
  induction k with
  | zero => intro l54 i56 hk; exact absurd hk (Nat.not_lt_zero _)
  | succ k ih => intro l54 i56 hk; unfold laws_toAttrS_L1; exact h l54 i56 (laws_toAttrS_L1 p0 k) (fun l54' i56' hs => ih l54' i56' (Nat.lt_of_lt_of_le hs (Nat.le_of_lt_succ hk)))

noncomputable def laws_toAttrS (p0 : List Tlaws_Attr) : Option (List Timpl_Attr) :=
  (mk ((Timpl_Attr.mk [] [] []) : Timpl_Attr) (p0.length : Int)).bind fun l1 => laws_toAttrS_L1 p0 Fuel l1 0


noncomputable def laws_toSchema (p0 : Tlaws_Schema) : Option (Timpl_Schema) :=
  (laws_toAttrS p0.Attrs_).bind fun y12 => (laws_toStringS p0.Classes_).bind fun y21 => some (Timpl_Schema.mk y12 y21)


noncomputable def laws_toRule (p0 : Tlaws_Rule) : Option (Timpl_Rule) :=
  some (Timpl_Rule.mk p0.Sure_ p0.Tie_ p0.Grace_ p0.Depth_ p0.Nodes_ p0.Units_ p0.Two_)


noncomputable def laws_toConf (p0 : Tlaws_Conf) : Option (Timpl_Conf) :=
  (laws_toSchema p0.Schema_).bind fun y26 => (laws_toRule p0.Rule_).bind fun y39 => some (Timpl_Conf.mk y26 y39 p0.Members_ p0.Pick_ p0.Lambda_ p0.Warn_ p0.Drift_)


noncomputable def laws_toFork (p0 : Tlaws_Fork) : Option (Timpl_Fork) :=
  some (Timpl_Fork.mk p0.Attr_ p0.At_)


noncomputable def laws_toIntSS_L1 (p0 : List (List Int)) : Nat → (List (List Int)) → Int → Option (List (List Int))
  | 0, _, _ => none
  | k1 + 1, l37, i39 =>
    if decide (i39 < (p0.length : Int)) then (idx p0 i39).bind fun e73 => (laws_toIntS e73).bind fun y81 => (idx l37 i39).bind fun _ => (laws_toIntSS_L1 p0 k1) (l37.set i39.toNat y81) (IntKind.i64.wrap (i39 + 1)) else some l37

theorem laws_toIntSS_L1_ind (p0 : List (List Int)) {P : (List (List Int)) → Int → Option (List (List Int)) → Prop} (μ : (List (List Int)) → Int → Nat) (h : ∀ (l37 : List (List Int)) (i39 : Int) (R : (List (List Int)) → Int → Option (List (List Int))), (∀ l37' i39', μ l37' i39' < μ l37 i39 → P l37' i39' (R l37' i39')) → P l37 i39 (if decide (i39 < (p0.length : Int)) then (idx p0 i39).bind fun e73 => (laws_toIntS e73).bind fun y81 => (idx l37 i39).bind fun _ => (R) (l37.set i39.toNat y81) (IntKind.i64.wrap (i39 + 1)) else some l37)) : ∀ k l37 i39, μ l37 i39 < k → P l37 i39 (laws_toIntSS_L1 p0 k l37 i39) := by
  intro k
  induction k with
  | zero => intro l37 i39 hk; exact absurd hk (Nat.not_lt_zero _)
  | succ k ih => intro l37 i39 hk; unfold laws_toIntSS_L1; exact h l37 i39 (laws_toIntSS_L1 p0 k) (fun l37' i39' hs => ih l37' i39' (Nat.lt_of_lt_of_le hs (Nat.le_of_lt_succ hk)))

noncomputable def laws_toIntSS (p0 : List (List Int)) : Option (List (List Int)) :=
  (mk ([] : List Int) (p0.length : Int)).bind fun l1 => laws_toIntSS_L1 p0 Fuel l1 0


noncomputable def laws_toStats (p0 : Tlaws_Stats) : Option (Timpl_Stats) :=
  (laws_toIntS p0.Totals_).bind fun y12 => (laws_toIntSS p0.Cells_).bind fun y21 => some (Timpl_Stats.mk y12 y21)


noncomputable def laws_toNode (p0 : Tlaws_Node) : Option (Timpl_Node) :=
  (laws_toFork p0.Fork_).bind fun y36 => (laws_toIntS p0.Kids_).bind fun y38 => (laws_toStats p0.Stats_).bind fun y47 => (laws_toIntS p0.Attrs_).bind fun y60 => some (Timpl_Node.mk p0.Leaf_ y36 y38 p0.Miss_ y47 p0.Since_ y60 p0.Depth_ p0.Up_ p0.Born_)


noncomputable def laws_toNodeS_L1 (p0 : List Tlaws_Node) : Nat → (List Timpl_Node) → Int → Option (List Timpl_Node)
  | 0, _, _ => none
  | k1 + 1, l90, i92 =>
    if decide (i92 < (p0.length : Int)) then (idx p0 i92).bind fun e179 => (laws_toNode e179).bind fun y217 => (idx l90 i92).bind fun _ => (laws_toNodeS_L1 p0 k1) (l90.set i92.toNat y217) (IntKind.i64.wrap (i92 + 1)) else some l90

theorem laws_toNodeS_L1_ind (p0 : List Tlaws_Node) {P : (List Timpl_Node) → Int → Option (List Timpl_Node) → Prop} (μ : (List Timpl_Node) → Int → Nat) (h : ∀ (l90 : List Timpl_Node) (i92 : Int) (R : (List Timpl_Node) → Int → Option (List Timpl_Node)), (∀ l90' i92', μ l90' i92' < μ l90 i92 → P l90' i92' (R l90' i92')) → P l90 i92 (if decide (i92 < (p0.length : Int)) then (idx p0 i92).bind fun e179 => (laws_toNode e179).bind fun y217 => (idx l90 i92).bind fun _ => (R) (l90.set i92.toNat y217) (IntKind.i64.wrap (i92 + 1)) else some l90)) : ∀ k l90 i92, μ l90 i92 < k → P l90 i92 (laws_toNodeS_L1 p0 k l90 i92) := by
  intro k
  induction k with
  | zero => intro l90 i92 hk; exact absurd hk (Nat.not_lt_zero _)
  | succ k ih => intro l90 i92 hk; unfold laws_toNodeS_L1; exact h l90 i92 (laws_toNodeS_L1 p0 k) (fun l90' i92' hs => ih l90' i92' (Nat.lt_of_lt_of_le hs (Nat.le_of_lt_succ hk)))

noncomputable def laws_toNodeS (p0 : List Tlaws_Node) : Option (List Timpl_Node) :=
  (mk ((Timpl_Node.mk false (Timpl_Fork.mk 0 0) [] 0 (Timpl_Stats.mk [] []) 0 [] 0 0 0) : Timpl_Node) (p0.length : Int)).bind fun l1 => laws_toNodeS_L1 p0 Fuel l1 0


noncomputable def laws_toTree (p0 : Tlaws_Tree) : Option (Timpl_Tree) :=
  (laws_toNodeS p0.Nodes_).bind fun y10 => some (Timpl_Tree.mk y10 p0.Seen_)


noncomputable def laws_toWindow (p0 : Tlaws_Window) : Option (Timpl_Window) :=
  (laws_toIntSS p0.Rows_).bind fun y8 => some (Timpl_Window.mk y8)


noncomputable def laws_toDet (p0 : Tlaws_Det) : Option (Timpl_Det) :=
  (laws_toWindow p0.Warn_).bind fun y16 => (laws_toWindow p0.Drift_).bind fun y25 => some (Timpl_Det.mk y16 y25)


noncomputable def laws_toMember (p0 : Tlaws_Member) : Option (Timpl_Member) :=
  (laws_toTree p0.Tree_).bind fun y36 => (laws_toTree p0.Young_).bind fun y45 => (laws_toDet p0.Det_).bind fun y54 => some (Timpl_Member.mk y36 p0.HasYoung_ y45 y54)


noncomputable def laws_toMemberS_L1 (p0 : List Tlaws_Member) : Nat → (List Timpl_Member) → Int → Option (List Timpl_Member)
  | 0, _, _ => none
  | k1 + 1, l90, i92 =>
    if decide (i92 < (p0.length : Int)) then (idx p0 i92).bind fun e179 => (laws_toMember e179).bind fun y217 => (idx l90 i92).bind fun _ => (laws_toMemberS_L1 p0 k1) (l90.set i92.toNat y217) (IntKind.i64.wrap (i92 + 1)) else some l90

theorem laws_toMemberS_L1_ind (p0 : List Tlaws_Member) {P : (List Timpl_Member) → Int → Option (List Timpl_Member) → Prop} (μ : (List Timpl_Member) → Int → Nat) (h : ∀ (l90 : List Timpl_Member) (i92 : Int) (R : (List Timpl_Member) → Int → Option (List Timpl_Member)), (∀ l90' i92', μ l90' i92' < μ l90 i92 → P l90' i92' (R l90' i92')) → P l90 i92 (if decide (i92 < (p0.length : Int)) then (idx p0 i92).bind fun e179 => (laws_toMember e179).bind fun y217 => (idx l90 i92).bind fun _ => (R) (l90.set i92.toNat y217) (IntKind.i64.wrap (i92 + 1)) else some l90)) : ∀ k l90 i92, μ l90 i92 < k → P l90 i92 (laws_toMemberS_L1 p0 k l90 i92) := by
  intro k
  induction k with
  | zero => intro l90 i92 hk; exact absurd hk (Nat.not_lt_zero _)
  | succ k ih => intro l90 i92 hk; unfold laws_toMemberS_L1; exact h l90 i92 (laws_toMemberS_L1 p0 k) (fun l90' i92' hs => ih l90' i92' (Nat.lt_of_lt_of_le hs (Nat.le_of_lt_succ hk)))

noncomputable def laws_toMemberS (p0 : List Tlaws_Member) : Option (List Timpl_Member) :=
  (mk ((Timpl_Member.mk (Timpl_Tree.mk [] 0) false (Timpl_Tree.mk [] 0) (Timpl_Det.mk (Timpl_Window.mk []) (Timpl_Window.mk []))) : Timpl_Member) (p0.length : Int)).bind fun l1 => laws_toMemberS_L1 p0 Fuel l1 0


noncomputable def laws_toForest (p0 : Tlaws_Forest) : Option (Timpl_Forest) :=
  (laws_toMemberS p0.Members_).bind fun y8 => some (Timpl_Forest.mk y8)


noncomputable def laws_toPair (p0 : Tlaws_Pair) : Option (Timpl_Pair) :=
  some (Timpl_Pair.mk p0.Truth_ p0.Said_)


noncomputable def laws_toPairS_L1 (p0 : List Tlaws_Pair) : Nat → (List Timpl_Pair) → Int → Option (List Timpl_Pair)
  | 0, _, _ => none
  | k1 + 1, l21, i23 =>
    if decide (i23 < (p0.length : Int)) then (idx p0 i23).bind fun e41 => (laws_toPair e41).bind fun y43 => (idx l21 i23).bind fun _ => (laws_toPairS_L1 p0 k1) (l21.set i23.toNat y43) (IntKind.i64.wrap (i23 + 1)) else some l21

theorem laws_toPairS_L1_ind (p0 : List Tlaws_Pair) {P : (List Timpl_Pair) → Int → Option (List Timpl_Pair) → Prop} (μ : (List Timpl_Pair) → Int → Nat) (h : ∀ (l21 : List Timpl_Pair) (i23 : Int) (R : (List Timpl_Pair) → Int → Option (List Timpl_Pair)), (∀ l21' i23', μ l21' i23' < μ l21 i23 → P l21' i23' (R l21' i23')) → P l21 i23 (if decide (i23 < (p0.length : Int)) then (idx p0 i23).bind fun e41 => (laws_toPair e41).bind fun y43 => (idx l21 i23).bind fun _ => (R) (l21.set i23.toNat y43) (IntKind.i64.wrap (i23 + 1)) else some l21)) : ∀ k l21 i23, μ l21 i23 < k → P l21 i23 (laws_toPairS_L1 p0 k l21 i23) := by
  intro k
  induction k with
  | zero => intro l21 i23 hk; exact absurd hk (Nat.not_lt_zero _)
  | succ k ih => intro l21 i23 hk; unfold laws_toPairS_L1; exact h l21 i23 (laws_toPairS_L1 p0 k) (fun l21' i23' hs => ih l21' i23' (Nat.lt_of_lt_of_le hs (Nat.le_of_lt_succ hk)))

noncomputable def laws_toPairS (p0 : List Tlaws_Pair) : Option (List Timpl_Pair) :=
  (mk ((Timpl_Pair.mk 0 0) : Timpl_Pair) (p0.length : Int)).bind fun l1 => laws_toPairS_L1 p0 Fuel l1 0


noncomputable def laws_toScore (p0 : Tlaws_Score) : Option (Timpl_Score) :=
  (laws_toIntSS p0.Table_).bind fun y12 => (laws_toPairS p0.Last_).bind fun y21 => some (Timpl_Score.mk y12 y21)


noncomputable def laws_toState (p0 : Tlaws_State) : Option (Timpl_State) :=
  (laws_toConf p0.Conf_).bind fun y44 => (laws_toForest p0.Forest_).bind fun y57 => (laws_toScore p0.Score_).bind fun y66 => some (Timpl_State.mk y44 y57 y66)


noncomputable def spec_l5SameTexts_L1 (p0 : List (List UInt8)) (p1 : List (List UInt8)) : Nat → Int → Option (Bool)
  | 0, _ => none
  | k1 + 1, i6 =>
    if decide (i6 < (p0.length : Int)) then (idx p0 i6).bind fun e12 => (idx p1 i6).bind fun e14 => if (!(e12 == e14)) then some false else (spec_l5SameTexts_L1 p0 p1 k1) (IntKind.i64.wrap (i6 + 1)) else some true

theorem spec_l5SameTexts_L1_ind (p0 : List (List UInt8)) (p1 : List (List UInt8)) {P : Int → Option (Bool) → Prop} (μ : Int → Nat) (h : ∀ (i6 : Int) (R : Int → Option (Bool)), (∀ i6', μ i6' < μ i6 → P i6' (R i6')) → P i6 (if decide (i6 < (p0.length : Int)) then (idx p0 i6).bind fun e12 => (idx p1 i6).bind fun e14 => if (!(e12 == e14)) then some false else (R) (IntKind.i64.wrap (i6 + 1)) else some true)) : ∀ k i6, μ i6 < k → P i6 (spec_l5SameTexts_L1 p0 p1 k i6) := by
  intro k
  induction k with
  | zero => intro i6 hk; exact absurd hk (Nat.not_lt_zero _)
  | succ k ih => intro i6 hk; unfold spec_l5SameTexts_L1; exact h i6 (spec_l5SameTexts_L1 p0 p1 k) (fun i6' hs => ih i6' (Nat.lt_of_lt_of_le hs (Nat.le_of_lt_succ hk)))

noncomputable def spec_l5SameTexts (p0 : List (List UInt8)) (p1 : List (List UInt8)) : Option (Bool) :=
  if ((p0.length : Int) != (p1.length : Int)) then some false else spec_l5SameTexts_L1 p0 p1 Fuel 0


noncomputable def spec_l5SameInts_L1 (p0 : List Int) (p1 : List Int) : Nat → Int → Option (Bool)
  | 0, _ => none
  | k1 + 1, i6 =>
    if decide (i6 < (p0.length : Int)) then (idx p0 i6).bind fun e12 => (idx p1 i6).bind fun e14 => if (e12 != e14) then some false else (spec_l5SameInts_L1 p0 p1 k1) (IntKind.i64.wrap (i6 + 1)) else some true

theorem spec_l5SameInts_L1_ind (p0 : List Int) (p1 : List Int) {P : Int → Option (Bool) → Prop} (μ : Int → Nat) (h : ∀ (i6 : Int) (R : Int → Option (Bool)), (∀ i6', μ i6' < μ i6 → P i6' (R i6')) → P i6 (if decide (i6 < (p0.length : Int)) then (idx p0 i6).bind fun e12 => (idx p1 i6).bind fun e14 => if (e12 != e14) then some false else (R) (IntKind.i64.wrap (i6 + 1)) else some true)) : ∀ k i6, μ i6 < k → P i6 (spec_l5SameInts_L1 p0 p1 k i6) := by
  intro k
  induction k with
  | zero => intro i6 hk; exact absurd hk (Nat.not_lt_zero _)
  | succ k ih => intro i6 hk; unfold spec_l5SameInts_L1; exact h i6 (spec_l5SameInts_L1 p0 p1 k) (fun i6' hs => ih i6' (Nat.lt_of_lt_of_le hs (Nat.le_of_lt_succ hk)))

noncomputable def spec_l5SameInts (p0 : List Int) (p1 : List Int) : Option (Bool) :=
  if ((p0.length : Int) != (p1.length : Int)) then some false else spec_l5SameInts_L1 p0 p1 Fuel 0


noncomputable def spec_SchemaSame_L1 (p0 : Timpl_Schema) (p1 : Timpl_Schema) : Nat → Int → Option (Bool)
  | 0, _ => none
  | k1 + 1, i131 =>
    if decide (i131 < (p0.Attrs_.length : Int)) then (idx p0.Attrs_ i131).bind fun e239 => (idx p1.Attrs_ i131).bind fun e255 => (if (!(e239.Name_ == e255.Name_)) then some true else (idx p0.Attrs_ i131).bind fun e272 => (idx p1.Attrs_ i131).bind fun e288 => (spec_l5SameInts e272.Cuts_ e288.Cuts_).bind fun y304 => some (!y304)).bind fun u271 => (if u271 then some true else (idx p0.Attrs_ i131).bind fun e309 => (idx p1.Attrs_ i131).bind fun e325 => (spec_l5SameTexts e309.Values_ e325.Values_).bind fun y341 => some (!y341)).bind fun u308 => if u308 then some false else (spec_SchemaSame_L1 p0 p1 k1) (IntKind.i64.wrap (i131 + 1)) else some true

theorem spec_SchemaSame_L1_ind (p0 : Timpl_Schema) (p1 : Timpl_Schema) {P : Int → Option (Bool) → Prop} (μ : Int → Nat) (h : ∀ (i131 : Int) (R : Int → Option (Bool)), (∀ i131', μ i131' < μ i131 → P i131' (R i131')) → P i131 (if decide (i131 < (p0.Attrs_.length : Int)) then (idx p0.Attrs_ i131).bind fun e239 => (idx p1.Attrs_ i131).bind fun e255 => (if (!(e239.Name_ == e255.Name_)) then some true else (idx p0.Attrs_ i131).bind fun e272 => (idx p1.Attrs_ i131).bind fun e288 => (spec_l5SameInts e272.Cuts_ e288.Cuts_).bind fun y304 => some (!y304)).bind fun u271 => (if u271 then some true else (idx p0.Attrs_ i131).bind fun e309 => (idx p1.Attrs_ i131).bind fun e325 => (spec_l5SameTexts e309.Values_ e325.Values_).bind fun y341 => some (!y341)).bind fun u308 => if u308 then some false else (R) (IntKind.i64.wrap (i131 + 1)) else some true)) : ∀ k i131, μ i131 < k → P i131 (spec_SchemaSame_L1 p0 p1 k i131) := by
  intro k
  induction k with
  | zero => intro i131 hk; exact absurd hk (Nat.not_lt_zero _)
  | succ k ih => intro i131 hk; unfold spec_SchemaSame_L1; exact h i131 (spec_SchemaSame_L1 p0 p1 k) (fun i131' hs => ih i131' (Nat.lt_of_lt_of_le hs (Nat.le_of_lt_succ hk)))

noncomputable def spec_SchemaSame (p0 : Timpl_Schema) (p1 : Timpl_Schema) : Option (Bool) :=
  (if ((p0.Attrs_.length : Int) != (p1.Attrs_.length : Int)) then some true else (spec_l5SameTexts p0.Classes_ p1.Classes_).bind fun y20 => some (!y20)).bind fun u19 => if u19 then some false else spec_SchemaSame_L1 p0 p1 Fuel 0


noncomputable def spec_ConfSame (p0 : Timpl_Conf) (p1 : Timpl_Conf) : Option (Bool) :=
  (spec_SchemaSame p0.Schema_ p1.Schema_).bind fun y47 => some ((((((y47 && (p0.Rule_.Sure_ == p1.Rule_.Sure_ && (p0.Rule_.Tie_ == p1.Rule_.Tie_ && (p0.Rule_.Grace_ == p1.Rule_.Grace_ && (p0.Rule_.Depth_ == p1.Rule_.Depth_ && (p0.Rule_.Nodes_ == p1.Rule_.Nodes_ && (p0.Rule_.Units_ == p1.Rule_.Units_ && (p0.Rule_.Two_ == p1.Rule_.Two_ && true)))))))) && (p0.Members_ == p1.Members_)) && (p0.Pick_ == p1.Pick_)) && (p0.Lambda_ == p1.Lambda_)) && (p0.Warn_ == p1.Warn_)) && (p0.Drift_ == p1.Drift_))


noncomputable def spec_StatsSame_L1 (p0 : Timpl_Stats) (p1 : Timpl_Stats) : Nat → Int → Option (Bool)
  | 0, _ => none
  | k1 + 1, i42 =>
    if decide (i42 < (p0.Cells_.length : Int)) then (idx p0.Cells_ i42).bind fun e62 => (idx p1.Cells_ i42).bind fun e70 => (spec_l5SameInts e62 e70).bind fun y78 => if (!y78) then some false else (spec_StatsSame_L1 p0 p1 k1) (IntKind.i64.wrap (i42 + 1)) else some true

theorem spec_StatsSame_L1_ind (p0 : Timpl_Stats) (p1 : Timpl_Stats) {P : Int → Option (Bool) → Prop} (μ : Int → Nat) (h : ∀ (i42 : Int) (R : Int → Option (Bool)), (∀ i42', μ i42' < μ i42 → P i42' (R i42')) → P i42 (if decide (i42 < (p0.Cells_.length : Int)) then (idx p0.Cells_ i42).bind fun e62 => (idx p1.Cells_ i42).bind fun e70 => (spec_l5SameInts e62 e70).bind fun y78 => if (!y78) then some false else (R) (IntKind.i64.wrap (i42 + 1)) else some true)) : ∀ k i42, μ i42 < k → P i42 (spec_StatsSame_L1 p0 p1 k i42) := by
  intro k
  induction k with
  | zero => intro i42 hk; exact absurd hk (Nat.not_lt_zero _)
  | succ k ih => intro i42 hk; unfold spec_StatsSame_L1; exact h i42 (spec_StatsSame_L1 p0 p1 k) (fun i42' hs => ih i42' (Nat.lt_of_lt_of_le hs (Nat.le_of_lt_succ hk)))

noncomputable def spec_StatsSame (p0 : Timpl_Stats) (p1 : Timpl_Stats) : Option (Bool) :=
  (spec_l5SameInts p0.Totals_ p1.Totals_).bind fun y19 => if ((!y19) || ((p0.Cells_.length : Int) != (p1.Cells_.length : Int))) then some false else spec_StatsSame_L1 p0 p1 Fuel 0


noncomputable def spec_NodeSame (p0 : Timpl_Node) (p1 : Timpl_Node) : Option (Bool) :=
  (if ((p0.Leaf_ == p1.Leaf_) && (p0.Fork_.Attr_ == p1.Fork_.Attr_ && (p0.Fork_.At_ == p1.Fork_.At_ && true))) then (spec_l5SameInts p0.Kids_ p1.Kids_).bind fun y70 => some y70 else some false).bind fun u69 => (if (u69 && (p0.Miss_ == p1.Miss_)) then (spec_StatsSame p0.Stats_ p1.Stats_).bind fun y77 => some y77 else some false).bind fun u76 => (if (u76 && (p0.Since_ == p1.Since_)) then (spec_l5SameInts p0.Attrs_ p1.Attrs_).bind fun y84 => some y84 else some false).bind fun u83 => some (((u83 && (p0.Depth_ == p1.Depth_)) && (p0.Up_ == p1.Up_)) && (p0.Born_ == p1.Born_))


noncomputable def spec_TreeSame_L1 (p0 : Timpl_Tree) (p1 : Timpl_Tree) : Nat → Int → Option (Bool)
  | 0, _ => none
  | k1 + 1, i96 =>
    if decide (i96 < (p0.Nodes_.length : Int)) then (idx p0.Nodes_ i96).bind fun e176 => (idx p1.Nodes_ i96).bind fun e214 => (spec_NodeSame e176 e214).bind fun y252 => if (!y252) then some false else (spec_TreeSame_L1 p0 p1 k1) (IntKind.i64.wrap (i96 + 1)) else some true

theorem spec_TreeSame_L1_ind (p0 : Timpl_Tree) (p1 : Timpl_Tree) {P : Int → Option (Bool) → Prop} (μ : Int → Nat) (h : ∀ (i96 : Int) (R : Int → Option (Bool)), (∀ i96', μ i96' < μ i96 → P i96' (R i96')) → P i96 (if decide (i96 < (p0.Nodes_.length : Int)) then (idx p0.Nodes_ i96).bind fun e176 => (idx p1.Nodes_ i96).bind fun e214 => (spec_NodeSame e176 e214).bind fun y252 => if (!y252) then some false else (R) (IntKind.i64.wrap (i96 + 1)) else some true)) : ∀ k i96, μ i96 < k → P i96 (spec_TreeSame_L1 p0 p1 k i96) := by
  intro k
  induction k with
  | zero => intro i96 hk; exact absurd hk (Nat.not_lt_zero _)
  | succ k ih => intro i96 hk; unfold spec_TreeSame_L1; exact h i96 (spec_TreeSame_L1 p0 p1 k) (fun i96' hs => ih i96' (Nat.lt_of_lt_of_le hs (Nat.le_of_lt_succ hk)))

noncomputable def spec_TreeSame (p0 : Timpl_Tree) (p1 : Timpl_Tree) : Option (Bool) :=
  if (((p0.Nodes_.length : Int) != (p1.Nodes_.length : Int)) || (p0.Seen_ != p1.Seen_)) then some false else spec_TreeSame_L1 p0 p1 Fuel 0


noncomputable def spec_WindowSame_L1 (p0 : Timpl_Window) (p1 : Timpl_Window) : Nat → Int → Option (Bool)
  | 0, _ => none
  | k1 + 1, i30 =>
    if decide (i30 < (p0.Rows_.length : Int)) then (idx p0.Rows_ i30).bind fun e50 => (idx p1.Rows_ i30).bind fun e58 => (spec_l5SameInts e50 e58).bind fun y66 => if (!y66) then some false else (spec_WindowSame_L1 p0 p1 k1) (IntKind.i64.wrap (i30 + 1)) else some true

theorem spec_WindowSame_L1_ind (p0 : Timpl_Window) (p1 : Timpl_Window) {P : Int → Option (Bool) → Prop} (μ : Int → Nat) (h : ∀ (i30 : Int) (R : Int → Option (Bool)), (∀ i30', μ i30' < μ i30 → P i30' (R i30')) → P i30 (if decide (i30 < (p0.Rows_.length : Int)) then (idx p0.Rows_ i30).bind fun e50 => (idx p1.Rows_ i30).bind fun e58 => (spec_l5SameInts e50 e58).bind fun y66 => if (!y66) then some false else (R) (IntKind.i64.wrap (i30 + 1)) else some true)) : ∀ k i30, μ i30 < k → P i30 (spec_WindowSame_L1 p0 p1 k i30) := by
  intro k
  induction k with
  | zero => intro i30 hk; exact absurd hk (Nat.not_lt_zero _)
  | succ k ih => intro i30 hk; unfold spec_WindowSame_L1; exact h i30 (spec_WindowSame_L1 p0 p1 k) (fun i30' hs => ih i30' (Nat.lt_of_lt_of_le hs (Nat.le_of_lt_succ hk)))

noncomputable def spec_WindowSame (p0 : Timpl_Window) (p1 : Timpl_Window) : Option (Bool) :=
  if ((p0.Rows_.length : Int) != (p1.Rows_.length : Int)) then some false else spec_WindowSame_L1 p0 p1 Fuel 0


noncomputable def spec_DetSame (p0 : Timpl_Det) (p1 : Timpl_Det) : Option (Bool) :=
  (spec_WindowSame p0.Warn_ p1.Warn_).bind fun y27 => (if y27 then (spec_WindowSame p0.Drift_ p1.Drift_).bind fun y30 => some y30 else some false).bind fun u29 => some u29


noncomputable def spec_MemberSame (p0 : Timpl_Member) (p1 : Timpl_Member) : Option (Bool) :=
  (spec_TreeSame p0.Tree_ p1.Tree_).bind fun y67 => (if (y67 && (p0.HasYoung_ == p1.HasYoung_)) then (spec_TreeSame p0.Young_ p1.Young_).bind fun y72 => some y72 else some false).bind fun u71 => (if u71 then (spec_DetSame p0.Det_ p1.Det_).bind fun y77 => some y77 else some false).bind fun u76 => some u76


noncomputable def spec_ForestSame_L1 (p0 : Timpl_Forest) (p1 : Timpl_Forest) : Nat → Int → Option (Bool)
  | 0, _ => none
  | k1 + 1, i90 =>
    if decide (i90 < (p0.Members_.length : Int)) then (idx p0.Members_ i90).bind fun e170 => (idx p1.Members_ i90).bind fun e208 => (spec_MemberSame e170 e208).bind fun y246 => if (!y246) then some false else (spec_ForestSame_L1 p0 p1 k1) (IntKind.i64.wrap (i90 + 1)) else some true

theorem spec_ForestSame_L1_ind (p0 : Timpl_Forest) (p1 : Timpl_Forest) {P : Int → Option (Bool) → Prop} (μ : Int → Nat) (h : ∀ (i90 : Int) (R : Int → Option (Bool)), (∀ i90', μ i90' < μ i90 → P i90' (R i90')) → P i90 (if decide (i90 < (p0.Members_.length : Int)) then (idx p0.Members_ i90).bind fun e170 => (idx p1.Members_ i90).bind fun e208 => (spec_MemberSame e170 e208).bind fun y246 => if (!y246) then some false else (R) (IntKind.i64.wrap (i90 + 1)) else some true)) : ∀ k i90, μ i90 < k → P i90 (spec_ForestSame_L1 p0 p1 k i90) := by
  intro k
  induction k with
  | zero => intro i90 hk; exact absurd hk (Nat.not_lt_zero _)
  | succ k ih => intro i90 hk; unfold spec_ForestSame_L1; exact h i90 (spec_ForestSame_L1 p0 p1 k) (fun i90' hs => ih i90' (Nat.lt_of_lt_of_le hs (Nat.le_of_lt_succ hk)))

noncomputable def spec_ForestSame (p0 : Timpl_Forest) (p1 : Timpl_Forest) : Option (Bool) :=
  if ((p0.Members_.length : Int) != (p1.Members_.length : Int)) then some false else spec_ForestSame_L1 p0 p1 Fuel 0


noncomputable def spec_ScoreSame_L2 (p0 : Timpl_Score) (p1 : Timpl_Score) : Nat → Int → Option (Bool)
  | 0, _ => none
  | k2 + 1, i83 =>
    if decide (i83 < (p0.Last_.length : Int)) then (idx p0.Last_ i83).bind fun e89 => (idx p1.Last_ i83).bind fun e91 => if (!(e89.Truth_ == e91.Truth_ && (e89.Said_ == e91.Said_ && true))) then some false else (spec_ScoreSame_L2 p0 p1 k2) (IntKind.i64.wrap (i83 + 1)) else some true

theorem spec_ScoreSame_L2_ind (p0 : Timpl_Score) (p1 : Timpl_Score) {P : Int → Option (Bool) → Prop} (μ : Int → Nat) (h : ∀ (i83 : Int) (R : Int → Option (Bool)), (∀ i83', μ i83' < μ i83 → P i83' (R i83')) → P i83 (if decide (i83 < (p0.Last_.length : Int)) then (idx p0.Last_ i83).bind fun e89 => (idx p1.Last_ i83).bind fun e91 => if (!(e89.Truth_ == e91.Truth_ && (e89.Said_ == e91.Said_ && true))) then some false else (R) (IntKind.i64.wrap (i83 + 1)) else some true)) : ∀ k i83, μ i83 < k → P i83 (spec_ScoreSame_L2 p0 p1 k i83) := by
  intro k
  induction k with
  | zero => intro i83 hk; exact absurd hk (Nat.not_lt_zero _)
  | succ k ih => intro i83 hk; unfold spec_ScoreSame_L2; exact h i83 (spec_ScoreSame_L2 p0 p1 k) (fun i83' hs => ih i83' (Nat.lt_of_lt_of_le hs (Nat.le_of_lt_succ hk)))

noncomputable def spec_ScoreSame_L1 (p0 : Timpl_Score) (p1 : Timpl_Score) : Nat → Int → Option (Bool)
  | 0, _ => none
  | k1 + 1, i40 =>
    if decide (i40 < (p0.Table_.length : Int)) then (idx p0.Table_ i40).bind fun e60 => (idx p1.Table_ i40).bind fun e68 => (spec_l5SameInts e60 e68).bind fun y76 => if (!y76) then some false else (spec_ScoreSame_L1 p0 p1 k1) (IntKind.i64.wrap (i40 + 1)) else spec_ScoreSame_L2 p0 p1 Fuel 0

theorem spec_ScoreSame_L1_ind (p0 : Timpl_Score) (p1 : Timpl_Score) {P : Int → Option (Bool) → Prop} (μ : Int → Nat) (h : ∀ (i40 : Int) (R : Int → Option (Bool)), (∀ i40', μ i40' < μ i40 → P i40' (R i40')) → P i40 (if decide (i40 < (p0.Table_.length : Int)) then (idx p0.Table_ i40).bind fun e60 => (idx p1.Table_ i40).bind fun e68 => (spec_l5SameInts e60 e68).bind fun y76 => if (!y76) then some false else (R) (IntKind.i64.wrap (i40 + 1)) else spec_ScoreSame_L2 p0 p1 Fuel 0)) : ∀ k i40, μ i40 < k → P i40 (spec_ScoreSame_L1 p0 p1 k i40) := by
  intro k
  induction k with
  | zero => intro i40 hk; exact absurd hk (Nat.not_lt_zero _)
  | succ k ih => intro i40 hk; unfold spec_ScoreSame_L1; exact h i40 (spec_ScoreSame_L1 p0 p1 k) (fun i40' hs => ih i40' (Nat.lt_of_lt_of_le hs (Nat.le_of_lt_succ hk)))

noncomputable def spec_ScoreSame (p0 : Timpl_Score) (p1 : Timpl_Score) : Option (Bool) :=
  if (((p0.Table_.length : Int) != (p1.Table_.length : Int)) || ((p0.Last_.length : Int) != (p1.Last_.length : Int))) then some false else spec_ScoreSame_L1 p0 p1 Fuel 0


noncomputable def spec_StateSame (p0 : Timpl_State) (p1 : Timpl_State) : Option (Bool) :=
  (spec_ConfSame p0.Conf_ p1.Conf_).bind fun y83 => (if y83 then (spec_ForestSame p0.Forest_ p1.Forest_).bind fun y86 => some y86 else some false).bind fun u85 => (if u85 then (spec_ScoreSame p0.Score_ p1.Score_).bind fun y91 => some y91 else some false).bind fun u90 => some u90


noncomputable def lib_slices_Equal___string_string__L1 (p0 : List (List UInt8)) (p1 : List (List UInt8)) : Nat → Int → Option (Bool)
  | 0, _ => none
  | k1 + 1, i6 =>
    if decide (i6 < (p0.length : Int)) then (idx p0 i6).bind fun e12 => (idx p1 i6).bind fun e14 => if (!(e12 == e14)) then some false else (lib_slices_Equal___string_string__L1 p0 p1 k1) (IntKind.i64.wrap (i6 + 1)) else some true

theorem lib_slices_Equal___string_string__L1_ind (p0 : List (List UInt8)) (p1 : List (List UInt8)) {P : Int → Option (Bool) → Prop} (μ : Int → Nat) (h : ∀ (i6 : Int) (R : Int → Option (Bool)), (∀ i6', μ i6' < μ i6 → P i6' (R i6')) → P i6 (if decide (i6 < (p0.length : Int)) then (idx p0 i6).bind fun e12 => (idx p1 i6).bind fun e14 => if (!(e12 == e14)) then some false else (R) (IntKind.i64.wrap (i6 + 1)) else some true)) : ∀ k i6, μ i6 < k → P i6 (lib_slices_Equal___string_string__L1 p0 p1 k i6) := by
  intro k
  induction k with
  | zero => intro i6 hk; exact absurd hk (Nat.not_lt_zero _)
  | succ k ih => intro i6 hk; unfold lib_slices_Equal___string_string__L1; exact h i6 (lib_slices_Equal___string_string__L1 p0 p1 k) (fun i6' hs => ih i6' (Nat.lt_of_lt_of_le hs (Nat.le_of_lt_succ hk)))

noncomputable def lib_slices_Equal___string_string_ (p0 : List (List UInt8)) (p1 : List (List UInt8)) : Option (Bool) :=
  if ((p0.length : Int) != (p1.length : Int)) then some false else lib_slices_Equal___string_string__L1 p0 p1 Fuel 0


noncomputable def lib_slices_Equal___int_int__L1 (p0 : List Int) (p1 : List Int) : Nat → Int → Option (Bool)
  | 0, _ => none
  | k1 + 1, i6 =>
    if decide (i6 < (p0.length : Int)) then (idx p0 i6).bind fun e12 => (idx p1 i6).bind fun e14 => if (e12 != e14) then some false else (lib_slices_Equal___int_int__L1 p0 p1 k1) (IntKind.i64.wrap (i6 + 1)) else some true

theorem lib_slices_Equal___int_int__L1_ind (p0 : List Int) (p1 : List Int) {P : Int → Option (Bool) → Prop} (μ : Int → Nat) (h : ∀ (i6 : Int) (R : Int → Option (Bool)), (∀ i6', μ i6' < μ i6 → P i6' (R i6')) → P i6 (if decide (i6 < (p0.length : Int)) then (idx p0 i6).bind fun e12 => (idx p1 i6).bind fun e14 => if (e12 != e14) then some false else (R) (IntKind.i64.wrap (i6 + 1)) else some true)) : ∀ k i6, μ i6 < k → P i6 (lib_slices_Equal___int_int__L1 p0 p1 k i6) := by
  intro k
  induction k with
  | zero => intro i6 hk; exact absurd hk (Nat.not_lt_zero _)
  | succ k ih => intro i6 hk; unfold lib_slices_Equal___int_int__L1; exact h i6 (lib_slices_Equal___int_int__L1 p0 p1 k) (fun i6' hs => ih i6' (Nat.lt_of_lt_of_le hs (Nat.le_of_lt_succ hk)))

noncomputable def lib_slices_Equal___int_int_ (p0 : List Int) (p1 : List Int) : Option (Bool) :=
  if ((p0.length : Int) != (p1.length : Int)) then some false else lib_slices_Equal___int_int__L1 p0 p1 Fuel 0


noncomputable def impl_SchemaSame_1 (p0 : Timpl_Attr) (p1 : Timpl_Attr) : Option (Bool) :=
  (if (p0.Name_ == p1.Name_) then (lib_slices_Equal___int_int_ p0.Cuts_ p1.Cuts_).bind fun y24 => some y24 else some false).bind fun u23 => (if u23 then (lib_slices_Equal___string_string_ p0.Values_ p1.Values_).bind fun y29 => some y29 else some false).bind fun u28 => some u28


noncomputable def lib_slices_EqualFunc___impl_Attr___impl_Attr_impl_Attr_impl_Attr___impl_SchemaSame_1_L1 (p0 : List Timpl_Attr) (p1 : List Timpl_Attr) : Nat → Int → Option (Bool)
  | 0, _ => none
  | k1 + 1, i38 =>
    if decide (i38 < (p0.length : Int)) then (idx p0 i38).bind fun e76 => (idx p1 i38).bind fun e93 => (impl_SchemaSame_1 e76 e93).bind fun y110 => if (!y110) then some false else (lib_slices_EqualFunc___impl_Attr___impl_Attr_impl_Attr_impl_Attr___impl_SchemaSame_1_L1 p0 p1 k1) (IntKind.i64.wrap (i38 + 1)) else some true

theorem lib_slices_EqualFunc___impl_Attr___impl_Attr_impl_Attr_impl_Attr___impl_SchemaSame_1_L1_ind (p0 : List Timpl_Attr) (p1 : List Timpl_Attr) {P : Int → Option (Bool) → Prop} (μ : Int → Nat) (h : ∀ (i38 : Int) (R : Int → Option (Bool)), (∀ i38', μ i38' < μ i38 → P i38' (R i38')) → P i38 (if decide (i38 < (p0.length : Int)) then (idx p0 i38).bind fun e76 => (idx p1 i38).bind fun e93 => (impl_SchemaSame_1 e76 e93).bind fun y110 => if (!y110) then some false else (R) (IntKind.i64.wrap (i38 + 1)) else some true)) : ∀ k i38, μ i38 < k → P i38 (lib_slices_EqualFunc___impl_Attr___impl_Attr_impl_Attr_impl_Attr___impl_SchemaSame_1_L1 p0 p1 k i38) := by
  intro k
  induction k with
  | zero => intro i38 hk; exact absurd hk (Nat.not_lt_zero _)
  | succ k ih => intro i38 hk; unfold lib_slices_EqualFunc___impl_Attr___impl_Attr_impl_Attr_impl_Attr___impl_SchemaSame_1_L1; exact h i38 (lib_slices_EqualFunc___impl_Attr___impl_Attr_impl_Attr_impl_Attr___impl_SchemaSame_1_L1 p0 p1 k) (fun i38' hs => ih i38' (Nat.lt_of_lt_of_le hs (Nat.le_of_lt_succ hk)))

noncomputable def lib_slices_EqualFunc___impl_Attr___impl_Attr_impl_Attr_impl_Attr___impl_SchemaSame_1 (p0 : List Timpl_Attr) (p1 : List Timpl_Attr) : Option (Bool) :=
  if ((p0.length : Int) != (p1.length : Int)) then some false else lib_slices_EqualFunc___impl_Attr___impl_Attr_impl_Attr_impl_Attr___impl_SchemaSame_1_L1 p0 p1 Fuel 0


noncomputable def impl_SchemaSame (p0 : Timpl_Schema) (p1 : Timpl_Schema) : Option (Bool) :=
  (lib_slices_Equal___string_string_ p0.Classes_ p1.Classes_).bind fun y19 => (if y19 then (lib_slices_EqualFunc___impl_Attr___impl_Attr_impl_Attr_impl_Attr___impl_SchemaSame_1 p0.Attrs_ p1.Attrs_).bind fun y22 => some y22 else some false).bind fun u21 => some u21


noncomputable def impl_ConfSame (p0 : Timpl_Conf) (p1 : Timpl_Conf) : Option (Bool) :=
  (impl_SchemaSame p0.Schema_ p1.Schema_).bind fun y47 => some ((((((y47 && (p0.Rule_.Sure_ == p1.Rule_.Sure_ && (p0.Rule_.Tie_ == p1.Rule_.Tie_ && (p0.Rule_.Grace_ == p1.Rule_.Grace_ && (p0.Rule_.Depth_ == p1.Rule_.Depth_ && (p0.Rule_.Nodes_ == p1.Rule_.Nodes_ && (p0.Rule_.Units_ == p1.Rule_.Units_ && (p0.Rule_.Two_ == p1.Rule_.Two_ && true)))))))) && (p0.Members_ == p1.Members_)) && (p0.Pick_ == p1.Pick_)) && (p0.Lambda_ == p1.Lambda_)) && (p0.Warn_ == p1.Warn_)) && (p0.Drift_ == p1.Drift_))


noncomputable def impl_sameLists_1 (p0 : List Int) (p1 : List Int) : Option (Bool) :=
  (lib_slices_Equal___int_int_ p0 p1).bind fun y1 => some y1


noncomputable def lib_slices_EqualFunc_____int_____int___int___int___impl_sameLists_1_L1 (p0 : List (List Int)) (p1 : List (List Int)) : Nat → Int → Option (Bool)
  | 0, _ => none
  | k1 + 1, i20 =>
    if decide (i20 < (p0.length : Int)) then (idx p0 i20).bind fun e40 => (idx p1 i20).bind fun e48 => (impl_sameLists_1 e40 e48).bind fun y56 => if (!y56) then some false else (lib_slices_EqualFunc_____int_____int___int___int___impl_sameLists_1_L1 p0 p1 k1) (IntKind.i64.wrap (i20 + 1)) else some true

theorem lib_slices_EqualFunc_____int_____int___int___int___impl_sameLists_1_L1_ind (p0 : List (List Int)) (p1 : List (List Int)) {P : Int → Option (Bool) → Prop} (μ : Int → Nat) (h : ∀ (i20 : Int) (R : Int → Option (Bool)), (∀ i20', μ i20' < μ i20 → P i20' (R i20')) → P i20 (if decide (i20 < (p0.length : Int)) then (idx p0 i20).bind fun e40 => (idx p1 i20).bind fun e48 => (impl_sameLists_1 e40 e48).bind fun y56 => if (!y56) then some false else (R) (IntKind.i64.wrap (i20 + 1)) else some true)) : ∀ k i20, μ i20 < k → P i20 (lib_slices_EqualFunc_____int_____int___int___int___impl_sameLists_1_L1 p0 p1 k i20) := by
  intro k
  induction k with
  | zero => intro i20 hk; exact absurd hk (Nat.not_lt_zero _)
  | succ k ih => intro i20 hk; unfold lib_slices_EqualFunc_____int_____int___int___int___impl_sameLists_1_L1; exact h i20 (lib_slices_EqualFunc_____int_____int___int___int___impl_sameLists_1_L1 p0 p1 k) (fun i20' hs => ih i20' (Nat.lt_of_lt_of_le hs (Nat.le_of_lt_succ hk)))

noncomputable def lib_slices_EqualFunc_____int_____int___int___int___impl_sameLists_1 (p0 : List (List Int)) (p1 : List (List Int)) : Option (Bool) :=
  if ((p0.length : Int) != (p1.length : Int)) then some false else lib_slices_EqualFunc_____int_____int___int___int___impl_sameLists_1_L1 p0 p1 Fuel 0


noncomputable def impl_sameLists (p0 : List (List Int)) (p1 : List (List Int)) : Option (Bool) :=
  (lib_slices_EqualFunc_____int_____int___int___int___impl_sameLists_1 p0 p1).bind fun y1 => some y1


noncomputable def impl_StatsSame (p0 : Timpl_Stats) (p1 : Timpl_Stats) : Option (Bool) :=
  (lib_slices_Equal___int_int_ p0.Totals_ p1.Totals_).bind fun y19 => (if y19 then (impl_sameLists p0.Cells_ p1.Cells_).bind fun y22 => some y22 else some false).bind fun u21 => some u21


noncomputable def impl_NodeSame (p0 : Timpl_Node) (p1 : Timpl_Node) : Option (Bool) :=
  (if ((p0.Leaf_ == p1.Leaf_) && (p0.Fork_.Attr_ == p1.Fork_.Attr_ && (p0.Fork_.At_ == p1.Fork_.At_ && true))) then (lib_slices_Equal___int_int_ p0.Kids_ p1.Kids_).bind fun y70 => some y70 else some false).bind fun u69 => (if (u69 && (p0.Miss_ == p1.Miss_)) then (impl_StatsSame p0.Stats_ p1.Stats_).bind fun y77 => some y77 else some false).bind fun u76 => (if (u76 && (p0.Since_ == p1.Since_)) then (lib_slices_Equal___int_int_ p0.Attrs_ p1.Attrs_).bind fun y84 => some y84 else some false).bind fun u83 => some (((u83 && (p0.Depth_ == p1.Depth_)) && (p0.Up_ == p1.Up_)) && (p0.Born_ == p1.Born_))


noncomputable def lib_slices_EqualFunc___impl_Node___impl_Node_impl_Node_impl_Node___impl_NodeSame_L1 (p0 : List Timpl_Node) (p1 : List Timpl_Node) : Nat → Int → Option (Bool)
  | 0, _ => none
  | k1 + 1, i82 =>
    if decide (i82 < (p0.length : Int)) then (idx p0 i82).bind fun e164 => (idx p1 i82).bind fun e203 => (impl_NodeSame e164 e203).bind fun y242 => if (!y242) then some false else (lib_slices_EqualFunc___impl_Node___impl_Node_impl_Node_impl_Node___impl_NodeSame_L1 p0 p1 k1) (IntKind.i64.wrap (i82 + 1)) else some true

theorem lib_slices_EqualFunc___impl_Node___impl_Node_impl_Node_impl_Node___impl_NodeSame_L1_ind (p0 : List Timpl_Node) (p1 : List Timpl_Node) {P : Int → Option (Bool) → Prop} (μ : Int → Nat) (h : ∀ (i82 : Int) (R : Int → Option (Bool)), (∀ i82', μ i82' < μ i82 → P i82' (R i82')) → P i82 (if decide (i82 < (p0.length : Int)) then (idx p0 i82).bind fun e164 => (idx p1 i82).bind fun e203 => (impl_NodeSame e164 e203).bind fun y242 => if (!y242) then some false else (R) (IntKind.i64.wrap (i82 + 1)) else some true)) : ∀ k i82, μ i82 < k → P i82 (lib_slices_EqualFunc___impl_Node___impl_Node_impl_Node_impl_Node___impl_NodeSame_L1 p0 p1 k i82) := by
  intro k
  induction k with
  | zero => intro i82 hk; exact absurd hk (Nat.not_lt_zero _)
  | succ k ih => intro i82 hk; unfold lib_slices_EqualFunc___impl_Node___impl_Node_impl_Node_impl_Node___impl_NodeSame_L1; exact h i82 (lib_slices_EqualFunc___impl_Node___impl_Node_impl_Node_impl_Node___impl_NodeSame_L1 p0 p1 k) (fun i82' hs => ih i82' (Nat.lt_of_lt_of_le hs (Nat.le_of_lt_succ hk)))

noncomputable def lib_slices_EqualFunc___impl_Node___impl_Node_impl_Node_impl_Node___impl_NodeSame (p0 : List Timpl_Node) (p1 : List Timpl_Node) : Option (Bool) :=
  if ((p0.length : Int) != (p1.length : Int)) then some false else lib_slices_EqualFunc___impl_Node___impl_Node_impl_Node_impl_Node___impl_NodeSame_L1 p0 p1 Fuel 0


noncomputable def impl_TreeSame (p0 : Timpl_Tree) (p1 : Timpl_Tree) : Option (Bool) :=
  (if (p0.Seen_ == p1.Seen_) then (lib_slices_EqualFunc___impl_Node___impl_Node_impl_Node_impl_Node___impl_NodeSame p0.Nodes_ p1.Nodes_).bind fun y16 => some y16 else some false).bind fun u15 => some u15


noncomputable def impl_WindowSame (p0 : Timpl_Window) (p1 : Timpl_Window) : Option (Bool) :=
  (impl_sameLists p0.Rows_ p1.Rows_).bind fun y11 => some y11


noncomputable def impl_DetSame (p0 : Timpl_Det) (p1 : Timpl_Det) : Option (Bool) :=
  (impl_WindowSame p0.Warn_ p1.Warn_).bind fun y27 => (if y27 then (impl_WindowSame p0.Drift_ p1.Drift_).bind fun y30 => some y30 else some false).bind fun u29 => some u29


noncomputable def impl_MemberSame (p0 : Timpl_Member) (p1 : Timpl_Member) : Option (Bool) :=
  (impl_TreeSame p0.Tree_ p1.Tree_).bind fun y67 => (if (y67 && (p0.HasYoung_ == p1.HasYoung_)) then (impl_TreeSame p0.Young_ p1.Young_).bind fun y72 => some y72 else some false).bind fun u71 => (if u71 then (impl_DetSame p0.Det_ p1.Det_).bind fun y77 => some y77 else some false).bind fun u76 => some u76


noncomputable def lib_slices_EqualFunc___impl_Member___impl_Member_impl_Member_impl_Member___impl_MemberSame_L1 (p0 : List Timpl_Member) (p1 : List Timpl_Member) : Nat → Int → Option (Bool)
  | 0, _ => none
  | k1 + 1, i82 =>
    if decide (i82 < (p0.length : Int)) then (idx p0 i82).bind fun e164 => (idx p1 i82).bind fun e203 => (impl_MemberSame e164 e203).bind fun y242 => if (!y242) then some false else (lib_slices_EqualFunc___impl_Member___impl_Member_impl_Member_impl_Member___impl_MemberSame_L1 p0 p1 k1) (IntKind.i64.wrap (i82 + 1)) else some true

theorem lib_slices_EqualFunc___impl_Member___impl_Member_impl_Member_impl_Member___impl_MemberSame_L1_ind (p0 : List Timpl_Member) (p1 : List Timpl_Member) {P : Int → Option (Bool) → Prop} (μ : Int → Nat) (h : ∀ (i82 : Int) (R : Int → Option (Bool)), (∀ i82', μ i82' < μ i82 → P i82' (R i82')) → P i82 (if decide (i82 < (p0.length : Int)) then (idx p0 i82).bind fun e164 => (idx p1 i82).bind fun e203 => (impl_MemberSame e164 e203).bind fun y242 => if (!y242) then some false else (R) (IntKind.i64.wrap (i82 + 1)) else some true)) : ∀ k i82, μ i82 < k → P i82 (lib_slices_EqualFunc___impl_Member___impl_Member_impl_Member_impl_Member___impl_MemberSame_L1 p0 p1 k i82) := by
  intro k
  induction k with
  | zero => intro i82 hk; exact absurd hk (Nat.not_lt_zero _)
  | succ k ih => intro i82 hk; unfold lib_slices_EqualFunc___impl_Member___impl_Member_impl_Member_impl_Member___impl_MemberSame_L1; exact h i82 (lib_slices_EqualFunc___impl_Member___impl_Member_impl_Member_impl_Member___impl_MemberSame_L1 p0 p1 k) (fun i82' hs => ih i82' (Nat.lt_of_lt_of_le hs (Nat.le_of_lt_succ hk)))

noncomputable def lib_slices_EqualFunc___impl_Member___impl_Member_impl_Member_impl_Member___impl_MemberSame (p0 : List Timpl_Member) (p1 : List Timpl_Member) : Option (Bool) :=
  if ((p0.length : Int) != (p1.length : Int)) then some false else lib_slices_EqualFunc___impl_Member___impl_Member_impl_Member_impl_Member___impl_MemberSame_L1 p0 p1 Fuel 0


noncomputable def impl_ForestSame (p0 : Timpl_Forest) (p1 : Timpl_Forest) : Option (Bool) :=
  (lib_slices_EqualFunc___impl_Member___impl_Member_impl_Member_impl_Member___impl_MemberSame p0.Members_ p1.Members_).bind fun y11 => some y11


noncomputable def lib_slices_Equal___impl_Pair_impl_Pair__L1 (p0 : List Timpl_Pair) (p1 : List Timpl_Pair) : Nat → Int → Option (Bool)
  | 0, _ => none
  | k1 + 1, i6 =>
    if decide (i6 < (p0.length : Int)) then (idx p0 i6).bind fun e12 => (idx p1 i6).bind fun e14 => if (!(e12.Truth_ == e14.Truth_ && (e12.Said_ == e14.Said_ && true))) then some false else (lib_slices_Equal___impl_Pair_impl_Pair__L1 p0 p1 k1) (IntKind.i64.wrap (i6 + 1)) else some true

theorem lib_slices_Equal___impl_Pair_impl_Pair__L1_ind (p0 : List Timpl_Pair) (p1 : List Timpl_Pair) {P : Int → Option (Bool) → Prop} (μ : Int → Nat) (h : ∀ (i6 : Int) (R : Int → Option (Bool)), (∀ i6', μ i6' < μ i6 → P i6' (R i6')) → P i6 (if decide (i6 < (p0.length : Int)) then (idx p0 i6).bind fun e12 => (idx p1 i6).bind fun e14 => if (!(e12.Truth_ == e14.Truth_ && (e12.Said_ == e14.Said_ && true))) then some false else (R) (IntKind.i64.wrap (i6 + 1)) else some true)) : ∀ k i6, μ i6 < k → P i6 (lib_slices_Equal___impl_Pair_impl_Pair__L1 p0 p1 k i6) := by
  intro k
  induction k with
  | zero => intro i6 hk; exact absurd hk (Nat.not_lt_zero _)
  | succ k ih => intro i6 hk; unfold lib_slices_Equal___impl_Pair_impl_Pair__L1; exact h i6 (lib_slices_Equal___impl_Pair_impl_Pair__L1 p0 p1 k) (fun i6' hs => ih i6' (Nat.lt_of_lt_of_le hs (Nat.le_of_lt_succ hk)))

noncomputable def lib_slices_Equal___impl_Pair_impl_Pair_ (p0 : List Timpl_Pair) (p1 : List Timpl_Pair) : Option (Bool) :=
  if ((p0.length : Int) != (p1.length : Int)) then some false else lib_slices_Equal___impl_Pair_impl_Pair__L1 p0 p1 Fuel 0


noncomputable def impl_ScoreSame (p0 : Timpl_Score) (p1 : Timpl_Score) : Option (Bool) :=
  (impl_sameLists p0.Table_ p1.Table_).bind fun y19 => (if y19 then (lib_slices_Equal___impl_Pair_impl_Pair_ p0.Last_ p1.Last_).bind fun y22 => some y22 else some false).bind fun u21 => some u21


noncomputable def impl_StateSame (p0 : Timpl_State) (p1 : Timpl_State) : Option (Bool) :=
  (impl_ConfSame p0.Conf_ p1.Conf_).bind fun y83 => (if y83 then (impl_ForestSame p0.Forest_ p1.Forest_).bind fun y86 => some y86 else some false).bind fun u85 => (if u85 then (impl_ScoreSame p0.Score_ p1.Score_).bind fun y91 => some y91 else some false).bind fun u90 => some u90


noncomputable def laws_eqIntS_L1 (p0 : List Int) (p1 : List Int) : Nat → Int → Option (Bool)
  | 0, _ => none
  | k1 + 1, i6 =>
    if decide (i6 < (p0.length : Int)) then (idx p0 i6).bind fun e12 => (idx p1 i6).bind fun e14 => if (e12 != e14) then some false else (laws_eqIntS_L1 p0 p1 k1) (IntKind.i64.wrap (i6 + 1)) else some true

theorem laws_eqIntS_L1_ind (p0 : List Int) (p1 : List Int) {P : Int → Option (Bool) → Prop} (μ : Int → Nat) (h : ∀ (i6 : Int) (R : Int → Option (Bool)), (∀ i6', μ i6' < μ i6 → P i6' (R i6')) → P i6 (if decide (i6 < (p0.length : Int)) then (idx p0 i6).bind fun e12 => (idx p1 i6).bind fun e14 => if (e12 != e14) then some false else (R) (IntKind.i64.wrap (i6 + 1)) else some true)) : ∀ k i6, μ i6 < k → P i6 (laws_eqIntS_L1 p0 p1 k i6) := by
  intro k
  induction k with
  | zero => intro i6 hk; exact absurd hk (Nat.not_lt_zero _)
  | succ k ih => intro i6 hk; unfold laws_eqIntS_L1; exact h i6 (laws_eqIntS_L1 p0 p1 k) (fun i6' hs => ih i6' (Nat.lt_of_lt_of_le hs (Nat.le_of_lt_succ hk)))

noncomputable def laws_eqIntS (p0 : List Int) (p1 : List Int) : Option (Bool) :=
  if ((p0.length : Int) != (p1.length : Int)) then some false else laws_eqIntS_L1 p0 p1 Fuel 0


noncomputable def laws_eqStringS_L1 (p0 : List (List UInt8)) (p1 : List (List UInt8)) : Nat → Int → Option (Bool)
  | 0, _ => none
  | k1 + 1, i6 =>
    if decide (i6 < (p0.length : Int)) then (idx p0 i6).bind fun e12 => (idx p1 i6).bind fun e14 => if (!(e12 == e14)) then some false else (laws_eqStringS_L1 p0 p1 k1) (IntKind.i64.wrap (i6 + 1)) else some true

theorem laws_eqStringS_L1_ind (p0 : List (List UInt8)) (p1 : List (List UInt8)) {P : Int → Option (Bool) → Prop} (μ : Int → Nat) (h : ∀ (i6 : Int) (R : Int → Option (Bool)), (∀ i6', μ i6' < μ i6 → P i6' (R i6')) → P i6 (if decide (i6 < (p0.length : Int)) then (idx p0 i6).bind fun e12 => (idx p1 i6).bind fun e14 => if (!(e12 == e14)) then some false else (R) (IntKind.i64.wrap (i6 + 1)) else some true)) : ∀ k i6, μ i6 < k → P i6 (laws_eqStringS_L1 p0 p1 k i6) := by
  intro k
  induction k with
  | zero => intro i6 hk; exact absurd hk (Nat.not_lt_zero _)
  | succ k ih => intro i6 hk; unfold laws_eqStringS_L1; exact h i6 (laws_eqStringS_L1 p0 p1 k) (fun i6' hs => ih i6' (Nat.lt_of_lt_of_le hs (Nat.le_of_lt_succ hk)))

noncomputable def laws_eqStringS (p0 : List (List UInt8)) (p1 : List (List UInt8)) : Option (Bool) :=
  if ((p0.length : Int) != (p1.length : Int)) then some false else laws_eqStringS_L1 p0 p1 Fuel 0


noncomputable def laws_eqAttr (p0 : Timpl_Attr) (p1 : Timpl_Attr) : Option (Bool) :=
  if (!(p0.Name_ == p1.Name_)) then some false else (laws_eqIntS p0.Cuts_ p1.Cuts_).bind fun y23 => if (!y23) then some false else (laws_eqStringS p0.Values_ p1.Values_).bind fun y25 => if (!y25) then some false else some true


noncomputable def laws_eqAttrS_L1 (p0 : List Timpl_Attr) (p1 : List Timpl_Attr) : Nat → Int → Option (Bool)
  | 0, _ => none
  | k1 + 1, i36 =>
    if decide (i36 < (p0.length : Int)) then (idx p0 i36).bind fun e72 => (idx p1 i36).bind fun e88 => (laws_eqAttr e72 e88).bind fun y104 => if (!y104) then some false else (laws_eqAttrS_L1 p0 p1 k1) (IntKind.i64.wrap (i36 + 1)) else some true

theorem laws_eqAttrS_L1_ind (p0 : List Timpl_Attr) (p1 : List Timpl_Attr) {P : Int → Option (Bool) → Prop} (μ : Int → Nat) (h : ∀ (i36 : Int) (R : Int → Option (Bool)), (∀ i36', μ i36' < μ i36 → P i36' (R i36')) → P i36 (if decide (i36 < (p0.length : Int)) then (idx p0 i36).bind fun e72 => (idx p1 i36).bind fun e88 => (laws_eqAttr e72 e88).bind fun y104 => if (!y104) then some false else (R) (IntKind.i64.wrap (i36 + 1)) else some true)) : ∀ k i36, μ i36 < k → P i36 (laws_eqAttrS_L1 p0 p1 k i36) := by
  intro k
  induction k with
  | zero => intro i36 hk; exact absurd hk (Nat.not_lt_zero _)
  | succ k ih => intro i36 hk; unfold laws_eqAttrS_L1; exact h i36 (laws_eqAttrS_L1 p0 p1 k) (fun i36' hs => ih i36' (Nat.lt_of_lt_of_le hs (Nat.le_of_lt_succ hk)))

noncomputable def laws_eqAttrS (p0 : List Timpl_Attr) (p1 : List Timpl_Attr) : Option (Bool) :=
  if ((p0.length : Int) != (p1.length : Int)) then some false else laws_eqAttrS_L1 p0 p1 Fuel 0


noncomputable def laws_eqSchema (p0 : Timpl_Schema) (p1 : Timpl_Schema) : Option (Bool) :=
  (laws_eqAttrS p0.Attrs_ p1.Attrs_).bind fun y19 => if (!y19) then some false else (laws_eqStringS p0.Classes_ p1.Classes_).bind fun y21 => if (!y21) then some false else some true


noncomputable def laws_eqRule (p0 : Timpl_Rule) (p1 : Timpl_Rule) : Option (Bool) :=
  if (p0.Sure_ != p1.Sure_) then some false else if (p0.Tie_ != p1.Tie_) then some false else if (p0.Grace_ != p1.Grace_) then some false else if (p0.Depth_ != p1.Depth_) then some false else if (p0.Nodes_ != p1.Nodes_) then some false else if (p0.Units_ != p1.Units_) then some false else if (p0.Two_ != p1.Two_) then some false else some true


noncomputable def laws_eqConf (p0 : Timpl_Conf) (p1 : Timpl_Conf) : Option (Bool) :=
  (laws_eqSchema p0.Schema_ p1.Schema_).bind fun y47 => if (!y47) then some false else (laws_eqRule p0.Rule_ p1.Rule_).bind fun y49 => if (!y49) then some false else if (p0.Members_ != p1.Members_) then some false else if (p0.Pick_ != p1.Pick_) then some false else if (p0.Lambda_ != p1.Lambda_) then some false else if (p0.Warn_ != p1.Warn_) then some false else if (p0.Drift_ != p1.Drift_) then some false else some true


noncomputable def laws_eqFork (p0 : Timpl_Fork) (p1 : Timpl_Fork) : Option (Bool) :=
  if (p0.Attr_ != p1.Attr_) then some false else if (p0.At_ != p1.At_) then some false else some true


noncomputable def laws_eqIntSS_L1 (p0 : List (List Int)) (p1 : List (List Int)) : Nat → Int → Option (Bool)
  | 0, _ => none
  | k1 + 1, i20 =>
    if decide (i20 < (p0.length : Int)) then (idx p0 i20).bind fun e40 => (idx p1 i20).bind fun e48 => (laws_eqIntS e40 e48).bind fun y56 => if (!y56) then some false else (laws_eqIntSS_L1 p0 p1 k1) (IntKind.i64.wrap (i20 + 1)) else some true

theorem laws_eqIntSS_L1_ind (p0 : List (List Int)) (p1 : List (List Int)) {P : Int → Option (Bool) → Prop} (μ : Int → Nat) (h : ∀ (i20 : Int) (R : Int → Option (Bool)), (∀ i20', μ i20' < μ i20 → P i20' (R i20')) → P i20 (if decide (i20 < (p0.length : Int)) then (idx p0 i20).bind fun e40 => (idx p1 i20).bind fun e48 => (laws_eqIntS e40 e48).bind fun y56 => if (!y56) then some false else (R) (IntKind.i64.wrap (i20 + 1)) else some true)) : ∀ k i20, μ i20 < k → P i20 (laws_eqIntSS_L1 p0 p1 k i20) := by
  intro k
  induction k with
  | zero => intro i20 hk; exact absurd hk (Nat.not_lt_zero _)
  | succ k ih => intro i20 hk; unfold laws_eqIntSS_L1; exact h i20 (laws_eqIntSS_L1 p0 p1 k) (fun i20' hs => ih i20' (Nat.lt_of_lt_of_le hs (Nat.le_of_lt_succ hk)))

noncomputable def laws_eqIntSS (p0 : List (List Int)) (p1 : List (List Int)) : Option (Bool) :=
  if ((p0.length : Int) != (p1.length : Int)) then some false else laws_eqIntSS_L1 p0 p1 Fuel 0


noncomputable def laws_eqStats (p0 : Timpl_Stats) (p1 : Timpl_Stats) : Option (Bool) :=
  (laws_eqIntS p0.Totals_ p1.Totals_).bind fun y19 => if (!y19) then some false else (laws_eqIntSS p0.Cells_ p1.Cells_).bind fun y21 => if (!y21) then some false else some true


noncomputable def laws_eqNode (p0 : Timpl_Node) (p1 : Timpl_Node) : Option (Bool) :=
  if (p0.Leaf_ != p1.Leaf_) then some false else (laws_eqFork p0.Fork_ p1.Fork_).bind fun y67 => if (!y67) then some false else (laws_eqIntS p0.Kids_ p1.Kids_).bind fun y69 => if (!y69) then some false else if (p0.Miss_ != p1.Miss_) then some false else (laws_eqStats p0.Stats_ p1.Stats_).bind fun y71 => if (!y71) then some false else if (p0.Since_ != p1.Since_) then some false else (laws_eqIntS p0.Attrs_ p1.Attrs_).bind fun y73 => if (!y73) then some false else if (p0.Depth_ != p1.Depth_) then some false else if (p0.Up_ != p1.Up_) then some false else if (p0.Born_ != p1.Born_) then some false else some true


noncomputable def laws_eqNodeS_L1 (p0 : List Timpl_Node) (p1 : List Timpl_Node) : Nat → Int → Option (Bool)
  | 0, _ => none
  | k1 + 1, i80 =>
    if decide (i80 < (p0.length : Int)) then (idx p0 i80).bind fun e160 => (idx p1 i80).bind fun e198 => (laws_eqNode e160 e198).bind fun y236 => if (!y236) then some false else (laws_eqNodeS_L1 p0 p1 k1) (IntKind.i64.wrap (i80 + 1)) else some true

theorem laws_eqNodeS_L1_ind (p0 : List Timpl_Node) (p1 : List Timpl_Node) {P : Int → Option (Bool) → Prop} (μ : Int → Nat) (h : ∀ (i80 : Int) (R : Int → Option (Bool)), (∀ i80', μ i80' < μ i80 → P i80' (R i80')) → P i80 (if decide (i80 < (p0.length : Int)) then (idx p0 i80).bind fun e160 => (idx p1 i80).bind fun e198 => (laws_eqNode e160 e198).bind fun y236 => if (!y236) then some false else (R) (IntKind.i64.wrap (i80 + 1)) else some true)) : ∀ k i80, μ i80 < k → P i80 (laws_eqNodeS_L1 p0 p1 k i80) := by
  intro k
  induction k with
  | zero => intro i80 hk; exact absurd hk (Nat.not_lt_zero _)
  | succ k ih => intro i80 hk; unfold laws_eqNodeS_L1; exact h i80 (laws_eqNodeS_L1 p0 p1 k) (fun i80' hs => ih i80' (Nat.lt_of_lt_of_le hs (Nat.le_of_lt_succ hk)))

noncomputable def laws_eqNodeS (p0 : List Timpl_Node) (p1 : List Timpl_Node) : Option (Bool) :=
  if ((p0.length : Int) != (p1.length : Int)) then some false else laws_eqNodeS_L1 p0 p1 Fuel 0


noncomputable def laws_eqTree (p0 : Timpl_Tree) (p1 : Timpl_Tree) : Option (Bool) :=
  (laws_eqNodeS p0.Nodes_ p1.Nodes_).bind fun y15 => if (!y15) then some false else if (p0.Seen_ != p1.Seen_) then some false else some true


noncomputable def laws_eqWindow (p0 : Timpl_Window) (p1 : Timpl_Window) : Option (Bool) :=
  (laws_eqIntSS p0.Rows_ p1.Rows_).bind fun y11 => if (!y11) then some false else some true


noncomputable def laws_eqDet (p0 : Timpl_Det) (p1 : Timpl_Det) : Option (Bool) :=
  (laws_eqWindow p0.Warn_ p1.Warn_).bind fun y27 => if (!y27) then some false else (laws_eqWindow p0.Drift_ p1.Drift_).bind fun y29 => if (!y29) then some false else some true


noncomputable def laws_eqMember (p0 : Timpl_Member) (p1 : Timpl_Member) : Option (Bool) :=
  (laws_eqTree p0.Tree_ p1.Tree_).bind fun y67 => if (!y67) then some false else if (p0.HasYoung_ != p1.HasYoung_) then some false else (laws_eqTree p0.Young_ p1.Young_).bind fun y69 => if (!y69) then some false else (laws_eqDet p0.Det_ p1.Det_).bind fun y71 => if (!y71) then some false else some true


noncomputable def laws_eqMemberS_L1 (p0 : List Timpl_Member) (p1 : List Timpl_Member) : Nat → Int → Option (Bool)
  | 0, _ => none
  | k1 + 1, i80 =>
    if decide (i80 < (p0.length : Int)) then (idx p0 i80).bind fun e160 => (idx p1 i80).bind fun e198 => (laws_eqMember e160 e198).bind fun y236 => if (!y236) then some false else (laws_eqMemberS_L1 p0 p1 k1) (IntKind.i64.wrap (i80 + 1)) else some true

theorem laws_eqMemberS_L1_ind (p0 : List Timpl_Member) (p1 : List Timpl_Member) {P : Int → Option (Bool) → Prop} (μ : Int → Nat) (h : ∀ (i80 : Int) (R : Int → Option (Bool)), (∀ i80', μ i80' < μ i80 → P i80' (R i80')) → P i80 (if decide (i80 < (p0.length : Int)) then (idx p0 i80).bind fun e160 => (idx p1 i80).bind fun e198 => (laws_eqMember e160 e198).bind fun y236 => if (!y236) then some false else (R) (IntKind.i64.wrap (i80 + 1)) else some true)) : ∀ k i80, μ i80 < k → P i80 (laws_eqMemberS_L1 p0 p1 k i80) := by
  intro k
  induction k with
  | zero => intro i80 hk; exact absurd hk (Nat.not_lt_zero _)
  | succ k ih => intro i80 hk; unfold laws_eqMemberS_L1; exact h i80 (laws_eqMemberS_L1 p0 p1 k) (fun i80' hs => ih i80' (Nat.lt_of_lt_of_le hs (Nat.le_of_lt_succ hk)))

noncomputable def laws_eqMemberS (p0 : List Timpl_Member) (p1 : List Timpl_Member) : Option (Bool) :=
  if ((p0.length : Int) != (p1.length : Int)) then some false else laws_eqMemberS_L1 p0 p1 Fuel 0


noncomputable def laws_eqForest (p0 : Timpl_Forest) (p1 : Timpl_Forest) : Option (Bool) :=
  (laws_eqMemberS p0.Members_ p1.Members_).bind fun y11 => if (!y11) then some false else some true


noncomputable def laws_eqPair (p0 : Timpl_Pair) (p1 : Timpl_Pair) : Option (Bool) :=
  if (p0.Truth_ != p1.Truth_) then some false else if (p0.Said_ != p1.Said_) then some false else some true


noncomputable def laws_eqPairS_L1 (p0 : List Timpl_Pair) (p1 : List Timpl_Pair) : Nat → Int → Option (Bool)
  | 0, _ => none
  | k1 + 1, i9 =>
    if decide (i9 < (p0.length : Int)) then (idx p0 i9).bind fun e18 => (idx p1 i9).bind fun e20 => (laws_eqPair e18 e20).bind fun y22 => if (!y22) then some false else (laws_eqPairS_L1 p0 p1 k1) (IntKind.i64.wrap (i9 + 1)) else some true

theorem laws_eqPairS_L1_ind (p0 : List Timpl_Pair) (p1 : List Timpl_Pair) {P : Int → Option (Bool) → Prop} (μ : Int → Nat) (h : ∀ (i9 : Int) (R : Int → Option (Bool)), (∀ i9', μ i9' < μ i9 → P i9' (R i9')) → P i9 (if decide (i9 < (p0.length : Int)) then (idx p0 i9).bind fun e18 => (idx p1 i9).bind fun e20 => (laws_eqPair e18 e20).bind fun y22 => if (!y22) then some false else (R) (IntKind.i64.wrap (i9 + 1)) else some true)) : ∀ k i9, μ i9 < k → P i9 (laws_eqPairS_L1 p0 p1 k i9) := by
  intro k
  induction k with
  | zero => intro i9 hk; exact absurd hk (Nat.not_lt_zero _)
  | succ k ih => intro i9 hk; unfold laws_eqPairS_L1; exact h i9 (laws_eqPairS_L1 p0 p1 k) (fun i9' hs => ih i9' (Nat.lt_of_lt_of_le hs (Nat.le_of_lt_succ hk)))

noncomputable def laws_eqPairS (p0 : List Timpl_Pair) (p1 : List Timpl_Pair) : Option (Bool) :=
  if ((p0.length : Int) != (p1.length : Int)) then some false else laws_eqPairS_L1 p0 p1 Fuel 0


noncomputable def laws_eqScore (p0 : Timpl_Score) (p1 : Timpl_Score) : Option (Bool) :=
  (laws_eqIntSS p0.Table_ p1.Table_).bind fun y19 => if (!y19) then some false else (laws_eqPairS p0.Last_ p1.Last_).bind fun y21 => if (!y21) then some false else some true


noncomputable def laws_eqState (p0 : Timpl_State) (p1 : Timpl_State) : Option (Bool) :=
  (laws_eqConf p0.Conf_ p1.Conf_).bind fun y83 => if (!y83) then some false else (laws_eqForest p0.Forest_ p1.Forest_).bind fun y85 => if (!y85) then some false else (laws_eqScore p0.Score_ p1.Score_).bind fun y87 => if (!y87) then some false else some true


noncomputable def laws_FnExactStateSame (p0 : Tlaws_State) (p1 : Tlaws_State) : Option (Bool) :=
  (laws_szState p0 1048576).bind fun y83 => if decide (y83 < 0) then some true else (laws_szState p1 y83).bind fun y85 => if decide (y85 < 0) then some true else (laws_toState p0).bind fun y112 => (laws_toState p1).bind fun y137 => (spec_StateSame y112 y137).bind fun y162 => (laws_toState p0).bind fun y164 => (laws_toState p1).bind fun y190 => (impl_StateSame y164 y190).bind fun y216 => if (y216 != y162) then some false else (laws_toState p0).bind fun y243 => (laws_eqState y164 y243).bind fun y268 => if (!y268) then some false else (laws_toState p1).bind fun y295 => (laws_eqState y190 y295).bind fun y320 => if (!y320) then some false else some true


end Go.Vk
