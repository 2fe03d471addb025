/- The functions of the code, as functions of data. Printed by program. -/

import Derived.Test.YtjflgcighcjfkaaGreatDoorVkSt

namespace Go.Vk



structure Tlaws_Attr where
  Name_ : List UInt8
  Cuts_ : List Int
  Values_ : List (List UInt8)
  deriving DecidableEq, Inhabited

structure Tlaws_Schema where
  Attrs_ : List Tlaws_Attr
  Classes_ : List (List UInt8)
  deriving DecidableEq, Inhabited

structure Tlaws_Stats where
  Totals_ : List Int
  Cells_ : List (List Int)
  deriving DecidableEq, Inhabited

structure Tlaws_Fork where
  Attr_ : Int
  At_ : Int
  deriving DecidableEq, Inhabited

structure Tlaws_Node where
  Leaf_ : Bool
  Fork_ : Tlaws_Fork
  Kids_ : List Int
  Miss_ : Int
  Stats_ : Tlaws_Stats
  Since_ : Int
  Attrs_ : List Int
  Depth_ : Int
  Up_ : Int
  Born_ : Int
  deriving DecidableEq, Inhabited

structure Tlaws_Tree where
  Nodes_ : List Tlaws_Node
  Seen_ : Int
  deriving DecidableEq, Inhabited

structure Timpl_Attr where
  Name_ : List UInt8
  Cuts_ : List Int
  Values_ : List (List UInt8)
  deriving DecidableEq, Inhabited

structure Timpl_Schema where
  Attrs_ : List Timpl_Attr
  Classes_ : List (List UInt8)
  deriving DecidableEq, Inhabited

structure Timpl_Fork where
  Attr_ : Int
  At_ : Int
  deriving DecidableEq, Inhabited

structure Timpl_Stats where
  Totals_ : List Int
  Cells_ : List (List Int)
  deriving DecidableEq, Inhabited

structure Timpl_Node where
  Leaf_ : Bool
  Fork_ : Timpl_Fork
  Kids_ : List Int
  Miss_ : Int
  Stats_ : Timpl_Stats
  Since_ : Int
  Attrs_ : List Int
  Depth_ : Int
  Up_ : Int
  Born_ : Int
  deriving DecidableEq, Inhabited

structure Timpl_Tree where
  Nodes_ : List Timpl_Node
  Seen_ : Int
  deriving DecidableEq, Inhabited

noncomputable def laws_szIntS (p0 : List Int) (p1 : Int) : Option (Int) :=
  if decide ((IntKind.i64.wrap (p1 - (p0.length : Int))) < 0) then some (-1) else some (IntKind.i64.wrap (p1 - (p0.length : Int)))


noncomputable def laws_szStringS_L1 (p0 : List (List UInt8)) : Nat → Int → Int → Option (Int)
  | 0, _, _ => none
  | k1 + 1, i14, i15 =>
    if decide (i15 < (p0.length : Int)) then (idx p0 i15).bind fun e20 => if decide ((IntKind.i64.wrap (i14 - (e20.length : Int))) < 0) then some (-1) else (laws_szStringS_L1 p0 k1) (IntKind.i64.wrap (i14 - (e20.length : Int))) (IntKind.i64.wrap (i15 + 1)) else some i14

theorem laws_szStringS_L1_ind (p0 : List (List UInt8)) {P : Int → Int → Option (Int) → Prop} (μ : Int → Int → Nat) (h : ∀ (i14 : Int) (i15 : Int) (R : Int → Int → Option (Int)), (∀ i14' i15', μ i14' i15' < μ i14 i15 → P i14' i15' (R i14' i15')) → P i14 i15 (if decide (i15 < (p0.length : Int)) then (idx p0 i15).bind fun e20 => if decide ((IntKind.i64.wrap (i14 - (e20.length : Int))) < 0) then some (-1) else (R) (IntKind.i64.wrap (i14 - (e20.length : Int))) (IntKind.i64.wrap (i15 + 1)) else some i14)) : ∀ k i14 i15, μ i14 i15 < k → P i14 i15 (laws_szStringS_L1 p0 k i14 i15) := by
  intro k
  induction k with
  | zero => intro i14 i15 hk; exact absurd hk (Nat.not_lt_zero _)
  | succ k ih => intro i14 i15 hk; unfold laws_szStringS_L1; exact h i14 i15 (laws_szStringS_L1 p0 k) (fun i14' i15' hs => ih i14' i15' (Nat.lt_of_lt_of_le hs (Nat.le_of_lt_succ hk)))

noncomputable def laws_szStringS (p0 : List (List UInt8)) (p1 : Int) : Option (Int) :=
  if decide ((IntKind.i64.wrap (p1 - (p0.length : Int))) < 0) then some (-1) else laws_szStringS_L1 p0 Fuel (IntKind.i64.wrap (p1 - (p0.length : Int))) 0


noncomputable def laws_szAttr (p0 : Tlaws_Attr) (p1 : Int) : Option (Int) :=
  if decide ((IntKind.i64.wrap (p1 - (p0.Name_.length : Int))) < 0) then some (-1) else (laws_szIntS p0.Cuts_ (IntKind.i64.wrap (p1 - (p0.Name_.length : Int)))).bind fun y21 => if decide (y21 < 0) then some (-1) else (laws_szStringS p0.Values_ y21).bind fun y23 => if decide (y23 < 0) then some (-1) else some y23


noncomputable def laws_szAttrS_L1 (p0 : List Tlaws_Attr) : Nat → Int → Int → Option (Int)
  | 0, _, _ => none
  | k1 + 1, i30, i31 =>
    if decide (i31 < (p0.length : Int)) then (idx p0 i31).bind fun e52 => (laws_szAttr e52 i30).bind fun y68 => if decide (y68 < 0) then some (-1) else (laws_szAttrS_L1 p0 k1) y68 (IntKind.i64.wrap (i31 + 1)) else some i30

theorem laws_szAttrS_L1_ind (p0 : List Tlaws_Attr) {P : Int → Int → Option (Int) → Prop} (μ : Int → Int → Nat) (h : ∀ (i30 : Int) (i31 : Int) (R : Int → Int → Option (Int)), (∀ i30' i31', μ i30' i31' < μ i30 i31 → P i30' i31' (R i30' i31')) → P i30 i31 (if decide (i31 < (p0.length : Int)) then (idx p0 i31).bind fun e52 => (laws_szAttr e52 i30).bind fun y68 => if decide (y68 < 0) then some (-1) else (R) y68 (IntKind.i64.wrap (i31 + 1)) else some i30)) : ∀ k i30 i31, μ i30 i31 < k → P i30 i31 (laws_szAttrS_L1 p0 k i30 i31) := by
  intro k
  induction k with
  | zero => intro i30 i31 hk; exact absurd hk (Nat.not_lt_zero _)
  | succ k ih => intro i30 i31 hk; unfold laws_szAttrS_L1; exact h i30 i31 (laws_szAttrS_L1 p0 k) (fun i30' i31' hs => ih i30' i31' (Nat.lt_of_lt_of_le hs (Nat.le_of_lt_succ hk)))

noncomputable def laws_szAttrS (p0 : List Tlaws_Attr) (p1 : Int) : Option (Int) :=
  if decide ((IntKind.i64.wrap (p1 - (p0.length : Int))) < 0) then some (-1) else laws_szAttrS_L1 p0 Fuel (IntKind.i64.wrap (p1 - (p0.length : Int))) 0


noncomputable def laws_szSchema (p0 : Tlaws_Schema) (p1 : Int) : Option (Int) :=
  (laws_szAttrS p0.Attrs_ p1).bind fun y19 => if decide (y19 < 0) then some (-1) else (laws_szStringS p0.Classes_ y19).bind fun y21 => if decide (y21 < 0) then some (-1) else some y21


noncomputable def laws_szIntSS_L1 (p0 : List (List Int)) : Nat → Int → Int → Option (Int)
  | 0, _, _ => none
  | k1 + 1, i22, i23 =>
    if decide (i23 < (p0.length : Int)) then (idx p0 i23).bind fun e36 => (laws_szIntS e36 i22).bind fun y44 => if decide (y44 < 0) then some (-1) else (laws_szIntSS_L1 p0 k1) y44 (IntKind.i64.wrap (i23 + 1)) else some i22

theorem laws_szIntSS_L1_ind (p0 : List (List Int)) {P : Int → Int → Option (Int) → Prop} (μ : Int → Int → Nat) (h : ∀ (i22 : Int) (i23 : Int) (R : Int → Int → Option (Int)), (∀ i22' i23', μ i22' i23' < μ i22 i23 → P i22' i23' (R i22' i23')) → P i22 i23 (if decide (i23 < (p0.length : Int)) then (idx p0 i23).bind fun e36 => (laws_szIntS e36 i22).bind fun y44 => if decide (y44 < 0) then some (-1) else (R) y44 (IntKind.i64.wrap (i23 + 1)) else some i22)) : ∀ k i22 i23, μ i22 i23 < k → P i22 i23 (laws_szIntSS_L1 p0 k i22 i23) := by
  intro k
  induction k with
  | zero => intro i22 i23 hk; exact absurd hk (Nat.not_lt_zero _)
  | succ k ih => intro i22 i23 hk; unfold laws_szIntSS_L1; exact h i22 i23 (laws_szIntSS_L1 p0 k) (fun i22' i23' hs => ih i22' i23' (Nat.lt_of_lt_of_le hs (Nat.le_of_lt_succ hk)))

noncomputable def laws_szIntSS (p0 : List (List Int)) (p1 : Int) : Option (Int) :=
  if decide ((IntKind.i64.wrap (p1 - (p0.length : Int))) < 0) then some (-1) else laws_szIntSS_L1 p0 Fuel (IntKind.i64.wrap (p1 - (p0.length : Int))) 0


noncomputable def laws_szStats (p0 : Tlaws_Stats) (p1 : Int) : Option (Int) :=
  (laws_szIntS p0.Totals_ p1).bind fun y19 => if decide (y19 < 0) then some (-1) else (laws_szIntSS p0.Cells_ y19).bind fun y21 => if decide (y21 < 0) then some (-1) else some y21


noncomputable def laws_szNode (p0 : Tlaws_Node) (p1 : Int) : Option (Int) :=
  (laws_szIntS p0.Kids_ p1).bind fun y43 => if decide (y43 < 0) then some (-1) else (laws_szStats p0.Stats_ y43).bind fun y45 => if decide (y45 < 0) then some (-1) else (laws_szIntS p0.Attrs_ y45).bind fun y47 => if decide (y47 < 0) then some (-1) else some y47


noncomputable def laws_szNodeS_L1 (p0 : List Tlaws_Node) : Nat → Int → Int → Option (Int)
  | 0, _, _ => none
  | k1 + 1, i52, i53 =>
    if decide (i53 < (p0.length : Int)) then (idx p0 i53).bind fun e96 => (laws_szNode e96 i52).bind fun y134 => if decide (y134 < 0) then some (-1) else (laws_szNodeS_L1 p0 k1) y134 (IntKind.i64.wrap (i53 + 1)) else some i52

theorem laws_szNodeS_L1_ind (p0 : List Tlaws_Node) {P : Int → Int → Option (Int) → Prop} (μ : Int → Int → Nat) (h : ∀ (i52 : Int) (i53 : Int) (R : Int → Int → Option (Int)), (∀ i52' i53', μ i52' i53' < μ i52 i53 → P i52' i53' (R i52' i53')) → P i52 i53 (if decide (i53 < (p0.length : Int)) then (idx p0 i53).bind fun e96 => (laws_szNode e96 i52).bind fun y134 => if decide (y134 < 0) then some (-1) else (R) y134 (IntKind.i64.wrap (i53 + 1)) else some i52)) : ∀ k i52 i53, μ i52 i53 < k → P i52 i53 (laws_szNodeS_L1 p0 k i52 i53) := by
  intro k
  induction k with
  | zero => intro i52 i53 hk; exact absurd hk (Nat.not_lt_zero _)
  | succ k ih => intro i52 i53 hk; unfold laws_szNodeS_L1; exact h i52 i53 (laws_szNodeS_L1 p0 k) (fun i52' i53' hs => ih i52' i53' (Nat.lt_of_lt_of_le hs (Nat.le_of_lt_succ hk)))

noncomputable def laws_szNodeS (p0 : List Tlaws_Node) (p1 : Int) : Option (Int) :=
  if decide ((IntKind.i64.wrap (p1 - (p0.length : Int))) < 0) then some (-1) else laws_szNodeS_L1 p0 Fuel (IntKind.i64.wrap (p1 - (p0.length : Int))) 0


noncomputable def laws_szTree (p0 : Tlaws_Tree) (p1 : Int) : Option (Int) :=
  (laws_szNodeS p0.Nodes_ p1).bind fun y17 => if decide (y17 < 0) then some (-1) else some y17


noncomputable def laws_toIntS_L1 (p0 : List Int) : Nat → (List Int) → Int → Option (List Int)
  | 0, _, _ => none
  | k1 + 1, l19, i20 =>
    if decide (i20 < (p0.length : Int)) then (idx p0 i20).bind fun e27 => (idx l19 i20).bind fun _ => (laws_toIntS_L1 p0 k1) (l19.set i20.toNat e27) (IntKind.i64.wrap (i20 + 1)) else some l19

theorem laws_toIntS_L1_ind (p0 : List Int) {P : (List Int) → Int → Option (List Int) → Prop} (μ : (List Int) → Int → Nat) (h : ∀ (l19 : List Int) (i20 : Int) (R : (List Int) → Int → Option (List Int)), (∀ l19' i20', μ l19' i20' < μ l19 i20 → P l19' i20' (R l19' i20')) → P l19 i20 (if decide (i20 < (p0.length : Int)) then (idx p0 i20).bind fun e27 => (idx l19 i20).bind fun _ => (R) (l19.set i20.toNat e27) (IntKind.i64.wrap (i20 + 1)) else some l19)) : ∀ k l19 i20, μ l19 i20 < k → P l19 i20 (laws_toIntS_L1 p0 k l19 i20) := by
  intro k
  induction k with
  | zero => intro l19 i20 hk; exact absurd hk (Nat.not_lt_zero _)
  | succ k ih => intro l19 i20 hk; unfold laws_toIntS_L1; exact h l19 i20 (laws_toIntS_L1 p0 k) (fun l19' i20' hs => ih l19' i20' (Nat.lt_of_lt_of_le hs (Nat.le_of_lt_succ hk)))

noncomputable def laws_toIntS (p0 : List Int) : Option (List Int) :=
  (mk (0 : Int) (p0.length : Int)).bind fun l10 => laws_toIntS_L1 p0 Fuel l10 0


noncomputable def laws_toStringS_L1 (p0 : List (List UInt8)) : Nat → (List (List UInt8)) → Int → Option (List (List UInt8))
  | 0, _, _ => none
  | k1 + 1, l19, i20 =>
    if decide (i20 < (p0.length : Int)) then (idx p0 i20).bind fun e27 => (idx l19 i20).bind fun _ => (laws_toStringS_L1 p0 k1) (l19.set i20.toNat e27) (IntKind.i64.wrap (i20 + 1)) else some l19

theorem laws_toStringS_L1_ind (p0 : List (List UInt8)) {P : (List (List UInt8)) → Int → Option (List (List UInt8)) → Prop} (μ : (List (List UInt8)) → Int → Nat) (h : ∀ (l19 : List (List UInt8)) (i20 : Int) (R : (List (List UInt8)) → Int → Option (List (List UInt8))), (∀ l19' i20', μ l19' i20' < μ l19 i20 → P l19' i20' (R l19' i20')) → P l19 i20 (if decide (i20 < (p0.length : Int)) then (idx p0 i20).bind fun e27 => (idx l19 i20).bind fun _ => (R) (l19.set i20.toNat e27) (IntKind.i64.wrap (i20 + 1)) else some l19)) : ∀ k l19 i20, μ l19 i20 < k → P l19 i20 (laws_toStringS_L1 p0 k l19 i20) := by
  intro k
  induction k with
  | zero => intro l19 i20 hk; exact absurd hk (Nat.not_lt_zero _)
  | succ k ih => intro l19 i20 hk; unfold laws_toStringS_L1; exact h l19 i20 (laws_toStringS_L1 p0 k) (fun l19' i20' hs => ih l19' i20' (Nat.lt_of_lt_of_le hs (Nat.le_of_lt_succ hk)))

noncomputable def laws_toStringS (p0 : List (List UInt8)) : Option (List (List UInt8)) :=
  (mk ([] : List UInt8) (p0.length : Int)).bind fun l10 => laws_toStringS_L1 p0 Fuel l10 0


noncomputable def laws_toAttr (p0 : Tlaws_Attr) : Option (Timpl_Attr) :=
  (laws_toIntS p0.Cuts_).bind fun y23 => (laws_toStringS p0.Values_).bind fun y32 => some (Timpl_Attr.mk p0.Name_ y23 y32)


noncomputable def laws_toAttrS_L1 (p0 : List Tlaws_Attr) : Nat → (List Timpl_Attr) → Int → Option (List Timpl_Attr)
  | 0, _, _ => none
  | k1 + 1, l63, i65 =>
    if decide (i65 < (p0.length : Int)) then (idx p0 i65).bind fun e116 => (laws_toAttr e116).bind fun y132 => (idx l63 i65).bind fun _ => (laws_toAttrS_L1 p0 k1) (l63.set i65.toNat y132) (IntKind.i64.wrap (i65 + 1)) else some l63

theorem laws_toAttrS_L1_ind (p0 : List Tlaws_Attr) {P : (List Timpl_Attr) → Int → Option (List Timpl_Attr) → Prop} (μ : (List Timpl_Attr) → Int → Nat) (h : ∀ (l63 : List Timpl_Attr) (i65 : Int) (R : (List Timpl_Attr) → Int → Option (List Timpl_Attr)), (∀ l63' i65', μ l63' i65' < μ l63 i65 → P l63' i65' (R l63' i65')) → P l63 i65 (if decide (i65 < (p0.length : Int)) then (idx p0 i65).bind fun e116 => (laws_toAttr e116).bind fun y132 => (idx l63 i65).bind fun _ => (R) (l63.set i65.toNat y132) (IntKind.i64.wrap (i65 + 1)) else some l63)) : ∀ k l63 i65, μ l63 i65 < k → P l63 i65 (laws_toAttrS_L1 p0 k l63 i65) := by
  intro k
  induction k with
  | zero => intro l63 i65 hk; exact absurd hk (Nat.not_lt_zero _)
  | succ k ih => intro l63 i65 hk; unfold laws_toAttrS_L1; exact h l63 i65 (laws_toAttrS_L1 p0 k) (fun l63' i65' hs => ih l63' i65' (Nat.lt_of_lt_of_le hs (Nat.le_of_lt_succ hk)))

noncomputable def laws_toAttrS (p0 : List Tlaws_Attr) : Option (List Timpl_Attr) :=
  (mk ((Timpl_Attr.mk [] [] []) : Timpl_Attr) (p0.length : Int)).bind fun l10 => laws_toAttrS_L1 p0 Fuel l10 0


noncomputable def laws_toSchema (p0 : Tlaws_Schema) : Option (Timpl_Schema) :=
  (laws_toAttrS p0.Attrs_).bind fun y21 => (laws_toStringS p0.Classes_).bind fun y30 => some (Timpl_Schema.mk y21 y30)


noncomputable def laws_toFork (p0 : Tlaws_Fork) : Option (Timpl_Fork) :=
  some (Timpl_Fork.mk p0.Attr_ p0.At_)


noncomputable def laws_toIntSS_L1 (p0 : List (List Int)) : Nat → (List (List Int)) → Int → Option (List (List Int))
  | 0, _, _ => none
  | k1 + 1, l46, i48 =>
    if decide (i48 < (p0.length : Int)) then (idx p0 i48).bind fun e82 => (laws_toIntS e82).bind fun y90 => (idx l46 i48).bind fun _ => (laws_toIntSS_L1 p0 k1) (l46.set i48.toNat y90) (IntKind.i64.wrap (i48 + 1)) else some l46

theorem laws_toIntSS_L1_ind (p0 : List (List Int)) {P : (List (List Int)) → Int → Option (List (List Int)) → Prop} (μ : (List (List Int)) → Int → Nat) (h : ∀ (l46 : List (List Int)) (i48 : Int) (R : (List (List Int)) → Int → Option (List (List Int))), (∀ l46' i48', μ l46' i48' < μ l46 i48 → P l46' i48' (R l46' i48')) → P l46 i48 (if decide (i48 < (p0.length : Int)) then (idx p0 i48).bind fun e82 => (laws_toIntS e82).bind fun y90 => (idx l46 i48).bind fun _ => (R) (l46.set i48.toNat y90) (IntKind.i64.wrap (i48 + 1)) else some l46)) : ∀ k l46 i48, μ l46 i48 < k → P l46 i48 (laws_toIntSS_L1 p0 k l46 i48) := by
  intro k
  induction k with
  | zero => intro l46 i48 hk; exact absurd hk (Nat.not_lt_zero _)
  | succ k ih => intro l46 i48 hk; unfold laws_toIntSS_L1; exact h l46 i48 (laws_toIntSS_L1 p0 k) (fun l46' i48' hs => ih l46' i48' (Nat.lt_of_lt_of_le hs (Nat.le_of_lt_succ hk)))

noncomputable def laws_toIntSS (p0 : List (List Int)) : Option (List (List Int)) :=
  (mk ([] : List Int) (p0.length : Int)).bind fun l10 => laws_toIntSS_L1 p0 Fuel l10 0


noncomputable def laws_toStats (p0 : Tlaws_Stats) : Option (Timpl_Stats) :=
  (laws_toIntS p0.Totals_).bind fun y21 => (laws_toIntSS p0.Cells_).bind fun y30 => some (Timpl_Stats.mk y21 y30)


noncomputable def laws_toNode (p0 : Tlaws_Node) : Option (Timpl_Node) :=
  (laws_toFork p0.Fork_).bind fun y45 => (laws_toIntS p0.Kids_).bind fun y47 => (laws_toStats p0.Stats_).bind fun y56 => (laws_toIntS p0.Attrs_).bind fun y69 => some (Timpl_Node.mk p0.Leaf_ y45 y47 p0.Miss_ y56 p0.Since_ y69 p0.Depth_ p0.Up_ p0.Born_)


noncomputable def laws_toNodeS_L1 (p0 : List Tlaws_Node) : Nat → (List Timpl_Node) → Int → Option (List Timpl_Node)
  | 0, _, _ => none
  | k1 + 1, l99, i101 =>
    if decide (i101 < (p0.length : Int)) then (idx p0 i101).bind fun e188 => (laws_toNode e188).bind fun y226 => (idx l99 i101).bind fun _ => (laws_toNodeS_L1 p0 k1) (l99.set i101.toNat y226) (IntKind.i64.wrap (i101 + 1)) else some l99

theorem laws_toNodeS_L1_ind (p0 : List Tlaws_Node) {P : (List Timpl_Node) → Int → Option (List Timpl_Node) → Prop} (μ : (List Timpl_Node) → Int → Nat) (h : ∀ (l99 : List Timpl_Node) (i101 : Int) (R : (List Timpl_Node) → Int → Option (List Timpl_Node)), (∀ l99' i101', μ l99' i101' < μ l99 i101 → P l99' i101' (R l99' i101')) → P l99 i101 (if decide (i101 < (p0.length : Int)) then (idx p0 i101).bind fun e188 => (laws_toNode e188).bind fun y226 => (idx l99 i101).bind fun _ => (R) (l99.set i101.toNat y226) (IntKind.i64.wrap (i101 + 1)) else some l99)) : ∀ k l99 i101, μ l99 i101 < k → P l99 i101 (laws_toNodeS_L1 p0 k l99 i101) := by
  intro k
  induction k with
  | zero => intro l99 i101 hk; exact absurd hk (Nat.not_lt_zero _)
  | succ k ih => intro l99 i101 hk; unfold laws_toNodeS_L1; exact h l99 i101 (laws_toNodeS_L1 p0 k) (fun l99' i101' hs => ih l99' i101' (Nat.lt_of_lt_of_le hs (Nat.le_of_lt_succ hk)))

noncomputable def laws_toNodeS (p0 : List Tlaws_Node) : Option (List Timpl_Node) :=
  (mk ((Timpl_Node.mk false (Timpl_Fork.mk 0 0) [] 0 (Timpl_Stats.mk [] []) 0 [] 0 0 0) : Timpl_Node) (p0.length : Int)).bind fun l10 => laws_toNodeS_L1 p0 Fuel l10 0


noncomputable def laws_toTree (p0 : Tlaws_Tree) : Option (Timpl_Tree) :=
  (laws_toNodeS p0.Nodes_).bind fun y19 => some (Timpl_Tree.mk y19 p0.Seen_)


noncomputable def spec_l1In (p0 : Int) (p1 : Int) (p2 : Int) : Option (Bool) :=
  some ((decide (p0 ≥ p1)) && (decide (p0 ≤ p2)))


noncomputable def spec_WordOk_L1 (p0 : List UInt8) : Nat → Int → Option (Bool)
  | 0, _ => none
  | k1 + 1, i20 =>
    if decide (i20 < (p0.length : Int)) then (idx p0 i20).bind fun b29 => (if decide ((b29.toNat : Int) < 97) then some true else (idx p0 i20).bind fun b32 => some (decide ((b32.toNat : Int) > 122))).bind fun u31 => if u31 then some false else (spec_WordOk_L1 p0 k1) (IntKind.i64.wrap (i20 + 1)) else some true

theorem spec_WordOk_L1_ind (p0 : List UInt8) {P : Int → Option (Bool) → Prop} (μ : Int → Nat) (h : ∀ (i20 : Int) (R : Int → Option (Bool)), (∀ i20', μ i20' < μ i20 → P i20' (R i20')) → P i20 (if decide (i20 < (p0.length : Int)) then (idx p0 i20).bind fun b29 => (if decide ((b29.toNat : Int) < 97) then some true else (idx p0 i20).bind fun b32 => some (decide ((b32.toNat : Int) > 122))).bind fun u31 => if u31 then some false else (R) (IntKind.i64.wrap (i20 + 1)) else some true)) : ∀ k i20, μ i20 < k → P i20 (spec_WordOk_L1 p0 k i20) := by
  intro k
  induction k with
  | zero => intro i20 hk; exact absurd hk (Nat.not_lt_zero _)
  | succ k ih => intro i20 hk; unfold spec_WordOk_L1; exact h i20 (spec_WordOk_L1 p0 k) (fun i20' hs => ih i20' (Nat.lt_of_lt_of_le hs (Nat.le_of_lt_succ hk)))

noncomputable def spec_WordOk (p0 : List UInt8) : Option (Bool) :=
  (spec_l1In (p0.length : Int) 1 8).bind fun y10 => if (!y10) then some false else spec_WordOk_L1 p0 Fuel 0


noncomputable def spec_l5Words_L2 (i30 : Int) (p0 : List (List UInt8)) (R1 : Int → Option (Bool)) : Nat → Int → Option (Bool)
  | 0, _ => none
  | k2 + 1, i60 =>
    if decide (i60 < i30) then (idx p0 i30).bind fun e66 => (idx p0 i60).bind fun e68 => if (e66 == e68) then some false else (spec_l5Words_L2 i30 p0 R1 k2) (IntKind.i64.wrap (i60 + 1)) else R1 (IntKind.i64.wrap (i30 + 1))

theorem spec_l5Words_L2_ind (i30 : Int) (p0 : List (List UInt8)) (R1 : Int → Option (Bool)) {P : Int → Option (Bool) → Prop} (μ : Int → Nat) (h : ∀ (i60 : Int) (R : Int → Option (Bool)), (∀ i60', μ i60' < μ i60 → P i60' (R i60')) → P i60 (if decide (i60 < i30) then (idx p0 i30).bind fun e66 => (idx p0 i60).bind fun e68 => if (e66 == e68) then some false else (R) (IntKind.i64.wrap (i60 + 1)) else R1 (IntKind.i64.wrap (i30 + 1)))) : ∀ k i60, μ i60 < k → P i60 (spec_l5Words_L2 i30 p0 R1 k i60) := by
  intro k
  induction k with
  | zero => intro i60 hk; exact absurd hk (Nat.not_lt_zero _)
  | succ k ih => intro i60 hk; unfold spec_l5Words_L2; exact h i60 (spec_l5Words_L2 i30 p0 R1 k) (fun i60' hs => ih i60' (Nat.lt_of_lt_of_le hs (Nat.le_of_lt_succ hk)))

noncomputable def spec_l5Words_L1 (p0 : List (List UInt8)) : Nat → Int → Option (Bool)
  | 0, _ => none
  | k1 + 1, i30 =>
    if decide (i30 < (p0.length : Int)) then (idx p0 i30).bind fun e51 => (spec_WordOk e51).bind fun y53 => if (!y53) then some false else spec_l5Words_L2 i30 p0 (spec_l5Words_L1 p0 k1) Fuel 0 else some true

theorem spec_l5Words_L1_ind (p0 : List (List UInt8)) {P : Int → Option (Bool) → Prop} (μ : Int → Nat) (h : ∀ (i30 : Int) (R : Int → Option (Bool)), (∀ i30', μ i30' < μ i30 → P i30' (R i30')) → P i30 (if decide (i30 < (p0.length : Int)) then (idx p0 i30).bind fun e51 => (spec_WordOk e51).bind fun y53 => if (!y53) then some false else spec_l5Words_L2 i30 p0 (R) Fuel 0 else some true)) : ∀ k i30, μ i30 < k → P i30 (spec_l5Words_L1 p0 k i30) := by
  intro k
  induction k with
  | zero => intro i30 hk; exact absurd hk (Nat.not_lt_zero _)
  | succ k ih => intro i30 hk; unfold spec_l5Words_L1; exact h i30 (spec_l5Words_L1 p0 k) (fun i30' hs => ih i30' (Nat.lt_of_lt_of_le hs (Nat.le_of_lt_succ hk)))

noncomputable def spec_l5Words (p0 : List (List UInt8)) : Option (Bool) :=
  spec_l5Words_L1 p0 Fuel 0


noncomputable def spec_AttrOk_L1 (p0 : Timpl_Attr) : Nat → Int → Option (Bool)
  | 0, _ => none
  | k1 + 1, i47 =>
    if decide (i47 < (p0.Cuts_.length : Int)) then (idx p0.Cuts_ i47).bind fun e63 => (spec_l1In e63 (-9999) 9998).bind fun y65 => (if (!y65) then some true else (if decide (i47 > 0) then (idx p0.Cuts_ i47).bind fun e69 => (idx p0.Cuts_ (IntKind.i64.wrap (i47 - 1))).bind fun e71 => some (decide (e69 ≤ e71)) else some false).bind fun u68 => some u68).bind fun u67 => if u67 then some false else (spec_AttrOk_L1 p0 k1) (IntKind.i64.wrap (i47 + 1)) else some true

theorem spec_AttrOk_L1_ind (p0 : Timpl_Attr) {P : Int → Option (Bool) → Prop} (μ : Int → Nat) (h : ∀ (i47 : Int) (R : Int → Option (Bool)), (∀ i47', μ i47' < μ i47 → P i47' (R i47')) → P i47 (if decide (i47 < (p0.Cuts_.length : Int)) then (idx p0.Cuts_ i47).bind fun e63 => (spec_l1In e63 (-9999) 9998).bind fun y65 => (if (!y65) then some true else (if decide (i47 > 0) then (idx p0.Cuts_ i47).bind fun e69 => (idx p0.Cuts_ (IntKind.i64.wrap (i47 - 1))).bind fun e71 => some (decide (e69 ≤ e71)) else some false).bind fun u68 => some u68).bind fun u67 => if u67 then some false else (R) (IntKind.i64.wrap (i47 + 1)) else some true)) : ∀ k i47, μ i47 < k → P i47 (spec_AttrOk_L1 p0 k i47) := by
  intro k
  induction k with
  | zero => intro i47 hk; exact absurd hk (Nat.not_lt_zero _)
  | succ k ih => intro i47 hk; unfold spec_AttrOk_L1; exact h i47 (spec_AttrOk_L1 p0 k) (fun i47' hs => ih i47' (Nat.lt_of_lt_of_le hs (Nat.le_of_lt_succ hk)))

noncomputable def spec_AttrOk (p0 : Timpl_Attr) : Option (Bool) :=
  (spec_WordOk p0.Name_).bind fun y21 => if (!y21) then some false else if ((p0.Cuts_.length : Int) == 0) then (spec_l1In (p0.Values_.length : Int) 2 4).bind fun y23 => (if y23 then (spec_l5Words p0.Values_).bind fun y26 => some y26 else some false).bind fun u25 => some u25 else if ((decide ((p0.Values_.length : Int) > 0)) || (decide ((p0.Cuts_.length : Int) > 3))) then some false else spec_AttrOk_L1 p0 Fuel 0


noncomputable def spec_SchemaOk_L2 (i149 : Int) (p0 : Timpl_Schema) (R1 : Int → Option (Bool)) : Nat → Int → Option (Bool)
  | 0, _ => none
  | k2 + 1, i319 =>
    if decide (i319 < i149) then (idx p0.Attrs_ i149).bind fun e353 => (idx p0.Attrs_ i319).bind fun e369 => if (e353.Name_ == e369.Name_) then some false else (spec_SchemaOk_L2 i149 p0 R1 k2) (IntKind.i64.wrap (i319 + 1)) else R1 (IntKind.i64.wrap (i149 + 1))

theorem spec_SchemaOk_L2_ind (i149 : Int) (p0 : Timpl_Schema) (R1 : Int → Option (Bool)) {P : Int → Option (Bool) → Prop} (μ : Int → Nat) (h : ∀ (i319 : Int) (R : Int → Option (Bool)), (∀ i319', μ i319' < μ i319 → P i319' (R i319')) → P i319 (if decide (i319 < i149) then (idx p0.Attrs_ i149).bind fun e353 => (idx p0.Attrs_ i319).bind fun e369 => if (e353.Name_ == e369.Name_) then some false else (R) (IntKind.i64.wrap (i319 + 1)) else R1 (IntKind.i64.wrap (i149 + 1)))) : ∀ k i319, μ i319 < k → P i319 (spec_SchemaOk_L2 i149 p0 R1 k i319) := by
  intro k
  induction k with
  | zero => intro i319 hk; exact absurd hk (Nat.not_lt_zero _)
  | succ k ih => intro i319 hk; unfold spec_SchemaOk_L2; exact h i319 (spec_SchemaOk_L2 i149 p0 R1 k) (fun i319' hs => ih i319' (Nat.lt_of_lt_of_le hs (Nat.le_of_lt_succ hk)))

noncomputable def spec_SchemaOk_L1 (p0 : Timpl_Schema) : Nat → Int → Option (Bool)
  | 0, _ => none
  | k1 + 1, i149 =>
    if decide (i149 < (p0.Attrs_.length : Int)) then (idx p0.Attrs_ i149).bind fun e268 => (spec_AttrOk e268).bind fun y284 => if (!y284) then some false else spec_SchemaOk_L2 i149 p0 (spec_SchemaOk_L1 p0 k1) Fuel 0 else some true

theorem spec_SchemaOk_L1_ind (p0 : Timpl_Schema) {P : Int → Option (Bool) → Prop} (μ : Int → Nat) (h : ∀ (i149 : Int) (R : Int → Option (Bool)), (∀ i149', μ i149' < μ i149 → P i149' (R i149')) → P i149 (if decide (i149 < (p0.Attrs_.length : Int)) then (idx p0.Attrs_ i149).bind fun e268 => (spec_AttrOk e268).bind fun y284 => if (!y284) then some false else spec_SchemaOk_L2 i149 p0 (R) Fuel 0 else some true)) : ∀ k i149, μ i149 < k → P i149 (spec_SchemaOk_L1 p0 k i149) := by
  intro k
  induction k with
  | zero => intro i149 hk; exact absurd hk (Nat.not_lt_zero _)
  | succ k ih => intro i149 hk; unfold spec_SchemaOk_L1; exact h i149 (spec_SchemaOk_L1 p0 k) (fun i149' hs => ih i149' (Nat.lt_of_lt_of_le hs (Nat.le_of_lt_succ hk)))

noncomputable def spec_SchemaOk (p0 : Timpl_Schema) : Option (Bool) :=
  (spec_l1In (p0.Attrs_.length : Int) 1 5).bind fun y19 => (if (!y19) then some true else (spec_l1In (p0.Classes_.length : Int) 2 3).bind fun y22 => some (!y22)).bind fun u21 => (if u21 then some true else (spec_l5Words p0.Classes_).bind fun y27 => some (!y27)).bind fun u26 => if u26 then some false else spec_SchemaOk_L1 p0 Fuel 0


noncomputable def spec_Bins (p0 : Timpl_Attr) : Option (Int) :=
  (spec_AttrOk p0).bind fun y21 => if (!y21) then some 0 else if decide ((p0.Cuts_.length : Int) > 0) then some (IntKind.i64.wrap ((p0.Cuts_.length : Int) + 1)) else some (p0.Values_.length : Int)


noncomputable def spec_StatsOk_L4 (y397 : Int) (p1 : Timpl_Stats) (i218 : Int) (p0 : Timpl_Schema) (i452 : Int) (R3 : Int → Option (Bool)) : Nat → Int → Int → Option (Bool)
  | 0, _, _ => none
  | k4 + 1, i512, i513 =>
    if decide (i513 < y397) then (idx p1.Cells_ i218).bind fun e528 => (idx e528 (IntKind.i64.wrap ((IntKind.i64.wrap (i513 * (p0.Classes_.length : Int))) + i452))).bind fun e536 => (spec_l1In e536 0 999).bind fun y538 => if (!y538) then some false else (spec_StatsOk_L4 y397 p1 i218 p0 i452 R3 k4) (IntKind.i64.wrap (i512 + e536)) (IntKind.i64.wrap (i513 + 1)) else (idx p1.Totals_ i452).bind fun e540 => if decide (i512 > e540) then some false else R3 (IntKind.i64.wrap (i452 + 1))

theorem spec_StatsOk_L4_ind (y397 : Int) (p1 : Timpl_Stats) (i218 : Int) (p0 : Timpl_Schema) (i452 : Int) (R3 : Int → Option (Bool)) {P : Int → Int → Option (Bool) → Prop} (μ : Int → Int → Nat) (h : ∀ (i512 : Int) (i513 : Int) (R : Int → Int → Option (Bool)), (∀ i512' i513', μ i512' i513' < μ i512 i513 → P i512' i513' (R i512' i513')) → P i512 i513 (if decide (i513 < y397) then (idx p1.Cells_ i218).bind fun e528 => (idx e528 (IntKind.i64.wrap ((IntKind.i64.wrap (i513 * (p0.Classes_.length : Int))) + i452))).bind fun e536 => (spec_l1In e536 0 999).bind fun y538 => if (!y538) then some false else (R) (IntKind.i64.wrap (i512 + e536)) (IntKind.i64.wrap (i513 + 1)) else (idx p1.Totals_ i452).bind fun e540 => if decide (i512 > e540) then some false else R3 (IntKind.i64.wrap (i452 + 1)))) : ∀ k i512 i513, μ i512 i513 < k → P i512 i513 (spec_StatsOk_L4 y397 p1 i218 p0 i452 R3 k i512 i513) := by
  intro k
  induction k with
  | zero => intro i512 i513 hk; exact absurd hk (Nat.not_lt_zero _)
  | succ k ih => intro i512 i513 hk; unfold spec_StatsOk_L4; exact h i512 i513 (spec_StatsOk_L4 y397 p1 i218 p0 i452 R3 k) (fun i512' i513' hs => ih i512' i513' (Nat.lt_of_lt_of_le hs (Nat.le_of_lt_succ hk)))

noncomputable def spec_StatsOk_L3 (p0 : Timpl_Schema) (y397 : Int) (p1 : Timpl_Stats) (i218 : Int) (R2 : Int → Option (Bool)) : Nat → Int → Option (Bool)
  | 0, _ => none
  | k3 + 1, i452 =>
    if decide (i452 < (p0.Classes_.length : Int)) then spec_StatsOk_L4 y397 p1 i218 p0 i452 (spec_StatsOk_L3 p0 y397 p1 i218 R2 k3) Fuel 0 0 else R2 (IntKind.i64.wrap (i218 + 1))

theorem spec_StatsOk_L3_ind (p0 : Timpl_Schema) (y397 : Int) (p1 : Timpl_Stats) (i218 : Int) (R2 : Int → Option (Bool)) {P : Int → Option (Bool) → Prop} (μ : Int → Nat) (h : ∀ (i452 : Int) (R : Int → Option (Bool)), (∀ i452', μ i452' < μ i452 → P i452' (R i452')) → P i452 (if decide (i452 < (p0.Classes_.length : Int)) then spec_StatsOk_L4 y397 p1 i218 p0 i452 (R) Fuel 0 0 else R2 (IntKind.i64.wrap (i218 + 1)))) : ∀ k i452, μ i452 < k → P i452 (spec_StatsOk_L3 p0 y397 p1 i218 R2 k i452) := by
  intro k
  induction k with
  | zero => intro i452 hk; exact absurd hk (Nat.not_lt_zero _)
  | succ k ih => intro i452 hk; unfold spec_StatsOk_L3; exact h i452 (spec_StatsOk_L3 p0 y397 p1 i218 R2 k) (fun i452' hs => ih i452' (Nat.lt_of_lt_of_le hs (Nat.le_of_lt_succ hk)))

noncomputable def spec_StatsOk_L2 (p1 : Timpl_Stats) (p0 : Timpl_Schema) : Nat → Int → Option (Bool)
  | 0, _ => none
  | k2 + 1, i218 =>
    if decide (i218 < (p1.Cells_.length : Int)) then (idx p0.Attrs_ i218).bind fun e381 => (spec_Bins e381).bind fun y397 => (idx p1.Cells_ i218).bind fun e399 => if ((e399.length : Int) != (IntKind.i64.wrap (y397 * (p0.Classes_.length : Int)))) then some false else spec_StatsOk_L3 p0 y397 p1 i218 (spec_StatsOk_L2 p1 p0 k2) Fuel 0 else some true

theorem spec_StatsOk_L2_ind (p1 : Timpl_Stats) (p0 : Timpl_Schema) {P : Int → Option (Bool) → Prop} (μ : Int → Nat) (h : ∀ (i218 : Int) (R : Int → Option (Bool)), (∀ i218', μ i218' < μ i218 → P i218' (R i218')) → P i218 (if decide (i218 < (p1.Cells_.length : Int)) then (idx p0.Attrs_ i218).bind fun e381 => (spec_Bins e381).bind fun y397 => (idx p1.Cells_ i218).bind fun e399 => if ((e399.length : Int) != (IntKind.i64.wrap (y397 * (p0.Classes_.length : Int)))) then some false else spec_StatsOk_L3 p0 y397 p1 i218 (R) Fuel 0 else some true)) : ∀ k i218, μ i218 < k → P i218 (spec_StatsOk_L2 p1 p0 k i218) := by
  intro k
  induction k with
  | zero => intro i218 hk; exact absurd hk (Nat.not_lt_zero _)
  | succ k ih => intro i218 hk; unfold spec_StatsOk_L2; exact h i218 (spec_StatsOk_L2 p1 p0 k) (fun i218' hs => ih i218' (Nat.lt_of_lt_of_le hs (Nat.le_of_lt_succ hk)))

noncomputable def spec_StatsOk_L1 (p1 : Timpl_Stats) (p0 : Timpl_Schema) : Nat → Int → Int → Option (Bool)
  | 0, _, _ => none
  | k1 + 1, i40, i41 =>
    if decide (i41 < (p1.Totals_.length : Int)) then (idx p1.Totals_ i41).bind fun e50 => (spec_l1In e50 0 999).bind fun y52 => if (!y52) then some false else (idx p1.Totals_ i41).bind fun e54 => (spec_StatsOk_L1 p1 p0 k1) (IntKind.i64.wrap (i40 + e54)) (IntKind.i64.wrap (i41 + 1)) else if decide (i40 > 999) then some false else if ((p1.Cells_.length : Int) == 0) then some true else if ((p1.Cells_.length : Int) != (p0.Attrs_.length : Int)) then some false else spec_StatsOk_L2 p1 p0 Fuel 0

theorem spec_StatsOk_L1_ind (p1 : Timpl_Stats) (p0 : Timpl_Schema) {P : Int → Int → Option (Bool) → Prop} (μ : Int → Int → Nat) (h : ∀ (i40 : Int) (i41 : Int) (R : Int → Int → Option (Bool)), (∀ i40' i41', μ i40' i41' < μ i40 i41 → P i40' i41' (R i40' i41')) → P i40 i41 (if decide (i41 < (p1.Totals_.length : Int)) then (idx p1.Totals_ i41).bind fun e50 => (spec_l1In e50 0 999).bind fun y52 => if (!y52) then some false else (idx p1.Totals_ i41).bind fun e54 => (R) (IntKind.i64.wrap (i40 + e54)) (IntKind.i64.wrap (i41 + 1)) else if decide (i40 > 999) then some false else if ((p1.Cells_.length : Int) == 0) then some true else if ((p1.Cells_.length : Int) != (p0.Attrs_.length : Int)) then some false else spec_StatsOk_L2 p1 p0 Fuel 0)) : ∀ k i40 i41, μ i40 i41 < k → P i40 i41 (spec_StatsOk_L1 p1 p0 k i40 i41) := by
  intro k
  induction k with
  | zero => intro i40 i41 hk; exact absurd hk (Nat.not_lt_zero _)
  | succ k ih => intro i40 i41 hk; unfold spec_StatsOk_L1; exact h i40 i41 (spec_StatsOk_L1 p1 p0 k) (fun i40' i41' hs => ih i40' i41' (Nat.lt_of_lt_of_le hs (Nat.le_of_lt_succ hk)))

noncomputable def spec_StatsOk (p0 : Timpl_Schema) (p1 : Timpl_Stats) : Option (Bool) :=
  (spec_SchemaOk p0).bind fun y28 => if ((!y28) || ((p1.Totals_.length : Int) != (p0.Classes_.length : Int))) then some false else spec_StatsOk_L1 p1 p0 Fuel 0 0


noncomputable def spec_AttrsOk_L1 (p1 : List Int) (p0 : Timpl_Schema) : Nat → Int → Option (Bool)
  | 0, _ => none
  | k1 + 1, i38 =>
    if decide (i38 < (p1.length : Int)) then (idx p1 i38).bind fun e54 => (spec_l1In e54 0 (IntKind.i64.wrap ((p0.Attrs_.length : Int) - 1))).bind fun y56 => (if (!y56) then some true else (if decide (i38 > 0) then (idx p1 i38).bind fun e60 => (idx p1 (IntKind.i64.wrap (i38 - 1))).bind fun e62 => some (decide (e60 ≤ e62)) else some false).bind fun u59 => some u59).bind fun u58 => if u58 then some false else (spec_AttrsOk_L1 p1 p0 k1) (IntKind.i64.wrap (i38 + 1)) else some true

theorem spec_AttrsOk_L1_ind (p1 : List Int) (p0 : Timpl_Schema) {P : Int → Option (Bool) → Prop} (μ : Int → Nat) (h : ∀ (i38 : Int) (R : Int → Option (Bool)), (∀ i38', μ i38' < μ i38 → P i38' (R i38')) → P i38 (if decide (i38 < (p1.length : Int)) then (idx p1 i38).bind fun e54 => (spec_l1In e54 0 (IntKind.i64.wrap ((p0.Attrs_.length : Int) - 1))).bind fun y56 => (if (!y56) then some true else (if decide (i38 > 0) then (idx p1 i38).bind fun e60 => (idx p1 (IntKind.i64.wrap (i38 - 1))).bind fun e62 => some (decide (e60 ≤ e62)) else some false).bind fun u59 => some u59).bind fun u58 => if u58 then some false else (R) (IntKind.i64.wrap (i38 + 1)) else some true)) : ∀ k i38, μ i38 < k → P i38 (spec_AttrsOk_L1 p1 p0 k i38) := by
  intro k
  induction k with
  | zero => intro i38 hk; exact absurd hk (Nat.not_lt_zero _)
  | succ k ih => intro i38 hk; unfold spec_AttrsOk_L1; exact h i38 (spec_AttrsOk_L1 p1 p0 k) (fun i38' hs => ih i38' (Nat.lt_of_lt_of_le hs (Nat.le_of_lt_succ hk)))

noncomputable def spec_AttrsOk (p0 : Timpl_Schema) (p1 : List Int) : Option (Bool) :=
  (spec_SchemaOk p0).bind fun y19 => if ((!y19) || ((p1.length : Int) == 0)) then some false else spec_AttrsOk_L1 p1 p0 Fuel 0


noncomputable def spec_StatsTotal_L1 (p1 : Timpl_Stats) : Nat → Int → Int → Option (Int)
  | 0, _, _ => none
  | k1 + 1, i35, i36 =>
    if decide (i36 < (p1.Totals_.length : Int)) then (idx p1.Totals_ i36).bind fun e41 => (spec_StatsTotal_L1 p1 k1) (IntKind.i64.wrap (i35 + e41)) (IntKind.i64.wrap (i36 + 1)) else some i35

theorem spec_StatsTotal_L1_ind (p1 : Timpl_Stats) {P : Int → Int → Option (Int) → Prop} (μ : Int → Int → Nat) (h : ∀ (i35 : Int) (i36 : Int) (R : Int → Int → Option (Int)), (∀ i35' i36', μ i35' i36' < μ i35 i36 → P i35' i36' (R i35' i36')) → P i35 i36 (if decide (i36 < (p1.Totals_.length : Int)) then (idx p1.Totals_ i36).bind fun e41 => (R) (IntKind.i64.wrap (i35 + e41)) (IntKind.i64.wrap (i36 + 1)) else some i35)) : ∀ k i35 i36, μ i35 i36 < k → P i35 i36 (spec_StatsTotal_L1 p1 k i35 i36) := by
  intro k
  induction k with
  | zero => intro i35 i36 hk; exact absurd hk (Nat.not_lt_zero _)
  | succ k ih => intro i35 i36 hk; unfold spec_StatsTotal_L1; exact h i35 i36 (spec_StatsTotal_L1 p1 k) (fun i35' i36' hs => ih i35' i36' (Nat.lt_of_lt_of_le hs (Nat.le_of_lt_succ hk)))

noncomputable def spec_StatsTotal (p0 : Timpl_Schema) (p1 : Timpl_Stats) : Option (Int) :=
  (spec_StatsOk p0 p1).bind fun y28 => if (!y28) then some 0 else spec_StatsTotal_L1 p1 Fuel 0 0


noncomputable def spec_l19Leaf (p0 : Timpl_Schema) (p1 : Timpl_Node) : Option (Bool) :=
  (if (((!(p1.Fork_.Attr_ == 0 && (p1.Fork_.At_ == 0 && true))) || (decide ((p1.Kids_.length : Int) > 0))) || (p1.Miss_ != 0)) then some true else (spec_StatsOk p0 p1.Stats_).bind fun y57 => some (!y57)).bind fun u56 => (if u56 then some true else (spec_AttrsOk p0 p1.Attrs_).bind fun y62 => some (!y62)).bind fun u61 => if u61 then some false else if ((p1.Stats_.Cells_.length : Int) == 0) then some (p1.Since_ == 0) else (spec_StatsTotal p0 p1.Stats_).bind fun y66 => (spec_l1In p1.Since_ 0 y66).bind fun y68 => some y68


noncomputable def spec_ForkOk (p0 : Timpl_Schema) (p1 : Timpl_Fork) : Option (Bool) :=
  (spec_SchemaOk p0).bind fun y20 => (if (!y20) then some true else (spec_l1In p1.Attr_ 0 (IntKind.i64.wrap ((p0.Attrs_.length : Int) - 1))).bind fun y23 => some (!y23)).bind fun u22 => if u22 then some false else (idx p0.Attrs_ p1.Attr_).bind fun e27 => if decide ((e27.Cuts_.length : Int) > 0) then (idx p0.Attrs_ p1.Attr_).bind fun e43 => (spec_Bins e43).bind fun y59 => (spec_l1In p1.At_ (-1) (IntKind.i64.wrap (y59 - 2))).bind fun y61 => some y61 else (idx p0.Attrs_ p1.Attr_).bind fun e63 => (spec_Bins e63).bind fun y79 => (spec_l1In p1.At_ (-1) (IntKind.i64.wrap (y79 - 1))).bind fun y81 => some y81


noncomputable def spec_Branches (p0 : Timpl_Schema) (p1 : Timpl_Fork) : Option (Int) :=
  (spec_ForkOk p0 p1).bind fun y20 => if (!y20) then some 0 else if (p1.At_ == (-1)) then (idx p0.Attrs_ p1.Attr_).bind fun e22 => (spec_Bins e22).bind fun y38 => some y38 else some 2


noncomputable def spec_l19Split_L1 (e26 : Timpl_Node) (p2 : Int) (p1 : Timpl_Tree) : Nat → Int → Option (Bool)
  | 0, _ => none
  | k1 + 1, i149 =>
    if decide (i149 < (e26.Kids_.length : Int)) then (idx e26.Kids_ i149).bind fun e208 => (spec_l1In e208 (IntKind.i64.wrap (p2 + 1)) (IntKind.i64.wrap ((p1.Nodes_.length : Int) - 1))).bind fun y210 => (if (!y210) then some true else (idx e26.Kids_ i149).bind fun e213 => (idx p1.Nodes_ e213).bind fun e215 => some (e215.Up_ != p2)).bind fun u212 => (if u212 then some true else (if decide (i149 > 0) then (idx e26.Kids_ i149).bind fun e257 => (idx e26.Kids_ (IntKind.i64.wrap (i149 - 1))).bind fun e259 => some (decide (e257 ≤ e259)) else some false).bind fun u256 => some u256).bind fun u255 => if u255 then some false else (spec_l19Split_L1 e26 p2 p1 k1) (IntKind.i64.wrap (i149 + 1)) else some true

theorem spec_l19Split_L1_ind (e26 : Timpl_Node) (p2 : Int) (p1 : Timpl_Tree) {P : Int → Option (Bool) → Prop} (μ : Int → Nat) (h : ∀ (i149 : Int) (R : Int → Option (Bool)), (∀ i149', μ i149' < μ i149 → P i149' (R i149')) → P i149 (if decide (i149 < (e26.Kids_.length : Int)) then (idx e26.Kids_ i149).bind fun e208 => (spec_l1In e208 (IntKind.i64.wrap (p2 + 1)) (IntKind.i64.wrap ((p1.Nodes_.length : Int) - 1))).bind fun y210 => (if (!y210) then some true else (idx e26.Kids_ i149).bind fun e213 => (idx p1.Nodes_ e213).bind fun e215 => some (e215.Up_ != p2)).bind fun u212 => (if u212 then some true else (if decide (i149 > 0) then (idx e26.Kids_ i149).bind fun e257 => (idx e26.Kids_ (IntKind.i64.wrap (i149 - 1))).bind fun e259 => some (decide (e257 ≤ e259)) else some false).bind fun u256 => some u256).bind fun u255 => if u255 then some false else (R) (IntKind.i64.wrap (i149 + 1)) else some true)) : ∀ k i149, μ i149 < k → P i149 (spec_l19Split_L1 e26 p2 p1 k i149) := by
  intro k
  induction k with
  | zero => intro i149 hk; exact absurd hk (Nat.not_lt_zero _)
  | succ k ih => intro i149 hk; unfold spec_l19Split_L1; exact h i149 (spec_l19Split_L1 e26 p2 p1 k) (fun i149' hs => ih i149' (Nat.lt_of_lt_of_le hs (Nat.le_of_lt_succ hk)))

noncomputable def spec_l19Split (p0 : Timpl_Schema) (p1 : Timpl_Tree) (p2 : Int) : Option (Bool) :=
  (idx p1.Nodes_ p2).bind fun e26 => (spec_ForkOk p0 e26.Fork_).bind fun y65 => (if (!y65) then some true else (spec_Branches p0 e26.Fork_).bind fun y68 => some ((e26.Kids_.length : Int) != y68)).bind fun u67 => (if u67 then some true else (spec_l1In e26.Miss_ 0 (IntKind.i64.wrap ((e26.Kids_.length : Int) - 1))).bind fun y73 => some (!y73)).bind fun u72 => (if u72 then some true else (spec_StatsOk p0 e26.Stats_).bind fun y78 => some (!y78)).bind fun u77 => (if ((u77 || (decide ((e26.Stats_.Cells_.length : Int) > 0))) || (e26.Since_ != 0)) then some true else (spec_AttrsOk p0 e26.Attrs_).bind fun y87 => some (!y87)).bind fun u86 => if u86 then some false else spec_l19Split_L1 e26 p2 p1 Fuel 0


noncomputable def spec_l19Among_L1 (p0 : List Int) (p1 : Int) : Nat → Int → Option (Bool)
  | 0, _ => none
  | k1 + 1, i13 =>
    if decide (i13 < (p0.length : Int)) then (idx p0 i13).bind fun e18 => if (e18 == p1) then some true else (spec_l19Among_L1 p0 p1 k1) (IntKind.i64.wrap (i13 + 1)) else some false

theorem spec_l19Among_L1_ind (p0 : List Int) (p1 : Int) {P : Int → Option (Bool) → Prop} (μ : Int → Nat) (h : ∀ (i13 : Int) (R : Int → Option (Bool)), (∀ i13', μ i13' < μ i13 → P i13' (R i13')) → P i13 (if decide (i13 < (p0.length : Int)) then (idx p0 i13).bind fun e18 => if (e18 == p1) then some true else (R) (IntKind.i64.wrap (i13 + 1)) else some false)) : ∀ k i13, μ i13 < k → P i13 (spec_l19Among_L1 p0 p1 k i13) := by
  intro k
  induction k with
  | zero => intro i13 hk; exact absurd hk (Nat.not_lt_zero _)
  | succ k ih => intro i13 hk; unfold spec_l19Among_L1; exact h i13 (spec_l19Among_L1 p0 p1 k) (fun i13' hs => ih i13' (Nat.lt_of_lt_of_le hs (Nat.le_of_lt_succ hk)))

noncomputable def spec_l19Among (p0 : List Int) (p1 : Int) : Option (Bool) :=
  spec_l19Among_L1 p0 p1 Fuel 0


noncomputable def spec_TreeOk_L1 (p1 : Timpl_Tree) (p0 : Timpl_Schema) : Nat → Int → Option (Bool)
  | 0, _ => none
  | k1 + 1, i152 =>
    if decide (i152 < (p1.Nodes_.length : Int)) then (idx p1.Nodes_ i152).bind fun e267 => (spec_l1In e267.Depth_ 0 6).bind fun y306 => (if (!y306) then some true else (spec_l1In e267.Born_ 0 p1.Seen_).bind fun y309 => some (!y309)).bind fun u308 => if u308 then some false else (if e267.Leaf_ then (spec_l19Leaf p0 ({ e267 with Leaf_ := true })).bind fun y314 => some (!y314) else some false).bind fun u313 => (if u313 then some true else (if (!e267.Leaf_) then (spec_l19Split p0 p1 i152).bind fun y320 => some (!y320) else some false).bind fun u319 => some u319).bind fun u318 => if u318 then some false else if (i152 == 0) then if (((e267.Up_ != (-1)) || (e267.Depth_ != 0)) || (e267.Born_ != 0)) then some false else (spec_TreeOk_L1 p1 p0 k1) (IntKind.i64.wrap (i152 + 1)) else (spec_l1In e267.Up_ 0 (IntKind.i64.wrap (i152 - 1))).bind fun y330 => if (!y330) then some false else (idx p1.Nodes_ e267.Up_).bind fun e332 => (if e332.Leaf_ then some true else (spec_l19Among e332.Kids_ i152).bind fun y372 => some (!y372)).bind fun u371 => if ((u371 || ((IntKind.i64.wrap (e332.Depth_ + 1)) != e267.Depth_)) || (decide (e332.Born_ > e267.Born_))) then some false else (spec_TreeOk_L1 p1 p0 k1) (IntKind.i64.wrap (i152 + 1)) else some true

theorem spec_TreeOk_L1_ind (p1 : Timpl_Tree) (p0 : Timpl_Schema) {P : Int → Option (Bool) → Prop} (μ : Int → Nat) (h : ∀ (i152 : Int) (R : Int → Option (Bool)), (∀ i152', μ i152' < μ i152 → P i152' (R i152')) → P i152 (if decide (i152 < (p1.Nodes_.length : Int)) then (idx p1.Nodes_ i152).bind fun e267 => (spec_l1In e267.Depth_ 0 6).bind fun y306 => (if (!y306) then some true else (spec_l1In e267.Born_ 0 p1.Seen_).bind fun y309 => some (!y309)).bind fun u308 => if u308 then some false else (if e267.Leaf_ then (spec_l19Leaf p0 ({ e267 with Leaf_ := true })).bind fun y314 => some (!y314) else some false).bind fun u313 => (if u313 then some true else (if (!e267.Leaf_) then (spec_l19Split p0 p1 i152).bind fun y320 => some (!y320) else some false).bind fun u319 => some u319).bind fun u318 => if u318 then some false else if (i152 == 0) then if (((e267.Up_ != (-1)) || (e267.Depth_ != 0)) || (e267.Born_ != 0)) then some false else (R) (IntKind.i64.wrap (i152 + 1)) else (spec_l1In e267.Up_ 0 (IntKind.i64.wrap (i152 - 1))).bind fun y330 => if (!y330) then some false else (idx p1.Nodes_ e267.Up_).bind fun e332 => (if e332.Leaf_ then some true else (spec_l19Among e332.Kids_ i152).bind fun y372 => some (!y372)).bind fun u371 => if ((u371 || ((IntKind.i64.wrap (e332.Depth_ + 1)) != e267.Depth_)) || (decide (e332.Born_ > e267.Born_))) then some false else (R) (IntKind.i64.wrap (i152 + 1)) else some true)) : ∀ k i152, μ i152 < k → P i152 (spec_TreeOk_L1 p1 p0 k i152) := by
  intro k
  induction k with
  | zero => intro i152 hk; exact absurd hk (Nat.not_lt_zero _)
  | succ k ih => intro i152 hk; unfold spec_TreeOk_L1; exact h i152 (spec_TreeOk_L1 p1 p0 k) (fun i152' hs => ih i152' (Nat.lt_of_lt_of_le hs (Nat.le_of_lt_succ hk)))

noncomputable def spec_TreeOk (p0 : Timpl_Schema) (p1 : Timpl_Tree) : Option (Bool) :=
  (spec_SchemaOk p0).bind fun y26 => (if (!y26) then some true else (spec_l1In (p1.Nodes_.length : Int) 1 31).bind fun y29 => some (!y29)).bind fun u28 => (if u28 then some true else (spec_l1In p1.Seen_ 0 99999).bind fun y34 => some (!y34)).bind fun u33 => if u33 then some false else spec_TreeOk_L1 p1 p0 Fuel 0


noncomputable def spec_Digits_J1 (s18 : List UInt8) (R1 : Int → (List UInt8) → Option (List UInt8)) (i17 : Int) (i25 : Int) : Option (List UInt8) :=
  (sadd (bytesOf ([IntKind.u8.wrap (IntKind.i64.wrap (48 + i25))] : List Int)) s18).bind fun s27 => R1 (IntKind.i64.wrap (Int.tdiv i17 10)) s27

noncomputable def spec_Digits_L1 (p0 : Int) : Nat → Int → (List UInt8) → Option (List UInt8)
  | 0, _, _ => none
  | k1 + 1, i17, s18 =>
    if (i17 != 0) then if decide ((Int.tmod i17 10) < 0) then spec_Digits_J1 s18 (spec_Digits_L1 p0 k1) i17 (IntKind.i64.wrap (0 - (Int.tmod i17 10))) else spec_Digits_J1 s18 (spec_Digits_L1 p0 k1) i17 (Int.tmod i17 10) else if decide (p0 < 0) then (sadd ([45] : List UInt8) s18).bind fun s29 => some s29 else some s18

theorem spec_Digits_L1_ind (p0 : Int) {P : Int → (List UInt8) → Option (List UInt8) → Prop} (μ : Int → (List UInt8) → Nat) (h : ∀ (i17 : Int) (s18 : List UInt8) (R : Int → (List UInt8) → Option (List UInt8)), (∀ i17' s18', μ i17' s18' < μ i17 s18 → P i17' s18' (R i17' s18')) → P i17 s18 (if (i17 != 0) then if decide ((Int.tmod i17 10) < 0) then spec_Digits_J1 s18 (R) i17 (IntKind.i64.wrap (0 - (Int.tmod i17 10))) else spec_Digits_J1 s18 (R) i17 (Int.tmod i17 10) else if decide (p0 < 0) then (sadd ([45] : List UInt8) s18).bind fun s29 => some s29 else some s18)) : ∀ k i17 s18, μ i17 s18 < k → P i17 s18 (spec_Digits_L1 p0 k i17 s18) := by
  intro k
  induction k with
  | zero => intro i17 s18 hk; exact absurd hk (Nat.not_lt_zero _)
  | succ k ih => intro i17 s18 hk; unfold spec_Digits_L1; exact h i17 s18 (spec_Digits_L1 p0 k) (fun i17' s18' hs => ih i17' s18' (Nat.lt_of_lt_of_le hs (Nat.le_of_lt_succ hk)))

noncomputable def spec_Digits (p0 : Int) : Option (List UInt8) :=
  if (p0 == 0) then some ([48] : List UInt8) else spec_Digits_L1 p0 Fuel p0 ([] : List UInt8)


noncomputable def spec_l5Join_J1 (p0 : List (List UInt8)) (i22 : Int) (R1 : (List UInt8) → Int → Option (List UInt8)) (s36 : List UInt8) : Option (List UInt8) :=
  (idx p0 i22).bind fun e37 => (sadd s36 e37).bind fun s39 => R1 s39 (IntKind.i64.wrap (i22 + 1))

noncomputable def spec_l5Join_L1 (p0 : List (List UInt8)) (p1 : List UInt8) : Nat → (List UInt8) → Int → Option (List UInt8)
  | 0, _, _ => none
  | k1 + 1, s21, i22 =>
    if decide (i22 < (p0.length : Int)) then if decide (i22 > 0) then (sadd s21 p1).bind fun s41 => spec_l5Join_J1 p0 i22 (spec_l5Join_L1 p0 p1 k1) s41 else spec_l5Join_J1 p0 i22 (spec_l5Join_L1 p0 p1 k1) s21 else some s21

theorem spec_l5Join_L1_ind (p0 : List (List UInt8)) (p1 : List UInt8) {P : (List UInt8) → Int → Option (List UInt8) → Prop} (μ : (List UInt8) → Int → Nat) (h : ∀ (s21 : List UInt8) (i22 : Int) (R : (List UInt8) → Int → Option (List UInt8)), (∀ s21' i22', μ s21' i22' < μ s21 i22 → P s21' i22' (R s21' i22')) → P s21 i22 (if decide (i22 < (p0.length : Int)) then if decide (i22 > 0) then (sadd s21 p1).bind fun s41 => spec_l5Join_J1 p0 i22 (R) s41 else spec_l5Join_J1 p0 i22 (R) s21 else some s21)) : ∀ k s21 i22, μ s21 i22 < k → P s21 i22 (spec_l5Join_L1 p0 p1 k s21 i22) := by
  intro k
  induction k with
  | zero => intro s21 i22 hk; exact absurd hk (Nat.not_lt_zero _)
  | succ k ih => intro s21 i22 hk; unfold spec_l5Join_L1; exact h s21 i22 (spec_l5Join_L1 p0 p1 k) (fun s21' i22' hs => ih s21' i22' (Nat.lt_of_lt_of_le hs (Nat.le_of_lt_succ hk)))

noncomputable def spec_l5Join (p0 : List (List UInt8)) (p1 : List UInt8) : Option (List UInt8) :=
  spec_l5Join_L1 p0 p1 Fuel ([] : List UInt8) 0


noncomputable def spec_TotalsText_L1 (p0 : List Int) : Nat → (List (List UInt8)) → Int → Option (List UInt8)
  | 0, _, _ => none
  | k1 + 1, l28, i33 =>
    if decide (i33 < (p0.length : Int)) then (idx p0 i33).bind fun e51 => (spec_Digits e51).bind fun y53 => (app l28 ([y53] : List (List UInt8))).bind fun l56 => (spec_TotalsText_L1 p0 k1) l56 (IntKind.i64.wrap (i33 + 1)) else (spec_l5Join l28 ([47] : List UInt8)).bind fun y62 => some y62

theorem spec_TotalsText_L1_ind (p0 : List Int) {P : (List (List UInt8)) → Int → Option (List UInt8) → Prop} (μ : (List (List UInt8)) → Int → Nat) (h : ∀ (l28 : List (List UInt8)) (i33 : Int) (R : (List (List UInt8)) → Int → Option (List UInt8)), (∀ l28' i33', μ l28' i33' < μ l28 i33 → P l28' i33' (R l28' i33')) → P l28 i33 (if decide (i33 < (p0.length : Int)) then (idx p0 i33).bind fun e51 => (spec_Digits e51).bind fun y53 => (app l28 ([y53] : List (List UInt8))).bind fun l56 => (R) l56 (IntKind.i64.wrap (i33 + 1)) else (spec_l5Join l28 ([47] : List UInt8)).bind fun y62 => some y62)) : ∀ k l28 i33, μ l28 i33 < k → P l28 i33 (spec_TotalsText_L1 p0 k l28 i33) := by
  intro k
  induction k with
  | zero => intro l28 i33 hk; exact absurd hk (Nat.not_lt_zero _)
  | succ k ih => intro l28 i33 hk; unfold spec_TotalsText_L1; exact h l28 i33 (spec_TotalsText_L1 p0 k) (fun l28' i33' hs => ih l28' i33' (Nat.lt_of_lt_of_le hs (Nat.le_of_lt_succ hk)))

noncomputable def spec_TotalsText (p0 : List Int) : Option (List UInt8) :=
  spec_TotalsText_L1 p0 Fuel ([] : List (List UInt8)) 0


noncomputable def spec_TopOf_L1 (p0 : List Int) : Nat → Int → Int → Option (Int)
  | 0, _, _ => none
  | k1 + 1, i19, i20 =>
    if decide (i20 < (p0.length : Int)) then (if decide (i19 < 0) then some true else (idx p0 i20).bind fun e31 => (idx p0 i19).bind fun e33 => some (decide (e31 > e33))).bind fun u30 => if u30 then (spec_TopOf_L1 p0 k1) i20 (IntKind.i64.wrap (i20 + 1)) else (spec_TopOf_L1 p0 k1) i19 (IntKind.i64.wrap (i20 + 1)) else some i19

theorem spec_TopOf_L1_ind (p0 : List Int) {P : Int → Int → Option (Int) → Prop} (μ : Int → Int → Nat) (h : ∀ (i19 : Int) (i20 : Int) (R : Int → Int → Option (Int)), (∀ i19' i20', μ i19' i20' < μ i19 i20 → P i19' i20' (R i19' i20')) → P i19 i20 (if decide (i20 < (p0.length : Int)) then (if decide (i19 < 0) then some true else (idx p0 i20).bind fun e31 => (idx p0 i19).bind fun e33 => some (decide (e31 > e33))).bind fun u30 => if u30 then (R) i20 (IntKind.i64.wrap (i20 + 1)) else (R) i19 (IntKind.i64.wrap (i20 + 1)) else some i19)) : ∀ k i19 i20, μ i19 i20 < k → P i19 i20 (spec_TopOf_L1 p0 k i19 i20) := by
  intro k
  induction k with
  | zero => intro i19 i20 hk; exact absurd hk (Nat.not_lt_zero _)
  | succ k ih => intro i19 i20 hk; unfold spec_TopOf_L1; exact h i19 i20 (spec_TopOf_L1 p0 k) (fun i19' i20' hs => ih i19' i20' (Nat.lt_of_lt_of_le hs (Nat.le_of_lt_succ hk)))

noncomputable def spec_TopOf (p0 : List Int) : Option (Int) :=
  spec_TopOf_L1 p0 Fuel (-1) 0


noncomputable def spec_ForkText (p0 : Timpl_Schema) (p1 : Timpl_Fork) : Option (List UInt8) :=
  (spec_ForkOk p0 p1).bind fun y20 => if (!y20) then some ([] : List UInt8) else (idx p0.Attrs_ p1.Attr_).bind fun e22 => if (p1.At_ == (-1)) then (sadd e22.Name_ ([42] : List UInt8)).bind fun s39 => some s39 else if decide ((e22.Cuts_.length : Int) > 0) then (sadd e22.Name_ ([60, 61] : List UInt8)).bind fun s41 => (idx e22.Cuts_ p1.At_).bind fun e43 => (spec_Digits e43).bind fun y45 => (sadd s41 y45).bind fun s47 => some s47 else (sadd e22.Name_ ([61] : List UInt8)).bind fun s49 => (idx e22.Values_ p1.At_).bind fun e51 => (sadd s49 e51).bind fun s53 => some s53


noncomputable def spec_NodeText_J1 (p1 : Timpl_Node) (p0 : Timpl_Schema) (s54 : List UInt8) : Option (List UInt8) :=
  (sadd s54 ([32] : List UInt8)).bind fun s55 => (spec_TotalsText p1.Stats_.Totals_).bind fun y57 => (sadd s55 y57).bind fun s59 => (sadd s59 ([32] : List UInt8)).bind fun s61 => (spec_TopOf p1.Stats_.Totals_).bind fun y63 => (idx p0.Classes_ y63).bind fun e65 => (sadd s61 e65).bind fun s67 => (sadd s67 ([32, 115, 105, 110, 99, 101, 32] : List UInt8)).bind fun s69 => (spec_Digits p1.Since_).bind fun y71 => (sadd s69 y71).bind fun s73 => some s73

noncomputable def spec_NodeText_L1 (p1 : Timpl_Node) : Nat → (List UInt8) → Int → Option (List UInt8)
  | 0, _, _ => none
  | k1 + 1, s95, i96 =>
    if decide (i96 < (p1.Kids_.length : Int)) then (sadd s95 ([32] : List UInt8)).bind fun s107 => (idx p1.Kids_ i96).bind fun e109 => (spec_Digits e109).bind fun y111 => (sadd s107 y111).bind fun s113 => (spec_NodeText_L1 p1 k1) s113 (IntKind.i64.wrap (i96 + 1)) else some s95

theorem spec_NodeText_L1_ind (p1 : Timpl_Node) {P : (List UInt8) → Int → Option (List UInt8) → Prop} (μ : (List UInt8) → Int → Nat) (h : ∀ (s95 : List UInt8) (i96 : Int) (R : (List UInt8) → Int → Option (List UInt8)), (∀ s95' i96', μ s95' i96' < μ s95 i96 → P s95' i96' (R s95' i96')) → P s95 i96 (if decide (i96 < (p1.Kids_.length : Int)) then (sadd s95 ([32] : List UInt8)).bind fun s107 => (idx p1.Kids_ i96).bind fun e109 => (spec_Digits e109).bind fun y111 => (sadd s107 y111).bind fun s113 => (R) s113 (IntKind.i64.wrap (i96 + 1)) else some s95)) : ∀ k s95 i96, μ s95 i96 < k → P s95 i96 (spec_NodeText_L1 p1 k s95 i96) := by
  intro k
  induction k with
  | zero => intro s95 i96 hk; exact absurd hk (Nat.not_lt_zero _)
  | succ k ih => intro s95 i96 hk; unfold spec_NodeText_L1; exact h s95 i96 (spec_NodeText_L1 p1 k) (fun s95' i96' hs => ih s95' i96' (Nat.lt_of_lt_of_le hs (Nat.le_of_lt_succ hk)))

noncomputable def spec_NodeText (p0 : Timpl_Schema) (p1 : Timpl_Node) : Option (List UInt8) :=
  if p1.Leaf_ then (spec_StatsOk p0 p1.Stats_).bind fun y52 => if (!y52) then some ([] : List UInt8) else if ((p1.Stats_.Cells_.length : Int) == 0) then spec_NodeText_J1 p1 p0 ([116, 104, 105, 110] : List UInt8) else spec_NodeText_J1 p1 p0 ([108, 101, 97, 102] : List UInt8) else (spec_ForkOk p0 p1.Fork_).bind fun y75 => if (!y75) then some ([] : List UInt8) else (spec_ForkText p0 p1.Fork_).bind fun y77 => (sadd y77 ([32, 109, 105, 115, 115, 32] : List UInt8)).bind fun s79 => (spec_Digits p1.Miss_).bind fun y81 => (sadd s79 y81).bind fun s83 => spec_NodeText_L1 p1 Fuel s83 0


noncomputable def spec_TreeText_L2 (p1 : Timpl_Tree) (i207 : Int) (p0 : Timpl_Schema) (R1 : (List UInt8) → Int → Option (List UInt8)) : Nat → (List UInt8) → Int → Option (List UInt8)
  | 0, _, _ => none
  | k2 + 1, s428, i429 =>
    (idx p1.Nodes_ i207).bind fun e472 => if decide (i429 < e472.Depth_) then (sadd s428 ([32, 32] : List UInt8)).bind fun s510 => (spec_TreeText_L2 p1 i207 p0 R1 k2) s510 (IntKind.i64.wrap (i429 + 1)) else (spec_Digits i207).bind fun y512 => (sadd s428 y512).bind fun s514 => (sadd s514 ([58, 32] : List UInt8)).bind fun s516 => (idx p1.Nodes_ i207).bind fun e518 => (spec_NodeText p0 e518).bind fun y556 => (sadd s516 y556).bind fun s558 => (sadd s558 ([10] : List UInt8)).bind fun s560 => R1 s560 (IntKind.i64.wrap (i207 + 1))

theorem spec_TreeText_L2_ind (p1 : Timpl_Tree) (i207 : Int) (p0 : Timpl_Schema) (R1 : (List UInt8) → Int → Option (List UInt8)) {P : (List UInt8) → Int → Option (List UInt8) → Prop} (μ : (List UInt8) → Int → Nat) (h : ∀ (s428 : List UInt8) (i429 : Int) (R : (List UInt8) → Int → Option (List UInt8)), (∀ s428' i429', μ s428' i429' < μ s428 i429 → P s428' i429' (R s428' i429')) → P s428 i429 ((idx p1.Nodes_ i207).bind fun e472 => if decide (i429 < e472.Depth_) then (sadd s428 ([32, 32] : List UInt8)).bind fun s510 => (R) s510 (IntKind.i64.wrap (i429 + 1)) else (spec_Digits i207).bind fun y512 => (sadd s428 y512).bind fun s514 => (sadd s514 ([58, 32] : List UInt8)).bind fun s516 => (idx p1.Nodes_ i207).bind fun e518 => (spec_NodeText p0 e518).bind fun y556 => (sadd s516 y556).bind fun s558 => (sadd s558 ([10] : List UInt8)).bind fun s560 => R1 s560 (IntKind.i64.wrap (i207 + 1)))) : ∀ k s428 i429, μ s428 i429 < k → P s428 i429 (spec_TreeText_L2 p1 i207 p0 R1 k s428 i429) := by
  intro k
  induction k with
  | zero => intro s428 i429 hk; exact absurd hk (Nat.not_lt_zero _)
  | succ k ih => intro s428 i429 hk; unfold spec_TreeText_L2; exact h s428 i429 (spec_TreeText_L2 p1 i207 p0 R1 k) (fun s428' i429' hs => ih s428' i429' (Nat.lt_of_lt_of_le hs (Nat.le_of_lt_succ hk)))

noncomputable def spec_TreeText_L1 (p1 : Timpl_Tree) (p0 : Timpl_Schema) : Nat → (List UInt8) → Int → Option (List UInt8)
  | 0, _, _ => none
  | k1 + 1, s206, i207 =>
    if decide (i207 < (p1.Nodes_.length : Int)) then spec_TreeText_L2 p1 i207 p0 (spec_TreeText_L1 p1 p0 k1) Fuel s206 0 else some s206

theorem spec_TreeText_L1_ind (p1 : Timpl_Tree) (p0 : Timpl_Schema) {P : (List UInt8) → Int → Option (List UInt8) → Prop} (μ : (List UInt8) → Int → Nat) (h : ∀ (s206 : List UInt8) (i207 : Int) (R : (List UInt8) → Int → Option (List UInt8)), (∀ s206' i207', μ s206' i207' < μ s206 i207 → P s206' i207' (R s206' i207')) → P s206 i207 (if decide (i207 < (p1.Nodes_.length : Int)) then spec_TreeText_L2 p1 i207 p0 (R) Fuel s206 0 else some s206)) : ∀ k s206 i207, μ s206 i207 < k → P s206 i207 (spec_TreeText_L1 p1 p0 k s206 i207) := by
  intro k
  induction k with
  | zero => intro s206 i207 hk; exact absurd hk (Nat.not_lt_zero _)
  | succ k ih => intro s206 i207 hk; unfold spec_TreeText_L1; exact h s206 i207 (spec_TreeText_L1 p1 p0 k) (fun s206' i207' hs => ih s206' i207' (Nat.lt_of_lt_of_le hs (Nat.le_of_lt_succ hk)))

noncomputable def spec_TreeText (p0 : Timpl_Schema) (p1 : Timpl_Tree) : Option (List UInt8) :=
  (spec_TreeOk p0 p1).bind fun y26 => if (!y26) then some ([] : List UInt8) else spec_TreeText_L1 p1 p0 Fuel ([] : List UInt8) 0


noncomputable def impl_within (p0 : Int) (p1 : Int) (p2 : Int) : Option (Bool) :=
  some ((decide (p0 ≥ p1)) && (decide (p0 ≤ p2)))


noncomputable def impl_WordOk_L1 (p0 : List UInt8) : Nat → Int → Option (Bool)
  | 0, _ => none
  | k1 + 1, i20 =>
    if decide (i20 < (p0.length : Int)) then (idx p0 i20).bind fun b29 => (if decide ((b29.toNat : Int) < 97) then some true else (idx p0 i20).bind fun b32 => some (decide ((b32.toNat : Int) > 122))).bind fun u31 => if u31 then some false else (impl_WordOk_L1 p0 k1) (IntKind.i64.wrap (i20 + 1)) else some true

theorem impl_WordOk_L1_ind (p0 : List UInt8) {P : Int → Option (Bool) → Prop} (μ : Int → Nat) (h : ∀ (i20 : Int) (R : Int → Option (Bool)), (∀ i20', μ i20' < μ i20 → P i20' (R i20')) → P i20 (if decide (i20 < (p0.length : Int)) then (idx p0 i20).bind fun b29 => (if decide ((b29.toNat : Int) < 97) then some true else (idx p0 i20).bind fun b32 => some (decide ((b32.toNat : Int) > 122))).bind fun u31 => if u31 then some false else (R) (IntKind.i64.wrap (i20 + 1)) else some true)) : ∀ k i20, μ i20 < k → P i20 (impl_WordOk_L1 p0 k i20) := by
  intro k
  induction k with
  | zero => intro i20 hk; exact absurd hk (Nat.not_lt_zero _)
  | succ k ih => intro i20 hk; unfold impl_WordOk_L1; exact h i20 (impl_WordOk_L1 p0 k) (fun i20' hs => ih i20' (Nat.lt_of_lt_of_le hs (Nat.le_of_lt_succ hk)))

noncomputable def impl_WordOk (p0 : List UInt8) : Option (Bool) :=
  (impl_within (p0.length : Int) 1 8).bind fun y10 => if (!y10) then some false else impl_WordOk_L1 p0 Fuel 0


noncomputable def lib_slices_Index___string_string__L1 (p0 : List (List UInt8)) (p1 : List UInt8) : Nat → Int → Option (Int)
  | 0, _ => none
  | k1 + 1, i13 =>
    if decide (i13 < (p0.length : Int)) then (idx p0 i13).bind fun e18 => if (p1 == e18) then some i13 else (lib_slices_Index___string_string__L1 p0 p1 k1) (IntKind.i64.wrap (i13 + 1)) else some (-1)

theorem lib_slices_Index___string_string__L1_ind (p0 : List (List UInt8)) (p1 : List UInt8) {P : Int → Option (Int) → Prop} (μ : Int → Nat) (h : ∀ (i13 : Int) (R : Int → Option (Int)), (∀ i13', μ i13' < μ i13 → P i13' (R i13')) → P i13 (if decide (i13 < (p0.length : Int)) then (idx p0 i13).bind fun e18 => if (p1 == e18) then some i13 else (R) (IntKind.i64.wrap (i13 + 1)) else some (-1))) : ∀ k i13, μ i13 < k → P i13 (lib_slices_Index___string_string__L1 p0 p1 k i13) := by
  intro k
  induction k with
  | zero => intro i13 hk; exact absurd hk (Nat.not_lt_zero _)
  | succ k ih => intro i13 hk; unfold lib_slices_Index___string_string__L1; exact h i13 (lib_slices_Index___string_string__L1 p0 p1 k) (fun i13' hs => ih i13' (Nat.lt_of_lt_of_le hs (Nat.le_of_lt_succ hk)))

noncomputable def lib_slices_Index___string_string_ (p0 : List (List UInt8)) (p1 : List UInt8) : Option (Int) :=
  lib_slices_Index___string_string__L1 p0 p1 Fuel 0


noncomputable def lib_slices_Contains___string_string_ (p0 : List (List UInt8)) (p1 : List UInt8) : Option (Bool) :=
  (lib_slices_Index___string_string_ p0 p1).bind fun y10 => some (decide (y10 ≥ 0))


noncomputable def impl_distinctWords_L1 (p0 : List (List UInt8)) : Nat → Int → Option (Bool)
  | 0, _ => none
  | k1 + 1, i26 =>
    if decide (i26 < (p0.length : Int)) then (idx p0 i26).bind fun e43 => (impl_WordOk e43).bind fun y45 => (if (!y45) then some true else (sub p0 0 i26).bind fun l48 => (lib_slices_Contains___string_string_ l48 e43).bind fun y54 => some y54).bind fun u47 => if u47 then some false else (impl_distinctWords_L1 p0 k1) (IntKind.i64.wrap (i26 + 1)) else some true

theorem impl_distinctWords_L1_ind (p0 : List (List UInt8)) {P : Int → Option (Bool) → Prop} (μ : Int → Nat) (h : ∀ (i26 : Int) (R : Int → Option (Bool)), (∀ i26', μ i26' < μ i26 → P i26' (R i26')) → P i26 (if decide (i26 < (p0.length : Int)) then (idx p0 i26).bind fun e43 => (impl_WordOk e43).bind fun y45 => (if (!y45) then some true else (sub p0 0 i26).bind fun l48 => (lib_slices_Contains___string_string_ l48 e43).bind fun y54 => some y54).bind fun u47 => if u47 then some false else (R) (IntKind.i64.wrap (i26 + 1)) else some true)) : ∀ k i26, μ i26 < k → P i26 (impl_distinctWords_L1 p0 k i26) := by
  intro k
  induction k with
  | zero => intro i26 hk; exact absurd hk (Nat.not_lt_zero _)
  | succ k ih => intro i26 hk; unfold impl_distinctWords_L1; exact h i26 (impl_distinctWords_L1 p0 k) (fun i26' hs => ih i26' (Nat.lt_of_lt_of_le hs (Nat.le_of_lt_succ hk)))

noncomputable def impl_distinctWords (p0 : List (List UInt8)) : Option (Bool) :=
  impl_distinctWords_L1 p0 Fuel 0


noncomputable def impl_ascending_L1 (p0 : List Int) : Nat → Int → Option (Bool)
  | 0, _ => none
  | k1 + 1, i15 =>
    if decide (i15 < (p0.length : Int)) then (idx p0 i15).bind fun e21 => (idx p0 (IntKind.i64.wrap (i15 - 1))).bind fun e23 => if decide (e21 ≤ e23) then some false else (impl_ascending_L1 p0 k1) (IntKind.i64.wrap (i15 + 1)) else some true

theorem impl_ascending_L1_ind (p0 : List Int) {P : Int → Option (Bool) → Prop} (μ : Int → Nat) (h : ∀ (i15 : Int) (R : Int → Option (Bool)), (∀ i15', μ i15' < μ i15 → P i15' (R i15')) → P i15 (if decide (i15 < (p0.length : Int)) then (idx p0 i15).bind fun e21 => (idx p0 (IntKind.i64.wrap (i15 - 1))).bind fun e23 => if decide (e21 ≤ e23) then some false else (R) (IntKind.i64.wrap (i15 + 1)) else some true)) : ∀ k i15, μ i15 < k → P i15 (impl_ascending_L1 p0 k i15) := by
  intro k
  induction k with
  | zero => intro i15 hk; exact absurd hk (Nat.not_lt_zero _)
  | succ k ih => intro i15 hk; unfold impl_ascending_L1; exact h i15 (impl_ascending_L1 p0 k) (fun i15' hs => ih i15' (Nat.lt_of_lt_of_le hs (Nat.le_of_lt_succ hk)))

noncomputable def impl_ascending (p0 : List Int) : Option (Bool) :=
  impl_ascending_L1 p0 Fuel 1


noncomputable def impl_isCut (p0 : Int) : Option (Bool) :=
  (impl_within p0 (-9999) 9998).bind fun y10 => some y10


noncomputable def impl_CutsOk_1 (p0 : Int) : Option (Bool) :=
  (impl_isCut p0).bind fun y10 => some (!y10)


noncomputable def lib_slices_IndexFunc___int_int___impl_CutsOk_1_L1 (p0 : List Int) : Nat → Int → Option (Int)
  | 0, _ => none
  | k1 + 1, i15 =>
    if decide (i15 < (p0.length : Int)) then (idx p0 i15).bind fun e21 => (impl_CutsOk_1 e21).bind fun y23 => if y23 then some i15 else (lib_slices_IndexFunc___int_int___impl_CutsOk_1_L1 p0 k1) (IntKind.i64.wrap (i15 + 1)) else some (-1)

theorem lib_slices_IndexFunc___int_int___impl_CutsOk_1_L1_ind (p0 : List Int) {P : Int → Option (Int) → Prop} (μ : Int → Nat) (h : ∀ (i15 : Int) (R : Int → Option (Int)), (∀ i15', μ i15' < μ i15 → P i15' (R i15')) → P i15 (if decide (i15 < (p0.length : Int)) then (idx p0 i15).bind fun e21 => (impl_CutsOk_1 e21).bind fun y23 => if y23 then some i15 else (R) (IntKind.i64.wrap (i15 + 1)) else some (-1))) : ∀ k i15, μ i15 < k → P i15 (lib_slices_IndexFunc___int_int___impl_CutsOk_1_L1 p0 k i15) := by
  intro k
  induction k with
  | zero => intro i15 hk; exact absurd hk (Nat.not_lt_zero _)
  | succ k ih => intro i15 hk; unfold lib_slices_IndexFunc___int_int___impl_CutsOk_1_L1; exact h i15 (lib_slices_IndexFunc___int_int___impl_CutsOk_1_L1 p0 k) (fun i15' hs => ih i15' (Nat.lt_of_lt_of_le hs (Nat.le_of_lt_succ hk)))

noncomputable def lib_slices_IndexFunc___int_int___impl_CutsOk_1 (p0 : List Int) : Option (Int) :=
  lib_slices_IndexFunc___int_int___impl_CutsOk_1_L1 p0 Fuel 0


noncomputable def lib_slices_ContainsFunc___int_int___impl_CutsOk_1 (p0 : List Int) : Option (Bool) :=
  (lib_slices_IndexFunc___int_int___impl_CutsOk_1 p0).bind fun y10 => some (decide (y10 ≥ 0))


noncomputable def impl_CutsOk (p0 : List Int) : Option (Bool) :=
  (impl_within (p0.length : Int) 1 3).bind fun y10 => (if y10 then (impl_ascending p0).bind fun y13 => some y13 else some false).bind fun u12 => (if u12 then (lib_slices_ContainsFunc___int_int___impl_CutsOk_1 p0).bind fun y18 => some (!y18) else some false).bind fun u17 => some u17


noncomputable def impl_AttrOk (p0 : Timpl_Attr) : Option (Bool) :=
  (impl_WordOk p0.Name_).bind fun y21 => if (!y21) then some false else if ((p0.Cuts_.length : Int) == 0) then (impl_within (p0.Values_.length : Int) 2 4).bind fun y23 => (if y23 then (impl_distinctWords p0.Values_).bind fun y26 => some y26 else some false).bind fun u25 => some u25 else (if ((p0.Values_.length : Int) == 0) then (impl_CutsOk p0.Cuts_).bind fun y31 => some y31 else some false).bind fun u30 => some u30


noncomputable def impl_SchemaOk_L1 (p0 : Timpl_Schema) : Nat → Int → (List (List UInt8)) → Option (Bool)
  | 0, _, _ => none
  | k1 + 1, i65, l66 =>
    if decide (i65 < (p0.Attrs_.length : Int)) then (idx p0.Attrs_ i65).bind fun e103 => (impl_AttrOk e103).bind fun y120 => if (!y120) then some false else (app l66 ([e103.Name_] : List (List UInt8))).bind fun l123 => (impl_SchemaOk_L1 p0 k1) (IntKind.i64.wrap (i65 + 1)) l123 else (impl_distinctWords l66).bind fun y129 => some y129

theorem impl_SchemaOk_L1_ind (p0 : Timpl_Schema) {P : Int → (List (List UInt8)) → Option (Bool) → Prop} (μ : Int → (List (List UInt8)) → Nat) (h : ∀ (i65 : Int) (l66 : List (List UInt8)) (R : Int → (List (List UInt8)) → Option (Bool)), (∀ i65' l66', μ i65' l66' < μ i65 l66 → P i65' l66' (R i65' l66')) → P i65 l66 (if decide (i65 < (p0.Attrs_.length : Int)) then (idx p0.Attrs_ i65).bind fun e103 => (impl_AttrOk e103).bind fun y120 => if (!y120) then some false else (app l66 ([e103.Name_] : List (List UInt8))).bind fun l123 => (R) (IntKind.i64.wrap (i65 + 1)) l123 else (impl_distinctWords l66).bind fun y129 => some y129)) : ∀ k i65 l66, μ i65 l66 < k → P i65 l66 (impl_SchemaOk_L1 p0 k i65 l66) := by
  intro k
  induction k with
  | zero => intro i65 l66 hk; exact absurd hk (Nat.not_lt_zero _)
  | succ k ih => intro i65 l66 hk; unfold impl_SchemaOk_L1; exact h i65 l66 (impl_SchemaOk_L1 p0 k) (fun i65' l66' hs => ih i65' l66' (Nat.lt_of_lt_of_le hs (Nat.le_of_lt_succ hk)))

noncomputable def impl_SchemaOk (p0 : Timpl_Schema) : Option (Bool) :=
  (impl_within (p0.Attrs_.length : Int) 1 5).bind fun y19 => (if (!y19) then some true else (impl_within (p0.Classes_.length : Int) 2 3).bind fun y22 => some (!y22)).bind fun u21 => (if u21 then some true else (impl_distinctWords p0.Classes_).bind fun y27 => some (!y27)).bind fun u26 => if u26 then some false else impl_SchemaOk_L1 p0 Fuel 0 ([] : List (List UInt8))


noncomputable def impl_weights_1 (p0 : Int) : Option (Bool) :=
  (impl_within p0 0 999).bind fun y10 => some (!y10)


noncomputable def lib_slices_IndexFunc___int_int___impl_weights_1_L1 (p0 : List Int) : Nat → Int → Option (Int)
  | 0, _ => none
  | k1 + 1, i15 =>
    if decide (i15 < (p0.length : Int)) then (idx p0 i15).bind fun e21 => (impl_weights_1 e21).bind fun y23 => if y23 then some i15 else (lib_slices_IndexFunc___int_int___impl_weights_1_L1 p0 k1) (IntKind.i64.wrap (i15 + 1)) else some (-1)

theorem lib_slices_IndexFunc___int_int___impl_weights_1_L1_ind (p0 : List Int) {P : Int → Option (Int) → Prop} (μ : Int → Nat) (h : ∀ (i15 : Int) (R : Int → Option (Int)), (∀ i15', μ i15' < μ i15 → P i15' (R i15')) → P i15 (if decide (i15 < (p0.length : Int)) then (idx p0 i15).bind fun e21 => (impl_weights_1 e21).bind fun y23 => if y23 then some i15 else (R) (IntKind.i64.wrap (i15 + 1)) else some (-1))) : ∀ k i15, μ i15 < k → P i15 (lib_slices_IndexFunc___int_int___impl_weights_1_L1 p0 k i15) := by
  intro k
  induction k with
  | zero => intro i15 hk; exact absurd hk (Nat.not_lt_zero _)
  | succ k ih => intro i15 hk; unfold lib_slices_IndexFunc___int_int___impl_weights_1_L1; exact h i15 (lib_slices_IndexFunc___int_int___impl_weights_1_L1 p0 k) (fun i15' hs => ih i15' (Nat.lt_of_lt_of_le hs (Nat.le_of_lt_succ hk)))

noncomputable def lib_slices_IndexFunc___int_int___impl_weights_1 (p0 : List Int) : Option (Int) :=
  lib_slices_IndexFunc___int_int___impl_weights_1_L1 p0 Fuel 0


noncomputable def lib_slices_ContainsFunc___int_int___impl_weights_1 (p0 : List Int) : Option (Bool) :=
  (lib_slices_IndexFunc___int_int___impl_weights_1 p0).bind fun y10 => some (decide (y10 ≥ 0))


noncomputable def impl_weights (p0 : List Int) (p1 : Int) : Option (Bool) :=
  (if ((p0.length : Int) == p1) then (lib_slices_ContainsFunc___int_int___impl_weights_1 p0).bind fun y11 => some (!y11) else some false).bind fun u10 => some u10


noncomputable def impl_total_L1 (p0 : List Int) : Nat → Int → Int → Option (Int)
  | 0, _, _ => none
  | k1 + 1, i14, i15 =>
    if decide (i15 < (p0.length : Int)) then (idx p0 i15).bind fun e20 => (impl_total_L1 p0 k1) (IntKind.i64.wrap (i14 + e20)) (IntKind.i64.wrap (i15 + 1)) else some i14

theorem impl_total_L1_ind (p0 : List Int) {P : Int → Int → Option (Int) → Prop} (μ : Int → Int → Nat) (h : ∀ (i14 : Int) (i15 : Int) (R : Int → Int → Option (Int)), (∀ i14' i15', μ i14' i15' < μ i14 i15 → P i14' i15' (R i14' i15')) → P i14 i15 (if decide (i15 < (p0.length : Int)) then (idx p0 i15).bind fun e20 => (R) (IntKind.i64.wrap (i14 + e20)) (IntKind.i64.wrap (i15 + 1)) else some i14)) : ∀ k i14 i15, μ i14 i15 < k → P i14 i15 (impl_total_L1 p0 k i14 i15) := by
  intro k
  induction k with
  | zero => intro i14 i15 hk; exact absurd hk (Nat.not_lt_zero _)
  | succ k ih => intro i14 i15 hk; unfold impl_total_L1; exact h i14 i15 (impl_total_L1 p0 k) (fun i14' i15' hs => ih i14' i15' (Nat.lt_of_lt_of_le hs (Nat.le_of_lt_succ hk)))

noncomputable def impl_total (p0 : List Int) : Option (Int) :=
  impl_total_L1 p0 Fuel 0 0


noncomputable def impl_bins (p0 : Timpl_Attr) : Option (Int) :=
  if decide ((p0.Cuts_.length : Int) > 0) then some (IntKind.i64.wrap ((p0.Cuts_.length : Int) + 1)) else some (p0.Values_.length : Int)


noncomputable def impl_zeros (p0 : Int) : Option (List Int) :=
  (mk (0 : Int) p0).bind fun l10 => some l10


noncomputable def impl_StatsOk_L2 (e225 : List Int) (p0 : Timpl_Schema) (p1 : Timpl_Stats) (R1 : Int → Option (Bool)) (i132 : Int) : Nat → Int → (List Int) → Option (Bool)
  | 0, _, _ => none
  | k2 + 1, i280, l281 =>
    if decide (i280 < (e225.length : Int)) then (idx e225 i280).bind fun e300 => (rem i280 (p0.Classes_.length : Int)).bind fun x302 => (idx l281 x302).bind fun e304 => (idx l281 x302).bind fun _ => (rem i280 (p0.Classes_.length : Int)).bind fun x308 => (idx (l281.set x302.toNat (IntKind.i64.wrap (e304 + e300))) x308).bind fun e310 => (rem i280 (p0.Classes_.length : Int)).bind fun x312 => (idx p1.Totals_ x312).bind fun e314 => if decide (e310 > e314) then some false else (impl_StatsOk_L2 e225 p0 p1 R1 i132 k2) (IntKind.i64.wrap (i280 + 1)) (l281.set x302.toNat (IntKind.i64.wrap (e304 + e300))) else R1 (IntKind.i64.wrap (i132 + 1))

theorem impl_StatsOk_L2_ind (e225 : List Int) (p0 : Timpl_Schema) (p1 : Timpl_Stats) (R1 : Int → Option (Bool)) (i132 : Int) {P : Int → (List Int) → Option (Bool) → Prop} (μ : Int → (List Int) → Nat) (h : ∀ (i280 : Int) (l281 : List Int) (R : Int → (List Int) → Option (Bool)), (∀ i280' l281', μ i280' l281' < μ i280 l281 → P i280' l281' (R i280' l281')) → P i280 l281 (if decide (i280 < (e225.length : Int)) then (idx e225 i280).bind fun e300 => (rem i280 (p0.Classes_.length : Int)).bind fun x302 => (idx l281 x302).bind fun e304 => (idx l281 x302).bind fun _ => (rem i280 (p0.Classes_.length : Int)).bind fun x308 => (idx (l281.set x302.toNat (IntKind.i64.wrap (e304 + e300))) x308).bind fun e310 => (rem i280 (p0.Classes_.length : Int)).bind fun x312 => (idx p1.Totals_ x312).bind fun e314 => if decide (e310 > e314) then some false else (R) (IntKind.i64.wrap (i280 + 1)) (l281.set x302.toNat (IntKind.i64.wrap (e304 + e300))) else R1 (IntKind.i64.wrap (i132 + 1)))) : ∀ k i280 l281, μ i280 l281 < k → P i280 l281 (impl_StatsOk_L2 e225 p0 p1 R1 i132 k i280 l281) := by
  intro k
  induction k with
  | zero => intro i280 l281 hk; exact absurd hk (Nat.not_lt_zero _)
  | succ k ih => intro i280 l281 hk; unfold impl_StatsOk_L2; exact h i280 l281 (impl_StatsOk_L2 e225 p0 p1 R1 i132 k) (fun i280' l281' hs => ih i280' l281' (Nat.lt_of_lt_of_le hs (Nat.le_of_lt_succ hk)))

noncomputable def impl_StatsOk_L1 (p1 : Timpl_Stats) (p0 : Timpl_Schema) : Nat → Int → Option (Bool)
  | 0, _ => none
  | k1 + 1, i132 =>
    if decide (i132 < (p1.Cells_.length : Int)) then (idx p1.Cells_ i132).bind fun e225 => (idx p0.Attrs_ i132).bind fun e233 => (impl_bins e233).bind fun y249 => (impl_weights e225 (IntKind.i64.wrap (y249 * (p0.Classes_.length : Int)))).bind fun y251 => if (!y251) then some false else (impl_zeros (p0.Classes_.length : Int)).bind fun y253 => impl_StatsOk_L2 e225 p0 p1 (impl_StatsOk_L1 p1 p0 k1) i132 Fuel 0 y253 else some true

theorem impl_StatsOk_L1_ind (p1 : Timpl_Stats) (p0 : Timpl_Schema) {P : Int → Option (Bool) → Prop} (μ : Int → Nat) (h : ∀ (i132 : Int) (R : Int → Option (Bool)), (∀ i132', μ i132' < μ i132 → P i132' (R i132')) → P i132 (if decide (i132 < (p1.Cells_.length : Int)) then (idx p1.Cells_ i132).bind fun e225 => (idx p0.Attrs_ i132).bind fun e233 => (impl_bins e233).bind fun y249 => (impl_weights e225 (IntKind.i64.wrap (y249 * (p0.Classes_.length : Int)))).bind fun y251 => if (!y251) then some false else (impl_zeros (p0.Classes_.length : Int)).bind fun y253 => impl_StatsOk_L2 e225 p0 p1 (R) i132 Fuel 0 y253 else some true)) : ∀ k i132, μ i132 < k → P i132 (impl_StatsOk_L1 p1 p0 k i132) := by
  intro k
  induction k with
  | zero => intro i132 hk; exact absurd hk (Nat.not_lt_zero _)
  | succ k ih => intro i132 hk; unfold impl_StatsOk_L1; exact h i132 (impl_StatsOk_L1 p1 p0 k) (fun i132' hs => ih i132' (Nat.lt_of_lt_of_le hs (Nat.le_of_lt_succ hk)))

noncomputable def impl_StatsOk (p0 : Timpl_Schema) (p1 : Timpl_Stats) : Option (Bool) :=
  (impl_SchemaOk p0).bind fun y28 => (if (!y28) then some true else (impl_weights p1.Totals_ (p0.Classes_.length : Int)).bind fun y31 => some (!y31)).bind fun u30 => (if u30 then some true else (impl_total p1.Totals_).bind fun y36 => some (decide (y36 > 999))).bind fun u35 => if u35 then some false else if ((p1.Cells_.length : Int) == 0) then some true else if ((p1.Cells_.length : Int) != (p0.Attrs_.length : Int)) then some false else impl_StatsOk_L1 p1 p0 Fuel 0


noncomputable def impl_AttrsOk (p0 : Timpl_Schema) (p1 : List Int) : Option (Bool) :=
  (impl_SchemaOk p0).bind fun y19 => (if (y19 && (decide ((p1.length : Int) > 0))) then (impl_ascending p1).bind fun y24 => some y24 else some false).bind fun u23 => (if u23 then (idx p1 0).bind fun e29 => some (decide (e29 ≥ 0)) else some false).bind fun u28 => (if u28 then (idx p1 (IntKind.i64.wrap ((p1.length : Int) - 1))).bind fun e34 => some (decide (e34 < (p0.Attrs_.length : Int))) else some false).bind fun u33 => some u33


noncomputable def impl_ForkOk (p0 : Timpl_Schema) (p1 : Timpl_Fork) : Option (Bool) :=
  (impl_SchemaOk p0).bind fun y20 => (if (!y20) then some true else (impl_within p1.Attr_ 0 (IntKind.i64.wrap ((p0.Attrs_.length : Int) - 1))).bind fun y23 => some (!y23)).bind fun u22 => if u22 then some false else (idx p0.Attrs_ p1.Attr_).bind fun e27 => (impl_bins e27).bind fun y44 => if decide ((e27.Cuts_.length : Int) > 0) then (impl_within p1.At_ (-1) (IntKind.i64.wrap ((IntKind.i64.wrap (y44 - 1)) - 1))).bind fun y46 => some y46 else (impl_within p1.At_ (-1) (IntKind.i64.wrap (y44 - 1))).bind fun y48 => some y48


noncomputable def impl_Branches (p0 : Timpl_Schema) (p1 : Timpl_Fork) : Option (Int) :=
  (impl_ForkOk p0 p1).bind fun y20 => if (!y20) then some 0 else if (p1.At_ == (-1)) then (idx p0.Attrs_ p1.Attr_).bind fun e22 => (impl_bins e22).bind fun y38 => some y38 else some 2


noncomputable def impl_nodeOk_1 (p0 : Int) (p1 : Int) (p2 : Timpl_Tree) : Option (Bool) :=
  (impl_within p0 (IntKind.i64.wrap (p1 + 1)) (IntKind.i64.wrap ((p2.Nodes_.length : Int) - 1))).bind fun y16 => (if (!y16) then some true else (idx p2.Nodes_ p0).bind fun e19 => some (e19.Up_ != p1)).bind fun u18 => some u18


noncomputable def lib_slices_IndexFunc___int_int___impl_nodeOk_1_L1 (p0 : List Int) (p1_0 : Int) (p1_1 : Timpl_Tree) : Nat → Int → Option (Int)
  | 0, _ => none
  | k1 + 1, i21 =>
    if decide (i21 < (p0.length : Int)) then (idx p0 i21).bind fun e27 => (impl_nodeOk_1 e27 p1_0 p1_1).bind fun y29 => if y29 then some i21 else (lib_slices_IndexFunc___int_int___impl_nodeOk_1_L1 p0 p1_0 p1_1 k1) (IntKind.i64.wrap (i21 + 1)) else some (-1)

theorem lib_slices_IndexFunc___int_int___impl_nodeOk_1_L1_ind (p0 : List Int) (p1_0 : Int) (p1_1 : Timpl_Tree) {P : Int → Option (Int) → Prop} (μ : Int → Nat) (h : ∀ (i21 : Int) (R : Int → Option (Int)), (∀ i21', μ i21' < μ i21 → P i21' (R i21')) → P i21 (if decide (i21 < (p0.length : Int)) then (idx p0 i21).bind fun e27 => (impl_nodeOk_1 e27 p1_0 p1_1).bind fun y29 => if y29 then some i21 else (R) (IntKind.i64.wrap (i21 + 1)) else some (-1))) : ∀ k i21, μ i21 < k → P i21 (lib_slices_IndexFunc___int_int___impl_nodeOk_1_L1 p0 p1_0 p1_1 k i21) := by
  intro k
  induction k with
  | zero => intro i21 hk; exact absurd hk (Nat.not_lt_zero _)
  | succ k ih => intro i21 hk; unfold lib_slices_IndexFunc___int_int___impl_nodeOk_1_L1; exact h i21 (lib_slices_IndexFunc___int_int___impl_nodeOk_1_L1 p0 p1_0 p1_1 k) (fun i21' hs => ih i21' (Nat.lt_of_lt_of_le hs (Nat.le_of_lt_succ hk)))

noncomputable def lib_slices_IndexFunc___int_int___impl_nodeOk_1 (p0 : List Int) (p1_0 : Int) (p1_1 : Timpl_Tree) : Option (Int) :=
  lib_slices_IndexFunc___int_int___impl_nodeOk_1_L1 p0 p1_0 p1_1 Fuel 0


noncomputable def lib_slices_ContainsFunc___int_int___impl_nodeOk_1 (p0 : List Int) (p1_0 : Int) (p1_1 : Timpl_Tree) : Option (Bool) :=
  (lib_slices_IndexFunc___int_int___impl_nodeOk_1 p0 p1_0 p1_1).bind fun y16 => some (decide (y16 ≥ 0))


noncomputable def impl_nodeOk_J1 (e27 : Timpl_Node) (i85 : Int) : Option (Bool) :=
  (if (((e27.Fork_.Attr_ == 0 && (e27.Fork_.At_ == 0 && true)) && ((e27.Kids_.length : Int) == 0)) && (e27.Miss_ == 0)) then (impl_within e27.Since_ 0 i85).bind fun y91 => some y91 else some false).bind fun u90 => some u90

noncomputable def impl_nodeOk (p0 : Timpl_Schema) (p1 : Timpl_Tree) (p2 : Int) : Option (Bool) :=
  (idx p1.Nodes_ p2).bind fun e27 => (impl_within e27.Depth_ 0 6).bind fun y66 => (if (!y66) then some true else (impl_within e27.Born_ 0 p1.Seen_).bind fun y69 => some (!y69)).bind fun u68 => (if u68 then some true else (impl_StatsOk p0 e27.Stats_).bind fun y74 => some (!y74)).bind fun u73 => (if u73 then some true else (impl_AttrsOk p0 e27.Attrs_).bind fun y79 => some (!y79)).bind fun u78 => if u78 then some false else if e27.Leaf_ then (impl_total e27.Stats_.Totals_).bind fun y83 => if ((e27.Stats_.Cells_.length : Int) == 0) then impl_nodeOk_J1 e27 0 else impl_nodeOk_J1 e27 y83 else (impl_Branches p0 e27.Fork_).bind fun y95 => (if ((y95 == 0) || ((e27.Kids_.length : Int) != y95)) then some true else (impl_ascending e27.Kids_).bind fun y100 => some (!y100)).bind fun u99 => (if u99 then some true else (impl_within e27.Miss_ 0 (IntKind.i64.wrap (y95 - 1))).bind fun y105 => some (!y105)).bind fun u104 => if ((u104 || ((e27.Stats_.Cells_.length : Int) != 0)) || (e27.Since_ != 0)) then some false else (lib_slices_ContainsFunc___int_int___impl_nodeOk_1 e27.Kids_ p2 p1).bind fun y113 => some (!y113)


noncomputable def lib_slices_Index___int_int__L1 (p0 : List Int) (p1 : Int) : Nat → Int → Option (Int)
  | 0, _ => none
  | k1 + 1, i13 =>
    if decide (i13 < (p0.length : Int)) then (idx p0 i13).bind fun e18 => if (p1 == e18) then some i13 else (lib_slices_Index___int_int__L1 p0 p1 k1) (IntKind.i64.wrap (i13 + 1)) else some (-1)

theorem lib_slices_Index___int_int__L1_ind (p0 : List Int) (p1 : Int) {P : Int → Option (Int) → Prop} (μ : Int → Nat) (h : ∀ (i13 : Int) (R : Int → Option (Int)), (∀ i13', μ i13' < μ i13 → P i13' (R i13')) → P i13 (if decide (i13 < (p0.length : Int)) then (idx p0 i13).bind fun e18 => if (p1 == e18) then some i13 else (R) (IntKind.i64.wrap (i13 + 1)) else some (-1))) : ∀ k i13, μ i13 < k → P i13 (lib_slices_Index___int_int__L1 p0 p1 k i13) := by
  intro k
  induction k with
  | zero => intro i13 hk; exact absurd hk (Nat.not_lt_zero _)
  | succ k ih => intro i13 hk; unfold lib_slices_Index___int_int__L1; exact h i13 (lib_slices_Index___int_int__L1 p0 p1 k) (fun i13' hs => ih i13' (Nat.lt_of_lt_of_le hs (Nat.le_of_lt_succ hk)))

noncomputable def lib_slices_Index___int_int_ (p0 : List Int) (p1 : Int) : Option (Int) :=
  lib_slices_Index___int_int__L1 p0 p1 Fuel 0


noncomputable def lib_slices_Contains___int_int_ (p0 : List Int) (p1 : Int) : Option (Bool) :=
  (lib_slices_Index___int_int_ p0 p1).bind fun y10 => some (decide (y10 ≥ 0))


noncomputable def impl_TreeOk_L1 (p1 : Timpl_Tree) (p0 : Timpl_Schema) : Nat → Int → Option (Bool)
  | 0, _ => none
  | k1 + 1, i134 =>
    if decide (i134 < (p1.Nodes_.length : Int)) then (idx p1.Nodes_ i134).bind fun e231 => (impl_nodeOk p0 p1 i134).bind fun y270 => if (!y270) then some false else if (i134 == 0) then if (((e231.Up_ != (-1)) || (e231.Depth_ != 0)) || (e231.Born_ != 0)) then some false else (impl_TreeOk_L1 p1 p0 k1) (IntKind.i64.wrap (i134 + 1)) else (impl_within e231.Up_ 0 (IntKind.i64.wrap (i134 - 1))).bind fun y276 => if (!y276) then some false else (idx p1.Nodes_ e231.Up_).bind fun e278 => (if e278.Leaf_ then some true else (lib_slices_Contains___int_int_ e278.Kids_ i134).bind fun y318 => some (!y318)).bind fun u317 => if ((u317 || (e278.Depth_ != (IntKind.i64.wrap (e231.Depth_ - 1)))) || (decide (e278.Born_ > e231.Born_))) then some false else (impl_TreeOk_L1 p1 p0 k1) (IntKind.i64.wrap (i134 + 1)) else some true

theorem impl_TreeOk_L1_ind (p1 : Timpl_Tree) (p0 : Timpl_Schema) {P : Int → Option (Bool) → Prop} (μ : Int → Nat) (h : ∀ (i134 : Int) (R : Int → Option (Bool)), (∀ i134', μ i134' < μ i134 → P i134' (R i134')) → P i134 (if decide (i134 < (p1.Nodes_.length : Int)) then (idx p1.Nodes_ i134).bind fun e231 => (impl_nodeOk p0 p1 i134).bind fun y270 => if (!y270) then some false else if (i134 == 0) then if (((e231.Up_ != (-1)) || (e231.Depth_ != 0)) || (e231.Born_ != 0)) then some false else (R) (IntKind.i64.wrap (i134 + 1)) else (impl_within e231.Up_ 0 (IntKind.i64.wrap (i134 - 1))).bind fun y276 => if (!y276) then some false else (idx p1.Nodes_ e231.Up_).bind fun e278 => (if e278.Leaf_ then some true else (lib_slices_Contains___int_int_ e278.Kids_ i134).bind fun y318 => some (!y318)).bind fun u317 => if ((u317 || (e278.Depth_ != (IntKind.i64.wrap (e231.Depth_ - 1)))) || (decide (e278.Born_ > e231.Born_))) then some false else (R) (IntKind.i64.wrap (i134 + 1)) else some true)) : ∀ k i134, μ i134 < k → P i134 (impl_TreeOk_L1 p1 p0 k i134) := by
  intro k
  induction k with
  | zero => intro i134 hk; exact absurd hk (Nat.not_lt_zero _)
  | succ k ih => intro i134 hk; unfold impl_TreeOk_L1; exact h i134 (impl_TreeOk_L1 p1 p0 k) (fun i134' hs => ih i134' (Nat.lt_of_lt_of_le hs (Nat.le_of_lt_succ hk)))

noncomputable def impl_TreeOk (p0 : Timpl_Schema) (p1 : Timpl_Tree) : Option (Bool) :=
  (impl_SchemaOk p0).bind fun y26 => (if (!y26) then some true else (impl_within (p1.Nodes_.length : Int) 1 31).bind fun y29 => some (!y29)).bind fun u28 => (if u28 then some true else (impl_within p1.Seen_ 0 99999).bind fun y34 => some (!y34)).bind fun u33 => if u33 then some false else impl_TreeOk_L1 p1 p0 Fuel 0


noncomputable def impl_Digits (p0 : Int) : Option (List UInt8) :=
  (sItoa p0).bind fun s10 => some s10


noncomputable def impl_active (p0 : Timpl_Node) : Option (Bool) :=
  some (p0.Leaf_ && (decide ((p0.Stats_.Cells_.length : Int) > 0)))


noncomputable def impl_numbersText_L1 (p0 : List Int) (p1 : List UInt8) : Nat → Int → (List (List UInt8)) → Option (List UInt8)
  | 0, _, _ => none
  | k1 + 1, i28, l29 =>
    if decide (i28 < (p0.length : Int)) then (idx p0 i28).bind fun e51 => (impl_Digits e51).bind fun y53 => (app l29 ([y53] : List (List UInt8))).bind fun l56 => (impl_numbersText_L1 p0 p1 k1) (IntKind.i64.wrap (i28 + 1)) l56 else (sJoin l29 p1).bind fun s62 => some s62

theorem impl_numbersText_L1_ind (p0 : List Int) (p1 : List UInt8) {P : Int → (List (List UInt8)) → Option (List UInt8) → Prop} (μ : Int → (List (List UInt8)) → Nat) (h : ∀ (i28 : Int) (l29 : List (List UInt8)) (R : Int → (List (List UInt8)) → Option (List UInt8)), (∀ i28' l29', μ i28' l29' < μ i28 l29 → P i28' l29' (R i28' l29')) → P i28 l29 (if decide (i28 < (p0.length : Int)) then (idx p0 i28).bind fun e51 => (impl_Digits e51).bind fun y53 => (app l29 ([y53] : List (List UInt8))).bind fun l56 => (R) (IntKind.i64.wrap (i28 + 1)) l56 else (sJoin l29 p1).bind fun s62 => some s62)) : ∀ k i28 l29, μ i28 l29 < k → P i28 l29 (impl_numbersText_L1 p0 p1 k i28 l29) := by
  intro k
  induction k with
  | zero => intro i28 l29 hk; exact absurd hk (Nat.not_lt_zero _)
  | succ k ih => intro i28 l29 hk; unfold impl_numbersText_L1; exact h i28 l29 (impl_numbersText_L1 p0 p1 k) (fun i28' l29' hs => ih i28' l29' (Nat.lt_of_lt_of_le hs (Nat.le_of_lt_succ hk)))

noncomputable def impl_numbersText (p0 : List Int) (p1 : List UInt8) : Option (List UInt8) :=
  impl_numbersText_L1 p0 p1 Fuel 0 ([] : List (List UInt8))


noncomputable def impl_TotalsText (p0 : List Int) : Option (List UInt8) :=
  (impl_numbersText p0 ([47] : List UInt8)).bind fun y10 => some y10


noncomputable def lib_slices_Max___int_int__L1 (p0 : List Int) : Nat → Int → Int → Option (Int)
  | 0, _, _ => none
  | k1 + 1, i17, i18 =>
    if decide (i18 < (p0.length : Int)) then (idx p0 i18).bind fun e23 => (lib_slices_Max___int_int__L1 p0 k1) (if i17 < e23 then e23 else i17) (IntKind.i64.wrap (i18 + 1)) else some i17

theorem lib_slices_Max___int_int__L1_ind (p0 : List Int) {P : Int → Int → Option (Int) → Prop} (μ : Int → Int → Nat) (h : ∀ (i17 : Int) (i18 : Int) (R : Int → Int → Option (Int)), (∀ i17' i18', μ i17' i18' < μ i17 i18 → P i17' i18' (R i17' i18')) → P i17 i18 (if decide (i18 < (p0.length : Int)) then (idx p0 i18).bind fun e23 => (R) (if i17 < e23 then e23 else i17) (IntKind.i64.wrap (i18 + 1)) else some i17)) : ∀ k i17 i18, μ i17 i18 < k → P i17 i18 (lib_slices_Max___int_int__L1 p0 k i17 i18) := by
  intro k
  induction k with
  | zero => intro i17 i18 hk; exact absurd hk (Nat.not_lt_zero _)
  | succ k ih => intro i17 i18 hk; unfold lib_slices_Max___int_int__L1; exact h i17 i18 (lib_slices_Max___int_int__L1 p0 k) (fun i17' i18' hs => ih i17' i18' (Nat.lt_of_lt_of_le hs (Nat.le_of_lt_succ hk)))

noncomputable def lib_slices_Max___int_int_ (p0 : List Int) : Option (Int) :=
  if decide ((p0.length : Int) < 1) then none else (idx p0 0).bind fun e10 => lib_slices_Max___int_int__L1 p0 Fuel e10 1


noncomputable def impl_TopOf (p0 : List Int) : Option (Int) :=
  if ((p0.length : Int) == 0) then some (-1) else (lib_slices_Max___int_int_ p0).bind fun y10 => (lib_slices_Index___int_int_ p0 y10).bind fun y12 => some y12


noncomputable def lib_slices_Clone___string_string_ (p0 : List (List UInt8)) : Option (List (List UInt8)) :=
  (app ([] : List (List UInt8)) p0).bind fun l11 => some l11


noncomputable def impl_ForkText (p0 : Timpl_Schema) (p1 : Timpl_Fork) : Option (List UInt8) :=
  (impl_ForkOk p0 p1).bind fun y20 => if (!y20) then some ([] : List UInt8) else (idx p0.Attrs_ p1.Attr_).bind fun e22 => if (p1.At_ == (-1)) then (sadd e22.Name_ ([42] : List UInt8)).bind fun s39 => some s39 else if decide ((e22.Cuts_.length : Int) > 0) then (sadd e22.Name_ ([60, 61] : List UInt8)).bind fun s41 => (idx e22.Cuts_ p1.At_).bind fun e43 => (impl_Digits e43).bind fun y45 => (sadd s41 y45).bind fun s47 => some s47 else (sadd e22.Name_ ([61] : List UInt8)).bind fun s62 => (lib_slices_Clone___string_string_ e22.Values_).bind fun y64 => (idx y64 p1.At_).bind fun e73 => (sadd s62 e73).bind fun s75 => some s75


noncomputable def impl_NodeText_J1 (p1 : Timpl_Node) (p0 : Timpl_Schema) (s56 : List UInt8) : Option (List UInt8) :=
  (impl_TotalsText p1.Stats_.Totals_).bind fun y57 => (impl_TopOf p1.Stats_.Totals_).bind fun y59 => (idx p0.Classes_ y59).bind fun e61 => (impl_Digits p1.Since_).bind fun y63 => (sJoin ([s56, y57, e61, ([115, 105, 110, 99, 101] : List UInt8), y63] : List (List UInt8)) ([32] : List UInt8)).bind fun s66 => some s66

noncomputable def impl_NodeText_L1 (p1 : Timpl_Node) : Nat → Int → (List (List UInt8)) → Option (List UInt8)
  | 0, _, _ => none
  | k1 + 1, i94, l95 =>
    if decide (i94 < (p1.Kids_.length : Int)) then (idx p1.Kids_ i94).bind fun e117 => (impl_Digits e117).bind fun y119 => (app l95 ([y119] : List (List UInt8))).bind fun l122 => (impl_NodeText_L1 p1 k1) (IntKind.i64.wrap (i94 + 1)) l122 else (sJoin l95 ([32] : List UInt8)).bind fun s128 => some s128

theorem impl_NodeText_L1_ind (p1 : Timpl_Node) {P : Int → (List (List UInt8)) → Option (List UInt8) → Prop} (μ : Int → (List (List UInt8)) → Nat) (h : ∀ (i94 : Int) (l95 : List (List UInt8)) (R : Int → (List (List UInt8)) → Option (List UInt8)), (∀ i94' l95', μ i94' l95' < μ i94 l95 → P i94' l95' (R i94' l95')) → P i94 l95 (if decide (i94 < (p1.Kids_.length : Int)) then (idx p1.Kids_ i94).bind fun e117 => (impl_Digits e117).bind fun y119 => (app l95 ([y119] : List (List UInt8))).bind fun l122 => (R) (IntKind.i64.wrap (i94 + 1)) l122 else (sJoin l95 ([32] : List UInt8)).bind fun s128 => some s128)) : ∀ k i94 l95, μ i94 l95 < k → P i94 l95 (impl_NodeText_L1 p1 k i94 l95) := by
  intro k
  induction k with
  | zero => intro i94 l95 hk; exact absurd hk (Nat.not_lt_zero _)
  | succ k ih => intro i94 l95 hk; unfold impl_NodeText_L1; exact h i94 l95 (impl_NodeText_L1 p1 k) (fun i94' l95' hs => ih i94' l95' (Nat.lt_of_lt_of_le hs (Nat.le_of_lt_succ hk)))

noncomputable def impl_NodeText (p0 : Timpl_Schema) (p1 : Timpl_Node) : Option (List UInt8) :=
  if p1.Leaf_ then (impl_StatsOk p0 p1.Stats_).bind fun y52 => if (!y52) then some ([] : List UInt8) else (impl_active p1).bind fun y68 => if y68 then impl_NodeText_J1 p1 p0 ([108, 101, 97, 102] : List UInt8) else impl_NodeText_J1 p1 p0 ([116, 104, 105, 110] : List UInt8) else (impl_ForkOk p0 p1.Fork_).bind fun y70 => if (!y70) then some ([] : List UInt8) else (impl_ForkText p0 p1.Fork_).bind fun y72 => (impl_Digits p1.Miss_).bind fun y74 => impl_NodeText_L1 p1 Fuel 0 ([y72, ([109, 105, 115, 115] : List UInt8), y74] : List (List UInt8))


noncomputable def impl_TreeText_L1 (p1 : Timpl_Tree) (p0 : Timpl_Schema) : Nat → Int → (List UInt8) → Option (List UInt8)
  | 0, _, _ => none
  | k1 + 1, i85, s86 =>
    if decide (i85 < (p1.Nodes_.length : Int)) then (idx p1.Nodes_ i85).bind fun e144 => (sRepeat ([32, 32] : List UInt8) e144.Depth_).bind fun s183 => (impl_Digits i85).bind fun y185 => (sadd s183 y185).bind fun s187 => (sadd s187 ([58, 32] : List UInt8)).bind fun s189 => (impl_NodeText p0 e144).bind fun y191 => (sadd s189 y191).bind fun s193 => (sadd s193 ([10] : List UInt8)).bind fun s195 => (sadd s86 s195).bind fun s197 => (impl_TreeText_L1 p1 p0 k1) (IntKind.i64.wrap (i85 + 1)) s197 else some s86

theorem impl_TreeText_L1_ind (p1 : Timpl_Tree) (p0 : Timpl_Schema) {P : Int → (List UInt8) → Option (List UInt8) → Prop} (μ : Int → (List UInt8) → Nat) (h : ∀ (i85 : Int) (s86 : List UInt8) (R : Int → (List UInt8) → Option (List UInt8)), (∀ i85' s86', μ i85' s86' < μ i85 s86 → P i85' s86' (R i85' s86')) → P i85 s86 (if decide (i85 < (p1.Nodes_.length : Int)) then (idx p1.Nodes_ i85).bind fun e144 => (sRepeat ([32, 32] : List UInt8) e144.Depth_).bind fun s183 => (impl_Digits i85).bind fun y185 => (sadd s183 y185).bind fun s187 => (sadd s187 ([58, 32] : List UInt8)).bind fun s189 => (impl_NodeText p0 e144).bind fun y191 => (sadd s189 y191).bind fun s193 => (sadd s193 ([10] : List UInt8)).bind fun s195 => (sadd s86 s195).bind fun s197 => (R) (IntKind.i64.wrap (i85 + 1)) s197 else some s86)) : ∀ k i85 s86, μ i85 s86 < k → P i85 s86 (impl_TreeText_L1 p1 p0 k i85 s86) := by
  intro k
  induction k with
  | zero => intro i85 s86 hk; exact absurd hk (Nat.not_lt_zero _)
  | succ k ih => intro i85 s86 hk; unfold impl_TreeText_L1; exact h i85 s86 (impl_TreeText_L1 p1 p0 k) (fun i85' s86' hs => ih i85' s86' (Nat.lt_of_lt_of_le hs (Nat.le_of_lt_succ hk)))

noncomputable def impl_TreeText (p0 : Timpl_Schema) (p1 : Timpl_Tree) : Option (List UInt8) :=
  (impl_TreeOk p0 p1).bind fun y26 => if (!y26) then some ([] : List UInt8) else impl_TreeText_L1 p1 p0 Fuel 0 ([] : List UInt8)


noncomputable def laws_eqIntS_L1 (p0 : List Int) (p1 : List Int) : Nat → Int → Option (Bool)
  | 0, _ => none
  | k1 + 1, i15 =>
    if decide (i15 < (p0.length : Int)) then (idx p0 i15).bind fun e21 => (idx p1 i15).bind fun e23 => if (e21 != e23) then some false else (laws_eqIntS_L1 p0 p1 k1) (IntKind.i64.wrap (i15 + 1)) else some true

theorem laws_eqIntS_L1_ind (p0 : List Int) (p1 : List Int) {P : Int → Option (Bool) → Prop} (μ : Int → Nat) (h : ∀ (i15 : Int) (R : Int → Option (Bool)), (∀ i15', μ i15' < μ i15 → P i15' (R i15')) → P i15 (if decide (i15 < (p0.length : Int)) then (idx p0 i15).bind fun e21 => (idx p1 i15).bind fun e23 => if (e21 != e23) then some false else (R) (IntKind.i64.wrap (i15 + 1)) else some true)) : ∀ k i15, μ i15 < k → P i15 (laws_eqIntS_L1 p0 p1 k i15) := by
  intro k
  induction k with
  | zero => intro i15 hk; exact absurd hk (Nat.not_lt_zero _)
  | succ k ih => intro i15 hk; unfold laws_eqIntS_L1; exact h i15 (laws_eqIntS_L1 p0 p1 k) (fun i15' hs => ih i15' (Nat.lt_of_lt_of_le hs (Nat.le_of_lt_succ hk)))

noncomputable def laws_eqIntS (p0 : List Int) (p1 : List Int) : Option (Bool) :=
  if ((p0.length : Int) != (p1.length : Int)) then some false else laws_eqIntS_L1 p0 p1 Fuel 0


noncomputable def laws_eqStringS_L1 (p0 : List (List UInt8)) (p1 : List (List UInt8)) : Nat → Int → Option (Bool)
  | 0, _ => none
  | k1 + 1, i15 =>
    if decide (i15 < (p0.length : Int)) then (idx p0 i15).bind fun e21 => (idx p1 i15).bind fun e23 => if (!(e21 == e23)) then some false else (laws_eqStringS_L1 p0 p1 k1) (IntKind.i64.wrap (i15 + 1)) else some true

theorem laws_eqStringS_L1_ind (p0 : List (List UInt8)) (p1 : List (List UInt8)) {P : Int → Option (Bool) → Prop} (μ : Int → Nat) (h : ∀ (i15 : Int) (R : Int → Option (Bool)), (∀ i15', μ i15' < μ i15 → P i15' (R i15')) → P i15 (if decide (i15 < (p0.length : Int)) then (idx p0 i15).bind fun e21 => (idx p1 i15).bind fun e23 => if (!(e21 == e23)) then some false else (R) (IntKind.i64.wrap (i15 + 1)) else some true)) : ∀ k i15, μ i15 < k → P i15 (laws_eqStringS_L1 p0 p1 k i15) := by
  intro k
  induction k with
  | zero => intro i15 hk; exact absurd hk (Nat.not_lt_zero _)
  | succ k ih => intro i15 hk; unfold laws_eqStringS_L1; exact h i15 (laws_eqStringS_L1 p0 p1 k) (fun i15' hs => ih i15' (Nat.lt_of_lt_of_le hs (Nat.le_of_lt_succ hk)))

noncomputable def laws_eqStringS (p0 : List (List UInt8)) (p1 : List (List UInt8)) : Option (Bool) :=
  if ((p0.length : Int) != (p1.length : Int)) then some false else laws_eqStringS_L1 p0 p1 Fuel 0


noncomputable def laws_eqAttr (p0 : Timpl_Attr) (p1 : Timpl_Attr) : Option (Bool) :=
  if (!(p0.Name_ == p1.Name_)) then some false else (laws_eqIntS p0.Cuts_ p1.Cuts_).bind fun y32 => if (!y32) then some false else (laws_eqStringS p0.Values_ p1.Values_).bind fun y34 => if (!y34) then some false else some true


noncomputable def laws_eqAttrS_L1 (p0 : List Timpl_Attr) (p1 : List Timpl_Attr) : Nat → Int → Option (Bool)
  | 0, _ => none
  | k1 + 1, i45 =>
    if decide (i45 < (p0.length : Int)) then (idx p0 i45).bind fun e81 => (idx p1 i45).bind fun e97 => (laws_eqAttr e81 e97).bind fun y113 => if (!y113) then some false else (laws_eqAttrS_L1 p0 p1 k1) (IntKind.i64.wrap (i45 + 1)) else some true

theorem laws_eqAttrS_L1_ind (p0 : List Timpl_Attr) (p1 : List Timpl_Attr) {P : Int → Option (Bool) → Prop} (μ : Int → Nat) (h : ∀ (i45 : Int) (R : Int → Option (Bool)), (∀ i45', μ i45' < μ i45 → P i45' (R i45')) → P i45 (if decide (i45 < (p0.length : Int)) then (idx p0 i45).bind fun e81 => (idx p1 i45).bind fun e97 => (laws_eqAttr e81 e97).bind fun y113 => if (!y113) then some false else (R) (IntKind.i64.wrap (i45 + 1)) else some true)) : ∀ k i45, μ i45 < k → P i45 (laws_eqAttrS_L1 p0 p1 k i45) := by
  intro k
  induction k with
  | zero => intro i45 hk; exact absurd hk (Nat.not_lt_zero _)
  | succ k ih => intro i45 hk; unfold laws_eqAttrS_L1; exact h i45 (laws_eqAttrS_L1 p0 p1 k) (fun i45' hs => ih i45' (Nat.lt_of_lt_of_le hs (Nat.le_of_lt_succ hk)))

noncomputable def laws_eqAttrS (p0 : List Timpl_Attr) (p1 : List Timpl_Attr) : Option (Bool) :=
  if ((p0.length : Int) != (p1.length : Int)) then some false else laws_eqAttrS_L1 p0 p1 Fuel 0


noncomputable def laws_eqSchema (p0 : Timpl_Schema) (p1 : Timpl_Schema) : Option (Bool) :=
  (laws_eqAttrS p0.Attrs_ p1.Attrs_).bind fun y28 => if (!y28) then some false else (laws_eqStringS p0.Classes_ p1.Classes_).bind fun y30 => if (!y30) then some false else some true


noncomputable def laws_eqFork (p0 : Timpl_Fork) (p1 : Timpl_Fork) : Option (Bool) :=
  if (p0.Attr_ != p1.Attr_) then some false else if (p0.At_ != p1.At_) then some false else some true


noncomputable def laws_eqIntSS_L1 (p0 : List (List Int)) (p1 : List (List Int)) : Nat → Int → Option (Bool)
  | 0, _ => none
  | k1 + 1, i29 =>
    if decide (i29 < (p0.length : Int)) then (idx p0 i29).bind fun e49 => (idx p1 i29).bind fun e57 => (laws_eqIntS e49 e57).bind fun y65 => if (!y65) then some false else (laws_eqIntSS_L1 p0 p1 k1) (IntKind.i64.wrap (i29 + 1)) else some true

theorem laws_eqIntSS_L1_ind (p0 : List (List Int)) (p1 : List (List Int)) {P : Int → Option (Bool) → Prop} (μ : Int → Nat) (h : ∀ (i29 : Int) (R : Int → Option (Bool)), (∀ i29', μ i29' < μ i29 → P i29' (R i29')) → P i29 (if decide (i29 < (p0.length : Int)) then (idx p0 i29).bind fun e49 => (idx p1 i29).bind fun e57 => (laws_eqIntS e49 e57).bind fun y65 => if (!y65) then some false else (R) (IntKind.i64.wrap (i29 + 1)) else some true)) : ∀ k i29, μ i29 < k → P i29 (laws_eqIntSS_L1 p0 p1 k i29) := by
  intro k
  induction k with
  | zero => intro i29 hk; exact absurd hk (Nat.not_lt_zero _)
  | succ k ih => intro i29 hk; unfold laws_eqIntSS_L1; exact h i29 (laws_eqIntSS_L1 p0 p1 k) (fun i29' hs => ih i29' (Nat.lt_of_lt_of_le hs (Nat.le_of_lt_succ hk)))

noncomputable def laws_eqIntSS (p0 : List (List Int)) (p1 : List (List Int)) : Option (Bool) :=
  if ((p0.length : Int) != (p1.length : Int)) then some false else laws_eqIntSS_L1 p0 p1 Fuel 0


noncomputable def laws_eqStats (p0 : Timpl_Stats) (p1 : Timpl_Stats) : Option (Bool) :=
  (laws_eqIntS p0.Totals_ p1.Totals_).bind fun y28 => if (!y28) then some false else (laws_eqIntSS p0.Cells_ p1.Cells_).bind fun y30 => if (!y30) then some false else some true


noncomputable def laws_eqNode (p0 : Timpl_Node) (p1 : Timpl_Node) : Option (Bool) :=
  if (p0.Leaf_ != p1.Leaf_) then some false else (laws_eqFork p0.Fork_ p1.Fork_).bind fun y76 => if (!y76) then some false else (laws_eqIntS p0.Kids_ p1.Kids_).bind fun y78 => if (!y78) then some false else if (p0.Miss_ != p1.Miss_) then some false else (laws_eqStats p0.Stats_ p1.Stats_).bind fun y80 => if (!y80) then some false else if (p0.Since_ != p1.Since_) then some false else (laws_eqIntS p0.Attrs_ p1.Attrs_).bind fun y82 => if (!y82) then some false else if (p0.Depth_ != p1.Depth_) then some false else if (p0.Up_ != p1.Up_) then some false else if (p0.Born_ != p1.Born_) then some false else some true


noncomputable def laws_eqNodeS_L1 (p0 : List Timpl_Node) (p1 : List Timpl_Node) : Nat → Int → Option (Bool)
  | 0, _ => none
  | k1 + 1, i89 =>
    if decide (i89 < (p0.length : Int)) then (idx p0 i89).bind fun e169 => (idx p1 i89).bind fun e207 => (laws_eqNode e169 e207).bind fun y245 => if (!y245) then some false else (laws_eqNodeS_L1 p0 p1 k1) (IntKind.i64.wrap (i89 + 1)) else some true

theorem laws_eqNodeS_L1_ind (p0 : List Timpl_Node) (p1 : List Timpl_Node) {P : Int → Option (Bool) → Prop} (μ : Int → Nat) (h : ∀ (i89 : Int) (R : Int → Option (Bool)), (∀ i89', μ i89' < μ i89 → P i89' (R i89')) → P i89 (if decide (i89 < (p0.length : Int)) then (idx p0 i89).bind fun e169 => (idx p1 i89).bind fun e207 => (laws_eqNode e169 e207).bind fun y245 => if (!y245) then some false else (R) (IntKind.i64.wrap (i89 + 1)) else some true)) : ∀ k i89, μ i89 < k → P i89 (laws_eqNodeS_L1 p0 p1 k i89) := by
  intro k
  induction k with
  | zero => intro i89 hk; exact absurd hk (Nat.not_lt_zero _)
  | succ k ih => intro i89 hk; unfold laws_eqNodeS_L1; exact h i89 (laws_eqNodeS_L1 p0 p1 k) (fun i89' hs => ih i89' (Nat.lt_of_lt_of_le hs (Nat.le_of_lt_succ hk)))

noncomputable def laws_eqNodeS (p0 : List Timpl_Node) (p1 : List Timpl_Node) : Option (Bool) :=
  if ((p0.length : Int) != (p1.length : Int)) then some false else laws_eqNodeS_L1 p0 p1 Fuel 0


noncomputable def laws_eqTree (p0 : Timpl_Tree) (p1 : Timpl_Tree) : Option (Bool) :=
  (laws_eqNodeS p0.Nodes_ p1.Nodes_).bind fun y24 => if (!y24) then some false else if (p0.Seen_ != p1.Seen_) then some false else some true


noncomputable def laws_FnExactTreeText (p0 : Tlaws_Schema) (p1 : Tlaws_Tree) : Option (Bool) :=
  (laws_szSchema p0 1048576).bind fun y26 => if decide (y26 < 0) then some true else (laws_szTree p1 y26).bind fun y28 => if decide (y28 < 0) then some true else (laws_toSchema p0).bind fun y43 => (laws_toTree p1).bind fun y56 => (spec_TreeText y43 y56).bind fun y65 => (laws_toSchema p0).bind fun y67 => (laws_toTree p1).bind fun y81 => (impl_TreeText y67 y81).bind fun y91 => if (!(y91 == y65)) then some false else (laws_toSchema p0).bind fun y106 => (laws_eqSchema y67 y106).bind fun y119 => if (!y119) then some false else (laws_toTree p1).bind fun y130 => (laws_eqTree y81 y130).bind fun y139 => if (!y139) then some false else some true


end Go.Vk
