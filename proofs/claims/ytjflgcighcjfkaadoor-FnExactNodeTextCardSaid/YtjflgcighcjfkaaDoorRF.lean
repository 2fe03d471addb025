/- The functions of the code, as functions of data. Printed by program. -/

import Derived.Test.YtjflgcighcjfkaaDoorVkSt

namespace Go.Vk



structure Tlaws_Attr where
  Name_ : List UInt8
  Cuts_ : List Int
  Values_ : List (List UInt8)
  deriving DecidableEq, Inhabited

structure Tlaws_Schema where
  Attrs_ : List Tlaws_Attr
  Classes_ : List (List UInt8)
  deriving DecidableEq, Inhabited

structure Tlaws_Stats where
  Totals_ : List Int
  Cells_ : List (List Int)
  deriving DecidableEq, Inhabited

structure Tlaws_Fork where
  Attr_ : Int
  At_ : Int
  deriving DecidableEq, Inhabited

structure Tlaws_Node where
  Leaf_ : Bool
  Fork_ : Tlaws_Fork
  Kids_ : List Int
  Miss_ : Int
  Stats_ : Tlaws_Stats
  Since_ : Int
  Attrs_ : List Int
  Depth_ : Int
  Up_ : Int
  Born_ : Int
  deriving DecidableEq, Inhabited

structure Timpl_Attr where
  Name_ : List UInt8
  Cuts_ : List Int
  Values_ : List (List UInt8)
  deriving DecidableEq, Inhabited

structure Timpl_Schema where
  Attrs_ : List Timpl_Attr
  Classes_ : List (List UInt8)
  deriving DecidableEq, Inhabited

structure Timpl_Fork where
  Attr_ : Int
  At_ : Int
  deriving DecidableEq, Inhabited

structure Timpl_Stats where
  Totals_ : List Int
  Cells_ : List (List Int)
  deriving DecidableEq, Inhabited

structure Timpl_Node where
  Leaf_ : Bool
  Fork_ : Timpl_Fork
  Kids_ : List Int
  Miss_ : Int
  Stats_ : Timpl_Stats
  Since_ : Int
  Attrs_ : List Int
  Depth_ : Int
  Up_ : Int
  Born_ : Int
  deriving DecidableEq, Inhabited

structure Tlaws_Way where
  Leaf_ : Int
  Masks_ : List Int
  deriving DecidableEq, Inhabited

structure Timpl_Way where
  Leaf_ : Int
  Masks_ : List Int
  deriving DecidableEq, Inhabited

structure Tlaws_Pair where
  Truth_ : Int
  Said_ : Int
  deriving DecidableEq, Inhabited

structure Tlaws_Score where
  Table_ : List (List Int)
  Last_ : List Tlaws_Pair
  deriving DecidableEq, Inhabited

structure Timpl_Pair where
  Truth_ : Int
  Said_ : Int
  deriving DecidableEq, Inhabited

structure Timpl_Score where
  Table_ : List (List Int)
  Last_ : List Timpl_Pair
  deriving DecidableEq, Inhabited

structure Tlaws_Window where
  Rows_ : List (List Int)
  deriving DecidableEq, Inhabited

structure Timpl_Window where
  Rows_ : List (List Int)
  deriving DecidableEq, Inhabited

structure Timpl_Bucket where
  Size_ : Int
  Ones_ : Int
  deriving DecidableEq, Inhabited

noncomputable def laws_szIntS (p0 : List Int) (p1 : Int) : Option (Int) :=
  if decide ((IntKind.i64.wrap (p1 - (p0.length : Int))) < 0) then some (-1) else some (IntKind.i64.wrap (p1 - (p0.length : Int)))


noncomputable def laws_szStringS_L1 (p0 : List (List UInt8)) : Nat → Int → Int → Option (Int)
  | 0, _, _ => none
  | k1 + 1, i14, i15 =>
    if decide (i15 < (p0.length : Int)) then (idx p0 i15).bind fun e20 => if decide ((IntKind.i64.wrap (i14 - (e20.length : Int))) < 0) then some (-1) else (laws_szStringS_L1 p0 k1) (IntKind.i64.wrap (i14 - (e20.length : Int))) (IntKind.i64.wrap (i15 + 1)) else some i14

theorem laws_szStringS_L1_ind (p0 : List (List UInt8)) {P : Int → Int → Option (Int) → Prop} (μ : Int → Int → Nat) (h : ∀ (i14 : Int) (i15 : Int) (R : Int → Int → Option (Int)), (∀ i14' i15', μ i14' i15' < μ i14 i15 → P i14' i15' (R i14' i15')) → P i14 i15 (if decide (i15 < (p0.length : Int)) then (idx p0 i15).bind fun e20 => if decide ((IntKind.i64.wrap (i14 - (e20.length : Int))) < 0) then some (-1) else (R) (IntKind.i64.wrap (i14 - (e20.length : Int))) (IntKind.i64.wrap (i15 + 1)) else some i14)) : ∀ k i14 i15, μ i14 i15 < k → P i14 i15 (laws_szStringS_L1 p0 k i14 i15) := by
  intro k
  induction k with
  | zero => intro i14 i15 hk; exact absurd hk (Nat.not_lt_zero _)
  | succ k ih => intro i14 i15 hk; unfold laws_szStringS_L1; exact h i14 i15 (laws_szStringS_L1 p0 k) (fun i14' i15' hs => ih i14' i15' (Nat.lt_of_lt_of_le hs (Nat.le_of_lt_succ hk)))

noncomputable def laws_szStringS (p0 : List (List UInt8)) (p1 : Int) : Option (Int) :=
  if decide ((IntKind.i64.wrap (p1 - (p0.length : Int))) < 0) then some (-1) else laws_szStringS_L1 p0 Fuel (IntKind.i64.wrap (p1 - (p0.length : Int))) 0


noncomputable def laws_szAttr (p0 : Tlaws_Attr) (p1 : Int) : Option (Int) :=
  if decide ((IntKind.i64.wrap (p1 - (p0.Name_.length : Int))) < 0) then some (-1) else (laws_szIntS p0.Cuts_ (IntKind.i64.wrap (p1 - (p0.Name_.length : Int)))).bind fun y21 => if decide (y21 < 0) then some (-1) else (laws_szStringS p0.Values_ y21).bind fun y23 => if decide (y23 < 0) then some (-1) else some y23


noncomputable def laws_szAttrS_L1 (p0 : List Tlaws_Attr) : Nat → Int → Int → Option (Int)
  | 0, _, _ => none
  | k1 + 1, i30, i31 =>
    if decide (i31 < (p0.length : Int)) then (idx p0 i31).bind fun e52 => (laws_szAttr e52 i30).bind fun y68 => if decide (y68 < 0) then some (-1) else (laws_szAttrS_L1 p0 k1) y68 (IntKind.i64.wrap (i31 + 1)) else some i30

theorem laws_szAttrS_L1_ind (p0 : List Tlaws_Attr) {P : Int → Int → Option (Int) → Prop} (μ : Int → Int → Nat) (h : ∀ (i30 : Int) (i31 : Int) (R : Int → Int → Option (Int)), (∀ i30' i31', μ i30' i31' < μ i30 i31 → P i30' i31' (R i30' i31')) → P i30 i31 (if decide (i31 < (p0.length : Int)) then (idx p0 i31).bind fun e52 => (laws_szAttr e52 i30).bind fun y68 => if decide (y68 < 0) then some (-1) else (R) y68 (IntKind.i64.wrap (i31 + 1)) else some i30)) : ∀ k i30 i31, μ i30 i31 < k → P i30 i31 (laws_szAttrS_L1 p0 k i30 i31) := by
  intro k
  induction k with
  | zero => intro i30 i31 hk; exact absurd hk (Nat.not_lt_zero _)
  | succ k ih => intro i30 i31 hk; unfold laws_szAttrS_L1; exact h i30 i31 (laws_szAttrS_L1 p0 k) (fun i30' i31' hs => ih i30' i31' (Nat.lt_of_lt_of_le hs (Nat.le_of_lt_succ hk)))

noncomputable def laws_szAttrS (p0 : List Tlaws_Attr) (p1 : Int) : Option (Int) :=
  if decide ((IntKind.i64.wrap (p1 - (p0.length : Int))) < 0) then some (-1) else laws_szAttrS_L1 p0 Fuel (IntKind.i64.wrap (p1 - (p0.length : Int))) 0


noncomputable def laws_szSchema (p0 : Tlaws_Schema) (p1 : Int) : Option (Int) :=
  (laws_szAttrS p0.Attrs_ p1).bind fun y19 => if decide (y19 < 0) then some (-1) else (laws_szStringS p0.Classes_ y19).bind fun y21 => if decide (y21 < 0) then some (-1) else some y21


noncomputable def laws_szIntSS_L1 (p0 : List (List Int)) : Nat → Int → Int → Option (Int)
  | 0, _, _ => none
  | k1 + 1, i22, i23 =>
    if decide (i23 < (p0.length : Int)) then (idx p0 i23).bind fun e36 => (laws_szIntS e36 i22).bind fun y44 => if decide (y44 < 0) then some (-1) else (laws_szIntSS_L1 p0 k1) y44 (IntKind.i64.wrap (i23 + 1)) else some i22

theorem laws_szIntSS_L1_ind (p0 : List (List Int)) {P : Int → Int → Option (Int) → Prop} (μ : Int → Int → Nat) (h : ∀ (i22 : Int) (i23 : Int) (R : Int → Int → Option (Int)), (∀ i22' i23', μ i22' i23' < μ i22 i23 → P i22' i23' (R i22' i23')) → P i22 i23 (if decide (i23 < (p0.length : Int)) then (idx p0 i23).bind fun e36 => (laws_szIntS e36 i22).bind fun y44 => if decide (y44 < 0) then some (-1) else (R) y44 (IntKind.i64.wrap (i23 + 1)) else some i22)) : ∀ k i22 i23, μ i22 i23 < k → P i22 i23 (laws_szIntSS_L1 p0 k i22 i23) := by
  intro k
  induction k with
  | zero => intro i22 i23 hk; exact absurd hk (Nat.not_lt_zero _)
  | succ k ih => intro i22 i23 hk; unfold laws_szIntSS_L1; exact h i22 i23 (laws_szIntSS_L1 p0 k) (fun i22' i23' hs => ih i22' i23' (Nat.lt_of_lt_of_le hs (Nat.le_of_lt_succ hk)))

noncomputable def laws_szIntSS (p0 : List (List Int)) (p1 : Int) : Option (Int) :=
  if decide ((IntKind.i64.wrap (p1 - (p0.length : Int))) < 0) then some (-1) else laws_szIntSS_L1 p0 Fuel (IntKind.i64.wrap (p1 - (p0.length : Int))) 0


noncomputable def laws_szStats (p0 : Tlaws_Stats) (p1 : Int) : Option (Int) :=
  (laws_szIntS p0.Totals_ p1).bind fun y19 => if decide (y19 < 0) then some (-1) else (laws_szIntSS p0.Cells_ y19).bind fun y21 => if decide (y21 < 0) then some (-1) else some y21


noncomputable def laws_szNode (p0 : Tlaws_Node) (p1 : Int) : Option (Int) :=
  (laws_szIntS p0.Kids_ p1).bind fun y43 => if decide (y43 < 0) then some (-1) else (laws_szStats p0.Stats_ y43).bind fun y45 => if decide (y45 < 0) then some (-1) else (laws_szIntS p0.Attrs_ y45).bind fun y47 => if decide (y47 < 0) then some (-1) else some y47


noncomputable def laws_toIntS_L1 (p0 : List Int) : Nat → (List Int) → Int → Option (List Int)
  | 0, _, _ => none
  | k1 + 1, l19, i20 =>
    if decide (i20 < (p0.length : Int)) then (idx p0 i20).bind fun e27 => (idx l19 i20).bind fun _ => (laws_toIntS_L1 p0 k1) (l19.set i20.toNat e27) (IntKind.i64.wrap (i20 + 1)) else some l19

theorem laws_toIntS_L1_ind (p0 : List Int) {P : (List Int) → Int → Option (List Int) → Prop} (μ : (List Int) → Int → Nat) (h : ∀ (l19 : List Int) (i20 : Int) (R : (List Int) → Int → Option (List Int)), (∀ l19' i20', μ l19' i20' < μ l19 i20 → P l19' i20' (R l19' i20')) → P l19 i20 (if decide (i20 < (p0.length : Int)) then (idx p0 i20).bind fun e27 => (idx l19 i20).bind fun _ => (R) (l19.set i20.toNat e27) (IntKind.i64.wrap (i20 + 1)) else some l19)) : ∀ k l19 i20, μ l19 i20 < k → P l19 i20 (laws_toIntS_L1 p0 k l19 i20) := by
  intro k
  induction k with
  | zero => intro l19 i20 hk; exact absurd hk (Nat.not_lt_zero _)
  | succ k ih => intro l19 i20 hk; unfold laws_toIntS_L1; exact h l19 i20 (laws_toIntS_L1 p0 k) (fun l19' i20' hs => ih l19' i20' (Nat.lt_of_lt_of_le hs (Nat.le_of_lt_succ hk)))

noncomputable def laws_toIntS (p0 : List Int) : Option (List Int) :=
  (mk (0 : Int) (p0.length : Int)).bind fun l10 => laws_toIntS_L1 p0 Fuel l10 0


noncomputable def laws_toStringS_L1 (p0 : List (List UInt8)) : Nat → (List (List UInt8)) → Int → Option (List (List UInt8))
  | 0, _, _ => none
  | k1 + 1, l19, i20 =>
    if decide (i20 < (p0.length : Int)) then (idx p0 i20).bind fun e27 => (idx l19 i20).bind fun _ => (laws_toStringS_L1 p0 k1) (l19.set i20.toNat e27) (IntKind.i64.wrap (i20 + 1)) else some l19

theorem laws_toStringS_L1_ind (p0 : List (List UInt8)) {P : (List (List UInt8)) → Int → Option (List (List UInt8)) → Prop} (μ : (List (List UInt8)) → Int → Nat) (h : ∀ (l19 : List (List UInt8)) (i20 : Int) (R : (List (List UInt8)) → Int → Option (List (List UInt8))), (∀ l19' i20', μ l19' i20' < μ l19 i20 → P l19' i20' (R l19' i20')) → P l19 i20 (if decide (i20 < (p0.length : Int)) then (idx p0 i20).bind fun e27 => (idx l19 i20).bind fun _ => (R) (l19.set i20.toNat e27) (IntKind.i64.wrap (i20 + 1)) else some l19)) : ∀ k l19 i20, μ l19 i20 < k → P l19 i20 (laws_toStringS_L1 p0 k l19 i20) := by
  intro k
  induction k with
  | zero => intro l19 i20 hk; exact absurd hk (Nat.not_lt_zero _)
  | succ k ih => intro l19 i20 hk; unfold laws_toStringS_L1; exact h l19 i20 (laws_toStringS_L1 p0 k) (fun l19' i20' hs => ih l19' i20' (Nat.lt_of_lt_of_le hs (Nat.le_of_lt_succ hk)))

noncomputable def laws_toStringS (p0 : List (List UInt8)) : Option (List (List UInt8)) :=
  (mk ([] : List UInt8) (p0.length : Int)).bind fun l10 => laws_toStringS_L1 p0 Fuel l10 0


noncomputable def laws_toAttr (p0 : Tlaws_Attr) : Option (Timpl_Attr) :=
  (laws_toIntS p0.Cuts_).bind fun y23 => (laws_toStringS p0.Values_).bind fun y32 => some (Timpl_Attr.mk p0.Name_ y23 y32)


noncomputable def laws_toAttrS_L1 (p0 : List Tlaws_Attr) : Nat → (List Timpl_Attr) → Int → Option (List Timpl_Attr)
  | 0, _, _ => none
  | k1 + 1, l63, i65 =>
    if decide (i65 < (p0.length : Int)) then (idx p0 i65).bind fun e116 => (laws_toAttr e116).bind fun y132 => (idx l63 i65).bind fun _ => (laws_toAttrS_L1 p0 k1) (l63.set i65.toNat y132) (IntKind.i64.wrap (i65 + 1)) else some l63

theorem laws_toAttrS_L1_ind (p0 : List Tlaws_Attr) {P : (List Timpl_Attr) → Int → Option (List Timpl_Attr) → Prop} (μ : (List Timpl_Attr) → Int → Nat) (h : ∀ (l63 : List Timpl_Attr) (i65 : Int) (R : (List Timpl_Attr) → Int → Option (List Timpl_Attr)), (∀ l63' i65', μ l63' i65' < μ l63 i65 → P l63' i65' (R l63' i65')) → P l63 i65 (if decide (i65 < (p0.length : Int)) then (idx p0 i65).bind fun e116 => (laws_toAttr e116).bind fun y132 => (idx l63 i65).bind fun _ => (R) (l63.set i65.toNat y132) (IntKind.i64.wrap (i65 + 1)) else some l63)) : ∀ k l63 i65, μ l63 i65 < k → P l63 i65 (laws_toAttrS_L1 p0 k l63 i65) := by
  intro k
  induction k with
  | zero => intro l63 i65 hk; exact absurd hk (Nat.not_lt_zero _)
  | succ k ih => intro l63 i65 hk; unfold laws_toAttrS_L1; exact h l63 i65 (laws_toAttrS_L1 p0 k) (fun l63' i65' hs => ih l63' i65' (Nat.lt_of_lt_of_le hs (Nat.le_of_lt_succ hk)))

noncomputable def laws_toAttrS (p0 : List Tlaws_Attr) : Option (List Timpl_Attr) :=
  (mk ((Timpl_Attr.mk [] [] []) : Timpl_Attr) (p0.length : Int)).bind fun l10 => laws_toAttrS_L1 p0 Fuel l10 0


noncomputable def laws_toSchema (p0 : Tlaws_Schema) : Option (Timpl_Schema) :=
  (laws_toAttrS p0.Attrs_).bind fun y21 => (laws_toStringS p0.Classes_).bind fun y30 => some (Timpl_Schema.mk y21 y30)


noncomputable def laws_toFork (p0 : Tlaws_Fork) : Option (Timpl_Fork) :=
  some (Timpl_Fork.mk p0.Attr_ p0.At_)


noncomputable def laws_toIntSS_L1 (p0 : List (List Int)) : Nat → (List (List Int)) → Int → Option (List (List Int))
  | 0, _, _ => none
  | k1 + 1, l46, i48 =>
    if decide (i48 < (p0.length : Int)) then (idx p0 i48).bind fun e82 => (laws_toIntS e82).bind fun y90 => (idx l46 i48).bind fun _ => (laws_toIntSS_L1 p0 k1) (l46.set i48.toNat y90) (IntKind.i64.wrap (i48 + 1)) else some l46

theorem laws_toIntSS_L1_ind (p0 : List (List Int)) {P : (List (List Int)) → Int → Option (List (List Int)) → Prop} (μ : (List (List Int)) → Int → Nat) (h : ∀ (l46 : List (List Int)) (i48 : Int) (R : (List (List Int)) → Int → Option (List (List Int))), (∀ l46' i48', μ l46' i48' < μ l46 i48 → P l46' i48' (R l46' i48')) → P l46 i48 (if decide (i48 < (p0.length : Int)) then (idx p0 i48).bind fun e82 => (laws_toIntS e82).bind fun y90 => (idx l46 i48).bind fun _ => (R) (l46.set i48.toNat y90) (IntKind.i64.wrap (i48 + 1)) else some l46)) : ∀ k l46 i48, μ l46 i48 < k → P l46 i48 (laws_toIntSS_L1 p0 k l46 i48) := by
  intro k
  induction k with
  | zero => intro l46 i48 hk; exact absurd hk (Nat.not_lt_zero _)
  | succ k ih => intro l46 i48 hk; unfold laws_toIntSS_L1; exact h l46 i48 (laws_toIntSS_L1 p0 k) (fun l46' i48' hs => ih l46' i48' (Nat.lt_of_lt_of_le hs (Nat.le_of_lt_succ hk)))

noncomputable def laws_toIntSS (p0 : List (List Int)) : Option (List (List Int)) :=
  (mk ([] : List Int) (p0.length : Int)).bind fun l10 => laws_toIntSS_L1 p0 Fuel l10 0


noncomputable def laws_toStats (p0 : Tlaws_Stats) : Option (Timpl_Stats) :=
  (laws_toIntS p0.Totals_).bind fun y21 => (laws_toIntSS p0.Cells_).bind fun y30 => some (Timpl_Stats.mk y21 y30)


noncomputable def laws_toNode (p0 : Tlaws_Node) : Option (Timpl_Node) :=
  (laws_toFork p0.Fork_).bind fun y45 => (laws_toIntS p0.Kids_).bind fun y47 => (laws_toStats p0.Stats_).bind fun y56 => (laws_toIntS p0.Attrs_).bind fun y69 => some (Timpl_Node.mk p0.Leaf_ y45 y47 p0.Miss_ y56 p0.Since_ y69 p0.Depth_ p0.Up_ p0.Born_)


noncomputable def spec_l1In (p0 : Int) (p1 : Int) (p2 : Int) : Option (Bool) :=
  some ((decide (p0 ≥ p1)) && (decide (p0 ≤ p2)))


noncomputable def spec_WordOk_L1 (p0 : List UInt8) : Nat → Int → Option (Bool)
  | 0, _ => none
  | k1 + 1, i20 =>
    if decide (i20 < (p0.length : Int)) then (idx p0 i20).bind fun b29 => (if decide ((b29.toNat : Int) < 97) then some true else (idx p0 i20).bind fun b32 => some (decide ((b32.toNat : Int) > 122))).bind fun u31 => if u31 then some false else (spec_WordOk_L1 p0 k1) (IntKind.i64.wrap (i20 + 1)) else some true

theorem spec_WordOk_L1_ind (p0 : List UInt8) {P : Int → Option (Bool) → Prop} (μ : Int → Nat) (h : ∀ (i20 : Int) (R : Int → Option (Bool)), (∀ i20', μ i20' < μ i20 → P i20' (R i20')) → P i20 (if decide (i20 < (p0.length : Int)) then (idx p0 i20).bind fun b29 => (if decide ((b29.toNat : Int) < 97) then some true else (idx p0 i20).bind fun b32 => some (decide ((b32.toNat : Int) > 122))).bind fun u31 => if u31 then some false else (R) (IntKind.i64.wrap (i20 + 1)) else some true)) : ∀ k i20, μ i20 < k → P i20 (spec_WordOk_L1 p0 k i20) := by
  intro k
  induction k with
  | zero => intro i20 hk; exact absurd hk (Nat.not_lt_zero _)
  | succ k ih => intro i20 hk; unfold spec_WordOk_L1; exact h i20 (spec_WordOk_L1 p0 k) (fun i20' hs => ih i20' (Nat.lt_of_lt_of_le hs (Nat.le_of_lt_succ hk)))

noncomputable def spec_WordOk (p0 : List UInt8) : Option (Bool) :=
  (spec_l1In (p0.length : Int) 1 8).bind fun y10 => if (!y10) then some false else spec_WordOk_L1 p0 Fuel 0


noncomputable def spec_l5Words_L2 (i30 : Int) (p0 : List (List UInt8)) (R1 : Int → Option (Bool)) : Nat → Int → Option (Bool)
  | 0, _ => none
  | k2 + 1, i60 =>
    if decide (i60 < i30) then (idx p0 i30).bind fun e66 => (idx p0 i60).bind fun e68 => if (e66 == e68) then some false else (spec_l5Words_L2 i30 p0 R1 k2) (IntKind.i64.wrap (i60 + 1)) else R1 (IntKind.i64.wrap (i30 + 1))

theorem spec_l5Words_L2_ind (i30 : Int) (p0 : List (List UInt8)) (R1 : Int → Option (Bool)) {P : Int → Option (Bool) → Prop} (μ : Int → Nat) (h : ∀ (i60 : Int) (R : Int → Option (Bool)), (∀ i60', μ i60' < μ i60 → P i60' (R i60')) → P i60 (if decide (i60 < i30) then (idx p0 i30).bind fun e66 => (idx p0 i60).bind fun e68 => if (e66 == e68) then some false else (R) (IntKind.i64.wrap (i60 + 1)) else R1 (IntKind.i64.wrap (i30 + 1)))) : ∀ k i60, μ i60 < k → P i60 (spec_l5Words_L2 i30 p0 R1 k i60) := by
  intro k
  induction k with
  | zero => intro i60 hk; exact absurd hk (Nat.not_lt_zero _)
  | succ k ih => intro i60 hk; unfold spec_l5Words_L2; exact h i60 (spec_l5Words_L2 i30 p0 R1 k) (fun i60' hs => ih i60' (Nat.lt_of_lt_of_le hs (Nat.le_of_lt_succ hk)))

noncomputable def spec_l5Words_L1 (p0 : List (List UInt8)) : Nat → Int → Option (Bool)
  | 0, _ => none
  | k1 + 1, i30 =>
    if decide (i30 < (p0.length : Int)) then (idx p0 i30).bind fun e51 => (spec_WordOk e51).bind fun y53 => if (!y53) then some false else spec_l5Words_L2 i30 p0 (spec_l5Words_L1 p0 k1) Fuel 0 else some true

theorem spec_l5Words_L1_ind (p0 : List (List UInt8)) {P : Int → Option (Bool) → Prop} (μ : Int → Nat) (h : ∀ (i30 : Int) (R : Int → Option (Bool)), (∀ i30', μ i30' < μ i30 → P i30' (R i30')) → P i30 (if decide (i30 < (p0.length : Int)) then (idx p0 i30).bind fun e51 => (spec_WordOk e51).bind fun y53 => if (!y53) then some false else spec_l5Words_L2 i30 p0 (R) Fuel 0 else some true)) : ∀ k i30, μ i30 < k → P i30 (spec_l5Words_L1 p0 k i30) := by
  intro k
  induction k with
  | zero => intro i30 hk; exact absurd hk (Nat.not_lt_zero _)
  | succ k ih => intro i30 hk; unfold spec_l5Words_L1; exact h i30 (spec_l5Words_L1 p0 k) (fun i30' hs => ih i30' (Nat.lt_of_lt_of_le hs (Nat.le_of_lt_succ hk)))

noncomputable def spec_l5Words (p0 : List (List UInt8)) : Option (Bool) :=
  spec_l5Words_L1 p0 Fuel 0


noncomputable def spec_AttrOk_L1 (p0 : Timpl_Attr) : Nat → Int → Option (Bool)
  | 0, _ => none
  | k1 + 1, i47 =>
    if decide (i47 < (p0.Cuts_.length : Int)) then (idx p0.Cuts_ i47).bind fun e63 => (spec_l1In e63 (-9999) 9998).bind fun y65 => (if (!y65) then some true else (if decide (i47 > 0) then (idx p0.Cuts_ i47).bind fun e69 => (idx p0.Cuts_ (IntKind.i64.wrap (i47 - 1))).bind fun e71 => some (decide (e69 ≤ e71)) else some false).bind fun u68 => some u68).bind fun u67 => if u67 then some false else (spec_AttrOk_L1 p0 k1) (IntKind.i64.wrap (i47 + 1)) else some true

theorem spec_AttrOk_L1_ind (p0 : Timpl_Attr) {P : Int → Option (Bool) → Prop} (μ : Int → Nat) (h : ∀ (i47 : Int) (R : Int → Option (Bool)), (∀ i47', μ i47' < μ i47 → P i47' (R i47')) → P i47 (if decide (i47 < (p0.Cuts_.length : Int)) then (idx p0.Cuts_ i47).bind fun e63 => (spec_l1In e63 (-9999) 9998).bind fun y65 => (if (!y65) then some true else (if decide (i47 > 0) then (idx p0.Cuts_ i47).bind fun e69 => (idx p0.Cuts_ (IntKind.i64.wrap (i47 - 1))).bind fun e71 => some (decide (e69 ≤ e71)) else some false).bind fun u68 => some u68).bind fun u67 => if u67 then some false else (R) (IntKind.i64.wrap (i47 + 1)) else some true)) : ∀ k i47, μ i47 < k → P i47 (spec_AttrOk_L1 p0 k i47) := by
  intro k
  induction k with
  | zero => intro i47 hk; exact absurd hk (Nat.not_lt_zero _)
  | succ k ih => intro i47 hk; unfold spec_AttrOk_L1; exact h i47 (spec_AttrOk_L1 p0 k) (fun i47' hs => ih i47' (Nat.lt_of_lt_of_le hs (Nat.le_of_lt_succ hk)))

noncomputable def spec_AttrOk (p0 : Timpl_Attr) : Option (Bool) :=
  (spec_WordOk p0.Name_).bind fun y21 => if (!y21) then some false else if ((p0.Cuts_.length : Int) == 0) then (spec_l1In (p0.Values_.length : Int) 2 4).bind fun y23 => (if y23 then (spec_l5Words p0.Values_).bind fun y26 => some y26 else some false).bind fun u25 => some u25 else if ((decide ((p0.Values_.length : Int) > 0)) || (decide ((p0.Cuts_.length : Int) > 3))) then some false else spec_AttrOk_L1 p0 Fuel 0


noncomputable def spec_SchemaOk_L2 (i149 : Int) (p0 : Timpl_Schema) (R1 : Int → Option (Bool)) : Nat → Int → Option (Bool)
  | 0, _ => none
  | k2 + 1, i319 =>
    if decide (i319 < i149) then (idx p0.Attrs_ i149).bind fun e353 => (idx p0.Attrs_ i319).bind fun e369 => if (e353.Name_ == e369.Name_) then some false else (spec_SchemaOk_L2 i149 p0 R1 k2) (IntKind.i64.wrap (i319 + 1)) else R1 (IntKind.i64.wrap (i149 + 1))

theorem spec_SchemaOk_L2_ind (i149 : Int) (p0 : Timpl_Schema) (R1 : Int → Option (Bool)) {P : Int → Option (Bool) → Prop} (μ : Int → Nat) (h : ∀ (i319 : Int) (R : Int → Option (Bool)), (∀ i319', μ i319' < μ i319 → P i319' (R i319')) → P i319 (if decide (i319 < i149) then (idx p0.Attrs_ i149).bind fun e353 => (idx p0.Attrs_ i319).bind fun e369 => if (e353.Name_ == e369.Name_) then some false else (R) (IntKind.i64.wrap (i319 + 1)) else R1 (IntKind.i64.wrap (i149 + 1)))) : ∀ k i319, μ i319 < k → P i319 (spec_SchemaOk_L2 i149 p0 R1 k i319) := by
  intro k
  induction k with
  | zero => intro i319 hk; exact absurd hk (Nat.not_lt_zero _)
  | succ k ih => intro i319 hk; unfold spec_SchemaOk_L2; exact h i319 (spec_SchemaOk_L2 i149 p0 R1 k) (fun i319' hs => ih i319' (Nat.lt_of_lt_of_le hs (Nat.le_of_lt_succ hk)))

noncomputable def spec_SchemaOk_L1 (p0 : Timpl_Schema) : Nat → Int → Option (Bool)
  | 0, _ => none
  | k1 + 1, i149 =>
    if decide (i149 < (p0.Attrs_.length : Int)) then (idx p0.Attrs_ i149).bind fun e268 => (spec_AttrOk e268).bind fun y284 => if (!y284) then some false else spec_SchemaOk_L2 i149 p0 (spec_SchemaOk_L1 p0 k1) Fuel 0 else some true

theorem spec_SchemaOk_L1_ind (p0 : Timpl_Schema) {P : Int → Option (Bool) → Prop} (μ : Int → Nat) (h : ∀ (i149 : Int) (R : Int → Option (Bool)), (∀ i149', μ i149' < μ i149 → P i149' (R i149')) → P i149 (if decide (i149 < (p0.Attrs_.length : Int)) then (idx p0.Attrs_ i149).bind fun e268 => (spec_AttrOk e268).bind fun y284 => if (!y284) then some false else spec_SchemaOk_L2 i149 p0 (R) Fuel 0 else some true)) : ∀ k i149, μ i149 < k → P i149 (spec_SchemaOk_L1 p0 k i149) := by
  intro k
  induction k with
  | zero => intro i149 hk; exact absurd hk (Nat.not_lt_zero _)
  | succ k ih => intro i149 hk; unfold spec_SchemaOk_L1; exact h i149 (spec_SchemaOk_L1 p0 k) (fun i149' hs => ih i149' (Nat.lt_of_lt_of_le hs (Nat.le_of_lt_succ hk)))

noncomputable def spec_SchemaOk (p0 : Timpl_Schema) : Option (Bool) :=
  (spec_l1In (p0.Attrs_.length : Int) 1 5).bind fun y19 => (if (!y19) then some true else (spec_l1In (p0.Classes_.length : Int) 2 3).bind fun y22 => some (!y22)).bind fun u21 => (if u21 then some true else (spec_l5Words p0.Classes_).bind fun y27 => some (!y27)).bind fun u26 => if u26 then some false else spec_SchemaOk_L1 p0 Fuel 0


noncomputable def spec_Bins (p0 : Timpl_Attr) : Option (Int) :=
  (spec_AttrOk p0).bind fun y21 => if (!y21) then some 0 else if decide ((p0.Cuts_.length : Int) > 0) then some (IntKind.i64.wrap ((p0.Cuts_.length : Int) + 1)) else some (p0.Values_.length : Int)


noncomputable def spec_StatsOk_L4 (y397 : Int) (p1 : Timpl_Stats) (i218 : Int) (p0 : Timpl_Schema) (i452 : Int) (R3 : Int → Option (Bool)) : Nat → Int → Int → Option (Bool)
  | 0, _, _ => none
  | k4 + 1, i512, i513 =>
    if decide (i513 < y397) then (idx p1.Cells_ i218).bind fun e528 => (idx e528 (IntKind.i64.wrap ((IntKind.i64.wrap (i513 * (p0.Classes_.length : Int))) + i452))).bind fun e536 => (spec_l1In e536 0 999).bind fun y538 => if (!y538) then some false else (spec_StatsOk_L4 y397 p1 i218 p0 i452 R3 k4) (IntKind.i64.wrap (i512 + e536)) (IntKind.i64.wrap (i513 + 1)) else (idx p1.Totals_ i452).bind fun e540 => if decide (i512 > e540) then some false else R3 (IntKind.i64.wrap (i452 + 1))

theorem spec_StatsOk_L4_ind (y397 : Int) (p1 : Timpl_Stats) (i218 : Int) (p0 : Timpl_Schema) (i452 : Int) (R3 : Int → Option (Bool)) {P : Int → Int → Option (Bool) → Prop} (μ : Int → Int → Nat) (h : ∀ (i512 : Int) (i513 : Int) (R : Int → Int → Option (Bool)), (∀ i512' i513', μ i512' i513' < μ i512 i513 → P i512' i513' (R i512' i513')) → P i512 i513 (if decide (i513 < y397) then (idx p1.Cells_ i218).bind fun e528 => (idx e528 (IntKind.i64.wrap ((IntKind.i64.wrap (i513 * (p0.Classes_.length : Int))) + i452))).bind fun e536 => (spec_l1In e536 0 999).bind fun y538 => if (!y538) then some false else (R) (IntKind.i64.wrap (i512 + e536)) (IntKind.i64.wrap (i513 + 1)) else (idx p1.Totals_ i452).bind fun e540 => if decide (i512 > e540) then some false else R3 (IntKind.i64.wrap (i452 + 1)))) : ∀ k i512 i513, μ i512 i513 < k → P i512 i513 (spec_StatsOk_L4 y397 p1 i218 p0 i452 R3 k i512 i513) := by
  intro k
  induction k with
  | zero => intro i512 i513 hk; exact absurd hk (Nat.not_lt_zero _)
  | succ k ih => intro i512 i513 hk; unfold spec_StatsOk_L4; exact h i512 i513 (spec_StatsOk_L4 y397 p1 i218 p0 i452 R3 k) (fun i512' i513' hs => ih i512' i513' (Nat.lt_of_lt_of_le hs (Nat.le_of_lt_succ hk)))

noncomputable def spec_StatsOk_L3 (p0 : Timpl_Schema) (y397 : Int) (p1 : Timpl_Stats) (i218 : Int) (R2 : Int → Option (Bool)) : Nat → Int → Option (Bool)
  | 0, _ => none
  | k3 + 1, i452 =>
    if decide (i452 < (p0.Classes_.length : Int)) then spec_StatsOk_L4 y397 p1 i218 p0 i452 (spec_StatsOk_L3 p0 y397 p1 i218 R2 k3) Fuel 0 0 else R2 (IntKind.i64.wrap (i218 + 1))

theorem spec_StatsOk_L3_ind (p0 : Timpl_Schema) (y397 : Int) (p1 : Timpl_Stats) (i218 : Int) (R2 : Int → Option (Bool)) {P : Int → Option (Bool) → Prop} (μ : Int → Nat) (h : ∀ (i452 : Int) (R : Int → Option (Bool)), (∀ i452', μ i452' < μ i452 → P i452' (R i452')) → P i452 (if decide (i452 < (p0.Classes_.length : Int)) then spec_StatsOk_L4 y397 p1 i218 p0 i452 (R) Fuel 0 0 else R2 (IntKind.i64.wrap (i218 + 1)))) : ∀ k i452, μ i452 < k → P i452 (spec_StatsOk_L3 p0 y397 p1 i218 R2 k i452) := by
  intro k
  induction k with
  | zero => intro i452 hk; exact absurd hk (Nat.not_lt_zero _)
  | succ k ih => intro i452 hk; unfold spec_StatsOk_L3; exact h i452 (spec_StatsOk_L3 p0 y397 p1 i218 R2 k) (fun i452' hs => ih i452' (Nat.lt_of_lt_of_le hs (Nat.le_of_lt_succ hk)))

noncomputable def spec_StatsOk_L2 (p1 : Timpl_Stats) (p0 : Timpl_Schema) : Nat → Int → Option (Bool)
  | 0, _ => none
  | k2 + 1, i218 =>
    if decide (i218 < (p1.Cells_.length : Int)) then (idx p0.Attrs_ i218).bind fun e381 => (spec_Bins e381).bind fun y397 => (idx p1.Cells_ i218).bind fun e399 => if ((e399.length : Int) != (IntKind.i64.wrap (y397 * (p0.Classes_.length : Int)))) then some false else spec_StatsOk_L3 p0 y397 p1 i218 (spec_StatsOk_L2 p1 p0 k2) Fuel 0 else some true

theorem spec_StatsOk_L2_ind (p1 : Timpl_Stats) (p0 : Timpl_Schema) {P : Int → Option (Bool) → Prop} (μ : Int → Nat) (h : ∀ (i218 : Int) (R : Int → Option (Bool)), (∀ i218', μ i218' < μ i218 → P i218' (R i218')) → P i218 (if decide (i218 < (p1.Cells_.length : Int)) then (idx p0.Attrs_ i218).bind fun e381 => (spec_Bins e381).bind fun y397 => (idx p1.Cells_ i218).bind fun e399 => if ((e399.length : Int) != (IntKind.i64.wrap (y397 * (p0.Classes_.length : Int)))) then some false else spec_StatsOk_L3 p0 y397 p1 i218 (R) Fuel 0 else some true)) : ∀ k i218, μ i218 < k → P i218 (spec_StatsOk_L2 p1 p0 k i218) := by
  intro k
  induction k with
  | zero => intro i218 hk; exact absurd hk (Nat.not_lt_zero _)
  | succ k ih => intro i218 hk; unfold spec_StatsOk_L2; exact h i218 (spec_StatsOk_L2 p1 p0 k) (fun i218' hs => ih i218' (Nat.lt_of_lt_of_le hs (Nat.le_of_lt_succ hk)))

noncomputable def spec_StatsOk_L1 (p1 : Timpl_Stats) (p0 : Timpl_Schema) : Nat → Int → Int → Option (Bool)
  | 0, _, _ => none
  | k1 + 1, i40, i41 =>
    if decide (i41 < (p1.Totals_.length : Int)) then (idx p1.Totals_ i41).bind fun e50 => (spec_l1In e50 0 999).bind fun y52 => if (!y52) then some false else (idx p1.Totals_ i41).bind fun e54 => (spec_StatsOk_L1 p1 p0 k1) (IntKind.i64.wrap (i40 + e54)) (IntKind.i64.wrap (i41 + 1)) else if decide (i40 > 999) then some false else if ((p1.Cells_.length : Int) == 0) then some true else if ((p1.Cells_.length : Int) != (p0.Attrs_.length : Int)) then some false else spec_StatsOk_L2 p1 p0 Fuel 0

theorem spec_StatsOk_L1_ind (p1 : Timpl_Stats) (p0 : Timpl_Schema) {P : Int → Int → Option (Bool) → Prop} (μ : Int → Int → Nat) (h : ∀ (i40 : Int) (i41 : Int) (R : Int → Int → Option (Bool)), (∀ i40' i41', μ i40' i41' < μ i40 i41 → P i40' i41' (R i40' i41')) → P i40 i41 (if decide (i41 < (p1.Totals_.length : Int)) then (idx p1.Totals_ i41).bind fun e50 => (spec_l1In e50 0 999).bind fun y52 => if (!y52) then some false else (idx p1.Totals_ i41).bind fun e54 => (R) (IntKind.i64.wrap (i40 + e54)) (IntKind.i64.wrap (i41 + 1)) else if decide (i40 > 999) then some false else if ((p1.Cells_.length : Int) == 0) then some true else if ((p1.Cells_.length : Int) != (p0.Attrs_.length : Int)) then some false else spec_StatsOk_L2 p1 p0 Fuel 0)) : ∀ k i40 i41, μ i40 i41 < k → P i40 i41 (spec_StatsOk_L1 p1 p0 k i40 i41) := by
  intro k
  induction k with
  | zero => intro i40 i41 hk; exact absurd hk (Nat.not_lt_zero _)
  | succ k ih => intro i40 i41 hk; unfold spec_StatsOk_L1; exact h i40 i41 (spec_StatsOk_L1 p1 p0 k) (fun i40' i41' hs => ih i40' i41' (Nat.lt_of_lt_of_le hs (Nat.le_of_lt_succ hk)))

noncomputable def spec_StatsOk (p0 : Timpl_Schema) (p1 : Timpl_Stats) : Option (Bool) :=
  (spec_SchemaOk p0).bind fun y28 => if ((!y28) || ((p1.Totals_.length : Int) != (p0.Classes_.length : Int))) then some false else spec_StatsOk_L1 p1 p0 Fuel 0 0


noncomputable def spec_Digits_J1 (s18 : List UInt8) (R1 : Int → (List UInt8) → Option (List UInt8)) (i17 : Int) (i25 : Int) : Option (List UInt8) :=
  (sadd (bytesOf ([IntKind.u8.wrap (IntKind.i64.wrap (48 + i25))] : List Int)) s18).bind fun s27 => R1 (IntKind.i64.wrap (Int.tdiv i17 10)) s27

noncomputable def spec_Digits_L1 (p0 : Int) : Nat → Int → (List UInt8) → Option (List UInt8)
  | 0, _, _ => none
  | k1 + 1, i17, s18 =>
    if (i17 != 0) then if decide ((Int.tmod i17 10) < 0) then spec_Digits_J1 s18 (spec_Digits_L1 p0 k1) i17 (IntKind.i64.wrap (0 - (Int.tmod i17 10))) else spec_Digits_J1 s18 (spec_Digits_L1 p0 k1) i17 (Int.tmod i17 10) else if decide (p0 < 0) then (sadd ([45] : List UInt8) s18).bind fun s29 => some s29 else some s18

theorem spec_Digits_L1_ind (p0 : Int) {P : Int → (List UInt8) → Option (List UInt8) → Prop} (μ : Int → (List UInt8) → Nat) (h : ∀ (i17 : Int) (s18 : List UInt8) (R : Int → (List UInt8) → Option (List UInt8)), (∀ i17' s18', μ i17' s18' < μ i17 s18 → P i17' s18' (R i17' s18')) → P i17 s18 (if (i17 != 0) then if decide ((Int.tmod i17 10) < 0) then spec_Digits_J1 s18 (R) i17 (IntKind.i64.wrap (0 - (Int.tmod i17 10))) else spec_Digits_J1 s18 (R) i17 (Int.tmod i17 10) else if decide (p0 < 0) then (sadd ([45] : List UInt8) s18).bind fun s29 => some s29 else some s18)) : ∀ k i17 s18, μ i17 s18 < k → P i17 s18 (spec_Digits_L1 p0 k i17 s18) := by
  intro k
  induction k with
  | zero => intro i17 s18 hk; exact absurd hk (Nat.not_lt_zero _)
  | succ k ih => intro i17 s18 hk; unfold spec_Digits_L1; exact h i17 s18 (spec_Digits_L1 p0 k) (fun i17' s18' hs => ih i17' s18' (Nat.lt_of_lt_of_le hs (Nat.le_of_lt_succ hk)))

noncomputable def spec_Digits (p0 : Int) : Option (List UInt8) :=
  if (p0 == 0) then some ([48] : List UInt8) else spec_Digits_L1 p0 Fuel p0 ([] : List UInt8)


noncomputable def spec_l5Join_J1 (p0 : List (List UInt8)) (i22 : Int) (R1 : (List UInt8) → Int → Option (List UInt8)) (s36 : List UInt8) : Option (List UInt8) :=
  (idx p0 i22).bind fun e37 => (sadd s36 e37).bind fun s39 => R1 s39 (IntKind.i64.wrap (i22 + 1))

noncomputable def spec_l5Join_L1 (p0 : List (List UInt8)) (p1 : List UInt8) : Nat → (List UInt8) → Int → Option (List UInt8)
  | 0, _, _ => none
  | k1 + 1, s21, i22 =>
    if decide (i22 < (p0.length : Int)) then if decide (i22 > 0) then (sadd s21 p1).bind fun s41 => spec_l5Join_J1 p0 i22 (spec_l5Join_L1 p0 p1 k1) s41 else spec_l5Join_J1 p0 i22 (spec_l5Join_L1 p0 p1 k1) s21 else some s21

theorem spec_l5Join_L1_ind (p0 : List (List UInt8)) (p1 : List UInt8) {P : (List UInt8) → Int → Option (List UInt8) → Prop} (μ : (List UInt8) → Int → Nat) (h : ∀ (s21 : List UInt8) (i22 : Int) (R : (List UInt8) → Int → Option (List UInt8)), (∀ s21' i22', μ s21' i22' < μ s21 i22 → P s21' i22' (R s21' i22')) → P s21 i22 (if decide (i22 < (p0.length : Int)) then if decide (i22 > 0) then (sadd s21 p1).bind fun s41 => spec_l5Join_J1 p0 i22 (R) s41 else spec_l5Join_J1 p0 i22 (R) s21 else some s21)) : ∀ k s21 i22, μ s21 i22 < k → P s21 i22 (spec_l5Join_L1 p0 p1 k s21 i22) := by
  intro k
  induction k with
  | zero => intro s21 i22 hk; exact absurd hk (Nat.not_lt_zero _)
  | succ k ih => intro s21 i22 hk; unfold spec_l5Join_L1; exact h s21 i22 (spec_l5Join_L1 p0 p1 k) (fun s21' i22' hs => ih s21' i22' (Nat.lt_of_lt_of_le hs (Nat.le_of_lt_succ hk)))

noncomputable def spec_l5Join (p0 : List (List UInt8)) (p1 : List UInt8) : Option (List UInt8) :=
  spec_l5Join_L1 p0 p1 Fuel ([] : List UInt8) 0


noncomputable def spec_TotalsText_L1 (p0 : List Int) : Nat → (List (List UInt8)) → Int → Option (List UInt8)
  | 0, _, _ => none
  | k1 + 1, l28, i33 =>
    if decide (i33 < (p0.length : Int)) then (idx p0 i33).bind fun e51 => (spec_Digits e51).bind fun y53 => (app l28 ([y53] : List (List UInt8))).bind fun l56 => (spec_TotalsText_L1 p0 k1) l56 (IntKind.i64.wrap (i33 + 1)) else (spec_l5Join l28 ([47] : List UInt8)).bind fun y62 => some y62

theorem spec_TotalsText_L1_ind (p0 : List Int) {P : (List (List UInt8)) → Int → Option (List UInt8) → Prop} (μ : (List (List UInt8)) → Int → Nat) (h : ∀ (l28 : List (List UInt8)) (i33 : Int) (R : (List (List UInt8)) → Int → Option (List UInt8)), (∀ l28' i33', μ l28' i33' < μ l28 i33 → P l28' i33' (R l28' i33')) → P l28 i33 (if decide (i33 < (p0.length : Int)) then (idx p0 i33).bind fun e51 => (spec_Digits e51).bind fun y53 => (app l28 ([y53] : List (List UInt8))).bind fun l56 => (R) l56 (IntKind.i64.wrap (i33 + 1)) else (spec_l5Join l28 ([47] : List UInt8)).bind fun y62 => some y62)) : ∀ k l28 i33, μ l28 i33 < k → P l28 i33 (spec_TotalsText_L1 p0 k l28 i33) := by
  intro k
  induction k with
  | zero => intro l28 i33 hk; exact absurd hk (Nat.not_lt_zero _)
  | succ k ih => intro l28 i33 hk; unfold spec_TotalsText_L1; exact h l28 i33 (spec_TotalsText_L1 p0 k) (fun l28' i33' hs => ih l28' i33' (Nat.lt_of_lt_of_le hs (Nat.le_of_lt_succ hk)))

noncomputable def spec_TotalsText (p0 : List Int) : Option (List UInt8) :=
  spec_TotalsText_L1 p0 Fuel ([] : List (List UInt8)) 0


noncomputable def spec_TopOf_L1 (p0 : List Int) : Nat → Int → Int → Option (Int)
  | 0, _, _ => none
  | k1 + 1, i19, i20 =>
    if decide (i20 < (p0.length : Int)) then (if decide (i19 < 0) then some true else (idx p0 i20).bind fun e31 => (idx p0 i19).bind fun e33 => some (decide (e31 > e33))).bind fun u30 => if u30 then (spec_TopOf_L1 p0 k1) i20 (IntKind.i64.wrap (i20 + 1)) else (spec_TopOf_L1 p0 k1) i19 (IntKind.i64.wrap (i20 + 1)) else some i19

theorem spec_TopOf_L1_ind (p0 : List Int) {P : Int → Int → Option (Int) → Prop} (μ : Int → Int → Nat) (h : ∀ (i19 : Int) (i20 : Int) (R : Int → Int → Option (Int)), (∀ i19' i20', μ i19' i20' < μ i19 i20 → P i19' i20' (R i19' i20')) → P i19 i20 (if decide (i20 < (p0.length : Int)) then (if decide (i19 < 0) then some true else (idx p0 i20).bind fun e31 => (idx p0 i19).bind fun e33 => some (decide (e31 > e33))).bind fun u30 => if u30 then (R) i20 (IntKind.i64.wrap (i20 + 1)) else (R) i19 (IntKind.i64.wrap (i20 + 1)) else some i19)) : ∀ k i19 i20, μ i19 i20 < k → P i19 i20 (spec_TopOf_L1 p0 k i19 i20) := by
  intro k
  induction k with
  | zero => intro i19 i20 hk; exact absurd hk (Nat.not_lt_zero _)
  | succ k ih => intro i19 i20 hk; unfold spec_TopOf_L1; exact h i19 i20 (spec_TopOf_L1 p0 k) (fun i19' i20' hs => ih i19' i20' (Nat.lt_of_lt_of_le hs (Nat.le_of_lt_succ hk)))

noncomputable def spec_TopOf (p0 : List Int) : Option (Int) :=
  spec_TopOf_L1 p0 Fuel (-1) 0


noncomputable def spec_ForkOk (p0 : Timpl_Schema) (p1 : Timpl_Fork) : Option (Bool) :=
  (spec_SchemaOk p0).bind fun y20 => (if (!y20) then some true else (spec_l1In p1.Attr_ 0 (IntKind.i64.wrap ((p0.Attrs_.length : Int) - 1))).bind fun y23 => some (!y23)).bind fun u22 => if u22 then some false else (idx p0.Attrs_ p1.Attr_).bind fun e27 => if decide ((e27.Cuts_.length : Int) > 0) then (idx p0.Attrs_ p1.Attr_).bind fun e43 => (spec_Bins e43).bind fun y59 => (spec_l1In p1.At_ (-1) (IntKind.i64.wrap (y59 - 2))).bind fun y61 => some y61 else (idx p0.Attrs_ p1.Attr_).bind fun e63 => (spec_Bins e63).bind fun y79 => (spec_l1In p1.At_ (-1) (IntKind.i64.wrap (y79 - 1))).bind fun y81 => some y81


noncomputable def spec_ForkText (p0 : Timpl_Schema) (p1 : Timpl_Fork) : Option (List UInt8) :=
  (spec_ForkOk p0 p1).bind fun y20 => if (!y20) then some ([] : List UInt8) else (idx p0.Attrs_ p1.Attr_).bind fun e22 => if (p1.At_ == (-1)) then (sadd e22.Name_ ([42] : List UInt8)).bind fun s39 => some s39 else if decide ((e22.Cuts_.length : Int) > 0) then (sadd e22.Name_ ([60, 61] : List UInt8)).bind fun s41 => (idx e22.Cuts_ p1.At_).bind fun e43 => (spec_Digits e43).bind fun y45 => (sadd s41 y45).bind fun s47 => some s47 else (sadd e22.Name_ ([61] : List UInt8)).bind fun s49 => (idx e22.Values_ p1.At_).bind fun e51 => (sadd s49 e51).bind fun s53 => some s53


noncomputable def spec_NodeText_J1 (p1 : Timpl_Node) (p0 : Timpl_Schema) (s54 : List UInt8) : Option (List UInt8) :=
  (sadd s54 ([32] : List UInt8)).bind fun s55 => (spec_TotalsText p1.Stats_.Totals_).bind fun y57 => (sadd s55 y57).bind fun s59 => (sadd s59 ([32] : List UInt8)).bind fun s61 => (spec_TopOf p1.Stats_.Totals_).bind fun y63 => (idx p0.Classes_ y63).bind fun e65 => (sadd s61 e65).bind fun s67 => (sadd s67 ([32, 115, 105, 110, 99, 101, 32] : List UInt8)).bind fun s69 => (spec_Digits p1.Since_).bind fun y71 => (sadd s69 y71).bind fun s73 => some s73

noncomputable def spec_NodeText_L1 (p1 : Timpl_Node) : Nat → (List UInt8) → Int → Option (List UInt8)
  | 0, _, _ => none
  | k1 + 1, s95, i96 =>
    if decide (i96 < (p1.Kids_.length : Int)) then (sadd s95 ([32] : List UInt8)).bind fun s107 => (idx p1.Kids_ i96).bind fun e109 => (spec_Digits e109).bind fun y111 => (sadd s107 y111).bind fun s113 => (spec_NodeText_L1 p1 k1) s113 (IntKind.i64.wrap (i96 + 1)) else some s95

theorem spec_NodeText_L1_ind (p1 : Timpl_Node) {P : (List UInt8) → Int → Option (List UInt8) → Prop} (μ : (List UInt8) → Int → Nat) (h : ∀ (s95 : List UInt8) (i96 : Int) (R : (List UInt8) → Int → Option (List UInt8)), (∀ s95' i96', μ s95' i96' < μ s95 i96 → P s95' i96' (R s95' i96')) → P s95 i96 (if decide (i96 < (p1.Kids_.length : Int)) then (sadd s95 ([32] : List UInt8)).bind fun s107 => (idx p1.Kids_ i96).bind fun e109 => (spec_Digits e109).bind fun y111 => (sadd s107 y111).bind fun s113 => (R) s113 (IntKind.i64.wrap (i96 + 1)) else some s95)) : ∀ k s95 i96, μ s95 i96 < k → P s95 i96 (spec_NodeText_L1 p1 k s95 i96) := by
  intro k
  induction k with
  | zero => intro s95 i96 hk; exact absurd hk (Nat.not_lt_zero _)
  | succ k ih => intro s95 i96 hk; unfold spec_NodeText_L1; exact h s95 i96 (spec_NodeText_L1 p1 k) (fun s95' i96' hs => ih s95' i96' (Nat.lt_of_lt_of_le hs (Nat.le_of_lt_succ hk)))

noncomputable def spec_NodeText (p0 : Timpl_Schema) (p1 : Timpl_Node) : Option (List UInt8) :=
  if p1.Leaf_ then (spec_StatsOk p0 p1.Stats_).bind fun y52 => if (!y52) then some ([] : List UInt8) else if ((p1.Stats_.Cells_.length : Int) == 0) then spec_NodeText_J1 p1 p0 ([116, 104, 105, 110] : List UInt8) else spec_NodeText_J1 p1 p0 ([108, 101, 97, 102] : List UInt8) else (spec_ForkOk p0 p1.Fork_).bind fun y75 => if (!y75) then some ([] : List UInt8) else (spec_ForkText p0 p1.Fork_).bind fun y77 => (sadd y77 ([32, 109, 105, 115, 115, 32] : List UInt8)).bind fun s79 => (spec_Digits p1.Miss_).bind fun y81 => (sadd s79 y81).bind fun s83 => spec_NodeText_L1 p1 Fuel s83 0


noncomputable def impl_within (p0 : Int) (p1 : Int) (p2 : Int) : Option (Bool) :=
  some ((decide (p0 ≥ p1)) && (decide (p0 ≤ p2)))


noncomputable def impl_WordOk_L1 (p0 : List UInt8) : Nat → Int → Option (Bool)
  | 0, _ => none
  | k1 + 1, i20 =>
    if decide (i20 < (p0.length : Int)) then (idx p0 i20).bind fun b29 => (if decide ((b29.toNat : Int) < 97) then some true else (idx p0 i20).bind fun b32 => some (decide ((b32.toNat : Int) > 122))).bind fun u31 => if u31 then some false else (impl_WordOk_L1 p0 k1) (IntKind.i64.wrap (i20 + 1)) else some true

theorem impl_WordOk_L1_ind (p0 : List UInt8) {P : Int → Option (Bool) → Prop} (μ : Int → Nat) (h : ∀ (i20 : Int) (R : Int → Option (Bool)), (∀ i20', μ i20' < μ i20 → P i20' (R i20')) → P i20 (if decide (i20 < (p0.length : Int)) then (idx p0 i20).bind fun b29 => (if decide ((b29.toNat : Int) < 97) then some true else (idx p0 i20).bind fun b32 => some (decide ((b32.toNat : Int) > 122))).bind fun u31 => if u31 then some false else (R) (IntKind.i64.wrap (i20 + 1)) else some true)) : ∀ k i20, μ i20 < k → P i20 (impl_WordOk_L1 p0 k i20) := by
  intro k
  induction k with
  | zero => intro i20 hk; exact absurd hk (Nat.not_lt_zero _)
  | succ k ih => intro i20 hk; unfold impl_WordOk_L1; exact h i20 (impl_WordOk_L1 p0 k) (fun i20' hs => ih i20' (Nat.lt_of_lt_of_le hs (Nat.le_of_lt_succ hk)))

noncomputable def impl_WordOk (p0 : List UInt8) : Option (Bool) :=
  (impl_within (p0.length : Int) 1 8).bind fun y10 => if (!y10) then some false else impl_WordOk_L1 p0 Fuel 0


noncomputable def lib_slices_Index___string_string__L1 (p0 : List (List UInt8)) (p1 : List UInt8) : Nat → Int → Option (Int)
  | 0, _ => none
  | k1 + 1, i13 =>
    if decide (i13 < (p0.length : Int)) then (idx p0 i13).bind fun e18 => if (p1 == e18) then some i13 else (lib_slices_Index___string_string__L1 p0 p1 k1) (IntKind.i64.wrap (i13 + 1)) else some (-1)

theorem lib_slices_Index___string_string__L1_ind (p0 : List (List UInt8)) (p1 : List UInt8) {P : Int → Option (Int) → Prop} (μ : Int → Nat) (h : ∀ (i13 : Int) (R : Int → Option (Int)), (∀ i13', μ i13' < μ i13 → P i13' (R i13')) → P i13 (if decide (i13 < (p0.length : Int)) then (idx p0 i13).bind fun e18 => if (p1 == e18) then some i13 else (R) (IntKind.i64.wrap (i13 + 1)) else some (-1))) : ∀ k i13, μ i13 < k → P i13 (lib_slices_Index___string_string__L1 p0 p1 k i13) := by
  intro k
  induction k with
  | zero => intro i13 hk; exact absurd hk (Nat.not_lt_zero _)
  | succ k ih => intro i13 hk; unfold lib_slices_Index___string_string__L1; exact h i13 (lib_slices_Index___string_string__L1 p0 p1 k) (fun i13' hs => ih i13' (Nat.lt_of_lt_of_le hs (Nat.le_of_lt_succ hk)))

noncomputable def lib_slices_Index___string_string_ (p0 : List (List UInt8)) (p1 : List UInt8) : Option (Int) :=
  lib_slices_Index___string_string__L1 p0 p1 Fuel 0


noncomputable def lib_slices_Contains___string_string_ (p0 : List (List UInt8)) (p1 : List UInt8) : Option (Bool) :=
  (lib_slices_Index___string_string_ p0 p1).bind fun y10 => some (decide (y10 ≥ 0))


noncomputable def impl_distinctWords_L1 (p0 : List (List UInt8)) : Nat → Int → Option (Bool)
  | 0, _ => none
  | k1 + 1, i26 =>
    if decide (i26 < (p0.length : Int)) then (idx p0 i26).bind fun e43 => (impl_WordOk e43).bind fun y45 => (if (!y45) then some true else (sub p0 0 i26).bind fun l48 => (lib_slices_Contains___string_string_ l48 e43).bind fun y54 => some y54).bind fun u47 => if u47 then some false else (impl_distinctWords_L1 p0 k1) (IntKind.i64.wrap (i26 + 1)) else some true

theorem impl_distinctWords_L1_ind (p0 : List (List UInt8)) {P : Int → Option (Bool) → Prop} (μ : Int → Nat) (h : ∀ (i26 : Int) (R : Int → Option (Bool)), (∀ i26', μ i26' < μ i26 → P i26' (R i26')) → P i26 (if decide (i26 < (p0.length : Int)) then (idx p0 i26).bind fun e43 => (impl_WordOk e43).bind fun y45 => (if (!y45) then some true else (sub p0 0 i26).bind fun l48 => (lib_slices_Contains___string_string_ l48 e43).bind fun y54 => some y54).bind fun u47 => if u47 then some false else (R) (IntKind.i64.wrap (i26 + 1)) else some true)) : ∀ k i26, μ i26 < k → P i26 (impl_distinctWords_L1 p0 k i26) := by
  intro k
  induction k with
  | zero => intro i26 hk; exact absurd hk (Nat.not_lt_zero _)
  | succ k ih => intro i26 hk; unfold impl_distinctWords_L1; exact h i26 (impl_distinctWords_L1 p0 k) (fun i26' hs => ih i26' (Nat.lt_of_lt_of_le hs (Nat.le_of_lt_succ hk)))

noncomputable def impl_distinctWords (p0 : List (List UInt8)) : Option (Bool) :=
  impl_distinctWords_L1 p0 Fuel 0


noncomputable def impl_ascending_L1 (p0 : List Int) : Nat → Int → Option (Bool)
  | 0, _ => none
  | k1 + 1, i15 =>
    if decide (i15 < (p0.length : Int)) then (idx p0 i15).bind fun e21 => (idx p0 (IntKind.i64.wrap (i15 - 1))).bind fun e23 => if decide (e21 ≤ e23) then some false else (impl_ascending_L1 p0 k1) (IntKind.i64.wrap (i15 + 1)) else some true

theorem impl_ascending_L1_ind (p0 : List Int) {P : Int → Option (Bool) → Prop} (μ : Int → Nat) (h : ∀ (i15 : Int) (R : Int → Option (Bool)), (∀ i15', μ i15' < μ i15 → P i15' (R i15')) → P i15 (if decide (i15 < (p0.length : Int)) then (idx p0 i15).bind fun e21 => (idx p0 (IntKind.i64.wrap (i15 - 1))).bind fun e23 => if decide (e21 ≤ e23) then some false else (R) (IntKind.i64.wrap (i15 + 1)) else some true)) : ∀ k i15, μ i15 < k → P i15 (impl_ascending_L1 p0 k i15) := by
  intro k
  induction k with
  | zero => intro i15 hk; exact absurd hk (Nat.not_lt_zero _)
  | succ k ih => intro i15 hk; unfold impl_ascending_L1; exact h i15 (impl_ascending_L1 p0 k) (fun i15' hs => ih i15' (Nat.lt_of_lt_of_le hs (Nat.le_of_lt_succ hk)))

noncomputable def impl_ascending (p0 : List Int) : Option (Bool) :=
  impl_ascending_L1 p0 Fuel 1


noncomputable def impl_isCut (p0 : Int) : Option (Bool) :=
  (impl_within p0 (-9999) 9998).bind fun y10 => some y10


noncomputable def impl_CutsOk_1 (p0 : Int) : Option (Bool) :=
  (impl_isCut p0).bind fun y10 => some (!y10)


noncomputable def lib_slices_IndexFunc___int_int___impl_CutsOk_1_L1 (p0 : List Int) : Nat → Int → Option (Int)
  | 0, _ => none
  | k1 + 1, i15 =>
    if decide (i15 < (p0.length : Int)) then (idx p0 i15).bind fun e21 => (impl_CutsOk_1 e21).bind fun y23 => if y23 then some i15 else (lib_slices_IndexFunc___int_int___impl_CutsOk_1_L1 p0 k1) (IntKind.i64.wrap (i15 + 1)) else some (-1)

theorem lib_slices_IndexFunc___int_int___impl_CutsOk_1_L1_ind (p0 : List Int) {P : Int → Option (Int) → Prop} (μ : Int → Nat) (h : ∀ (i15 : Int) (R : Int → Option (Int)), (∀ i15', μ i15' < μ i15 → P i15' (R i15')) → P i15 (if decide (i15 < (p0.length : Int)) then (idx p0 i15).bind fun e21 => (impl_CutsOk_1 e21).bind fun y23 => if y23 then some i15 else (R) (IntKind.i64.wrap (i15 + 1)) else some (-1))) : ∀ k i15, μ i15 < k → P i15 (lib_slices_IndexFunc___int_int___impl_CutsOk_1_L1 p0 k i15) := by
  intro k
  induction k with
  | zero => intro i15 hk; exact absurd hk (Nat.not_lt_zero _)
  | succ k ih => intro i15 hk; unfold lib_slices_IndexFunc___int_int___impl_CutsOk_1_L1; exact h i15 (lib_slices_IndexFunc___int_int___impl_CutsOk_1_L1 p0 k) (fun i15' hs => ih i15' (Nat.lt_of_lt_of_le hs (Nat.le_of_lt_succ hk)))

noncomputable def lib_slices_IndexFunc___int_int___impl_CutsOk_1 (p0 : List Int) : Option (Int) :=
  lib_slices_IndexFunc___int_int___impl_CutsOk_1_L1 p0 Fuel 0


noncomputable def lib_slices_ContainsFunc___int_int___impl_CutsOk_1 (p0 : List Int) : Option (Bool) :=
  (lib_slices_IndexFunc___int_int___impl_CutsOk_1 p0).bind fun y10 => some (decide (y10 ≥ 0))


noncomputable def impl_CutsOk (p0 : List Int) : Option (Bool) :=
  (impl_within (p0.length : Int) 1 3).bind fun y10 => (if y10 then (impl_ascending p0).bind fun y13 => some y13 else some false).bind fun u12 => (if u12 then (lib_slices_ContainsFunc___int_int___impl_CutsOk_1 p0).bind fun y18 => some (!y18) else some false).bind fun u17 => some u17


noncomputable def impl_AttrOk (p0 : Timpl_Attr) : Option (Bool) :=
  (impl_WordOk p0.Name_).bind fun y21 => if (!y21) then some false else if ((p0.Cuts_.length : Int) == 0) then (impl_within (p0.Values_.length : Int) 2 4).bind fun y23 => (if y23 then (impl_distinctWords p0.Values_).bind fun y26 => some y26 else some false).bind fun u25 => some u25 else (if ((p0.Values_.length : Int) == 0) then (impl_CutsOk p0.Cuts_).bind fun y31 => some y31 else some false).bind fun u30 => some u30


noncomputable def impl_SchemaOk_L1 (p0 : Timpl_Schema) : Nat → Int → (List (List UInt8)) → Option (Bool)
  | 0, _, _ => none
  | k1 + 1, i65, l66 =>
    if decide (i65 < (p0.Attrs_.length : Int)) then (idx p0.Attrs_ i65).bind fun e103 => (impl_AttrOk e103).bind fun y120 => if (!y120) then some false else (app l66 ([e103.Name_] : List (List UInt8))).bind fun l123 => (impl_SchemaOk_L1 p0 k1) (IntKind.i64.wrap (i65 + 1)) l123 else (impl_distinctWords l66).bind fun y129 => some y129

theorem impl_SchemaOk_L1_ind (p0 : Timpl_Schema) {P : Int → (List (List UInt8)) → Option (Bool) → Prop} (μ : Int → (List (List UInt8)) → Nat) (h : ∀ (i65 : Int) (l66 : List (List UInt8)) (R : Int → (List (List UInt8)) → Option (Bool)), (∀ i65' l66', μ i65' l66' < μ i65 l66 → P i65' l66' (R i65' l66')) → P i65 l66 (if decide (i65 < (p0.Attrs_.length : Int)) then (idx p0.Attrs_ i65).bind fun e103 => (impl_AttrOk e103).bind fun y120 => if (!y120) then some false else (app l66 ([e103.Name_] : List (List UInt8))).bind fun l123 => (R) (IntKind.i64.wrap (i65 + 1)) l123 else (impl_distinctWords l66).bind fun y129 => some y129)) : ∀ k i65 l66, μ i65 l66 < k → P i65 l66 (impl_SchemaOk_L1 p0 k i65 l66) := by
  intro k
  induction k with
  | zero => intro i65 l66 hk; exact absurd hk (Nat.not_lt_zero _)
  | succ k ih => intro i65 l66 hk; unfold impl_SchemaOk_L1; exact h i65 l66 (impl_SchemaOk_L1 p0 k) (fun i65' l66' hs => ih i65' l66' (Nat.lt_of_lt_of_le hs (Nat.le_of_lt_succ hk)))

noncomputable def impl_SchemaOk (p0 : Timpl_Schema) : Option (Bool) :=
  (impl_within (p0.Attrs_.length : Int) 1 5).bind fun y19 => (if (!y19) then some true else (impl_within (p0.Classes_.length : Int) 2 3).bind fun y22 => some (!y22)).bind fun u21 => (if u21 then some true else (impl_distinctWords p0.Classes_).bind fun y27 => some (!y27)).bind fun u26 => if u26 then some false else impl_SchemaOk_L1 p0 Fuel 0 ([] : List (List UInt8))


noncomputable def impl_weights_1 (p0 : Int) : Option (Bool) :=
  (impl_within p0 0 999).bind fun y10 => some (!y10)


noncomputable def lib_slices_IndexFunc___int_int___impl_weights_1_L1 (p0 : List Int) : Nat → Int → Option (Int)
  | 0, _ => none
  | k1 + 1, i15 =>
    if decide (i15 < (p0.length : Int)) then (idx p0 i15).bind fun e21 => (impl_weights_1 e21).bind fun y23 => if y23 then some i15 else (lib_slices_IndexFunc___int_int___impl_weights_1_L1 p0 k1) (IntKind.i64.wrap (i15 + 1)) else some (-1)

theorem lib_slices_IndexFunc___int_int___impl_weights_1_L1_ind (p0 : List Int) {P : Int → Option (Int) → Prop} (μ : Int → Nat) (h : ∀ (i15 : Int) (R : Int → Option (Int)), (∀ i15', μ i15' < μ i15 → P i15' (R i15')) → P i15 (if decide (i15 < (p0.length : Int)) then (idx p0 i15).bind fun e21 => (impl_weights_1 e21).bind fun y23 => if y23 then some i15 else (R) (IntKind.i64.wrap (i15 + 1)) else some (-1))) : ∀ k i15, μ i15 < k → P i15 (lib_slices_IndexFunc___int_int___impl_weights_1_L1 p0 k i15) := by
  intro k
  induction k with
  | zero => intro i15 hk; exact absurd hk (Nat.not_lt_zero _)
  | succ k ih => intro i15 hk; unfold lib_slices_IndexFunc___int_int___impl_weights_1_L1; exact h i15 (lib_slices_IndexFunc___int_int___impl_weights_1_L1 p0 k) (fun i15' hs => ih i15' (Nat.lt_of_lt_of_le hs (Nat.le_of_lt_succ hk)))

noncomputable def lib_slices_IndexFunc___int_int___impl_weights_1 (p0 : List Int) : Option (Int) :=
  lib_slices_IndexFunc___int_int___impl_weights_1_L1 p0 Fuel 0


noncomputable def lib_slices_ContainsFunc___int_int___impl_weights_1 (p0 : List Int) : Option (Bool) :=
  (lib_slices_IndexFunc___int_int___impl_weights_1 p0).bind fun y10 => some (decide (y10 ≥ 0))


noncomputable def impl_weights (p0 : List Int) (p1 : Int) : Option (Bool) :=
  (if ((p0.length : Int) == p1) then (lib_slices_ContainsFunc___int_int___impl_weights_1 p0).bind fun y11 => some (!y11) else some false).bind fun u10 => some u10


noncomputable def impl_total_L1 (p0 : List Int) : Nat → Int → Int → Option (Int)
  | 0, _, _ => none
  | k1 + 1, i14, i15 =>
    if decide (i15 < (p0.length : Int)) then (idx p0 i15).bind fun e20 => (impl_total_L1 p0 k1) (IntKind.i64.wrap (i14 + e20)) (IntKind.i64.wrap (i15 + 1)) else some i14

theorem impl_total_L1_ind (p0 : List Int) {P : Int → Int → Option (Int) → Prop} (μ : Int → Int → Nat) (h : ∀ (i14 : Int) (i15 : Int) (R : Int → Int → Option (Int)), (∀ i14' i15', μ i14' i15' < μ i14 i15 → P i14' i15' (R i14' i15')) → P i14 i15 (if decide (i15 < (p0.length : Int)) then (idx p0 i15).bind fun e20 => (R) (IntKind.i64.wrap (i14 + e20)) (IntKind.i64.wrap (i15 + 1)) else some i14)) : ∀ k i14 i15, μ i14 i15 < k → P i14 i15 (impl_total_L1 p0 k i14 i15) := by
  intro k
  induction k with
  | zero => intro i14 i15 hk; exact absurd hk (Nat.not_lt_zero _)
  | succ k ih => intro i14 i15 hk; unfold impl_total_L1; exact h i14 i15 (impl_total_L1 p0 k) (fun i14' i15' hs => ih i14' i15' (Nat.lt_of_lt_of_le hs (Nat.le_of_lt_succ hk)))

noncomputable def impl_total (p0 : List Int) : Option (Int) :=
  impl_total_L1 p0 Fuel 0 0


noncomputable def impl_bins (p0 : Timpl_Attr) : Option (Int) :=
  if decide ((p0.Cuts_.length : Int) > 0) then some (IntKind.i64.wrap ((p0.Cuts_.length : Int) + 1)) else some (p0.Values_.length : Int)


noncomputable def impl_zeros (p0 : Int) : Option (List Int) :=
  (mk (0 : Int) p0).bind fun l10 => some l10


noncomputable def impl_StatsOk_L2 (e225 : List Int) (p0 : Timpl_Schema) (p1 : Timpl_Stats) (R1 : Int → Option (Bool)) (i132 : Int) : Nat → Int → (List Int) → Option (Bool)
  | 0, _, _ => none
  | k2 + 1, i280, l281 =>
    if decide (i280 < (e225.length : Int)) then (idx e225 i280).bind fun e300 => (rem i280 (p0.Classes_.length : Int)).bind fun x302 => (idx l281 x302).bind fun e304 => (idx l281 x302).bind fun _ => (rem i280 (p0.Classes_.length : Int)).bind fun x308 => (idx (l281.set x302.toNat (IntKind.i64.wrap (e304 + e300))) x308).bind fun e310 => (rem i280 (p0.Classes_.length : Int)).bind fun x312 => (idx p1.Totals_ x312).bind fun e314 => if decide (e310 > e314) then some false else (impl_StatsOk_L2 e225 p0 p1 R1 i132 k2) (IntKind.i64.wrap (i280 + 1)) (l281.set x302.toNat (IntKind.i64.wrap (e304 + e300))) else R1 (IntKind.i64.wrap (i132 + 1))

theorem impl_StatsOk_L2_ind (e225 : List Int) (p0 : Timpl_Schema) (p1 : Timpl_Stats) (R1 : Int → Option (Bool)) (i132 : Int) {P : Int → (List Int) → Option (Bool) → Prop} (μ : Int → (List Int) → Nat) (h : ∀ (i280 : Int) (l281 : List Int) (R : Int → (List Int) → Option (Bool)), (∀ i280' l281', μ i280' l281' < μ i280 l281 → P i280' l281' (R i280' l281')) → P i280 l281 (if decide (i280 < (e225.length : Int)) then (idx e225 i280).bind fun e300 => (rem i280 (p0.Classes_.length : Int)).bind fun x302 => (idx l281 x302).bind fun e304 => (idx l281 x302).bind fun _ => (rem i280 (p0.Classes_.length : Int)).bind fun x308 => (idx (l281.set x302.toNat (IntKind.i64.wrap (e304 + e300))) x308).bind fun e310 => (rem i280 (p0.Classes_.length : Int)).bind fun x312 => (idx p1.Totals_ x312).bind fun e314 => if decide (e310 > e314) then some false else (R) (IntKind.i64.wrap (i280 + 1)) (l281.set x302.toNat (IntKind.i64.wrap (e304 + e300))) else R1 (IntKind.i64.wrap (i132 + 1)))) : ∀ k i280 l281, μ i280 l281 < k → P i280 l281 (impl_StatsOk_L2 e225 p0 p1 R1 i132 k i280 l281) := by
  intro k
  induction k with
  | zero => intro i280 l281 hk; exact absurd hk (Nat.not_lt_zero _)
  | succ k ih => intro i280 l281 hk; unfold impl_StatsOk_L2; exact h i280 l281 (impl_StatsOk_L2 e225 p0 p1 R1 i132 k) (fun i280' l281' hs => ih i280' l281' (Nat.lt_of_lt_of_le hs (Nat.le_of_lt_succ hk)))

noncomputable def impl_StatsOk_L1 (p1 : Timpl_Stats) (p0 : Timpl_Schema) : Nat → Int → Option (Bool)
  | 0, _ => none
  | k1 + 1, i132 =>
    if decide (i132 < (p1.Cells_.length : Int)) then (idx p1.Cells_ i132).bind fun e225 => (idx p0.Attrs_ i132).bind fun e233 => (impl_bins e233).bind fun y249 => (impl_weights e225 (IntKind.i64.wrap (y249 * (p0.Classes_.length : Int)))).bind fun y251 => if (!y251) then some false else (impl_zeros (p0.Classes_.length : Int)).bind fun y253 => impl_StatsOk_L2 e225 p0 p1 (impl_StatsOk_L1 p1 p0 k1) i132 Fuel 0 y253 else some true

theorem impl_StatsOk_L1_ind (p1 : Timpl_Stats) (p0 : Timpl_Schema) {P : Int → Option (Bool) → Prop} (μ : Int → Nat) (h : ∀ (i132 : Int) (R : Int → Option (Bool)), (∀ i132', μ i132' < μ i132 → P i132' (R i132')) → P i132 (if decide (i132 < (p1.Cells_.length : Int)) then (idx p1.Cells_ i132).bind fun e225 => (idx p0.Attrs_ i132).bind fun e233 => (impl_bins e233).bind fun y249 => (impl_weights e225 (IntKind.i64.wrap (y249 * (p0.Classes_.length : Int)))).bind fun y251 => if (!y251) then some false else (impl_zeros (p0.Classes_.length : Int)).bind fun y253 => impl_StatsOk_L2 e225 p0 p1 (R) i132 Fuel 0 y253 else some true)) : ∀ k i132, μ i132 < k → P i132 (impl_StatsOk_L1 p1 p0 k i132) := by
  intro k
  induction k with
  | zero => intro i132 hk; exact absurd hk (Nat.not_lt_zero _)
  | succ k ih => intro i132 hk; unfold impl_StatsOk_L1; exact h i132 (impl_StatsOk_L1 p1 p0 k) (fun i132' hs => ih i132' (Nat.lt_of_lt_of_le hs (Nat.le_of_lt_succ hk)))

noncomputable def impl_StatsOk (p0 : Timpl_Schema) (p1 : Timpl_Stats) : Option (Bool) :=
  (impl_SchemaOk p0).bind fun y28 => (if (!y28) then some true else (impl_weights p1.Totals_ (p0.Classes_.length : Int)).bind fun y31 => some (!y31)).bind fun u30 => (if u30 then some true else (impl_total p1.Totals_).bind fun y36 => some (decide (y36 > 999))).bind fun u35 => if u35 then some false else if ((p1.Cells_.length : Int) == 0) then some true else if ((p1.Cells_.length : Int) != (p0.Attrs_.length : Int)) then some false else impl_StatsOk_L1 p1 p0 Fuel 0


noncomputable def impl_active (p0 : Timpl_Node) : Option (Bool) :=
  some (p0.Leaf_ && (decide ((p0.Stats_.Cells_.length : Int) > 0)))


noncomputable def impl_Digits (p0 : Int) : Option (List UInt8) :=
  (sItoa p0).bind fun s10 => some s10


noncomputable def impl_numbersText_L1 (p0 : List Int) (p1 : List UInt8) : Nat → Int → (List (List UInt8)) → Option (List UInt8)
  | 0, _, _ => none
  | k1 + 1, i28, l29 =>
    if decide (i28 < (p0.length : Int)) then (idx p0 i28).bind fun e51 => (impl_Digits e51).bind fun y53 => (app l29 ([y53] : List (List UInt8))).bind fun l56 => (impl_numbersText_L1 p0 p1 k1) (IntKind.i64.wrap (i28 + 1)) l56 else (sJoin l29 p1).bind fun s62 => some s62

theorem impl_numbersText_L1_ind (p0 : List Int) (p1 : List UInt8) {P : Int → (List (List UInt8)) → Option (List UInt8) → Prop} (μ : Int → (List (List UInt8)) → Nat) (h : ∀ (i28 : Int) (l29 : List (List UInt8)) (R : Int → (List (List UInt8)) → Option (List UInt8)), (∀ i28' l29', μ i28' l29' < μ i28 l29 → P i28' l29' (R i28' l29')) → P i28 l29 (if decide (i28 < (p0.length : Int)) then (idx p0 i28).bind fun e51 => (impl_Digits e51).bind fun y53 => (app l29 ([y53] : List (List UInt8))).bind fun l56 => (R) (IntKind.i64.wrap (i28 + 1)) l56 else (sJoin l29 p1).bind fun s62 => some s62)) : ∀ k i28 l29, μ i28 l29 < k → P i28 l29 (impl_numbersText_L1 p0 p1 k i28 l29) := by
  intro k
  induction k with
  | zero => intro i28 l29 hk; exact absurd hk (Nat.not_lt_zero _)
  | succ k ih => intro i28 l29 hk; unfold impl_numbersText_L1; exact h i28 l29 (impl_numbersText_L1 p0 p1 k) (fun i28' l29' hs => ih i28' l29' (Nat.lt_of_lt_of_le hs (Nat.le_of_lt_succ hk)))

noncomputable def impl_numbersText (p0 : List Int) (p1 : List UInt8) : Option (List UInt8) :=
  impl_numbersText_L1 p0 p1 Fuel 0 ([] : List (List UInt8))


noncomputable def impl_TotalsText (p0 : List Int) : Option (List UInt8) :=
  (impl_numbersText p0 ([47] : List UInt8)).bind fun y10 => some y10


noncomputable def lib_slices_Max___int_int__L1 (p0 : List Int) : Nat → Int → Int → Option (Int)
  | 0, _, _ => none
  | k1 + 1, i17, i18 =>
    if decide (i18 < (p0.length : Int)) then (idx p0 i18).bind fun e23 => (lib_slices_Max___int_int__L1 p0 k1) (if i17 < e23 then e23 else i17) (IntKind.i64.wrap (i18 + 1)) else some i17

theorem lib_slices_Max___int_int__L1_ind (p0 : List Int) {P : Int → Int → Option (Int) → Prop} (μ : Int → Int → Nat) (h : ∀ (i17 : Int) (i18 : Int) (R : Int → Int → Option (Int)), (∀ i17' i18', μ i17' i18' < μ i17 i18 → P i17' i18' (R i17' i18')) → P i17 i18 (if decide (i18 < (p0.length : Int)) then (idx p0 i18).bind fun e23 => (R) (if i17 < e23 then e23 else i17) (IntKind.i64.wrap (i18 + 1)) else some i17)) : ∀ k i17 i18, μ i17 i18 < k → P i17 i18 (lib_slices_Max___int_int__L1 p0 k i17 i18) := by
  intro k
  induction k with
  | zero => intro i17 i18 hk; exact absurd hk (Nat.not_lt_zero _)
  | succ k ih => intro i17 i18 hk; unfold lib_slices_Max___int_int__L1; exact h i17 i18 (lib_slices_Max___int_int__L1 p0 k) (fun i17' i18' hs => ih i17' i18' (Nat.lt_of_lt_of_le hs (Nat.le_of_lt_succ hk)))

noncomputable def lib_slices_Max___int_int_ (p0 : List Int) : Option (Int) :=
  if decide ((p0.length : Int) < 1) then none else (idx p0 0).bind fun e10 => lib_slices_Max___int_int__L1 p0 Fuel e10 1


noncomputable def lib_slices_Index___int_int__L1 (p0 : List Int) (p1 : Int) : Nat → Int → Option (Int)
  | 0, _ => none
  | k1 + 1, i13 =>
    if decide (i13 < (p0.length : Int)) then (idx p0 i13).bind fun e18 => if (p1 == e18) then some i13 else (lib_slices_Index___int_int__L1 p0 p1 k1) (IntKind.i64.wrap (i13 + 1)) else some (-1)

theorem lib_slices_Index___int_int__L1_ind (p0 : List Int) (p1 : Int) {P : Int → Option (Int) → Prop} (μ : Int → Nat) (h : ∀ (i13 : Int) (R : Int → Option (Int)), (∀ i13', μ i13' < μ i13 → P i13' (R i13')) → P i13 (if decide (i13 < (p0.length : Int)) then (idx p0 i13).bind fun e18 => if (p1 == e18) then some i13 else (R) (IntKind.i64.wrap (i13 + 1)) else some (-1))) : ∀ k i13, μ i13 < k → P i13 (lib_slices_Index___int_int__L1 p0 p1 k i13) := by
  intro k
  induction k with
  | zero => intro i13 hk; exact absurd hk (Nat.not_lt_zero _)
  | succ k ih => intro i13 hk; unfold lib_slices_Index___int_int__L1; exact h i13 (lib_slices_Index___int_int__L1 p0 p1 k) (fun i13' hs => ih i13' (Nat.lt_of_lt_of_le hs (Nat.le_of_lt_succ hk)))

noncomputable def lib_slices_Index___int_int_ (p0 : List Int) (p1 : Int) : Option (Int) :=
  lib_slices_Index___int_int__L1 p0 p1 Fuel 0


noncomputable def impl_TopOf (p0 : List Int) : Option (Int) :=
  if ((p0.length : Int) == 0) then some (-1) else (lib_slices_Max___int_int_ p0).bind fun y10 => (lib_slices_Index___int_int_ p0 y10).bind fun y12 => some y12


noncomputable def impl_ForkOk (p0 : Timpl_Schema) (p1 : Timpl_Fork) : Option (Bool) :=
  (impl_SchemaOk p0).bind fun y20 => (if (!y20) then some true else (impl_within p1.Attr_ 0 (IntKind.i64.wrap ((p0.Attrs_.length : Int) - 1))).bind fun y23 => some (!y23)).bind fun u22 => if u22 then some false else (idx p0.Attrs_ p1.Attr_).bind fun e27 => (impl_bins e27).bind fun y44 => if decide ((e27.Cuts_.length : Int) > 0) then (impl_within p1.At_ (-1) (IntKind.i64.wrap ((IntKind.i64.wrap (y44 - 1)) - 1))).bind fun y46 => some y46 else (impl_within p1.At_ (-1) (IntKind.i64.wrap (y44 - 1))).bind fun y48 => some y48


noncomputable def lib_slices_Clone___string_string_ (p0 : List (List UInt8)) : Option (List (List UInt8)) :=
  (app ([] : List (List UInt8)) p0).bind fun l11 => some l11


noncomputable def impl_ForkText (p0 : Timpl_Schema) (p1 : Timpl_Fork) : Option (List UInt8) :=
  (impl_ForkOk p0 p1).bind fun y20 => if (!y20) then some ([] : List UInt8) else (idx p0.Attrs_ p1.Attr_).bind fun e22 => if (p1.At_ == (-1)) then (sadd e22.Name_ ([42] : List UInt8)).bind fun s39 => some s39 else if decide ((e22.Cuts_.length : Int) > 0) then (sadd e22.Name_ ([60, 61] : List UInt8)).bind fun s41 => (idx e22.Cuts_ p1.At_).bind fun e43 => (impl_Digits e43).bind fun y45 => (sadd s41 y45).bind fun s47 => some s47 else (sadd e22.Name_ ([61] : List UInt8)).bind fun s62 => (lib_slices_Clone___string_string_ e22.Values_).bind fun y64 => (idx y64 p1.At_).bind fun e73 => (sadd s62 e73).bind fun s75 => some s75


noncomputable def impl_NodeText_J1 (p1 : Timpl_Node) (p0 : Timpl_Schema) (s56 : List UInt8) : Option (List UInt8) :=
  (impl_TotalsText p1.Stats_.Totals_).bind fun y57 => (impl_TopOf p1.Stats_.Totals_).bind fun y59 => (idx p0.Classes_ y59).bind fun e61 => (impl_Digits p1.Since_).bind fun y63 => (sJoin ([s56, y57, e61, ([115, 105, 110, 99, 101] : List UInt8), y63] : List (List UInt8)) ([32] : List UInt8)).bind fun s66 => some s66

noncomputable def impl_NodeText_L1 (p1 : Timpl_Node) : Nat → Int → (List (List UInt8)) → Option (List UInt8)
  | 0, _, _ => none
  | k1 + 1, i94, l95 =>
    if decide (i94 < (p1.Kids_.length : Int)) then (idx p1.Kids_ i94).bind fun e117 => (impl_Digits e117).bind fun y119 => (app l95 ([y119] : List (List UInt8))).bind fun l122 => (impl_NodeText_L1 p1 k1) (IntKind.i64.wrap (i94 + 1)) l122 else (sJoin l95 ([32] : List UInt8)).bind fun s128 => some s128

theorem impl_NodeText_L1_ind (p1 : Timpl_Node) {P : Int → (List (List UInt8)) → Option (List UInt8) → Prop} (μ : Int → (List (List UInt8)) → Nat) (h : ∀ (i94 : Int) (l95 : List (List UInt8)) (R : Int → (List (List UInt8)) → Option (List UInt8)), (∀ i94' l95', μ i94' l95' < μ i94 l95 → P i94' l95' (R i94' l95')) → P i94 l95 (if decide (i94 < (p1.Kids_.length : Int)) then (idx p1.Kids_ i94).bind fun e117 => (impl_Digits e117).bind fun y119 => (app l95 ([y119] : List (List UInt8))).bind fun l122 => (R) (IntKind.i64.wrap (i94 + 1)) l122 else (sJoin l95 ([32] : List UInt8)).bind fun s128 => some s128)) : ∀ k i94 l95, μ i94 l95 < k → P i94 l95 (impl_NodeText_L1 p1 k i94 l95) := by
  intro k
  induction k with
  | zero => intro i94 l95 hk; exact absurd hk (Nat.not_lt_zero _)
  | succ k ih => intro i94 l95 hk; unfold impl_NodeText_L1; exact h i94 l95 (impl_NodeText_L1 p1 k) (fun i94' l95' hs => ih i94' l95' (Nat.lt_of_lt_of_le hs (Nat.le_of_lt_succ hk)))

noncomputable def impl_NodeText (p0 : Timpl_Schema) (p1 : Timpl_Node) : Option (List UInt8) :=
  if p1.Leaf_ then (impl_StatsOk p0 p1.Stats_).bind fun y52 => if (!y52) then some ([] : List UInt8) else (impl_active p1).bind fun y68 => if y68 then impl_NodeText_J1 p1 p0 ([108, 101, 97, 102] : List UInt8) else impl_NodeText_J1 p1 p0 ([116, 104, 105, 110] : List UInt8) else (impl_ForkOk p0 p1.Fork_).bind fun y70 => if (!y70) then some ([] : List UInt8) else (impl_ForkText p0 p1.Fork_).bind fun y72 => (impl_Digits p1.Miss_).bind fun y74 => impl_NodeText_L1 p1 Fuel 0 ([y72, ([109, 105, 115, 115] : List UInt8), y74] : List (List UInt8))


noncomputable def laws_eqIntS_L1 (p0 : List Int) (p1 : List Int) : Nat → Int → Option (Bool)
  | 0, _ => none
  | k1 + 1, i15 =>
    if decide (i15 < (p0.length : Int)) then (idx p0 i15).bind fun e21 => (idx p1 i15).bind fun e23 => if (e21 != e23) then some false else (laws_eqIntS_L1 p0 p1 k1) (IntKind.i64.wrap (i15 + 1)) else some true

theorem laws_eqIntS_L1_ind (p0 : List Int) (p1 : List Int) {P : Int → Option (Bool) → Prop} (μ : Int → Nat) (h : ∀ (i15 : Int) (R : Int → Option (Bool)), (∀ i15', μ i15' < μ i15 → P i15' (R i15')) → P i15 (if decide (i15 < (p0.length : Int)) then (idx p0 i15).bind fun e21 => (idx p1 i15).bind fun e23 => if (e21 != e23) then some false else (R) (IntKind.i64.wrap (i15 + 1)) else some true)) : ∀ k i15, μ i15 < k → P i15 (laws_eqIntS_L1 p0 p1 k i15) := by
  intro k
  induction k with
  | zero => intro i15 hk; exact absurd hk (Nat.not_lt_zero _)
  | succ k ih => intro i15 hk; unfold laws_eqIntS_L1; exact h i15 (laws_eqIntS_L1 p0 p1 k) (fun i15' hs => ih i15' (Nat.lt_of_lt_of_le hs (Nat.le_of_lt_succ hk)))

noncomputable def laws_eqIntS (p0 : List Int) (p1 : List Int) : Option (Bool) :=
  if ((p0.length : Int) != (p1.length : Int)) then some false else laws_eqIntS_L1 p0 p1 Fuel 0


noncomputable def laws_eqStringS_L1 (p0 : List (List UInt8)) (p1 : List (List UInt8)) : Nat → Int → Option (Bool)
  | 0, _ => none
  | k1 + 1, i15 =>
    if decide (i15 < (p0.length : Int)) then (idx p0 i15).bind fun e21 => (idx p1 i15).bind fun e23 => if (!(e21 == e23)) then some false else (laws_eqStringS_L1 p0 p1 k1) (IntKind.i64.wrap (i15 + 1)) else some true

theorem laws_eqStringS_L1_ind (p0 : List (List UInt8)) (p1 : List (List UInt8)) {P : Int → Option (Bool) → Prop} (μ : Int → Nat) (h : ∀ (i15 : Int) (R : Int → Option (Bool)), (∀ i15', μ i15' < μ i15 → P i15' (R i15')) → P i15 (if decide (i15 < (p0.length : Int)) then (idx p0 i15).bind fun e21 => (idx p1 i15).bind fun e23 => if (!(e21 == e23)) then some false else (R) (IntKind.i64.wrap (i15 + 1)) else some true)) : ∀ k i15, μ i15 < k → P i15 (laws_eqStringS_L1 p0 p1 k i15) := by
  intro k
  induction k with
  | zero => intro i15 hk; exact absurd hk (Nat.not_lt_zero _)
  | succ k ih => intro i15 hk; unfold laws_eqStringS_L1; exact h i15 (laws_eqStringS_L1 p0 p1 k) (fun i15' hs => ih i15' (Nat.lt_of_lt_of_le hs (Nat.le_of_lt_succ hk)))

noncomputable def laws_eqStringS (p0 : List (List UInt8)) (p1 : List (List UInt8)) : Option (Bool) :=
  if ((p0.length : Int) != (p1.length : Int)) then some false else laws_eqStringS_L1 p0 p1 Fuel 0


noncomputable def laws_eqAttr (p0 : Timpl_Attr) (p1 : Timpl_Attr) : Option (Bool) :=
  if (!(p0.Name_ == p1.Name_)) then some false else (laws_eqIntS p0.Cuts_ p1.Cuts_).bind fun y32 => if (!y32) then some false else (laws_eqStringS p0.Values_ p1.Values_).bind fun y34 => if (!y34) then some false else some true


noncomputable def laws_eqAttrS_L1 (p0 : List Timpl_Attr) (p1 : List Timpl_Attr) : Nat → Int → Option (Bool)
  | 0, _ => none
  | k1 + 1, i45 =>
    if decide (i45 < (p0.length : Int)) then (idx p0 i45).bind fun e81 => (idx p1 i45).bind fun e97 => (laws_eqAttr e81 e97).bind fun y113 => if (!y113) then some false else (laws_eqAttrS_L1 p0 p1 k1) (IntKind.i64.wrap (i45 + 1)) else some true

theorem laws_eqAttrS_L1_ind (p0 : List Timpl_Attr) (p1 : List Timpl_Attr) {P : Int → Option (Bool) → Prop} (μ : Int → Nat) (h : ∀ (i45 : Int) (R : Int → Option (Bool)), (∀ i45', μ i45' < μ i45 → P i45' (R i45')) → P i45 (if decide (i45 < (p0.length : Int)) then (idx p0 i45).bind fun e81 => (idx p1 i45).bind fun e97 => (laws_eqAttr e81 e97).bind fun y113 => if (!y113) then some false else (R) (IntKind.i64.wrap (i45 + 1)) else some true)) : ∀ k i45, μ i45 < k → P i45 (laws_eqAttrS_L1 p0 p1 k i45) := by
  intro k
  induction k with
  | zero => intro i45 hk; exact absurd hk (Nat.not_lt_zero _)
  | succ k ih => intro i45 hk; unfold laws_eqAttrS_L1; exact h i45 (laws_eqAttrS_L1 p0 p1 k) (fun i45' hs => ih i45' (Nat.lt_of_lt_of_le hs (Nat.le_of_lt_succ hk)))

noncomputable def laws_eqAttrS (p0 : List Timpl_Attr) (p1 : List Timpl_Attr) : Option (Bool) :=
  if ((p0.length : Int) != (p1.length : Int)) then some false else laws_eqAttrS_L1 p0 p1 Fuel 0


noncomputable def laws_eqSchema (p0 : Timpl_Schema) (p1 : Timpl_Schema) : Option (Bool) :=
  (laws_eqAttrS p0.Attrs_ p1.Attrs_).bind fun y28 => if (!y28) then some false else (laws_eqStringS p0.Classes_ p1.Classes_).bind fun y30 => if (!y30) then some false else some true


noncomputable def laws_eqFork (p0 : Timpl_Fork) (p1 : Timpl_Fork) : Option (Bool) :=
  if (p0.Attr_ != p1.Attr_) then some false else if (p0.At_ != p1.At_) then some false else some true


noncomputable def laws_eqIntSS_L1 (p0 : List (List Int)) (p1 : List (List Int)) : Nat → Int → Option (Bool)
  | 0, _ => none
  | k1 + 1, i29 =>
    if decide (i29 < (p0.length : Int)) then (idx p0 i29).bind fun e49 => (idx p1 i29).bind fun e57 => (laws_eqIntS e49 e57).bind fun y65 => if (!y65) then some false else (laws_eqIntSS_L1 p0 p1 k1) (IntKind.i64.wrap (i29 + 1)) else some true

theorem laws_eqIntSS_L1_ind (p0 : List (List Int)) (p1 : List (List Int)) {P : Int → Option (Bool) → Prop} (μ : Int → Nat) (h : ∀ (i29 : Int) (R : Int → Option (Bool)), (∀ i29', μ i29' < μ i29 → P i29' (R i29')) → P i29 (if decide (i29 < (p0.length : Int)) then (idx p0 i29).bind fun e49 => (idx p1 i29).bind fun e57 => (laws_eqIntS e49 e57).bind fun y65 => if (!y65) then some false else (R) (IntKind.i64.wrap (i29 + 1)) else some true)) : ∀ k i29, μ i29 < k → P i29 (laws_eqIntSS_L1 p0 p1 k i29) := by
  intro k
  induction k with
  | zero => intro i29 hk; exact absurd hk (Nat.not_lt_zero _)
  | succ k ih => intro i29 hk; unfold laws_eqIntSS_L1; exact h i29 (laws_eqIntSS_L1 p0 p1 k) (fun i29' hs => ih i29' (Nat.lt_of_lt_of_le hs (Nat.le_of_lt_succ hk)))

noncomputable def laws_eqIntSS (p0 : List (List Int)) (p1 : List (List Int)) : Option (Bool) :=
  if ((p0.length : Int) != (p1.length : Int)) then some false else laws_eqIntSS_L1 p0 p1 Fuel 0


noncomputable def laws_eqStats (p0 : Timpl_Stats) (p1 : Timpl_Stats) : Option (Bool) :=
  (laws_eqIntS p0.Totals_ p1.Totals_).bind fun y28 => if (!y28) then some false else (laws_eqIntSS p0.Cells_ p1.Cells_).bind fun y30 => if (!y30) then some false else some true


noncomputable def laws_eqNode (p0 : Timpl_Node) (p1 : Timpl_Node) : Option (Bool) :=
  if (p0.Leaf_ != p1.Leaf_) then some false else (laws_eqFork p0.Fork_ p1.Fork_).bind fun y76 => if (!y76) then some false else (laws_eqIntS p0.Kids_ p1.Kids_).bind fun y78 => if (!y78) then some false else if (p0.Miss_ != p1.Miss_) then some false else (laws_eqStats p0.Stats_ p1.Stats_).bind fun y80 => if (!y80) then some false else if (p0.Since_ != p1.Since_) then some false else (laws_eqIntS p0.Attrs_ p1.Attrs_).bind fun y82 => if (!y82) then some false else if (p0.Depth_ != p1.Depth_) then some false else if (p0.Up_ != p1.Up_) then some false else if (p0.Born_ != p1.Born_) then some false else some true


noncomputable def laws_FnExactNodeText (p0 : Tlaws_Schema) (p1 : Tlaws_Node) : Option (Bool) :=
  (laws_szSchema p0 1048576).bind fun y52 => if decide (y52 < 0) then some true else (laws_szNode p1 y52).bind fun y54 => if decide (y54 < 0) then some true else (laws_toSchema p0).bind fun y69 => (laws_toNode p1).bind fun y82 => (spec_NodeText y69 y82).bind fun y103 => (laws_toSchema p0).bind fun y105 => (laws_toNode p1).bind fun y119 => (impl_NodeText y105 y119).bind fun y141 => if (!(y141 == y103)) then some false else (laws_toSchema p0).bind fun y156 => (laws_eqSchema y105 y156).bind fun y169 => if (!y169) then some false else (laws_toNode p1).bind fun y192 => (laws_eqNode y119 y192).bind fun y213 => if (!y213) then some false else some true


noncomputable def laws_szWay (p0 : Tlaws_Way) (p1 : Int) : Option (Int) :=
  (laws_szIntS p0.Masks_ p1).bind fun y17 => if decide (y17 < 0) then some (-1) else some y17


noncomputable def laws_toWay (p0 : Tlaws_Way) : Option (Timpl_Way) :=
  (laws_toIntS p0.Masks_).bind fun y19 => some (Timpl_Way.mk p0.Leaf_ y19)


noncomputable def spec_l16Power_L1 (p0 : Int) : Nat → Int → Int → Option (Int)
  | 0, _, _ => none
  | k1 + 1, i12, i13 =>
    if decide (i13 < p0) then (spec_l16Power_L1 p0 k1) (IntKind.i64.wrap (i12 * 2)) (IntKind.i64.wrap (i13 + 1)) else some i12

theorem spec_l16Power_L1_ind (p0 : Int) {P : Int → Int → Option (Int) → Prop} (μ : Int → Int → Nat) (h : ∀ (i12 : Int) (i13 : Int) (R : Int → Int → Option (Int)), (∀ i12' i13', μ i12' i13' < μ i12 i13 → P i12' i13' (R i12' i13')) → P i12 i13 (if decide (i13 < p0) then (R) (IntKind.i64.wrap (i12 * 2)) (IntKind.i64.wrap (i13 + 1)) else some i12)) : ∀ k i12 i13, μ i12 i13 < k → P i12 i13 (spec_l16Power_L1 p0 k i12 i13) := by
  intro k
  induction k with
  | zero => intro i12 i13 hk; exact absurd hk (Nat.not_lt_zero _)
  | succ k ih => intro i12 i13 hk; unfold spec_l16Power_L1; exact h i12 i13 (spec_l16Power_L1 p0 k) (fun i12' i13' hs => ih i12' i13' (Nat.lt_of_lt_of_le hs (Nat.le_of_lt_succ hk)))

noncomputable def spec_l16Power (p0 : Int) : Option (Int) :=
  spec_l16Power_L1 p0 Fuel 1 0


noncomputable def spec_FullMask (p0 : Timpl_Attr) : Option (Int) :=
  (spec_AttrOk p0).bind fun y21 => if (!y21) then some 0 else (spec_Bins p0).bind fun y23 => (spec_l16Power y23).bind fun y25 => some (IntKind.i64.wrap ((IntKind.i64.wrap (y25 - 1)) + 16))


noncomputable def spec_WayOk_L1 (p1 : Timpl_Way) (p0 : Timpl_Schema) : Nat → Int → Option (Bool)
  | 0, _ => none
  | k1 + 1, i63 =>
    if decide (i63 < (p1.Masks_.length : Int)) then (idx p1.Masks_ i63).bind fun e92 => (if decide (e92 < 0) then some true else (idx p1.Masks_ i63).bind fun e95 => (idx p0.Attrs_ i63).bind fun e97 => (spec_FullMask e97).bind fun y113 => (idx p1.Masks_ i63).bind fun e115 => some ((ibits .and .i64 e95 y113) != e115)).bind fun u94 => if u94 then some false else (spec_WayOk_L1 p1 p0 k1) (IntKind.i64.wrap (i63 + 1)) else some true

theorem spec_WayOk_L1_ind (p1 : Timpl_Way) (p0 : Timpl_Schema) {P : Int → Option (Bool) → Prop} (μ : Int → Nat) (h : ∀ (i63 : Int) (R : Int → Option (Bool)), (∀ i63', μ i63' < μ i63 → P i63' (R i63')) → P i63 (if decide (i63 < (p1.Masks_.length : Int)) then (idx p1.Masks_ i63).bind fun e92 => (if decide (e92 < 0) then some true else (idx p1.Masks_ i63).bind fun e95 => (idx p0.Attrs_ i63).bind fun e97 => (spec_FullMask e97).bind fun y113 => (idx p1.Masks_ i63).bind fun e115 => some ((ibits .and .i64 e95 y113) != e115)).bind fun u94 => if u94 then some false else (R) (IntKind.i64.wrap (i63 + 1)) else some true)) : ∀ k i63, μ i63 < k → P i63 (spec_WayOk_L1 p1 p0 k i63) := by
  intro k
  induction k with
  | zero => intro i63 hk; exact absurd hk (Nat.not_lt_zero _)
  | succ k ih => intro i63 hk; unfold spec_WayOk_L1; exact h i63 (spec_WayOk_L1 p1 p0 k) (fun i63' hs => ih i63' (Nat.lt_of_lt_of_le hs (Nat.le_of_lt_succ hk)))

noncomputable def spec_WayOk (p0 : Timpl_Schema) (p1 : Timpl_Way) : Option (Bool) :=
  (spec_SchemaOk p0).bind fun y26 => (if (!y26) then some true else (spec_l1In p1.Leaf_ 0 30).bind fun y29 => some (!y29)).bind fun u28 => if (u28 || ((p1.Masks_.length : Int) != (p0.Attrs_.length : Int))) then some false else spec_WayOk_L1 p1 p0 Fuel 0


noncomputable def spec_CellText (p0 : Timpl_Attr) (p1 : Int) : Option (List UInt8) :=
  (spec_AttrOk p0).bind fun y21 => (if (!y21) then some true else (spec_Bins p0).bind fun y24 => (spec_l1In p1 (-1) (IntKind.i64.wrap (y24 - 1))).bind fun y26 => some (!y26)).bind fun u23 => if u23 then some ([] : List UInt8) else if (p1 == (-1)) then some ([63] : List UInt8) else if decide ((p0.Values_.length : Int) > 0) then (idx p0.Values_ p1).bind fun e30 => some e30 else if decide (p1 < (p0.Cuts_.length : Int)) then (idx p0.Cuts_ p1).bind fun e32 => (spec_Digits e32).bind fun y34 => some y34 else (idx p0.Cuts_ (IntKind.i64.wrap ((p0.Cuts_.length : Int) - 1))).bind fun e36 => (spec_Digits (IntKind.i64.wrap (e36 + 1))).bind fun y38 => some y38


noncomputable def spec_WayText_J1 (p0 : Timpl_Schema) (i299 : Int) (l294 : List (List UInt8)) (R1 : (List (List UInt8)) → Int → Option (List UInt8)) (l754 : List (List UInt8)) : Option (List UInt8) :=
  (idx p0.Attrs_ i299).bind fun e784 => (sadd e784.Name_ ([123] : List UInt8)).bind fun s800 => (spec_l5Join l754 ([44] : List UInt8)).bind fun y802 => (sadd s800 y802).bind fun s804 => (sadd s804 ([125] : List UInt8)).bind fun s806 => (app l294 ([s806] : List (List UInt8))).bind fun l809 => R1 l809 (IntKind.i64.wrap (i299 + 1))

noncomputable def spec_WayText_L2 (p0 : Timpl_Schema) (i299 : Int) (p1 : Timpl_Way) (l294 : List (List UInt8)) (R1 : (List (List UInt8)) → Int → Option (List UInt8)) : Nat → (List (List UInt8)) → Int → Option (List UInt8)
  | 0, _, _ => none
  | k2 + 1, l639, i644 =>
    (idx p0.Attrs_ i299).bind fun e698 => (spec_Bins e698).bind fun y714 => if decide (i644 < y714) then (idx p1.Masks_ i299).bind fun e716 => (spec_l16Power i644).bind fun y718 => if ((ibits .and .i64 e716 y718) != 0) then (idx p0.Attrs_ i299).bind fun e720 => (spec_CellText e720 i644).bind fun y736 => (app l639 ([y736] : List (List UInt8))).bind fun l739 => (spec_WayText_L2 p0 i299 p1 l294 R1 k2) l739 (IntKind.i64.wrap (i644 + 1)) else (spec_WayText_L2 p0 i299 p1 l294 R1 k2) l639 (IntKind.i64.wrap (i644 + 1)) else (idx p1.Masks_ i299).bind fun e815 => if ((ibits .and .i64 e815 16) != 0) then (app l639 ([([63] : List UInt8)] : List (List UInt8))).bind fun l818 => spec_WayText_J1 p0 i299 l294 R1 l818 else spec_WayText_J1 p0 i299 l294 R1 l639

theorem spec_WayText_L2_ind (p0 : Timpl_Schema) (i299 : Int) (p1 : Timpl_Way) (l294 : List (List UInt8)) (R1 : (List (List UInt8)) → Int → Option (List UInt8)) {P : (List (List UInt8)) → Int → Option (List UInt8) → Prop} (μ : (List (List UInt8)) → Int → Nat) (h : ∀ (l639 : List (List UInt8)) (i644 : Int) (R : (List (List UInt8)) → Int → Option (List UInt8)), (∀ l639' i644', μ l639' i644' < μ l639 i644 → P l639' i644' (R l639' i644')) → P l639 i644 ((idx p0.Attrs_ i299).bind fun e698 => (spec_Bins e698).bind fun y714 => if decide (i644 < y714) then (idx p1.Masks_ i299).bind fun e716 => (spec_l16Power i644).bind fun y718 => if ((ibits .and .i64 e716 y718) != 0) then (idx p0.Attrs_ i299).bind fun e720 => (spec_CellText e720 i644).bind fun y736 => (app l639 ([y736] : List (List UInt8))).bind fun l739 => (R) l739 (IntKind.i64.wrap (i644 + 1)) else (R) l639 (IntKind.i64.wrap (i644 + 1)) else (idx p1.Masks_ i299).bind fun e815 => if ((ibits .and .i64 e815 16) != 0) then (app l639 ([([63] : List UInt8)] : List (List UInt8))).bind fun l818 => spec_WayText_J1 p0 i299 l294 R1 l818 else spec_WayText_J1 p0 i299 l294 R1 l639)) : ∀ k l639 i644, μ l639 i644 < k → P l639 i644 (spec_WayText_L2 p0 i299 p1 l294 R1 k l639 i644) := by
  intro k
  induction k with
  | zero => intro l639 i644 hk; exact absurd hk (Nat.not_lt_zero _)
  | succ k ih => intro l639 i644 hk; unfold spec_WayText_L2; exact h l639 i644 (spec_WayText_L2 p0 i299 p1 l294 R1 k) (fun l639' i644' hs => ih l639' i644' (Nat.lt_of_lt_of_le hs (Nat.le_of_lt_succ hk)))

noncomputable def spec_WayText_L1 (p1 : Timpl_Way) (p0 : Timpl_Schema) : Nat → (List (List UInt8)) → Int → Option (List UInt8)
  | 0, _, _ => none
  | k1 + 1, l294, i299 =>
    if decide (i299 < (p1.Masks_.length : Int)) then (idx p1.Masks_ i299).bind fun e565 => (idx p0.Attrs_ i299).bind fun e567 => (spec_FullMask e567).bind fun y583 => if (e565 == y583) then (spec_WayText_L1 p1 p0 k1) l294 (IntKind.i64.wrap (i299 + 1)) else spec_WayText_L2 p0 i299 p1 l294 (spec_WayText_L1 p1 p0 k1) Fuel ([] : List (List UInt8)) 0 else if ((l294.length : Int) == 0) then some ([97, 110, 121] : List UInt8) else (spec_l5Join l294 ([38] : List UInt8)).bind fun y824 => some y824

theorem spec_WayText_L1_ind (p1 : Timpl_Way) (p0 : Timpl_Schema) {P : (List (List UInt8)) → Int → Option (List UInt8) → Prop} (μ : (List (List UInt8)) → Int → Nat) (h : ∀ (l294 : List (List UInt8)) (i299 : Int) (R : (List (List UInt8)) → Int → Option (List UInt8)), (∀ l294' i299', μ l294' i299' < μ l294 i299 → P l294' i299' (R l294' i299')) → P l294 i299 (if decide (i299 < (p1.Masks_.length : Int)) then (idx p1.Masks_ i299).bind fun e565 => (idx p0.Attrs_ i299).bind fun e567 => (spec_FullMask e567).bind fun y583 => if (e565 == y583) then (R) l294 (IntKind.i64.wrap (i299 + 1)) else spec_WayText_L2 p0 i299 p1 l294 (R) Fuel ([] : List (List UInt8)) 0 else if ((l294.length : Int) == 0) then some ([97, 110, 121] : List UInt8) else (spec_l5Join l294 ([38] : List UInt8)).bind fun y824 => some y824)) : ∀ k l294 i299, μ l294 i299 < k → P l294 i299 (spec_WayText_L1 p1 p0 k l294 i299) := by
  intro k
  induction k with
  | zero => intro l294 i299 hk; exact absurd hk (Nat.not_lt_zero _)
  | succ k ih => intro l294 i299 hk; unfold spec_WayText_L1; exact h l294 i299 (spec_WayText_L1 p1 p0 k) (fun l294' i299' hs => ih l294' i299' (Nat.lt_of_lt_of_le hs (Nat.le_of_lt_succ hk)))

noncomputable def spec_WayText (p0 : Timpl_Schema) (p1 : Timpl_Way) : Option (List UInt8) :=
  (spec_WayOk p0 p1).bind fun y26 => if (!y26) then some ([] : List UInt8) else spec_WayText_L1 p1 p0 Fuel ([] : List (List UInt8)) 0


noncomputable def impl_FullMask (p0 : Timpl_Attr) : Option (Int) :=
  (impl_AttrOk p0).bind fun y21 => if (!y21) then some 0 else (impl_bins p0).bind fun y23 => (shl .i64 1 y23).bind fun x25 => some (ibits .or .i64 (IntKind.i64.wrap (x25 - 1)) 16)


noncomputable def impl_WayOk_L1 (p1 : Timpl_Way) (p0 : Timpl_Schema) : Nat → Int → Option (Bool)
  | 0, _ => none
  | k1 + 1, i56 =>
    if decide (i56 < (p1.Masks_.length : Int)) then (idx p1.Masks_ i56).bind fun e78 => (idx p0.Attrs_ i56).bind fun e80 => (impl_FullMask e80).bind fun y96 => if ((ibits .andNot .i64 e78 y96) != 0) then some false else (impl_WayOk_L1 p1 p0 k1) (IntKind.i64.wrap (i56 + 1)) else some true

theorem impl_WayOk_L1_ind (p1 : Timpl_Way) (p0 : Timpl_Schema) {P : Int → Option (Bool) → Prop} (μ : Int → Nat) (h : ∀ (i56 : Int) (R : Int → Option (Bool)), (∀ i56', μ i56' < μ i56 → P i56' (R i56')) → P i56 (if decide (i56 < (p1.Masks_.length : Int)) then (idx p1.Masks_ i56).bind fun e78 => (idx p0.Attrs_ i56).bind fun e80 => (impl_FullMask e80).bind fun y96 => if ((ibits .andNot .i64 e78 y96) != 0) then some false else (R) (IntKind.i64.wrap (i56 + 1)) else some true)) : ∀ k i56, μ i56 < k → P i56 (impl_WayOk_L1 p1 p0 k i56) := by
  intro k
  induction k with
  | zero => intro i56 hk; exact absurd hk (Nat.not_lt_zero _)
  | succ k ih => intro i56 hk; unfold impl_WayOk_L1; exact h i56 (impl_WayOk_L1 p1 p0 k) (fun i56' hs => ih i56' (Nat.lt_of_lt_of_le hs (Nat.le_of_lt_succ hk)))

noncomputable def impl_WayOk (p0 : Timpl_Schema) (p1 : Timpl_Way) : Option (Bool) :=
  (impl_SchemaOk p0).bind fun y26 => (if (!y26) then some true else (impl_within p1.Leaf_ 0 30).bind fun y29 => some (!y29)).bind fun u28 => if (u28 || ((p1.Masks_.length : Int) != (p0.Attrs_.length : Int))) then some false else impl_WayOk_L1 p1 p0 Fuel 0


noncomputable def impl_CellText (p0 : Timpl_Attr) (p1 : Int) : Option (List UInt8) :=
  (impl_AttrOk p0).bind fun y21 => (if (!y21) then some true else (impl_bins p0).bind fun y24 => (impl_within p1 (-1) (IntKind.i64.wrap (y24 - 1))).bind fun y26 => some (!y26)).bind fun u23 => if u23 then some ([] : List UInt8) else if (p1 == (-1)) then some ([63] : List UInt8) else if decide ((p0.Values_.length : Int) > 0) then (idx p0.Values_ p1).bind fun e30 => some e30 else if decide (p1 < (p0.Cuts_.length : Int)) then (idx p0.Cuts_ p1).bind fun e32 => (impl_Digits e32).bind fun y34 => some y34 else (idx p0.Cuts_ (IntKind.i64.wrap (p1 - 1))).bind fun e36 => (impl_Digits (IntKind.i64.wrap (e36 + 1))).bind fun y38 => some y38


noncomputable def impl_WayText_J1 (e281 : Timpl_Attr) (l152 : List (List UInt8)) (R1 : Int → (List (List UInt8)) → Option (List UInt8)) (i151 : Int) (l359 : List (List UInt8)) : Option (List UInt8) :=
  (sadd e281.Name_ ([123] : List UInt8)).bind fun s373 => (sJoin l359 ([44] : List UInt8)).bind fun s375 => (sadd s373 s375).bind fun s377 => (sadd s377 ([125] : List UInt8)).bind fun s379 => (app l152 ([s379] : List (List UInt8))).bind fun l382 => R1 (IntKind.i64.wrap (i151 + 1)) l382

noncomputable def impl_WayText_L2 (y301 : Int) (e279 : Int) (e281 : Timpl_Attr) (l152 : List (List UInt8)) (R1 : Int → (List (List UInt8)) → Option (List UInt8)) (i151 : Int) : Nat → Int → (List (List UInt8)) → Option (List UInt8)
  | 0, _, _ => none
  | k2 + 1, i318, l319 =>
    if decide (i318 < y301) then (shr .i64 e279 i318).bind fun x341 => if ((ibits .and .i64 x341 1) == 1) then (impl_CellText e281 i318).bind fun y343 => (app l319 ([y343] : List (List UInt8))).bind fun l346 => (impl_WayText_L2 y301 e279 e281 l152 R1 i151 k2) (IntKind.i64.wrap (i318 + 1)) l346 else (impl_WayText_L2 y301 e279 e281 l152 R1 i151 k2) (IntKind.i64.wrap (i318 + 1)) l319 else if ((ibits .and .i64 e279 16) != 0) then (app l319 ([([63] : List UInt8)] : List (List UInt8))).bind fun l389 => impl_WayText_J1 e281 l152 R1 i151 l389 else impl_WayText_J1 e281 l152 R1 i151 l319

theorem impl_WayText_L2_ind (y301 : Int) (e279 : Int) (e281 : Timpl_Attr) (l152 : List (List UInt8)) (R1 : Int → (List (List UInt8)) → Option (List UInt8)) (i151 : Int) {P : Int → (List (List UInt8)) → Option (List UInt8) → Prop} (μ : Int → (List (List UInt8)) → Nat) (h : ∀ (i318 : Int) (l319 : List (List UInt8)) (R : Int → (List (List UInt8)) → Option (List UInt8)), (∀ i318' l319', μ i318' l319' < μ i318 l319 → P i318' l319' (R i318' l319')) → P i318 l319 (if decide (i318 < y301) then (shr .i64 e279 i318).bind fun x341 => if ((ibits .and .i64 x341 1) == 1) then (impl_CellText e281 i318).bind fun y343 => (app l319 ([y343] : List (List UInt8))).bind fun l346 => (R) (IntKind.i64.wrap (i318 + 1)) l346 else (R) (IntKind.i64.wrap (i318 + 1)) l319 else if ((ibits .and .i64 e279 16) != 0) then (app l319 ([([63] : List UInt8)] : List (List UInt8))).bind fun l389 => impl_WayText_J1 e281 l152 R1 i151 l389 else impl_WayText_J1 e281 l152 R1 i151 l319)) : ∀ k i318 l319, μ i318 l319 < k → P i318 l319 (impl_WayText_L2 y301 e279 e281 l152 R1 i151 k i318 l319) := by
  intro k
  induction k with
  | zero => intro i318 l319 hk; exact absurd hk (Nat.not_lt_zero _)
  | succ k ih => intro i318 l319 hk; unfold impl_WayText_L2; exact h i318 l319 (impl_WayText_L2 y301 e279 e281 l152 R1 i151 k) (fun i318' l319' hs => ih i318' l319' (Nat.lt_of_lt_of_le hs (Nat.le_of_lt_succ hk)))

noncomputable def impl_WayText_L1 (p1 : Timpl_Way) (p0 : Timpl_Schema) : Nat → Int → (List (List UInt8)) → Option (List UInt8)
  | 0, _, _ => none
  | k1 + 1, i151, l152 =>
    if decide (i151 < (p1.Masks_.length : Int)) then (idx p1.Masks_ i151).bind fun e279 => (idx p0.Attrs_ i151).bind fun e281 => (impl_FullMask e281).bind fun y298 => if (e279 == y298) then (impl_WayText_L1 p1 p0 k1) (IntKind.i64.wrap (i151 + 1)) l152 else (impl_bins e281).bind fun y301 => impl_WayText_L2 y301 e279 e281 l152 (impl_WayText_L1 p1 p0 k1) i151 Fuel 0 ([] : List (List UInt8)) else if ((l152.length : Int) == 0) then some ([97, 110, 121] : List UInt8) else (sJoin l152 ([38] : List UInt8)).bind fun s395 => some s395

theorem impl_WayText_L1_ind (p1 : Timpl_Way) (p0 : Timpl_Schema) {P : Int → (List (List UInt8)) → Option (List UInt8) → Prop} (μ : Int → (List (List UInt8)) → Nat) (h : ∀ (i151 : Int) (l152 : List (List UInt8)) (R : Int → (List (List UInt8)) → Option (List UInt8)), (∀ i151' l152', μ i151' l152' < μ i151 l152 → P i151' l152' (R i151' l152')) → P i151 l152 (if decide (i151 < (p1.Masks_.length : Int)) then (idx p1.Masks_ i151).bind fun e279 => (idx p0.Attrs_ i151).bind fun e281 => (impl_FullMask e281).bind fun y298 => if (e279 == y298) then (R) (IntKind.i64.wrap (i151 + 1)) l152 else (impl_bins e281).bind fun y301 => impl_WayText_L2 y301 e279 e281 l152 (R) i151 Fuel 0 ([] : List (List UInt8)) else if ((l152.length : Int) == 0) then some ([97, 110, 121] : List UInt8) else (sJoin l152 ([38] : List UInt8)).bind fun s395 => some s395)) : ∀ k i151 l152, μ i151 l152 < k → P i151 l152 (impl_WayText_L1 p1 p0 k i151 l152) := by
  intro k
  induction k with
  | zero => intro i151 l152 hk; exact absurd hk (Nat.not_lt_zero _)
  | succ k ih => intro i151 l152 hk; unfold impl_WayText_L1; exact h i151 l152 (impl_WayText_L1 p1 p0 k) (fun i151' l152' hs => ih i151' l152' (Nat.lt_of_lt_of_le hs (Nat.le_of_lt_succ hk)))

noncomputable def impl_WayText (p0 : Timpl_Schema) (p1 : Timpl_Way) : Option (List UInt8) :=
  (impl_WayOk p0 p1).bind fun y26 => if (!y26) then some ([] : List UInt8) else impl_WayText_L1 p1 p0 Fuel 0 ([] : List (List UInt8))


noncomputable def laws_eqWay (p0 : Timpl_Way) (p1 : Timpl_Way) : Option (Bool) :=
  if (p0.Leaf_ != p1.Leaf_) then some false else (laws_eqIntS p0.Masks_ p1.Masks_).bind fun y24 => if (!y24) then some false else some true


noncomputable def laws_FnExactWayText (p0 : Tlaws_Schema) (p1 : Tlaws_Way) : Option (Bool) :=
  (laws_szSchema p0 1048576).bind fun y26 => if decide (y26 < 0) then some true else (laws_szWay p1 y26).bind fun y28 => if decide (y28 < 0) then some true else (laws_toSchema p0).bind fun y43 => (laws_toWay p1).bind fun y56 => (spec_WayText y43 y56).bind fun y65 => (laws_toSchema p0).bind fun y67 => (laws_toWay p1).bind fun y81 => (impl_WayText y67 y81).bind fun y91 => if (!(y91 == y65)) then some false else (laws_toSchema p0).bind fun y106 => (laws_eqSchema y67 y106).bind fun y119 => if (!y119) then some false else (laws_toWay p1).bind fun y130 => (laws_eqWay y81 y130).bind fun y139 => if (!y139) then some false else some true


noncomputable def laws_FnExactTotalsText (p0 : List Int) : Option (Bool) :=
  if decide ((p0.length : Int) > 1048576) then some true else (laws_toIntS p0).bind fun y10 => (spec_TotalsText y10).bind fun y19 => (laws_toIntS p0).bind fun y21 => (impl_TotalsText y21).bind fun y30 => if (!(y30 == y19)) then some false else (laws_toIntS p0).bind fun y32 => (laws_eqIntS y21 y32).bind fun y41 => if (!y41) then some false else some true


noncomputable def laws_szPairS (p0 : List Tlaws_Pair) (p1 : Int) : Option (Int) :=
  if decide ((IntKind.i64.wrap (p1 - (p0.length : Int))) < 0) then some (-1) else some (IntKind.i64.wrap (p1 - (p0.length : Int)))


noncomputable def laws_szScore (p0 : Tlaws_Score) (p1 : Int) : Option (Int) :=
  (laws_szIntSS p0.Table_ p1).bind fun y19 => if decide (y19 < 0) then some (-1) else (laws_szPairS p0.Last_ y19).bind fun y21 => if decide (y21 < 0) then some (-1) else some y21


noncomputable def laws_toPair (p0 : Tlaws_Pair) : Option (Timpl_Pair) :=
  some (Timpl_Pair.mk p0.Truth_ p0.Said_)


noncomputable def laws_toPairS_L1 (p0 : List Tlaws_Pair) : Nat → (List Timpl_Pair) → Int → Option (List Timpl_Pair)
  | 0, _, _ => none
  | k1 + 1, l30, i33 =>
    if decide (i33 < (p0.length : Int)) then (idx p0 i33).bind fun e51 => (laws_toPair e51).bind fun y53 => (idx l30 i33).bind fun _ => (laws_toPairS_L1 p0 k1) (l30.set i33.toNat y53) (IntKind.i64.wrap (i33 + 1)) else some l30

theorem laws_toPairS_L1_ind (p0 : List Tlaws_Pair) {P : (List Timpl_Pair) → Int → Option (List Timpl_Pair) → Prop} (μ : (List Timpl_Pair) → Int → Nat) (h : ∀ (l30 : List Timpl_Pair) (i33 : Int) (R : (List Timpl_Pair) → Int → Option (List Timpl_Pair)), (∀ l30' i33', μ l30' i33' < μ l30 i33 → P l30' i33' (R l30' i33')) → P l30 i33 (if decide (i33 < (p0.length : Int)) then (idx p0 i33).bind fun e51 => (laws_toPair e51).bind fun y53 => (idx l30 i33).bind fun _ => (R) (l30.set i33.toNat y53) (IntKind.i64.wrap (i33 + 1)) else some l30)) : ∀ k l30 i33, μ l30 i33 < k → P l30 i33 (laws_toPairS_L1 p0 k l30 i33) := by
  intro k
  induction k with
  | zero => intro l30 i33 hk; exact absurd hk (Nat.not_lt_zero _)
  | succ k ih => intro l30 i33 hk; unfold laws_toPairS_L1; exact h l30 i33 (laws_toPairS_L1 p0 k) (fun l30' i33' hs => ih l30' i33' (Nat.lt_of_lt_of_le hs (Nat.le_of_lt_succ hk)))

noncomputable def laws_toPairS (p0 : List Tlaws_Pair) : Option (List Timpl_Pair) :=
  (mk ((Timpl_Pair.mk 0 0) : Timpl_Pair) (p0.length : Int)).bind fun l10 => laws_toPairS_L1 p0 Fuel l10 0


noncomputable def laws_toScore (p0 : Tlaws_Score) : Option (Timpl_Score) :=
  (laws_toIntSS p0.Table_).bind fun y21 => (laws_toPairS p0.Last_).bind fun y30 => some (Timpl_Score.mk y21 y30)


noncomputable def spec_l25Pairs_L1 (p0 : List Timpl_Pair) (p1 : Int) (p2 : Int) : Nat → Int → Int → Option (Int)
  | 0, _, _ => none
  | k1 + 1, i19, i20 =>
    if decide (i20 < (p0.length : Int)) then (idx p0 i20).bind fun e30 => (if (e30.Truth_ == p1) then (idx p0 i20).bind fun e34 => some (e34.Said_ == p2) else some false).bind fun u33 => if u33 then (spec_l25Pairs_L1 p0 p1 p2 k1) (IntKind.i64.wrap (i19 + 1)) (IntKind.i64.wrap (i20 + 1)) else (spec_l25Pairs_L1 p0 p1 p2 k1) i19 (IntKind.i64.wrap (i20 + 1)) else some i19

theorem spec_l25Pairs_L1_ind (p0 : List Timpl_Pair) (p1 : Int) (p2 : Int) {P : Int → Int → Option (Int) → Prop} (μ : Int → Int → Nat) (h : ∀ (i19 : Int) (i20 : Int) (R : Int → Int → Option (Int)), (∀ i19' i20', μ i19' i20' < μ i19 i20 → P i19' i20' (R i19' i20')) → P i19 i20 (if decide (i20 < (p0.length : Int)) then (idx p0 i20).bind fun e30 => (if (e30.Truth_ == p1) then (idx p0 i20).bind fun e34 => some (e34.Said_ == p2) else some false).bind fun u33 => if u33 then (R) (IntKind.i64.wrap (i19 + 1)) (IntKind.i64.wrap (i20 + 1)) else (R) i19 (IntKind.i64.wrap (i20 + 1)) else some i19)) : ∀ k i19 i20, μ i19 i20 < k → P i19 i20 (spec_l25Pairs_L1 p0 p1 p2 k i19 i20) := by
  intro k
  induction k with
  | zero => intro i19 i20 hk; exact absurd hk (Nat.not_lt_zero _)
  | succ k ih => intro i19 i20 hk; unfold spec_l25Pairs_L1; exact h i19 i20 (spec_l25Pairs_L1 p0 p1 p2 k) (fun i19' i20' hs => ih i19' i20' (Nat.lt_of_lt_of_le hs (Nat.le_of_lt_succ hk)))

noncomputable def spec_l25Pairs (p0 : List Timpl_Pair) (p1 : Int) (p2 : Int) : Option (Int) :=
  spec_l25Pairs_L1 p0 p1 p2 Fuel 0 0


noncomputable def spec_l1Min (p0 : Int) (p1 : Int) : Option (Int) :=
  if decide (p0 < p1) then some p0 else some p1


noncomputable def spec_ScoreOk_L2 (p0 : Int) (p1 : Timpl_Score) (i151 : Int) (R1 : Int → Int → Option (Bool)) : Nat → Int → Int → Option (Bool)
  | 0, _, _ => none
  | k2 + 1, i326, i327 =>
    if decide (i327 < p0) then (idx p1.Table_ i151).bind fun e367 => (idx e367 i327).bind fun e375 => (spec_l1In e375 0 9999).bind fun y377 => (if (!y377) then some true else (spec_l25Pairs p1.Last_ i151 i327).bind fun y380 => (idx p1.Table_ i151).bind fun e382 => (idx e382 i327).bind fun e390 => some (decide (y380 > e390))).bind fun u379 => if u379 then some false else (idx p1.Table_ i151).bind fun e394 => (idx e394 i327).bind fun e402 => (spec_ScoreOk_L2 p0 p1 i151 R1 k2) (IntKind.i64.wrap (i326 + e402)) (IntKind.i64.wrap (i327 + 1)) else R1 i326 (IntKind.i64.wrap (i151 + 1))

theorem spec_ScoreOk_L2_ind (p0 : Int) (p1 : Timpl_Score) (i151 : Int) (R1 : Int → Int → Option (Bool)) {P : Int → Int → Option (Bool) → Prop} (μ : Int → Int → Nat) (h : ∀ (i326 : Int) (i327 : Int) (R : Int → Int → Option (Bool)), (∀ i326' i327', μ i326' i327' < μ i326 i327 → P i326' i327' (R i326' i327')) → P i326 i327 (if decide (i327 < p0) then (idx p1.Table_ i151).bind fun e367 => (idx e367 i327).bind fun e375 => (spec_l1In e375 0 9999).bind fun y377 => (if (!y377) then some true else (spec_l25Pairs p1.Last_ i151 i327).bind fun y380 => (idx p1.Table_ i151).bind fun e382 => (idx e382 i327).bind fun e390 => some (decide (y380 > e390))).bind fun u379 => if u379 then some false else (idx p1.Table_ i151).bind fun e394 => (idx e394 i327).bind fun e402 => (R) (IntKind.i64.wrap (i326 + e402)) (IntKind.i64.wrap (i327 + 1)) else R1 i326 (IntKind.i64.wrap (i151 + 1)))) : ∀ k i326 i327, μ i326 i327 < k → P i326 i327 (spec_ScoreOk_L2 p0 p1 i151 R1 k i326 i327) := by
  intro k
  induction k with
  | zero => intro i326 i327 hk; exact absurd hk (Nat.not_lt_zero _)
  | succ k ih => intro i326 i327 hk; unfold spec_ScoreOk_L2; exact h i326 i327 (spec_ScoreOk_L2 p0 p1 i151 R1 k) (fun i326' i327' hs => ih i326' i327' (Nat.lt_of_lt_of_le hs (Nat.le_of_lt_succ hk)))

noncomputable def spec_ScoreOk_L3 (p1 : Timpl_Score) (p0 : Int) : Nat → Int → Option (Bool)
  | 0, _ => none
  | k3 + 1, i421 =>
    if decide (i421 < (p1.Last_.length : Int)) then (idx p1.Last_ i421).bind fun e434 => (spec_l1In e434.Truth_ 0 (IntKind.i64.wrap (p0 - 1))).bind fun y436 => (if (!y436) then some true else (idx p1.Last_ i421).bind fun e439 => (spec_l1In e439.Said_ 0 (IntKind.i64.wrap (p0 - 1))).bind fun y441 => some (!y441)).bind fun u438 => if u438 then some false else (spec_ScoreOk_L3 p1 p0 k3) (IntKind.i64.wrap (i421 + 1)) else some true

theorem spec_ScoreOk_L3_ind (p1 : Timpl_Score) (p0 : Int) {P : Int → Option (Bool) → Prop} (μ : Int → Nat) (h : ∀ (i421 : Int) (R : Int → Option (Bool)), (∀ i421', μ i421' < μ i421 → P i421' (R i421')) → P i421 (if decide (i421 < (p1.Last_.length : Int)) then (idx p1.Last_ i421).bind fun e434 => (spec_l1In e434.Truth_ 0 (IntKind.i64.wrap (p0 - 1))).bind fun y436 => (if (!y436) then some true else (idx p1.Last_ i421).bind fun e439 => (spec_l1In e439.Said_ 0 (IntKind.i64.wrap (p0 - 1))).bind fun y441 => some (!y441)).bind fun u438 => if u438 then some false else (R) (IntKind.i64.wrap (i421 + 1)) else some true)) : ∀ k i421, μ i421 < k → P i421 (spec_ScoreOk_L3 p1 p0 k i421) := by
  intro k
  induction k with
  | zero => intro i421 hk; exact absurd hk (Nat.not_lt_zero _)
  | succ k ih => intro i421 hk; unfold spec_ScoreOk_L3; exact h i421 (spec_ScoreOk_L3 p1 p0 k) (fun i421' hs => ih i421' (Nat.lt_of_lt_of_le hs (Nat.le_of_lt_succ hk)))

noncomputable def spec_ScoreOk_L1 (p0 : Int) (p1 : Timpl_Score) : Nat → Int → Int → Option (Bool)
  | 0, _, _ => none
  | k1 + 1, i150, i151 =>
    if decide (i151 < p0) then (idx p1.Table_ i151).bind fun e279 => if ((e279.length : Int) != p0) then some false else spec_ScoreOk_L2 p0 p1 i151 (spec_ScoreOk_L1 p0 p1 k1) Fuel i150 0 else (if decide (i150 > 9999) then some true else (spec_l1Min i150 20).bind fun y405 => some ((p1.Last_.length : Int) != y405)).bind fun u404 => if u404 then some false else spec_ScoreOk_L3 p1 p0 Fuel 0

theorem spec_ScoreOk_L1_ind (p0 : Int) (p1 : Timpl_Score) {P : Int → Int → Option (Bool) → Prop} (μ : Int → Int → Nat) (h : ∀ (i150 : Int) (i151 : Int) (R : Int → Int → Option (Bool)), (∀ i150' i151', μ i150' i151' < μ i150 i151 → P i150' i151' (R i150' i151')) → P i150 i151 (if decide (i151 < p0) then (idx p1.Table_ i151).bind fun e279 => if ((e279.length : Int) != p0) then some false else spec_ScoreOk_L2 p0 p1 i151 (R) Fuel i150 0 else (if decide (i150 > 9999) then some true else (spec_l1Min i150 20).bind fun y405 => some ((p1.Last_.length : Int) != y405)).bind fun u404 => if u404 then some false else spec_ScoreOk_L3 p1 p0 Fuel 0)) : ∀ k i150 i151, μ i150 i151 < k → P i150 i151 (spec_ScoreOk_L1 p0 p1 k i150 i151) := by
  intro k
  induction k with
  | zero => intro i150 i151 hk; exact absurd hk (Nat.not_lt_zero _)
  | succ k ih => intro i150 i151 hk; unfold spec_ScoreOk_L1; exact h i150 i151 (spec_ScoreOk_L1 p0 p1 k) (fun i150' i151' hs => ih i150' i151' (Nat.lt_of_lt_of_le hs (Nat.le_of_lt_succ hk)))

noncomputable def spec_ScoreOk (p0 : Int) (p1 : Timpl_Score) : Option (Bool) :=
  (spec_l1In p0 2 3).bind fun y19 => if ((!y19) || ((p1.Table_.length : Int) != p0)) then some false else spec_ScoreOk_L1 p0 p1 Fuel 0 0


noncomputable def spec_l10Sum_L1 (p0 : List Int) : Nat → Int → Int → Option (Int)
  | 0, _, _ => none
  | k1 + 1, i14, i15 =>
    if decide (i15 < (p0.length : Int)) then (idx p0 i15).bind fun e20 => (spec_l10Sum_L1 p0 k1) (IntKind.i64.wrap (i14 + e20)) (IntKind.i64.wrap (i15 + 1)) else some i14

theorem spec_l10Sum_L1_ind (p0 : List Int) {P : Int → Int → Option (Int) → Prop} (μ : Int → Int → Nat) (h : ∀ (i14 : Int) (i15 : Int) (R : Int → Int → Option (Int)), (∀ i14' i15', μ i14' i15' < μ i14 i15 → P i14' i15' (R i14' i15')) → P i14 i15 (if decide (i15 < (p0.length : Int)) then (idx p0 i15).bind fun e20 => (R) (IntKind.i64.wrap (i14 + e20)) (IntKind.i64.wrap (i15 + 1)) else some i14)) : ∀ k i14 i15, μ i14 i15 < k → P i14 i15 (spec_l10Sum_L1 p0 k i14 i15) := by
  intro k
  induction k with
  | zero => intro i14 i15 hk; exact absurd hk (Nat.not_lt_zero _)
  | succ k ih => intro i14 i15 hk; unfold spec_l10Sum_L1; exact h i14 i15 (spec_l10Sum_L1 p0 k) (fun i14' i15' hs => ih i14' i15' (Nat.lt_of_lt_of_le hs (Nat.le_of_lt_succ hk)))

noncomputable def spec_l10Sum (p0 : List Int) : Option (Int) :=
  spec_l10Sum_L1 p0 Fuel 0 0


noncomputable def spec_Count_L1 (p0 : Int) (p1 : Timpl_Score) : Nat → Int → Int → Option (Int)
  | 0, _, _ => none
  | k1 + 1, i34, i35 =>
    if decide (i35 < p0) then (idx p1.Table_ i35).bind fun e48 => (spec_l10Sum e48).bind fun y56 => (spec_Count_L1 p0 p1 k1) (IntKind.i64.wrap (i34 + y56)) (IntKind.i64.wrap (i35 + 1)) else some i34

theorem spec_Count_L1_ind (p0 : Int) (p1 : Timpl_Score) {P : Int → Int → Option (Int) → Prop} (μ : Int → Int → Nat) (h : ∀ (i34 : Int) (i35 : Int) (R : Int → Int → Option (Int)), (∀ i34' i35', μ i34' i35' < μ i34 i35 → P i34' i35' (R i34' i35')) → P i34 i35 (if decide (i35 < p0) then (idx p1.Table_ i35).bind fun e48 => (spec_l10Sum e48).bind fun y56 => (R) (IntKind.i64.wrap (i34 + y56)) (IntKind.i64.wrap (i35 + 1)) else some i34)) : ∀ k i34 i35, μ i34 i35 < k → P i34 i35 (spec_Count_L1 p0 p1 k i34 i35) := by
  intro k
  induction k with
  | zero => intro i34 i35 hk; exact absurd hk (Nat.not_lt_zero _)
  | succ k ih => intro i34 i35 hk; unfold spec_Count_L1; exact h i34 i35 (spec_Count_L1 p0 p1 k) (fun i34' i35' hs => ih i34' i35' (Nat.lt_of_lt_of_le hs (Nat.le_of_lt_succ hk)))

noncomputable def spec_Count (p0 : Int) (p1 : Timpl_Score) : Option (Int) :=
  (spec_ScoreOk p0 p1).bind fun y19 => if (!y19) then some 0 else spec_Count_L1 p0 p1 Fuel 0 0


noncomputable def spec_Right_L1 (p0 : Int) (p1 : Timpl_Score) : Nat → Int → Int → Option (Int)
  | 0, _, _ => none
  | k1 + 1, i34, i35 =>
    if decide (i35 < p0) then (idx p1.Table_ i35).bind fun e48 => (idx e48 i35).bind fun e56 => (spec_Right_L1 p0 p1 k1) (IntKind.i64.wrap (i34 + e56)) (IntKind.i64.wrap (i35 + 1)) else some i34

theorem spec_Right_L1_ind (p0 : Int) (p1 : Timpl_Score) {P : Int → Int → Option (Int) → Prop} (μ : Int → Int → Nat) (h : ∀ (i34 : Int) (i35 : Int) (R : Int → Int → Option (Int)), (∀ i34' i35', μ i34' i35' < μ i34 i35 → P i34' i35' (R i34' i35')) → P i34 i35 (if decide (i35 < p0) then (idx p1.Table_ i35).bind fun e48 => (idx e48 i35).bind fun e56 => (R) (IntKind.i64.wrap (i34 + e56)) (IntKind.i64.wrap (i35 + 1)) else some i34)) : ∀ k i34 i35, μ i34 i35 < k → P i34 i35 (spec_Right_L1 p0 p1 k i34 i35) := by
  intro k
  induction k with
  | zero => intro i34 i35 hk; exact absurd hk (Nat.not_lt_zero _)
  | succ k ih => intro i34 i35 hk; unfold spec_Right_L1; exact h i34 i35 (spec_Right_L1 p0 p1 k) (fun i34' i35' hs => ih i34' i35' (Nat.lt_of_lt_of_le hs (Nat.le_of_lt_succ hk)))

noncomputable def spec_Right (p0 : Int) (p1 : Timpl_Score) : Option (Int) :=
  (spec_ScoreOk p0 p1).bind fun y19 => if (!y19) then some 0 else spec_Right_L1 p0 p1 Fuel 0 0


noncomputable def spec_Kappa_L2 (p0 : Int) (p1 : Timpl_Score) (i71 : Int) (R1 : Int → Int → Option (Int × Int)) (i70 : Int) : Nat → Int → Int → Option (Int × Int)
  | 0, _, _ => none
  | k2 + 1, i132, i133 =>
    if decide (i133 < p0) then (idx p1.Table_ i133).bind fun e146 => (idx e146 i71).bind fun e154 => (spec_Kappa_L2 p0 p1 i71 R1 i70 k2) (IntKind.i64.wrap (i132 + e154)) (IntKind.i64.wrap (i133 + 1)) else (idx p1.Table_ i71).bind fun e156 => (spec_l10Sum e156).bind fun y164 => R1 (IntKind.i64.wrap (i70 + (IntKind.i64.wrap (y164 * i132)))) (IntKind.i64.wrap (i71 + 1))

theorem spec_Kappa_L2_ind (p0 : Int) (p1 : Timpl_Score) (i71 : Int) (R1 : Int → Int → Option (Int × Int)) (i70 : Int) {P : Int → Int → Option (Int × Int) → Prop} (μ : Int → Int → Nat) (h : ∀ (i132 : Int) (i133 : Int) (R : Int → Int → Option (Int × Int)), (∀ i132' i133', μ i132' i133' < μ i132 i133 → P i132' i133' (R i132' i133')) → P i132 i133 (if decide (i133 < p0) then (idx p1.Table_ i133).bind fun e146 => (idx e146 i71).bind fun e154 => (R) (IntKind.i64.wrap (i132 + e154)) (IntKind.i64.wrap (i133 + 1)) else (idx p1.Table_ i71).bind fun e156 => (spec_l10Sum e156).bind fun y164 => R1 (IntKind.i64.wrap (i70 + (IntKind.i64.wrap (y164 * i132)))) (IntKind.i64.wrap (i71 + 1)))) : ∀ k i132 i133, μ i132 i133 < k → P i132 i133 (spec_Kappa_L2 p0 p1 i71 R1 i70 k i132 i133) := by
  intro k
  induction k with
  | zero => intro i132 i133 hk; exact absurd hk (Nat.not_lt_zero _)
  | succ k ih => intro i132 i133 hk; unfold spec_Kappa_L2; exact h i132 i133 (spec_Kappa_L2 p0 p1 i71 R1 i70 k) (fun i132' i133' hs => ih i132' i133' (Nat.lt_of_lt_of_le hs (Nat.le_of_lt_succ hk)))

noncomputable def spec_Kappa_L1 (p0 : Int) (p1 : Timpl_Score) : Nat → Int → Int → Option (Int × Int)
  | 0, _, _ => none
  | k1 + 1, i70, i71 =>
    if decide (i71 < p0) then spec_Kappa_L2 p0 p1 i71 (spec_Kappa_L1 p0 p1 k1) i70 Fuel 0 0 else (spec_Count p0 p1).bind fun y166 => (spec_Right p0 p1).bind fun y168 => some (IntKind.i64.wrap ((IntKind.i64.wrap (y166 * y168)) - i70), IntKind.i64.wrap ((IntKind.i64.wrap (y166 * y166)) - i70))

theorem spec_Kappa_L1_ind (p0 : Int) (p1 : Timpl_Score) {P : Int → Int → Option (Int × Int) → Prop} (μ : Int → Int → Nat) (h : ∀ (i70 : Int) (i71 : Int) (R : Int → Int → Option (Int × Int)), (∀ i70' i71', μ i70' i71' < μ i70 i71 → P i70' i71' (R i70' i71')) → P i70 i71 (if decide (i71 < p0) then spec_Kappa_L2 p0 p1 i71 (R) i70 Fuel 0 0 else (spec_Count p0 p1).bind fun y166 => (spec_Right p0 p1).bind fun y168 => some (IntKind.i64.wrap ((IntKind.i64.wrap (y166 * y168)) - i70), IntKind.i64.wrap ((IntKind.i64.wrap (y166 * y166)) - i70)))) : ∀ k i70 i71, μ i70 i71 < k → P i70 i71 (spec_Kappa_L1 p0 p1 k i70 i71) := by
  intro k
  induction k with
  | zero => intro i70 i71 hk; exact absurd hk (Nat.not_lt_zero _)
  | succ k ih => intro i70 i71 hk; unfold spec_Kappa_L1; exact h i70 i71 (spec_Kappa_L1 p0 p1 k) (fun i70' i71' hs => ih i70' i71' (Nat.lt_of_lt_of_le hs (Nat.le_of_lt_succ hk)))

noncomputable def spec_Kappa (p0 : Int) (p1 : Timpl_Score) : Option (Int × Int) :=
  (spec_ScoreOk p0 p1).bind fun y19 => if (!y19) then some (0, 0) else spec_Kappa_L1 p0 p1 Fuel 0 0


noncomputable def spec_LastRight_L1 (p0 : Int) (p1 : Timpl_Score) : Nat → Int → Int → Option (Int)
  | 0, _, _ => none
  | k1 + 1, i25, i26 =>
    if decide (i26 < p0) then (spec_l25Pairs p1.Last_ i26 i26).bind fun y31 => (spec_LastRight_L1 p0 p1 k1) (IntKind.i64.wrap (i25 + y31)) (IntKind.i64.wrap (i26 + 1)) else some i25

theorem spec_LastRight_L1_ind (p0 : Int) (p1 : Timpl_Score) {P : Int → Int → Option (Int) → Prop} (μ : Int → Int → Nat) (h : ∀ (i25 : Int) (i26 : Int) (R : Int → Int → Option (Int)), (∀ i25' i26', μ i25' i26' < μ i25 i26 → P i25' i26' (R i25' i26')) → P i25 i26 (if decide (i26 < p0) then (spec_l25Pairs p1.Last_ i26 i26).bind fun y31 => (R) (IntKind.i64.wrap (i25 + y31)) (IntKind.i64.wrap (i26 + 1)) else some i25)) : ∀ k i25 i26, μ i25 i26 < k → P i25 i26 (spec_LastRight_L1 p0 p1 k i25 i26) := by
  intro k
  induction k with
  | zero => intro i25 i26 hk; exact absurd hk (Nat.not_lt_zero _)
  | succ k ih => intro i25 i26 hk; unfold spec_LastRight_L1; exact h i25 i26 (spec_LastRight_L1 p0 p1 k) (fun i25' i26' hs => ih i25' i26' (Nat.lt_of_lt_of_le hs (Nat.le_of_lt_succ hk)))

noncomputable def spec_LastRight (p0 : Int) (p1 : Timpl_Score) : Option (Int) :=
  (spec_ScoreOk p0 p1).bind fun y19 => if (!y19) then some 0 else spec_LastRight_L1 p0 p1 Fuel 0 0


noncomputable def spec_ScoreText (p0 : Int) (p1 : Timpl_Score) : Option (List UInt8) :=
  (spec_ScoreOk p0 p1).bind fun y19 => if (!y19) then some ([] : List UInt8) else (spec_Kappa p0 p1).bind fun y21 => (spec_Count p0 p1).bind fun y23 => (spec_Digits y23).bind fun y25 => (sadd ([99, 111, 117, 110, 116, 32] : List UInt8) y25).bind fun s27 => (sadd s27 ([32, 114, 105, 103, 104, 116, 32] : List UInt8)).bind fun s29 => (spec_Right p0 p1).bind fun y31 => (spec_Digits y31).bind fun y33 => (sadd s29 y33).bind fun s35 => (sadd s35 ([32, 108, 97, 115, 116, 32] : List UInt8)).bind fun s37 => (spec_LastRight p0 p1).bind fun y39 => (spec_Digits y39).bind fun y41 => (sadd s37 y41).bind fun s43 => (sadd s43 ([32, 107, 97, 112, 112, 97, 32] : List UInt8)).bind fun s45 => (spec_Digits y21.1).bind fun y47 => (sadd s45 y47).bind fun s49 => (sadd s49 ([47] : List UInt8)).bind fun s51 => (spec_Digits y21.2).bind fun y53 => (sadd s51 y53).bind fun s55 => some s55


noncomputable def impl_ScoreOk_1 (p0 : Int) : Option (Bool) :=
  (impl_within p0 0 9999).bind fun y10 => some (!y10)


noncomputable def impl_tableSum_L1 (p0 : List (List Int)) : Nat → Int → Int → Option (Int)
  | 0, _, _ => none
  | k1 + 1, i22, i23 =>
    if decide (i23 < (p0.length : Int)) then (idx p0 i23).bind fun e36 => (impl_total e36).bind fun y44 => (impl_tableSum_L1 p0 k1) (IntKind.i64.wrap (i22 + y44)) (IntKind.i64.wrap (i23 + 1)) else some i22

theorem impl_tableSum_L1_ind (p0 : List (List Int)) {P : Int → Int → Option (Int) → Prop} (μ : Int → Int → Nat) (h : ∀ (i22 : Int) (i23 : Int) (R : Int → Int → Option (Int)), (∀ i22' i23', μ i22' i23' < μ i22 i23 → P i22' i23' (R i22' i23')) → P i22 i23 (if decide (i23 < (p0.length : Int)) then (idx p0 i23).bind fun e36 => (impl_total e36).bind fun y44 => (R) (IntKind.i64.wrap (i22 + y44)) (IntKind.i64.wrap (i23 + 1)) else some i22)) : ∀ k i22 i23, μ i22 i23 < k → P i22 i23 (impl_tableSum_L1 p0 k i22 i23) := by
  intro k
  induction k with
  | zero => intro i22 i23 hk; exact absurd hk (Nat.not_lt_zero _)
  | succ k ih => intro i22 i23 hk; unfold impl_tableSum_L1; exact h i22 i23 (impl_tableSum_L1 p0 k) (fun i22' i23' hs => ih i22' i23' (Nat.lt_of_lt_of_le hs (Nat.le_of_lt_succ hk)))

noncomputable def impl_tableSum (p0 : List (List Int)) : Option (Int) :=
  impl_tableSum_L1 p0 Fuel 0 0


noncomputable def lib_slices_IndexFunc___int_int___impl_ScoreOk_1_L1 (p0 : List Int) : Nat → Int → Option (Int)
  | 0, _ => none
  | k1 + 1, i15 =>
    if decide (i15 < (p0.length : Int)) then (idx p0 i15).bind fun e21 => (impl_ScoreOk_1 e21).bind fun y23 => if y23 then some i15 else (lib_slices_IndexFunc___int_int___impl_ScoreOk_1_L1 p0 k1) (IntKind.i64.wrap (i15 + 1)) else some (-1)

theorem lib_slices_IndexFunc___int_int___impl_ScoreOk_1_L1_ind (p0 : List Int) {P : Int → Option (Int) → Prop} (μ : Int → Nat) (h : ∀ (i15 : Int) (R : Int → Option (Int)), (∀ i15', μ i15' < μ i15 → P i15' (R i15')) → P i15 (if decide (i15 < (p0.length : Int)) then (idx p0 i15).bind fun e21 => (impl_ScoreOk_1 e21).bind fun y23 => if y23 then some i15 else (R) (IntKind.i64.wrap (i15 + 1)) else some (-1))) : ∀ k i15, μ i15 < k → P i15 (lib_slices_IndexFunc___int_int___impl_ScoreOk_1_L1 p0 k i15) := by
  intro k
  induction k with
  | zero => intro i15 hk; exact absurd hk (Nat.not_lt_zero _)
  | succ k ih => intro i15 hk; unfold lib_slices_IndexFunc___int_int___impl_ScoreOk_1_L1; exact h i15 (lib_slices_IndexFunc___int_int___impl_ScoreOk_1_L1 p0 k) (fun i15' hs => ih i15' (Nat.lt_of_lt_of_le hs (Nat.le_of_lt_succ hk)))

noncomputable def lib_slices_IndexFunc___int_int___impl_ScoreOk_1 (p0 : List Int) : Option (Int) :=
  lib_slices_IndexFunc___int_int___impl_ScoreOk_1_L1 p0 Fuel 0


noncomputable def lib_slices_ContainsFunc___int_int___impl_ScoreOk_1 (p0 : List Int) : Option (Bool) :=
  (lib_slices_IndexFunc___int_int___impl_ScoreOk_1 p0).bind fun y10 => some (decide (y10 ≥ 0))


noncomputable def impl_ScoreOk_L2 (p1 : Timpl_Score) (p0 : Int) : Nat → Int → (List (Timpl_Pair × Int)) → Option (Bool)
  | 0, _, _ => none
  | k2 + 1, i95, m96 =>
    if decide (i95 < (p1.Last_.length : Int)) then (idx p1.Last_ i95).bind fun e122 => (impl_within e122.Truth_ 0 (IntKind.i64.wrap (p0 - 1))).bind fun y125 => (if (!y125) then some true else (impl_within e122.Said_ 0 (IntKind.i64.wrap (p0 - 1))).bind fun y128 => some (!y128)).bind fun u127 => (if u127 then some true else (idx p1.Table_ e122.Truth_).bind fun e133 => (idx e133 e122.Said_).bind fun e141 => some (decide ((mGet (mPut m96 e122 (IntKind.i64.wrap ((mGet m96 e122) + 1))) e122) > e141))).bind fun u132 => if u132 then some false else (impl_ScoreOk_L2 p1 p0 k2) (IntKind.i64.wrap (i95 + 1)) (mPut m96 e122 (IntKind.i64.wrap ((mGet m96 e122) + 1))) else some true

theorem impl_ScoreOk_L2_ind (p1 : Timpl_Score) (p0 : Int) {P : Int → (List (Timpl_Pair × Int)) → Option (Bool) → Prop} (μ : Int → (List (Timpl_Pair × Int)) → Nat) (h : ∀ (i95 : Int) (m96 : List (Timpl_Pair × Int)) (R : Int → (List (Timpl_Pair × Int)) → Option (Bool)), (∀ i95' m96', μ i95' m96' < μ i95 m96 → P i95' m96' (R i95' m96')) → P i95 m96 (if decide (i95 < (p1.Last_.length : Int)) then (idx p1.Last_ i95).bind fun e122 => (impl_within e122.Truth_ 0 (IntKind.i64.wrap (p0 - 1))).bind fun y125 => (if (!y125) then some true else (impl_within e122.Said_ 0 (IntKind.i64.wrap (p0 - 1))).bind fun y128 => some (!y128)).bind fun u127 => (if u127 then some true else (idx p1.Table_ e122.Truth_).bind fun e133 => (idx e133 e122.Said_).bind fun e141 => some (decide ((mGet (mPut m96 e122 (IntKind.i64.wrap ((mGet m96 e122) + 1))) e122) > e141))).bind fun u132 => if u132 then some false else (R) (IntKind.i64.wrap (i95 + 1)) (mPut m96 e122 (IntKind.i64.wrap ((mGet m96 e122) + 1))) else some true)) : ∀ k i95 m96, μ i95 m96 < k → P i95 m96 (impl_ScoreOk_L2 p1 p0 k i95 m96) := by
  intro k
  induction k with
  | zero => intro i95 m96 hk; exact absurd hk (Nat.not_lt_zero _)
  | succ k ih => intro i95 m96 hk; unfold impl_ScoreOk_L2; exact h i95 m96 (impl_ScoreOk_L2 p1 p0 k) (fun i95' m96' hs => ih i95' m96' (Nat.lt_of_lt_of_le hs (Nat.le_of_lt_succ hk)))

noncomputable def impl_ScoreOk_L1 (p1 : Timpl_Score) (p0 : Int) : Nat → Int → Option (Bool)
  | 0, _ => none
  | k1 + 1, i37 =>
    if decide (i37 < (p1.Table_.length : Int)) then (idx p1.Table_ i37).bind fun e52 => (if ((e52.length : Int) != p0) then some true else (lib_slices_ContainsFunc___int_int___impl_ScoreOk_1 e52).bind fun y61 => some y61).bind fun u60 => if u60 then some false else (impl_ScoreOk_L1 p1 p0 k1) (IntKind.i64.wrap (i37 + 1)) else (impl_tableSum p1.Table_).bind fun y65 => if ((decide (y65 > 9999)) || ((p1.Last_.length : Int) != (if 20 < y65 then 20 else y65))) then some false else impl_ScoreOk_L2 p1 p0 Fuel 0 ([] : List (Timpl_Pair × Int))

theorem impl_ScoreOk_L1_ind (p1 : Timpl_Score) (p0 : Int) {P : Int → Option (Bool) → Prop} (μ : Int → Nat) (h : ∀ (i37 : Int) (R : Int → Option (Bool)), (∀ i37', μ i37' < μ i37 → P i37' (R i37')) → P i37 (if decide (i37 < (p1.Table_.length : Int)) then (idx p1.Table_ i37).bind fun e52 => (if ((e52.length : Int) != p0) then some true else (lib_slices_ContainsFunc___int_int___impl_ScoreOk_1 e52).bind fun y61 => some y61).bind fun u60 => if u60 then some false else (R) (IntKind.i64.wrap (i37 + 1)) else (impl_tableSum p1.Table_).bind fun y65 => if ((decide (y65 > 9999)) || ((p1.Last_.length : Int) != (if 20 < y65 then 20 else y65))) then some false else impl_ScoreOk_L2 p1 p0 Fuel 0 ([] : List (Timpl_Pair × Int)))) : ∀ k i37, μ i37 < k → P i37 (impl_ScoreOk_L1 p1 p0 k i37) := by
  intro k
  induction k with
  | zero => intro i37 hk; exact absurd hk (Nat.not_lt_zero _)
  | succ k ih => intro i37 hk; unfold impl_ScoreOk_L1; exact h i37 (impl_ScoreOk_L1 p1 p0 k) (fun i37' hs => ih i37' (Nat.lt_of_lt_of_le hs (Nat.le_of_lt_succ hk)))

noncomputable def impl_ScoreOk (p0 : Int) (p1 : Timpl_Score) : Option (Bool) :=
  (impl_within p0 2 3).bind fun y19 => if ((!y19) || ((p1.Table_.length : Int) != p0)) then some false else impl_ScoreOk_L1 p1 p0 Fuel 0


noncomputable def impl_Count (p0 : Int) (p1 : Timpl_Score) : Option (Int) :=
  (impl_ScoreOk p0 p1).bind fun y19 => if (!y19) then some 0 else (impl_tableSum p1.Table_).bind fun y21 => some y21


noncomputable def impl_Right_L1 (p0 : Int) (p1 : Timpl_Score) : Nat → Int → Int → Option (Int)
  | 0, _, _ => none
  | k1 + 1, i34, i35 =>
    if decide (i34 < p0) then (idx p1.Table_ i34).bind fun e48 => (idx e48 i34).bind fun e56 => (impl_Right_L1 p0 p1 k1) (IntKind.i64.wrap (i34 + 1)) (IntKind.i64.wrap (i35 + e56)) else some i35

theorem impl_Right_L1_ind (p0 : Int) (p1 : Timpl_Score) {P : Int → Int → Option (Int) → Prop} (μ : Int → Int → Nat) (h : ∀ (i34 : Int) (i35 : Int) (R : Int → Int → Option (Int)), (∀ i34' i35', μ i34' i35' < μ i34 i35 → P i34' i35' (R i34' i35')) → P i34 i35 (if decide (i34 < p0) then (idx p1.Table_ i34).bind fun e48 => (idx e48 i34).bind fun e56 => (R) (IntKind.i64.wrap (i34 + 1)) (IntKind.i64.wrap (i35 + e56)) else some i35)) : ∀ k i34 i35, μ i34 i35 < k → P i34 i35 (impl_Right_L1 p0 p1 k i34 i35) := by
  intro k
  induction k with
  | zero => intro i34 i35 hk; exact absurd hk (Nat.not_lt_zero _)
  | succ k ih => intro i34 i35 hk; unfold impl_Right_L1; exact h i34 i35 (impl_Right_L1 p0 p1 k) (fun i34' i35' hs => ih i34' i35' (Nat.lt_of_lt_of_le hs (Nat.le_of_lt_succ hk)))

noncomputable def impl_Right (p0 : Int) (p1 : Timpl_Score) : Option (Int) :=
  (impl_ScoreOk p0 p1).bind fun y19 => if (!y19) then some 0 else impl_Right_L1 p0 p1 Fuel 0 0


noncomputable def impl_Kappa_L2 (p1 : Timpl_Score) (i70 : Int) (R1 : Int → Int → Option (Int × Int)) (i71 : Int) : Nat → Int → Int → Option (Int × Int)
  | 0, _, _ => none
  | k2 + 1, i132, i133 =>
    if decide (i132 < (p1.Table_.length : Int)) then (idx p1.Table_ i132).bind fun e146 => (idx e146 i70).bind fun e154 => (impl_Kappa_L2 p1 i70 R1 i71 k2) (IntKind.i64.wrap (i132 + 1)) (IntKind.i64.wrap (i133 + e154)) else (idx p1.Table_ i70).bind fun e156 => (impl_total e156).bind fun y164 => R1 (IntKind.i64.wrap (i70 + 1)) (IntKind.i64.wrap (i71 + (IntKind.i64.wrap (y164 * i133))))

theorem impl_Kappa_L2_ind (p1 : Timpl_Score) (i70 : Int) (R1 : Int → Int → Option (Int × Int)) (i71 : Int) {P : Int → Int → Option (Int × Int) → Prop} (μ : Int → Int → Nat) (h : ∀ (i132 : Int) (i133 : Int) (R : Int → Int → Option (Int × Int)), (∀ i132' i133', μ i132' i133' < μ i132 i133 → P i132' i133' (R i132' i133')) → P i132 i133 (if decide (i132 < (p1.Table_.length : Int)) then (idx p1.Table_ i132).bind fun e146 => (idx e146 i70).bind fun e154 => (R) (IntKind.i64.wrap (i132 + 1)) (IntKind.i64.wrap (i133 + e154)) else (idx p1.Table_ i70).bind fun e156 => (impl_total e156).bind fun y164 => R1 (IntKind.i64.wrap (i70 + 1)) (IntKind.i64.wrap (i71 + (IntKind.i64.wrap (y164 * i133)))))) : ∀ k i132 i133, μ i132 i133 < k → P i132 i133 (impl_Kappa_L2 p1 i70 R1 i71 k i132 i133) := by
  intro k
  induction k with
  | zero => intro i132 i133 hk; exact absurd hk (Nat.not_lt_zero _)
  | succ k ih => intro i132 i133 hk; unfold impl_Kappa_L2; exact h i132 i133 (impl_Kappa_L2 p1 i70 R1 i71 k) (fun i132' i133' hs => ih i132' i133' (Nat.lt_of_lt_of_le hs (Nat.le_of_lt_succ hk)))

noncomputable def impl_Kappa_L1 (p0 : Int) (p1 : Timpl_Score) : Nat → Int → Int → Option (Int × Int)
  | 0, _, _ => none
  | k1 + 1, i70, i71 =>
    if decide (i70 < p0) then impl_Kappa_L2 p1 i70 (impl_Kappa_L1 p0 p1 k1) i71 Fuel 0 0 else (impl_Count p0 p1).bind fun y166 => (impl_Right p0 p1).bind fun y168 => some (IntKind.i64.wrap ((IntKind.i64.wrap (y166 * y168)) - i71), IntKind.i64.wrap ((IntKind.i64.wrap (y166 * y166)) - i71))

theorem impl_Kappa_L1_ind (p0 : Int) (p1 : Timpl_Score) {P : Int → Int → Option (Int × Int) → Prop} (μ : Int → Int → Nat) (h : ∀ (i70 : Int) (i71 : Int) (R : Int → Int → Option (Int × Int)), (∀ i70' i71', μ i70' i71' < μ i70 i71 → P i70' i71' (R i70' i71')) → P i70 i71 (if decide (i70 < p0) then impl_Kappa_L2 p1 i70 (R) i71 Fuel 0 0 else (impl_Count p0 p1).bind fun y166 => (impl_Right p0 p1).bind fun y168 => some (IntKind.i64.wrap ((IntKind.i64.wrap (y166 * y168)) - i71), IntKind.i64.wrap ((IntKind.i64.wrap (y166 * y166)) - i71)))) : ∀ k i70 i71, μ i70 i71 < k → P i70 i71 (impl_Kappa_L1 p0 p1 k i70 i71) := by
  intro k
  induction k with
  | zero => intro i70 i71 hk; exact absurd hk (Nat.not_lt_zero _)
  | succ k ih => intro i70 i71 hk; unfold impl_Kappa_L1; exact h i70 i71 (impl_Kappa_L1 p0 p1 k) (fun i70' i71' hs => ih i70' i71' (Nat.lt_of_lt_of_le hs (Nat.le_of_lt_succ hk)))

noncomputable def impl_Kappa (p0 : Int) (p1 : Timpl_Score) : Option (Int × Int) :=
  (impl_ScoreOk p0 p1).bind fun y19 => if (!y19) then some (0, 0) else impl_Kappa_L1 p0 p1 Fuel 0 0


noncomputable def impl_LastRight_L1 (p1 : Timpl_Score) : Nat → Int → Int → Option (Int)
  | 0, _, _ => none
  | k1 + 1, i26, i27 =>
    if decide (i26 < (p1.Last_.length : Int)) then (idx p1.Last_ i26).bind fun e34 => if (e34.Truth_ == e34.Said_) then (impl_LastRight_L1 p1 k1) (IntKind.i64.wrap (i26 + 1)) (IntKind.i64.wrap (i27 + 1)) else (impl_LastRight_L1 p1 k1) (IntKind.i64.wrap (i26 + 1)) i27 else some i27

theorem impl_LastRight_L1_ind (p1 : Timpl_Score) {P : Int → Int → Option (Int) → Prop} (μ : Int → Int → Nat) (h : ∀ (i26 : Int) (i27 : Int) (R : Int → Int → Option (Int)), (∀ i26' i27', μ i26' i27' < μ i26 i27 → P i26' i27' (R i26' i27')) → P i26 i27 (if decide (i26 < (p1.Last_.length : Int)) then (idx p1.Last_ i26).bind fun e34 => if (e34.Truth_ == e34.Said_) then (R) (IntKind.i64.wrap (i26 + 1)) (IntKind.i64.wrap (i27 + 1)) else (R) (IntKind.i64.wrap (i26 + 1)) i27 else some i27)) : ∀ k i26 i27, μ i26 i27 < k → P i26 i27 (impl_LastRight_L1 p1 k i26 i27) := by
  intro k
  induction k with
  | zero => intro i26 i27 hk; exact absurd hk (Nat.not_lt_zero _)
  | succ k ih => intro i26 i27 hk; unfold impl_LastRight_L1; exact h i26 i27 (impl_LastRight_L1 p1 k) (fun i26' i27' hs => ih i26' i27' (Nat.lt_of_lt_of_le hs (Nat.le_of_lt_succ hk)))

noncomputable def impl_LastRight (p0 : Int) (p1 : Timpl_Score) : Option (Int) :=
  (impl_ScoreOk p0 p1).bind fun y19 => if (!y19) then some 0 else impl_LastRight_L1 p1 Fuel 0 0


noncomputable def impl_ScoreText (p0 : Int) (p1 : Timpl_Score) : Option (List UInt8) :=
  (impl_ScoreOk p0 p1).bind fun y19 => if (!y19) then some ([] : List UInt8) else (impl_Kappa p0 p1).bind fun y21 => (impl_Count p0 p1).bind fun y23 => (impl_Digits y23).bind fun y25 => (impl_Right p0 p1).bind fun y27 => (impl_Digits y27).bind fun y29 => (impl_LastRight p0 p1).bind fun y31 => (impl_Digits y31).bind fun y33 => (impl_Digits y21.1).bind fun y35 => (sadd y35 ([47] : List UInt8)).bind fun s37 => (impl_Digits y21.2).bind fun y39 => (sadd s37 y39).bind fun s41 => (sJoin ([([99, 111, 117, 110, 116] : List UInt8), y25, ([114, 105, 103, 104, 116] : List UInt8), y29, ([108, 97, 115, 116] : List UInt8), y33, ([107, 97, 112, 112, 97] : List UInt8), s41] : List (List UInt8)) ([32] : List UInt8)).bind fun s44 => some s44


noncomputable def laws_eqPair (p0 : Timpl_Pair) (p1 : Timpl_Pair) : Option (Bool) :=
  if (p0.Truth_ != p1.Truth_) then some false else if (p0.Said_ != p1.Said_) then some false else some true


noncomputable def laws_eqPairS_L1 (p0 : List Timpl_Pair) (p1 : List Timpl_Pair) : Nat → Int → Option (Bool)
  | 0, _ => none
  | k1 + 1, i18 =>
    if decide (i18 < (p0.length : Int)) then (idx p0 i18).bind fun e26 => (idx p1 i18).bind fun e28 => (laws_eqPair e26 e28).bind fun y30 => if (!y30) then some false else (laws_eqPairS_L1 p0 p1 k1) (IntKind.i64.wrap (i18 + 1)) else some true

theorem laws_eqPairS_L1_ind (p0 : List Timpl_Pair) (p1 : List Timpl_Pair) {P : Int → Option (Bool) → Prop} (μ : Int → Nat) (h : ∀ (i18 : Int) (R : Int → Option (Bool)), (∀ i18', μ i18' < μ i18 → P i18' (R i18')) → P i18 (if decide (i18 < (p0.length : Int)) then (idx p0 i18).bind fun e26 => (idx p1 i18).bind fun e28 => (laws_eqPair e26 e28).bind fun y30 => if (!y30) then some false else (R) (IntKind.i64.wrap (i18 + 1)) else some true)) : ∀ k i18, μ i18 < k → P i18 (laws_eqPairS_L1 p0 p1 k i18) := by
  intro k
  induction k with
  | zero => intro i18 hk; exact absurd hk (Nat.not_lt_zero _)
  | succ k ih => intro i18 hk; unfold laws_eqPairS_L1; exact h i18 (laws_eqPairS_L1 p0 p1 k) (fun i18' hs => ih i18' (Nat.lt_of_lt_of_le hs (Nat.le_of_lt_succ hk)))

noncomputable def laws_eqPairS (p0 : List Timpl_Pair) (p1 : List Timpl_Pair) : Option (Bool) :=
  if ((p0.length : Int) != (p1.length : Int)) then some false else laws_eqPairS_L1 p0 p1 Fuel 0


noncomputable def laws_eqScore (p0 : Timpl_Score) (p1 : Timpl_Score) : Option (Bool) :=
  (laws_eqIntSS p0.Table_ p1.Table_).bind fun y28 => if (!y28) then some false else (laws_eqPairS p0.Last_ p1.Last_).bind fun y30 => if (!y30) then some false else some true


noncomputable def laws_FnExactScoreText (p0 : Int) (p1 : Tlaws_Score) : Option (Bool) :=
  (laws_szScore p1 1048576).bind fun y19 => if decide (y19 < 0) then some true else (laws_toScore p1).bind fun y21 => (spec_ScoreText p0 y21).bind fun y34 => (laws_toScore p1).bind fun y36 => (impl_ScoreText p0 y36).bind fun y50 => if (!(y50 == y34)) then some false else (laws_toScore p1).bind fun y65 => (laws_eqScore y36 y65).bind fun y78 => if (!y78) then some false else some true


noncomputable def laws_szWindow (p0 : Tlaws_Window) (p1 : Int) : Option (Int) :=
  (laws_szIntSS p0.Rows_ p1).bind fun y15 => if decide (y15 < 0) then some (-1) else some y15


noncomputable def laws_toWindow (p0 : Tlaws_Window) : Option (Timpl_Window) :=
  (laws_toIntSS p0.Rows_).bind fun y17 => some (Timpl_Window.mk y17)


noncomputable def spec_WindowOk_L2 (p0 : Timpl_Window) (i95 : Int) (R1 : Int → Option (Bool)) : Nat → Int → Option (Bool)
  | 0, _ => none
  | k2 + 1, i209 =>
    (idx p0.Rows_ i95).bind fun e233 => if decide (i209 < (e233.length : Int)) then (idx p0.Rows_ i95).bind fun e241 => (idx e241 i209).bind fun e249 => (spec_l16Power i95).bind fun y251 => (spec_l1In e249 0 y251).bind fun y253 => if (!y253) then some false else (spec_WindowOk_L2 p0 i95 R1 k2) (IntKind.i64.wrap (i209 + 1)) else R1 (IntKind.i64.wrap (i95 + 1))

theorem spec_WindowOk_L2_ind (p0 : Timpl_Window) (i95 : Int) (R1 : Int → Option (Bool)) {P : Int → Option (Bool) → Prop} (μ : Int → Nat) (h : ∀ (i209 : Int) (R : Int → Option (Bool)), (∀ i209', μ i209' < μ i209 → P i209' (R i209')) → P i209 ((idx p0.Rows_ i95).bind fun e233 => if decide (i209 < (e233.length : Int)) then (idx p0.Rows_ i95).bind fun e241 => (idx e241 i209).bind fun e249 => (spec_l16Power i95).bind fun y251 => (spec_l1In e249 0 y251).bind fun y253 => if (!y253) then some false else (R) (IntKind.i64.wrap (i209 + 1)) else R1 (IntKind.i64.wrap (i95 + 1)))) : ∀ k i209, μ i209 < k → P i209 (spec_WindowOk_L2 p0 i95 R1 k i209) := by
  intro k
  induction k with
  | zero => intro i209 hk; exact absurd hk (Nat.not_lt_zero _)
  | succ k ih => intro i209 hk; unfold spec_WindowOk_L2; exact h i209 (spec_WindowOk_L2 p0 i95 R1 k) (fun i209' hs => ih i209' (Nat.lt_of_lt_of_le hs (Nat.le_of_lt_succ hk)))

noncomputable def spec_WindowOk_L1 (p0 : Timpl_Window) : Nat → Int → Option (Bool)
  | 0, _ => none
  | k1 + 1, i95 =>
    if decide (i95 < (p0.Rows_.length : Int)) then (idx p0.Rows_ i95).bind fun e176 => (spec_l1In (e176.length : Int) 1 3).bind fun y184 => if (!y184) then some false else spec_WindowOk_L2 p0 i95 (spec_WindowOk_L1 p0 k1) Fuel 0 else some true

theorem spec_WindowOk_L1_ind (p0 : Timpl_Window) {P : Int → Option (Bool) → Prop} (μ : Int → Nat) (h : ∀ (i95 : Int) (R : Int → Option (Bool)), (∀ i95', μ i95' < μ i95 → P i95' (R i95')) → P i95 (if decide (i95 < (p0.Rows_.length : Int)) then (idx p0.Rows_ i95).bind fun e176 => (spec_l1In (e176.length : Int) 1 3).bind fun y184 => if (!y184) then some false else spec_WindowOk_L2 p0 i95 (R) Fuel 0 else some true)) : ∀ k i95, μ i95 < k → P i95 (spec_WindowOk_L1 p0 k i95) := by
  intro k
  induction k with
  | zero => intro i95 hk; exact absurd hk (Nat.not_lt_zero _)
  | succ k ih => intro i95 hk; unfold spec_WindowOk_L1; exact h i95 (spec_WindowOk_L1 p0 k) (fun i95' hs => ih i95' (Nat.lt_of_lt_of_le hs (Nat.le_of_lt_succ hk)))

noncomputable def spec_WindowOk (p0 : Timpl_Window) : Option (Bool) :=
  if decide ((p0.Rows_.length : Int) > 8) then some false else spec_WindowOk_L1 p0 Fuel 0


noncomputable def spec_Buckets_L2 (p0 : Timpl_Window) (i167 : Int) (R1 : (List Timpl_Bucket) → Int → Option (List Timpl_Bucket)) : Nat → (List Timpl_Bucket) → Int → Option (List Timpl_Bucket)
  | 0, _, _ => none
  | k2 + 1, l358, i363 =>
    (idx p0.Rows_ i167).bind fun e410 => if decide (i363 < (e410.length : Int)) then (idx p0.Rows_ i167).bind fun e431 => (idx e431 i363).bind fun e439 => (spec_l16Power i167).bind fun y441 => (app l358 ([(Timpl_Bucket.mk y441 e439)] : List Timpl_Bucket)).bind fun l444 => (spec_Buckets_L2 p0 i167 R1 k2) l444 (IntKind.i64.wrap (i363 + 1)) else R1 l358 (IntKind.i64.wrap (i167 - 1))

theorem spec_Buckets_L2_ind (p0 : Timpl_Window) (i167 : Int) (R1 : (List Timpl_Bucket) → Int → Option (List Timpl_Bucket)) {P : (List Timpl_Bucket) → Int → Option (List Timpl_Bucket) → Prop} (μ : (List Timpl_Bucket) → Int → Nat) (h : ∀ (l358 : List Timpl_Bucket) (i363 : Int) (R : (List Timpl_Bucket) → Int → Option (List Timpl_Bucket)), (∀ l358' i363', μ l358' i363' < μ l358 i363 → P l358' i363' (R l358' i363')) → P l358 i363 ((idx p0.Rows_ i167).bind fun e410 => if decide (i363 < (e410.length : Int)) then (idx p0.Rows_ i167).bind fun e431 => (idx e431 i363).bind fun e439 => (spec_l16Power i167).bind fun y441 => (app l358 ([(Timpl_Bucket.mk y441 e439)] : List Timpl_Bucket)).bind fun l444 => (R) l444 (IntKind.i64.wrap (i363 + 1)) else R1 l358 (IntKind.i64.wrap (i167 - 1)))) : ∀ k l358 i363, μ l358 i363 < k → P l358 i363 (spec_Buckets_L2 p0 i167 R1 k l358 i363) := by
  intro k
  induction k with
  | zero => intro l358 i363 hk; exact absurd hk (Nat.not_lt_zero _)
  | succ k ih => intro l358 i363 hk; unfold spec_Buckets_L2; exact h l358 i363 (spec_Buckets_L2 p0 i167 R1 k) (fun l358' i363' hs => ih l358' i363' (Nat.lt_of_lt_of_le hs (Nat.le_of_lt_succ hk)))

noncomputable def spec_Buckets_L1 (p0 : Timpl_Window) : Nat → (List Timpl_Bucket) → Int → Option (List Timpl_Bucket)
  | 0, _, _ => none
  | k1 + 1, l162, i167 =>
    if decide (i167 ≥ 0) then spec_Buckets_L2 p0 i167 (spec_Buckets_L1 p0 k1) Fuel l162 0 else some l162

theorem spec_Buckets_L1_ind (p0 : Timpl_Window) {P : (List Timpl_Bucket) → Int → Option (List Timpl_Bucket) → Prop} (μ : (List Timpl_Bucket) → Int → Nat) (h : ∀ (l162 : List Timpl_Bucket) (i167 : Int) (R : (List Timpl_Bucket) → Int → Option (List Timpl_Bucket)), (∀ l162' i167', μ l162' i167' < μ l162 i167 → P l162' i167' (R l162' i167')) → P l162 i167 (if decide (i167 ≥ 0) then spec_Buckets_L2 p0 i167 (R) Fuel l162 0 else some l162)) : ∀ k l162 i167, μ l162 i167 < k → P l162 i167 (spec_Buckets_L1 p0 k l162 i167) := by
  intro k
  induction k with
  | zero => intro l162 i167 hk; exact absurd hk (Nat.not_lt_zero _)
  | succ k ih => intro l162 i167 hk; unfold spec_Buckets_L1; exact h l162 i167 (spec_Buckets_L1 p0 k) (fun l162' i167' hs => ih l162' i167' (Nat.lt_of_lt_of_le hs (Nat.le_of_lt_succ hk)))

noncomputable def spec_Buckets (p0 : Timpl_Window) : Option (List Timpl_Bucket) :=
  (spec_WindowOk p0).bind fun y16 => if (!y16) then some ([] : List Timpl_Bucket) else spec_Buckets_L1 p0 Fuel ([] : List Timpl_Bucket) (IntKind.i64.wrap ((p0.Rows_.length : Int) - 1))


noncomputable def spec_WindowOnes_L1 (y15 : List Timpl_Bucket) : Nat → Int → Int → Option (Int)
  | 0, _, _ => none
  | k1 + 1, i28, i29 =>
    if decide (i29 < (y15.length : Int)) then (idx y15 i29).bind fun e35 => (spec_WindowOnes_L1 y15 k1) (IntKind.i64.wrap (i28 + e35.Ones_)) (IntKind.i64.wrap (i29 + 1)) else some i28

theorem spec_WindowOnes_L1_ind (y15 : List Timpl_Bucket) {P : Int → Int → Option (Int) → Prop} (μ : Int → Int → Nat) (h : ∀ (i28 : Int) (i29 : Int) (R : Int → Int → Option (Int)), (∀ i28' i29', μ i28' i29' < μ i28 i29 → P i28' i29' (R i28' i29')) → P i28 i29 (if decide (i29 < (y15.length : Int)) then (idx y15 i29).bind fun e35 => (R) (IntKind.i64.wrap (i28 + e35.Ones_)) (IntKind.i64.wrap (i29 + 1)) else some i28)) : ∀ k i28 i29, μ i28 i29 < k → P i28 i29 (spec_WindowOnes_L1 y15 k i28 i29) := by
  intro k
  induction k with
  | zero => intro i28 i29 hk; exact absurd hk (Nat.not_lt_zero _)
  | succ k ih => intro i28 i29 hk; unfold spec_WindowOnes_L1; exact h i28 i29 (spec_WindowOnes_L1 y15 k) (fun i28' i29' hs => ih i28' i29' (Nat.lt_of_lt_of_le hs (Nat.le_of_lt_succ hk)))

noncomputable def spec_WindowOnes (p0 : Timpl_Window) : Option (Int) :=
  (spec_Buckets p0).bind fun y15 => spec_WindowOnes_L1 y15 Fuel 0 0


noncomputable def spec_WindowTotal_L1 (y15 : List Timpl_Bucket) : Nat → Int → Int → Option (Int)
  | 0, _, _ => none
  | k1 + 1, i28, i29 =>
    if decide (i29 < (y15.length : Int)) then (idx y15 i29).bind fun e35 => (spec_WindowTotal_L1 y15 k1) (IntKind.i64.wrap (i28 + e35.Size_)) (IntKind.i64.wrap (i29 + 1)) else some i28

theorem spec_WindowTotal_L1_ind (y15 : List Timpl_Bucket) {P : Int → Int → Option (Int) → Prop} (μ : Int → Int → Nat) (h : ∀ (i28 : Int) (i29 : Int) (R : Int → Int → Option (Int)), (∀ i28' i29', μ i28' i29' < μ i28 i29 → P i28' i29' (R i28' i29')) → P i28 i29 (if decide (i29 < (y15.length : Int)) then (idx y15 i29).bind fun e35 => (R) (IntKind.i64.wrap (i28 + e35.Size_)) (IntKind.i64.wrap (i29 + 1)) else some i28)) : ∀ k i28 i29, μ i28 i29 < k → P i28 i29 (spec_WindowTotal_L1 y15 k i28 i29) := by
  intro k
  induction k with
  | zero => intro i28 i29 hk; exact absurd hk (Nat.not_lt_zero _)
  | succ k ih => intro i28 i29 hk; unfold spec_WindowTotal_L1; exact h i28 i29 (spec_WindowTotal_L1 y15 k) (fun i28' i29' hs => ih i28' i29' (Nat.lt_of_lt_of_le hs (Nat.le_of_lt_succ hk)))

noncomputable def spec_WindowTotal (p0 : Timpl_Window) : Option (Int) :=
  (spec_Buckets p0).bind fun y15 => spec_WindowTotal_L1 y15 Fuel 0 0


noncomputable def spec_WindowText_L1 (y29 : List Timpl_Bucket) : Nat → (List UInt8) → Int → Option (List UInt8)
  | 0, _, _ => none
  | k1 + 1, s56, i57 =>
    if decide (i57 < (y29.length : Int)) then (sadd s56 ([32] : List UInt8)).bind fun s76 => (idx y29 i57).bind fun e78 => (spec_Digits e78.Ones_).bind fun y80 => (sadd s76 y80).bind fun s82 => (sadd s82 ([47] : List UInt8)).bind fun s84 => (idx y29 i57).bind fun e86 => (spec_Digits e86.Size_).bind fun y88 => (sadd s84 y88).bind fun s90 => (spec_WindowText_L1 y29 k1) s90 (IntKind.i64.wrap (i57 + 1)) else some s56

theorem spec_WindowText_L1_ind (y29 : List Timpl_Bucket) {P : (List UInt8) → Int → Option (List UInt8) → Prop} (μ : (List UInt8) → Int → Nat) (h : ∀ (s56 : List UInt8) (i57 : Int) (R : (List UInt8) → Int → Option (List UInt8)), (∀ s56' i57', μ s56' i57' < μ s56 i57 → P s56' i57' (R s56' i57')) → P s56 i57 (if decide (i57 < (y29.length : Int)) then (sadd s56 ([32] : List UInt8)).bind fun s76 => (idx y29 i57).bind fun e78 => (spec_Digits e78.Ones_).bind fun y80 => (sadd s76 y80).bind fun s82 => (sadd s82 ([47] : List UInt8)).bind fun s84 => (idx y29 i57).bind fun e86 => (spec_Digits e86.Size_).bind fun y88 => (sadd s84 y88).bind fun s90 => (R) s90 (IntKind.i64.wrap (i57 + 1)) else some s56)) : ∀ k s56 i57, μ s56 i57 < k → P s56 i57 (spec_WindowText_L1 y29 k s56 i57) := by
  intro k
  induction k with
  | zero => intro s56 i57 hk; exact absurd hk (Nat.not_lt_zero _)
  | succ k ih => intro s56 i57 hk; unfold spec_WindowText_L1; exact h s56 i57 (spec_WindowText_L1 y29 k) (fun s56' i57' hs => ih s56' i57' (Nat.lt_of_lt_of_le hs (Nat.le_of_lt_succ hk)))

noncomputable def spec_WindowText (p0 : Timpl_Window) : Option (List UInt8) :=
  (spec_WindowOk p0).bind fun y15 => if (!y15) then some ([] : List UInt8) else (spec_WindowOnes p0).bind fun y17 => (spec_Digits y17).bind fun y19 => (sadd y19 ([47] : List UInt8)).bind fun s21 => (spec_WindowTotal p0).bind fun y23 => (spec_Digits y23).bind fun y25 => (sadd s21 y25).bind fun s27 => (spec_Buckets p0).bind fun y29 => spec_WindowText_L1 y29 Fuel s27 0


noncomputable def impl_WindowOk_1 (p0 : Int) (p1 : Int) : Option (Bool) :=
  (shl .i64 1 p1).bind fun x10 => (impl_within p0 0 x10).bind fun y12 => some (!y12)


noncomputable def lib_slices_IndexFunc___int_int___impl_WindowOk_1_L1 (p0 : List Int) (p1_0 : Int) : Nat → Int → Option (Int)
  | 0, _ => none
  | k1 + 1, i15 =>
    if decide (i15 < (p0.length : Int)) then (idx p0 i15).bind fun e21 => (impl_WindowOk_1 e21 p1_0).bind fun y23 => if y23 then some i15 else (lib_slices_IndexFunc___int_int___impl_WindowOk_1_L1 p0 p1_0 k1) (IntKind.i64.wrap (i15 + 1)) else some (-1)

theorem lib_slices_IndexFunc___int_int___impl_WindowOk_1_L1_ind (p0 : List Int) (p1_0 : Int) {P : Int → Option (Int) → Prop} (μ : Int → Nat) (h : ∀ (i15 : Int) (R : Int → Option (Int)), (∀ i15', μ i15' < μ i15 → P i15' (R i15')) → P i15 (if decide (i15 < (p0.length : Int)) then (idx p0 i15).bind fun e21 => (impl_WindowOk_1 e21 p1_0).bind fun y23 => if y23 then some i15 else (R) (IntKind.i64.wrap (i15 + 1)) else some (-1))) : ∀ k i15, μ i15 < k → P i15 (lib_slices_IndexFunc___int_int___impl_WindowOk_1_L1 p0 p1_0 k i15) := by
  intro k
  induction k with
  | zero => intro i15 hk; exact absurd hk (Nat.not_lt_zero _)
  | succ k ih => intro i15 hk; unfold lib_slices_IndexFunc___int_int___impl_WindowOk_1_L1; exact h i15 (lib_slices_IndexFunc___int_int___impl_WindowOk_1_L1 p0 p1_0 k) (fun i15' hs => ih i15' (Nat.lt_of_lt_of_le hs (Nat.le_of_lt_succ hk)))

noncomputable def lib_slices_IndexFunc___int_int___impl_WindowOk_1 (p0 : List Int) (p1_0 : Int) : Option (Int) :=
  lib_slices_IndexFunc___int_int___impl_WindowOk_1_L1 p0 p1_0 Fuel 0


noncomputable def lib_slices_ContainsFunc___int_int___impl_WindowOk_1 (p0 : List Int) (p1_0 : Int) : Option (Bool) :=
  (lib_slices_IndexFunc___int_int___impl_WindowOk_1 p0 p1_0).bind fun y10 => some (decide (y10 ≥ 0))


noncomputable def impl_WindowOk_L1 (p0 : Timpl_Window) : Nat → Int → Option (Bool)
  | 0, _ => none
  | k1 + 1, i33 =>
    if decide (i33 < (p0.Rows_.length : Int)) then (idx p0.Rows_ i33).bind fun e51 => (impl_within (e51.length : Int) 1 3).bind fun y60 => (if (!y60) then some true else (lib_slices_ContainsFunc___int_int___impl_WindowOk_1 e51 i33).bind fun y63 => some y63).bind fun u62 => if u62 then some false else (impl_WindowOk_L1 p0 k1) (IntKind.i64.wrap (i33 + 1)) else some true

theorem impl_WindowOk_L1_ind (p0 : Timpl_Window) {P : Int → Option (Bool) → Prop} (μ : Int → Nat) (h : ∀ (i33 : Int) (R : Int → Option (Bool)), (∀ i33', μ i33' < μ i33 → P i33' (R i33')) → P i33 (if decide (i33 < (p0.Rows_.length : Int)) then (idx p0.Rows_ i33).bind fun e51 => (impl_within (e51.length : Int) 1 3).bind fun y60 => (if (!y60) then some true else (lib_slices_ContainsFunc___int_int___impl_WindowOk_1 e51 i33).bind fun y63 => some y63).bind fun u62 => if u62 then some false else (R) (IntKind.i64.wrap (i33 + 1)) else some true)) : ∀ k i33, μ i33 < k → P i33 (impl_WindowOk_L1 p0 k i33) := by
  intro k
  induction k with
  | zero => intro i33 hk; exact absurd hk (Nat.not_lt_zero _)
  | succ k ih => intro i33 hk; unfold impl_WindowOk_L1; exact h i33 (impl_WindowOk_L1 p0 k) (fun i33' hs => ih i33' (Nat.lt_of_lt_of_le hs (Nat.le_of_lt_succ hk)))

noncomputable def impl_WindowOk (p0 : Timpl_Window) : Option (Bool) :=
  if decide ((p0.Rows_.length : Int) > 8) then some false else impl_WindowOk_L1 p0 Fuel 0


noncomputable def impl_Buckets_L2 (e154 : List Int) (i88 : Int) (R1 : (List Timpl_Bucket) → Int → Option (List Timpl_Bucket)) : Nat → Int → (List Timpl_Bucket) → Option (List Timpl_Bucket)
  | 0, _, _ => none
  | k2 + 1, i179, l180 =>
    if decide (i179 < (e154.length : Int)) then (idx e154 i179).bind fun e202 => (shl .i64 1 i88).bind fun x204 => (app l180 ([(Timpl_Bucket.mk x204 e202)] : List Timpl_Bucket)).bind fun l207 => (impl_Buckets_L2 e154 i88 R1 k2) (IntKind.i64.wrap (i179 + 1)) l207 else R1 l180 (IntKind.i64.wrap (i88 - 1))

theorem impl_Buckets_L2_ind (e154 : List Int) (i88 : Int) (R1 : (List Timpl_Bucket) → Int → Option (List Timpl_Bucket)) {P : Int → (List Timpl_Bucket) → Option (List Timpl_Bucket) → Prop} (μ : Int → (List Timpl_Bucket) → Nat) (h : ∀ (i179 : Int) (l180 : List Timpl_Bucket) (R : Int → (List Timpl_Bucket) → Option (List Timpl_Bucket)), (∀ i179' l180', μ i179' l180' < μ i179 l180 → P i179' l180' (R i179' l180')) → P i179 l180 (if decide (i179 < (e154.length : Int)) then (idx e154 i179).bind fun e202 => (shl .i64 1 i88).bind fun x204 => (app l180 ([(Timpl_Bucket.mk x204 e202)] : List Timpl_Bucket)).bind fun l207 => (R) (IntKind.i64.wrap (i179 + 1)) l207 else R1 l180 (IntKind.i64.wrap (i88 - 1)))) : ∀ k i179 l180, μ i179 l180 < k → P i179 l180 (impl_Buckets_L2 e154 i88 R1 k i179 l180) := by
  intro k
  induction k with
  | zero => intro i179 l180 hk; exact absurd hk (Nat.not_lt_zero _)
  | succ k ih => intro i179 l180 hk; unfold impl_Buckets_L2; exact h i179 l180 (impl_Buckets_L2 e154 i88 R1 k) (fun i179' l180' hs => ih i179' l180' (Nat.lt_of_lt_of_le hs (Nat.le_of_lt_succ hk)))

noncomputable def impl_Buckets_L1 (p0 : Timpl_Window) : Nat → (List Timpl_Bucket) → Int → Option (List Timpl_Bucket)
  | 0, _, _ => none
  | k1 + 1, l83, i88 =>
    if decide (i88 ≥ 0) then (idx p0.Rows_ i88).bind fun e154 => impl_Buckets_L2 e154 i88 (impl_Buckets_L1 p0 k1) Fuel 0 l83 else some l83

theorem impl_Buckets_L1_ind (p0 : Timpl_Window) {P : (List Timpl_Bucket) → Int → Option (List Timpl_Bucket) → Prop} (μ : (List Timpl_Bucket) → Int → Nat) (h : ∀ (l83 : List Timpl_Bucket) (i88 : Int) (R : (List Timpl_Bucket) → Int → Option (List Timpl_Bucket)), (∀ l83' i88', μ l83' i88' < μ l83 i88 → P l83' i88' (R l83' i88')) → P l83 i88 (if decide (i88 ≥ 0) then (idx p0.Rows_ i88).bind fun e154 => impl_Buckets_L2 e154 i88 (R) Fuel 0 l83 else some l83)) : ∀ k l83 i88, μ l83 i88 < k → P l83 i88 (impl_Buckets_L1 p0 k l83 i88) := by
  intro k
  induction k with
  | zero => intro l83 i88 hk; exact absurd hk (Nat.not_lt_zero _)
  | succ k ih => intro l83 i88 hk; unfold impl_Buckets_L1; exact h l83 i88 (impl_Buckets_L1 p0 k) (fun l83' i88' hs => ih l83' i88' (Nat.lt_of_lt_of_le hs (Nat.le_of_lt_succ hk)))

noncomputable def impl_Buckets (p0 : Timpl_Window) : Option (List Timpl_Bucket) :=
  (impl_WindowOk p0).bind fun y15 => if (!y15) then some ([] : List Timpl_Bucket) else impl_Buckets_L1 p0 Fuel ([] : List Timpl_Bucket) (IntKind.i64.wrap ((p0.Rows_.length : Int) - 1))


noncomputable def impl_WindowOnes_L1 (y15 : List Timpl_Bucket) : Nat → Int → Int → Option (Int)
  | 0, _, _ => none
  | k1 + 1, i29, i30 =>
    if decide (i30 < (y15.length : Int)) then (idx y15 i30).bind fun e36 => (impl_WindowOnes_L1 y15 k1) (IntKind.i64.wrap (i29 + e36.Ones_)) (IntKind.i64.wrap (i30 + 1)) else some i29

theorem impl_WindowOnes_L1_ind (y15 : List Timpl_Bucket) {P : Int → Int → Option (Int) → Prop} (μ : Int → Int → Nat) (h : ∀ (i29 : Int) (i30 : Int) (R : Int → Int → Option (Int)), (∀ i29' i30', μ i29' i30' < μ i29 i30 → P i29' i30' (R i29' i30')) → P i29 i30 (if decide (i30 < (y15.length : Int)) then (idx y15 i30).bind fun e36 => (R) (IntKind.i64.wrap (i29 + e36.Ones_)) (IntKind.i64.wrap (i30 + 1)) else some i29)) : ∀ k i29 i30, μ i29 i30 < k → P i29 i30 (impl_WindowOnes_L1 y15 k i29 i30) := by
  intro k
  induction k with
  | zero => intro i29 i30 hk; exact absurd hk (Nat.not_lt_zero _)
  | succ k ih => intro i29 i30 hk; unfold impl_WindowOnes_L1; exact h i29 i30 (impl_WindowOnes_L1 y15 k) (fun i29' i30' hs => ih i29' i30' (Nat.lt_of_lt_of_le hs (Nat.le_of_lt_succ hk)))

noncomputable def impl_WindowOnes (p0 : Timpl_Window) : Option (Int) :=
  (impl_Buckets p0).bind fun y15 => impl_WindowOnes_L1 y15 Fuel 0 0


noncomputable def impl_WindowTotal_L1 (y15 : List Timpl_Bucket) : Nat → Int → Int → Option (Int)
  | 0, _, _ => none
  | k1 + 1, i29, i30 =>
    if decide (i30 < (y15.length : Int)) then (idx y15 i30).bind fun e36 => (impl_WindowTotal_L1 y15 k1) (IntKind.i64.wrap (i29 + e36.Size_)) (IntKind.i64.wrap (i30 + 1)) else some i29

theorem impl_WindowTotal_L1_ind (y15 : List Timpl_Bucket) {P : Int → Int → Option (Int) → Prop} (μ : Int → Int → Nat) (h : ∀ (i29 : Int) (i30 : Int) (R : Int → Int → Option (Int)), (∀ i29' i30', μ i29' i30' < μ i29 i30 → P i29' i30' (R i29' i30')) → P i29 i30 (if decide (i30 < (y15.length : Int)) then (idx y15 i30).bind fun e36 => (R) (IntKind.i64.wrap (i29 + e36.Size_)) (IntKind.i64.wrap (i30 + 1)) else some i29)) : ∀ k i29 i30, μ i29 i30 < k → P i29 i30 (impl_WindowTotal_L1 y15 k i29 i30) := by
  intro k
  induction k with
  | zero => intro i29 i30 hk; exact absurd hk (Nat.not_lt_zero _)
  | succ k ih => intro i29 i30 hk; unfold impl_WindowTotal_L1; exact h i29 i30 (impl_WindowTotal_L1 y15 k) (fun i29' i30' hs => ih i29' i30' (Nat.lt_of_lt_of_le hs (Nat.le_of_lt_succ hk)))

noncomputable def impl_WindowTotal (p0 : Timpl_Window) : Option (Int) :=
  (impl_Buckets p0).bind fun y15 => impl_WindowTotal_L1 y15 Fuel 0 0


noncomputable def impl_WindowText_L1 (y29 : List Timpl_Bucket) : Nat → Int → (List UInt8) → Option (List UInt8)
  | 0, _, _ => none
  | k1 + 1, i55, s56 =>
    if decide (i55 < (y29.length : Int)) then (idx y29 i55).bind fun e74 => (impl_Digits e74.Ones_).bind fun y77 => (sadd ([32] : List UInt8) y77).bind fun s79 => (sadd s79 ([47] : List UInt8)).bind fun s81 => (impl_Digits e74.Size_).bind fun y83 => (sadd s81 y83).bind fun s85 => (sadd s56 s85).bind fun s87 => (impl_WindowText_L1 y29 k1) (IntKind.i64.wrap (i55 + 1)) s87 else some s56

theorem impl_WindowText_L1_ind (y29 : List Timpl_Bucket) {P : Int → (List UInt8) → Option (List UInt8) → Prop} (μ : Int → (List UInt8) → Nat) (h : ∀ (i55 : Int) (s56 : List UInt8) (R : Int → (List UInt8) → Option (List UInt8)), (∀ i55' s56', μ i55' s56' < μ i55 s56 → P i55' s56' (R i55' s56')) → P i55 s56 (if decide (i55 < (y29.length : Int)) then (idx y29 i55).bind fun e74 => (impl_Digits e74.Ones_).bind fun y77 => (sadd ([32] : List UInt8) y77).bind fun s79 => (sadd s79 ([47] : List UInt8)).bind fun s81 => (impl_Digits e74.Size_).bind fun y83 => (sadd s81 y83).bind fun s85 => (sadd s56 s85).bind fun s87 => (R) (IntKind.i64.wrap (i55 + 1)) s87 else some s56)) : ∀ k i55 s56, μ i55 s56 < k → P i55 s56 (impl_WindowText_L1 y29 k i55 s56) := by
  intro k
  induction k with
  | zero => intro i55 s56 hk; exact absurd hk (Nat.not_lt_zero _)
  | succ k ih => intro i55 s56 hk; unfold impl_WindowText_L1; exact h i55 s56 (impl_WindowText_L1 y29 k) (fun i55' s56' hs => ih i55' s56' (Nat.lt_of_lt_of_le hs (Nat.le_of_lt_succ hk)))

noncomputable def impl_WindowText (p0 : Timpl_Window) : Option (List UInt8) :=
  (impl_WindowOk p0).bind fun y15 => if (!y15) then some ([] : List UInt8) else (impl_WindowOnes p0).bind fun y17 => (impl_Digits y17).bind fun y19 => (sadd y19 ([47] : List UInt8)).bind fun s21 => (impl_WindowTotal p0).bind fun y23 => (impl_Digits y23).bind fun y25 => (sadd s21 y25).bind fun s27 => (impl_Buckets p0).bind fun y29 => impl_WindowText_L1 y29 Fuel 0 s27


noncomputable def laws_eqWindow (p0 : Timpl_Window) (p1 : Timpl_Window) : Option (Bool) :=
  (laws_eqIntSS p0.Rows_ p1.Rows_).bind fun y20 => if (!y20) then some false else some true


noncomputable def laws_FnExactWindowText (p0 : Tlaws_Window) : Option (Bool) :=
  (laws_szWindow p0 1048576).bind fun y15 => if decide (y15 < 0) then some true else (laws_toWindow p0).bind fun y17 => (spec_WindowText y17).bind fun y26 => (laws_toWindow p0).bind fun y28 => (impl_WindowText y28).bind fun y38 => if (!(y38 == y26)) then some false else (laws_toWindow p0).bind fun y49 => (laws_eqWindow y28 y49).bind fun y58 => if (!y58) then some false else some true


end Go.Vk
