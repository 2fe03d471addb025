/- The functions of the code, as functions of data. Printed by program. -/

import Derived.Test.YtejneofoabmojaaVkDu

namespace Go.Vk



structure Tlaws_Attr where
  Name_ : List UInt8
  Cuts_ : List Int
  Values_ : List (List UInt8)
  deriving DecidableEq, Inhabited

structure Tlaws_Schema where
  Attrs_ : List Tlaws_Attr
  Classes_ : List (List UInt8)
  deriving DecidableEq, Inhabited

structure Tlaws_Way where
  Leaf_ : Int
  Masks_ : List Int
  deriving DecidableEq, Inhabited

structure Timpl_Attr where
  Name_ : List UInt8
  Cuts_ : List Int
  Values_ : List (List UInt8)
  deriving DecidableEq, Inhabited

structure Timpl_Schema where
  Attrs_ : List Timpl_Attr
  Classes_ : List (List UInt8)
  deriving DecidableEq, Inhabited

structure Timpl_Way where
  Leaf_ : Int
  Masks_ : List Int
  deriving DecidableEq, Inhabited

structure Tlaws_Ex where
  Bins_ : List Int
  Class_ : Int
  deriving DecidableEq, Inhabited

structure Tlaws_Entry where
  Ex_ : Tlaws_Ex
  Weight_ : Int
  deriving DecidableEq, Inhabited

structure Tlaws_Past where
  Tree_ : List Tlaws_Entry
  Young_ : List Tlaws_Entry
  Bits_ : List Int
  deriving DecidableEq, Inhabited

structure Tlaws_Step where
  Said_ : Int
  Bit_ : Int
  Weight_ : Int
  Grow_ : Int
  Young_ : Int
  Det_ : Int
  Began_ : Bool
  Swapped_ : Bool
  deriving DecidableEq, Inhabited

structure Timpl_Ex where
  Bins_ : List Int
  Class_ : Int
  deriving DecidableEq, Inhabited

structure Timpl_Entry where
  Ex_ : Timpl_Ex
  Weight_ : Int
  deriving DecidableEq, Inhabited

structure Timpl_Past where
  Tree_ : List Timpl_Entry
  Young_ : List Timpl_Entry
  Bits_ : List Int
  deriving DecidableEq, Inhabited

structure Timpl_Step where
  Said_ : Int
  Bit_ : Int
  Weight_ : Int
  Grow_ : Int
  Young_ : Int
  Det_ : Int
  Began_ : Bool
  Swapped_ : Bool
  deriving DecidableEq, Inhabited

structure Tlaws_Reply where
  Code_ : Int
  At_ : Int
  Says_ : Int
  Votes_ : List Int
  Bytes_ : List Int
  Steps_ : List Tlaws_Step
  deriving DecidableEq, Inhabited

structure Timpl_Reply where
  Code_ : Int
  At_ : Int
  Says_ : Int
  Votes_ : List Int
  Bytes_ : List Int
  Steps_ : List Timpl_Step
  deriving DecidableEq, Inhabited

noncomputable def laws_szIntS (p0 : List Int) (p1 : Int) : Option (Int) :=
  if decide ((IntKind.i64.wrap (p1 - (p0.length : Int))) < 0) then some (-1) else some (IntKind.i64.wrap (p1 - (p0.length : Int)))


noncomputable def laws_szStringS_L1 (p0 : List (List UInt8)) : Nat → Int → Int → Option (Int)
  | 0, _, _ => none
  | k1 + 1, i5, i6 =>
    if decide (i6 < (p0.length : Int)) then (idx p0 i6).bind fun e11 => if decide ((IntKind.i64.wrap (i5 - (e11.length : Int))) < 0) then some (-1) else (laws_szStringS_L1 p0 k1) (IntKind.i64.wrap (i5 - (e11.length : Int))) (IntKind.i64.wrap (i6 + 1)) else some i5

theorem laws_szStringS_L1_ind (p0 : List (List UInt8)) {P : Int → Int → Option (Int) → Prop} (μ : Int → Int → Nat) (h : ∀ (i5 : Int) (i6 : Int) (R : Int → Int → Option (Int)), (∀ i5' i6', μ i5' i6' < μ i5 i6 → P i5' i6' (R i5' i6')) → P i5 i6 (if decide (i6 < (p0.length : Int)) then (idx p0 i6).bind fun e11 => if decide ((IntKind.i64.wrap (i5 - (e11.length : Int))) < 0) then some (-1) else (R) (IntKind.i64.wrap (i5 - (e11.length : Int))) (IntKind.i64.wrap (i6 + 1)) else some i5)) : ∀ k i5 i6, μ i5 i6 < k → P i5 i6 (laws_szStringS_L1 p0 k i5 i6) := by
  intro k
  induction k with
  | zero => intro i5 i6 hk; exact absurd hk (Nat.not_lt_zero _)
  | succ k ih => intro i5 i6 hk; unfold laws_szStringS_L1; exact h i5 i6 (laws_szStringS_L1 p0 k) (fun i5' i6' hs => ih i5' i6' (Nat.lt_of_lt_of_le hs (Nat.le_of_lt_succ hk)))

noncomputable def laws_szStringS (p0 : List (List UInt8)) (p1 : Int) : Option (Int) :=
  if decide ((IntKind.i64.wrap (p1 - (p0.length : Int))) < 0) then some (-1) else laws_szStringS_L1 p0 Fuel (IntKind.i64.wrap (p1 - (p0.length : Int))) 0


noncomputable def laws_szAttr (p0 : Tlaws_Attr) (p1 : Int) : Option (Int) :=
  if decide ((IntKind.i64.wrap (p1 - (p0.Name_.length : Int))) < 0) then some (-1) else (laws_szIntS p0.Cuts_ (IntKind.i64.wrap (p1 - (p0.Name_.length : Int)))).bind fun y12 => if decide (y12 < 0) then some (-1) else (laws_szStringS p0.Values_ y12).bind fun y14 => if decide (y14 < 0) then some (-1) else some y14


noncomputable def laws_szAttrS_L1 (p0 : List Tlaws_Attr) : Nat → Int → Int → Option (Int)
  | 0, _, _ => none
  | k1 + 1, i21, i22 =>
    if decide (i22 < (p0.length : Int)) then (idx p0 i22).bind fun e43 => (laws_szAttr e43 i21).bind fun y59 => if decide (y59 < 0) then some (-1) else (laws_szAttrS_L1 p0 k1) y59 (IntKind.i64.wrap (i22 + 1)) else some i21

theorem laws_szAttrS_L1_ind (p0 : List Tlaws_Attr) {P : Int → Int → Option (Int) → Prop} (μ : Int → Int → Nat) (h : ∀ (i21 : Int) (i22 : Int) (R : Int → Int → Option (Int)), (∀ i21' i22', μ i21' i22' < μ i21 i22 → P i21' i22' (R i21' i22')) → P i21 i22 (if decide (i22 < (p0.length : Int)) then (idx p0 i22).bind fun e43 => (laws_szAttr e43 i21).bind fun y59 => if decide (y59 < 0) then some (-1) else (R) y59 (IntKind.i64.wrap (i22 + 1)) else some i21)) : ∀ k i21 i22, μ i21 i22 < k → P i21 i22 (laws_szAttrS_L1 p0 k i21 i22) := by
  intro k
  induction k with
  | zero => intro i21 i22 hk; exact absurd hk (Nat.not_lt_zero _)
  | succ k ih => intro i21 i22 hk; unfold laws_szAttrS_L1; exact h i21 i22 (laws_szAttrS_L1 p0 k) (fun i21' i22' hs => ih i21' i22' (Nat.lt_of_lt_of_le hs (Nat.le_of_lt_succ hk)))

noncomputable def laws_szAttrS (p0 : List Tlaws_Attr) (p1 : Int) : Option (Int) :=
  if decide ((IntKind.i64.wrap (p1 - (p0.length : Int))) < 0) then some (-1) else laws_szAttrS_L1 p0 Fuel (IntKind.i64.wrap (p1 - (p0.length : Int))) 0


noncomputable def laws_szSchema (p0 : Tlaws_Schema) (p1 : Int) : Option (Int) :=
  (laws_szAttrS p0.Attrs_ p1).bind fun y10 => if decide (y10 < 0) then some (-1) else (laws_szStringS p0.Classes_ y10).bind fun y12 => if decide (y12 < 0) then some (-1) else some y12


noncomputable def laws_szWay (p0 : Tlaws_Way) (p1 : Int) : Option (Int) :=
  (laws_szIntS p0.Masks_ p1).bind fun y8 => if decide (y8 < 0) then some (-1) else some y8


noncomputable def laws_toIntS_L1 (p0 : List Int) : Nat → (List Int) → Int → Option (List Int)
  | 0, _, _ => none
  | k1 + 1, l10, i11 =>
    if decide (i11 < (p0.length : Int)) then (idx p0 i11).bind fun e18 => (idx l10 i11).bind fun _ => (laws_toIntS_L1 p0 k1) (l10.set i11.toNat e18) (IntKind.i64.wrap (i11 + 1)) else some l10

theorem laws_toIntS_L1_ind (p0 : List Int) {P : (List Int) → Int → Option (List Int) → Prop} (μ : (List Int) → Int → Nat) (h : ∀ (l10 : List Int) (i11 : Int) (R : (List Int) → Int → Option (List Int)), (∀ l10' i11', μ l10' i11' < μ l10 i11 → P l10' i11' (R l10' i11')) → P l10 i11 (if decide (i11 < (p0.length : Int)) then (idx p0 i11).bind fun e18 => (idx l10 i11).bind fun _ => (R) (l10.set i11.toNat e18) (IntKind.i64.wrap (i11 + 1)) else some l10)) : ∀ k l10 i11, μ l10 i11 < k → P l10 i11 (laws_toIntS_L1 p0 k l10 i11) := by
  intro k
  induction k with
  | zero => intro l10 i11 hk; exact absurd hk (Nat.not_lt_zero _)
  | succ k ih => intro l10 i11 hk; unfold laws_toIntS_L1; exact h l10 i11 (laws_toIntS_L1 p0 k) (fun l10' i11' hs => ih l10' i11' (Nat.lt_of_lt_of_le hs (Nat.le_of_lt_succ hk)))

noncomputable def laws_toIntS (p0 : List Int) : Option (List Int) :=
  (mk (0 : Int) (p0.length : Int)).bind fun l1 => laws_toIntS_L1 p0 Fuel l1 0


noncomputable def laws_toStringS_L1 (p0 : List (List UInt8)) : Nat → (List (List UInt8)) → Int → Option (List (List UInt8))
  | 0, _, _ => none
  | k1 + 1, l10, i11 =>
    if decide (i11 < (p0.length : Int)) then (idx p0 i11).bind fun e18 => (idx l10 i11).bind fun _ => (laws_toStringS_L1 p0 k1) (l10.set i11.toNat e18) (IntKind.i64.wrap (i11 + 1)) else some l10

theorem laws_toStringS_L1_ind (p0 : List (List UInt8)) {P : (List (List UInt8)) → Int → Option (List (List UInt8)) → Prop} (μ : (List (List UInt8)) → Int → Nat) (h : ∀ (l10 : List (List UInt8)) (i11 : Int) (R : (List (List UInt8)) → Int → Option (List (List UInt8))), (∀ l10' i11', μ l10' i11' < μ l10 i11 → P l10' i11' (R l10' i11')) → P l10 i11 (if decide (i11 < (p0.length : Int)) then (idx p0 i11).bind fun e18 => (idx l10 i11).bind fun _ => (R) (l10.set i11.toNat e18) (IntKind.i64.wrap (i11 + 1)) else some l10)) : ∀ k l10 i11, μ l10 i11 < k → P l10 i11 (laws_toStringS_L1 p0 k l10 i11) := by
  intro k
  induction k with
  | zero => intro l10 i11 hk; exact absurd hk (Nat.not_lt_zero _)
  | succ k ih => intro l10 i11 hk; unfold laws_toStringS_L1; exact h l10 i11 (laws_toStringS_L1 p0 k) (fun l10' i11' hs => ih l10' i11' (Nat.lt_of_lt_of_le hs (Nat.le_of_lt_succ hk)))

noncomputable def laws_toStringS (p0 : List (List UInt8)) : Option (List (List UInt8)) :=
  (mk ([] : List UInt8) (p0.length : Int)).bind fun l1 => laws_toStringS_L1 p0 Fuel l1 0


noncomputable def laws_toAttr (p0 : Tlaws_Attr) : Option (Timpl_Attr) :=
  (laws_toIntS p0.Cuts_).bind fun y14 => (laws_toStringS p0.Values_).bind fun y23 => some (Timpl_Attr.mk p0.Name_ y14 y23)


noncomputable def laws_toAttrS_L1 (p0 : List Tlaws_Attr) : Nat → (List Timpl_Attr) → Int → Option (List Timpl_Attr)
  | 0, _, _ => none
  | k1 + 1, l54, i56 =>
    if decide (i56 < (p0.length : Int)) then (idx p0 i56).bind fun e107 => (laws_toAttr e107).bind fun y123 => (idx l54 i56).bind fun _ => (laws_toAttrS_L1 p0 k1) (l54.set i56.toNat y123) (IntKind.i64.wrap (i56 + 1)) else some l54

theorem laws_toAttrS_L1_ind (p0 : List Tlaws_Attr) {P : (List Timpl_Attr) → Int → Option (List Timpl_Attr) → Prop} (μ : (List Timpl_Attr) → Int → Nat) (h : ∀ (l54 : List Timpl_Attr) (i56 : Int) (R : (List Timpl_Attr) → Int → Option (List Timpl_Attr)), (∀ l54' i56', μ l54' i56' < μ l54 i56 → P l54' i56' (R l54' i56')) → P l54 i56 (if decide (i56 < (p0.length : Int)) then (idx p0 i56).bind fun e107 => (laws_toAttr e107).bind fun y123 => (idx l54 i56).bind fun _ => (R) (l54.set i56.toNat y123) (IntKind.i64.wrap (i56 + 1)) else some l54)) : ∀ k l54 i56, μ l54 i56 < k → P l54 i56 (laws_toAttrS_L1 p0 k l54 i56) := by
  intro k
  induction k with
  | zero => intro l54 i56 hk; exact absurd hk (Nat.not_lt_zero _)
  | succ k ih => intro l54 i56 hk; unfold laws_toAttrS_L1; exact h l54 i56 (laws_toAttrS_L1 p0 k) (fun l54' i56' hs => ih l54' i56' (Nat.lt_of_lt_of_le hs (Nat.le_of_lt_succ hk)))

noncomputable def laws_toAttrS (p0 : List Tlaws_Attr) : Option (List Timpl_Attr) :=
  (mk ((Timpl_Attr.mk [] [] []) : Timpl_Attr) (p0.length : Int)).bind fun l1 => laws_toAttrS_L1 p0 Fuel l1 0


noncomputable def laws_toSchema (p0 : Tlaws_Schema) : Option (Timpl_Schema) :=
  (laws_toAttrS p0.Attrs_).bind fun y12 => (laws_toStringS p0.Classes_).bind fun y21 => some (Timpl_Schema.mk y12 y21)


noncomputable def laws_toWay (p0 : Tlaws_Way) : Option (Timpl_Way) :=
  (laws_toIntS p0.Masks_).bind fun y10 => some (Timpl_Way.mk p0.Leaf_ y10)


noncomputable def spec_l1In (p0 : Int) (p1 : Int) (p2 : Int) : Option (Bool) :=
  some ((decide (p0 ≥ p1)) && (decide (p0 ≤ p2)))


noncomputable def spec_WordOk_L1 (p0 : List UInt8) : Nat → Int → Option (Bool)
  | 0, _ => none
  | k1 + 1, i11 =>
    if decide (i11 < (p0.length : Int)) then (idx p0 i11).bind fun b20 => (if decide ((b20.toNat : Int) < 97) then some true else (idx p0 i11).bind fun b23 => some (decide ((b23.toNat : Int) > 122))).bind fun u22 => if u22 then some false else (spec_WordOk_L1 p0 k1) (IntKind.i64.wrap (i11 + 1)) else some true

theorem spec_WordOk_L1_ind (p0 : List UInt8) {P : Int → Option (Bool) → Prop} (μ : Int → Nat) (h : ∀ (i11 : Int) (R : Int → Option (Bool)), (∀ i11', μ i11' < μ i11 → P i11' (R i11')) → P i11 (if decide (i11 < (p0.length : Int)) then (idx p0 i11).bind fun b20 => (if decide ((b20.toNat : Int) < 97) then some true else (idx p0 i11).bind fun b23 => some (decide ((b23.toNat : Int) > 122))).bind fun u22 => if u22 then some false else (R) (IntKind.i64.wrap (i11 + 1)) else some true)) : ∀ k i11, μ i11 < k → P i11 (spec_WordOk_L1 p0 k i11) := by
  intro k
  induction k with
  | zero => intro i11 hk; exact absurd hk (Nat.not_lt_zero _)
  | succ k ih => intro i11 hk; unfold spec_WordOk_L1; exact h i11 (spec_WordOk_L1 p0 k) (fun i11' hs => ih i11' (Nat.lt_of_lt_of_le hs (Nat.le_of_lt_succ hk)))

noncomputable def spec_WordOk (p0 : List UInt8) : Option (Bool) :=
  (spec_l1In (p0.length : Int) 1 8).bind fun y1 => if (!y1) then some false else spec_WordOk_L1 p0 Fuel 0


noncomputable def spec_l5Words_L2 (i21 : Int) (p0 : List (List UInt8)) (R1 : Int → Option (Bool)) : Nat → Int → Option (Bool)
  | 0, _ => none
  | k2 + 1, i51 =>
    if decide (i51 < i21) then (idx p0 i21).bind fun e57 => (idx p0 i51).bind fun e59 => if (e57 == e59) then some false else (spec_l5Words_L2 i21 p0 R1 k2) (IntKind.i64.wrap (i51 + 1)) else R1 (IntKind.i64.wrap (i21 + 1))

theorem spec_l5Words_L2_ind (i21 : Int) (p0 : List (List UInt8)) (R1 : Int → Option (Bool)) {P : Int → Option (Bool) → Prop} (μ : Int → Nat) (h : ∀ (i51 : Int) (R : Int → Option (Bool)), (∀ i51', μ i51' < μ i51 → P i51' (R i51')) → P i51 (if decide (i51 < i21) then (idx p0 i21).bind fun e57 => (idx p0 i51).bind fun e59 => if (e57 == e59) then some false else (R) (IntKind.i64.wrap (i51 + 1)) else R1 (IntKind.i64.wrap (i21 + 1)))) : ∀ k i51, μ i51 < k → P i51 (spec_l5Words_L2 i21 p0 R1 k i51) := by
  intro k
  induction k with
  | zero => intro i51 hk; exact absurd hk (Nat.not_lt_zero _)
  | succ k ih => intro i51 hk; unfold spec_l5Words_L2; exact h i51 (spec_l5Words_L2 i21 p0 R1 k) (fun i51' hs => ih i51' (Nat.lt_of_lt_of_le hs (Nat.le_of_lt_succ hk)))

noncomputable def spec_l5Words_L1 (p0 : List (List UInt8)) : Nat → Int → Option (Bool)
  | 0, _ => none
  | k1 + 1, i21 =>
    if decide (i21 < (p0.length : Int)) then (idx p0 i21).bind fun e42 => (spec_WordOk e42).bind fun y44 => if (!y44) then some false else spec_l5Words_L2 i21 p0 (spec_l5Words_L1 p0 k1) Fuel 0 else some true

theorem spec_l5Words_L1_ind (p0 : List (List UInt8)) {P : Int → Option (Bool) → Prop} (μ : Int → Nat) (h : ∀ (i21 : Int) (R : Int → Option (Bool)), (∀ i21', μ i21' < μ i21 → P i21' (R i21')) → P i21 (if decide (i21 < (p0.length : Int)) then (idx p0 i21).bind fun e42 => (spec_WordOk e42).bind fun y44 => if (!y44) then some false else spec_l5Words_L2 i21 p0 (R) Fuel 0 else some true)) : ∀ k i21, μ i21 < k → P i21 (spec_l5Words_L1 p0 k i21) := by
  intro k
  induction k with
  | zero => intro i21 hk; exact absurd hk (Nat.not_lt_zero _)
  | succ k ih => intro i21 hk; unfold spec_l5Words_L1; exact h i21 (spec_l5Words_L1 p0 k) (fun i21' hs => ih i21' (Nat.lt_of_lt_of_le hs (Nat.le_of_lt_succ hk)))

noncomputable def spec_l5Words (p0 : List (List UInt8)) : Option (Bool) :=
  spec_l5Words_L1 p0 Fuel 0


noncomputable def spec_AttrOk_L1 (p0 : Timpl_Attr) : Nat → Int → Option (Bool)
  | 0, _ => none
  | k1 + 1, i39 =>
    if decide (i39 < (p0.Cuts_.length : Int)) then (idx p0.Cuts_ i39).bind fun e55 => (spec_l1In e55 (-9999) 9998).bind fun y57 => (if (!y57) then some true else (if decide (i39 > 0) then (idx p0.Cuts_ i39).bind fun e61 => (idx p0.Cuts_ (IntKind.i64.wrap (i39 - 1))).bind fun e63 => some (decide (e61 ≤ e63)) else some false).bind fun u60 => some u60).bind fun u59 => if u59 then some false else (spec_AttrOk_L1 p0 k1) (IntKind.i64.wrap (i39 + 1)) else some true

theorem spec_AttrOk_L1_ind (p0 : Timpl_Attr) {P : Int → Option (Bool) → Prop} (μ : Int → Nat) (h : ∀ (i39 : Int) (R : Int → Option (Bool)), (∀ i39', μ i39' < μ i39 → P i39' (R i39')) → P i39 (if decide (i39 < (p0.Cuts_.length : Int)) then (idx p0.Cuts_ i39).bind fun e55 => (spec_l1In e55 (-9999) 9998).bind fun y57 => (if (!y57) then some true else (if decide (i39 > 0) then (idx p0.Cuts_ i39).bind fun e61 => (idx p0.Cuts_ (IntKind.i64.wrap (i39 - 1))).bind fun e63 => some (decide (e61 ≤ e63)) else some false).bind fun u60 => some u60).bind fun u59 => if u59 then some false else (R) (IntKind.i64.wrap (i39 + 1)) else some true)) : ∀ k i39, μ i39 < k → P i39 (spec_AttrOk_L1 p0 k i39) := by
  intro k
  induction k with
  | zero => intro i39 hk; exact absurd hk (Nat.not_lt_zero _)
  | succ k ih => intro i39 hk; unfold spec_AttrOk_L1; exact h i39 (spec_AttrOk_L1 p0 k) (fun i39' hs => ih i39' (Nat.lt_of_lt_of_le hs (Nat.le_of_lt_succ hk)))

noncomputable def spec_AttrOk (p0 : Timpl_Attr) : Option (Bool) :=
  (spec_WordOk p0.Name_).bind fun y12 => if (!y12) then some false else if ((p0.Cuts_.length : Int) == 0) then (spec_l1In (p0.Values_.length : Int) 2 4).bind fun y14 => (if y14 then (spec_l5Words p0.Values_).bind fun y18 => some y18 else some false).bind fun u17 => some u17 else if ((decide ((p0.Values_.length : Int) > 0)) || (decide ((p0.Cuts_.length : Int) > 3))) then some false else spec_AttrOk_L1 p0 Fuel 0


noncomputable def spec_SchemaOk_L2 (i140 : Int) (p0 : Timpl_Schema) (R1 : Int → Option (Bool)) : Nat → Int → Option (Bool)
  | 0, _ => none
  | k2 + 1, i310 =>
    if decide (i310 < i140) then (idx p0.Attrs_ i140).bind fun e344 => (idx p0.Attrs_ i310).bind fun e360 => if (e344.Name_ == e360.Name_) then some false else (spec_SchemaOk_L2 i140 p0 R1 k2) (IntKind.i64.wrap (i310 + 1)) else R1 (IntKind.i64.wrap (i140 + 1))

theorem spec_SchemaOk_L2_ind (i140 : Int) (p0 : Timpl_Schema) (R1 : Int → Option (Bool)) {P : Int → Option (Bool) → Prop} (μ : Int → Nat) (h : ∀ (i310 : Int) (R : Int → Option (Bool)), (∀ i310', μ i310' < μ i310 → P i310' (R i310')) → P i310 (if decide (i310 < i140) then (idx p0.Attrs_ i140).bind fun e344 => (idx p0.Attrs_ i310).bind fun e360 => if (e344.Name_ == e360.Name_) then some false else (R) (IntKind.i64.wrap (i310 + 1)) else R1 (IntKind.i64.wrap (i140 + 1)))) : ∀ k i310, μ i310 < k → P i310 (spec_SchemaOk_L2 i140 p0 R1 k i310) := by
  intro k
  induction k with
  | zero => intro i310 hk; exact absurd hk (Nat.not_lt_zero _)
  | succ k ih => intro i310 hk; unfold spec_SchemaOk_L2; exact h i310 (spec_SchemaOk_L2 i140 p0 R1 k) (fun i310' hs => ih i310' (Nat.lt_of_lt_of_le hs (Nat.le_of_lt_succ hk)))

noncomputable def spec_SchemaOk_L1 (p0 : Timpl_Schema) : Nat → Int → Option (Bool)
  | 0, _ => none
  | k1 + 1, i140 =>
    if decide (i140 < (p0.Attrs_.length : Int)) then (idx p0.Attrs_ i140).bind fun e259 => (spec_AttrOk e259).bind fun y275 => if (!y275) then some false else spec_SchemaOk_L2 i140 p0 (spec_SchemaOk_L1 p0 k1) Fuel 0 else some true

theorem spec_SchemaOk_L1_ind (p0 : Timpl_Schema) {P : Int → Option (Bool) → Prop} (μ : Int → Nat) (h : ∀ (i140 : Int) (R : Int → Option (Bool)), (∀ i140', μ i140' < μ i140 → P i140' (R i140')) → P i140 (if decide (i140 < (p0.Attrs_.length : Int)) then (idx p0.Attrs_ i140).bind fun e259 => (spec_AttrOk e259).bind fun y275 => if (!y275) then some false else spec_SchemaOk_L2 i140 p0 (R) Fuel 0 else some true)) : ∀ k i140, μ i140 < k → P i140 (spec_SchemaOk_L1 p0 k i140) := by
  intro k
  induction k with
  | zero => intro i140 hk; exact absurd hk (Nat.not_lt_zero _)
  | succ k ih => intro i140 hk; unfold spec_SchemaOk_L1; exact h i140 (spec_SchemaOk_L1 p0 k) (fun i140' hs => ih i140' (Nat.lt_of_lt_of_le hs (Nat.le_of_lt_succ hk)))

noncomputable def spec_SchemaOk (p0 : Timpl_Schema) : Option (Bool) :=
  (spec_l1In (p0.Attrs_.length : Int) 1 5).bind fun y10 => (if (!y10) then some true else (spec_l1In (p0.Classes_.length : Int) 2 3).bind fun y13 => some (!y13)).bind fun u12 => (if u12 then some true else (spec_l5Words p0.Classes_).bind fun y18 => some (!y18)).bind fun u17 => if u17 then some false else spec_SchemaOk_L1 p0 Fuel 0


noncomputable def spec_Bins (p0 : Timpl_Attr) : Option (Int) :=
  (spec_AttrOk p0).bind fun y12 => if (!y12) then some 0 else if decide ((p0.Cuts_.length : Int) > 0) then some (IntKind.i64.wrap ((p0.Cuts_.length : Int) + 1)) else some (p0.Values_.length : Int)


noncomputable def spec_l16Power_L1 (p0 : Int) : Nat → Int → Int → Option (Int)
  | 0, _, _ => none
  | k1 + 1, i3, i4 =>
    if decide (i4 < p0) then (spec_l16Power_L1 p0 k1) (IntKind.i64.wrap (i3 * 2)) (IntKind.i64.wrap (i4 + 1)) else some i3

theorem spec_l16Power_L1_ind (p0 : Int) {P : Int → Int → Option (Int) → Prop} (μ : Int → Int → Nat) (h : ∀ (i3 : Int) (i4 : Int) (R : Int → Int → Option (Int)), (∀ i3' i4', μ i3' i4' < μ i3 i4 → P i3' i4' (R i3' i4')) → P i3 i4 (if decide (i4 < p0) then (R) (IntKind.i64.wrap (i3 * 2)) (IntKind.i64.wrap (i4 + 1)) else some i3)) : ∀ k i3 i4, μ i3 i4 < k → P i3 i4 (spec_l16Power_L1 p0 k i3 i4) := by
  intro k
  induction k with
  | zero => intro i3 i4 hk; exact absurd hk (Nat.not_lt_zero _)
  | succ k ih => intro i3 i4 hk; unfold spec_l16Power_L1; exact h i3 i4 (spec_l16Power_L1 p0 k) (fun i3' i4' hs => ih i3' i4' (Nat.lt_of_lt_of_le hs (Nat.le_of_lt_succ hk)))

noncomputable def spec_l16Power (p0 : Int) : Option (Int) :=
  spec_l16Power_L1 p0 Fuel 1 0


noncomputable def spec_FullMask (p0 : Timpl_Attr) : Option (Int) :=
  (spec_AttrOk p0).bind fun y12 => if (!y12) then some 0 else (spec_Bins p0).bind fun y14 => (spec_l16Power y14).bind fun y16 => some (IntKind.i64.wrap ((IntKind.i64.wrap (y16 - 1)) + 16))


noncomputable def spec_WayOk_L1 (p1 : Timpl_Way) (p0 : Timpl_Schema) : Nat → Int → Option (Bool)
  | 0, _ => none
  | k1 + 1, i54 =>
    if decide (i54 < (p1.Masks_.length : Int)) then (idx p1.Masks_ i54).bind fun e83 => (if decide (e83 < 0) then some true else (idx p1.Masks_ i54).bind fun e86 => (idx p0.Attrs_ i54).bind fun e88 => (spec_FullMask e88).bind fun y104 => (idx p1.Masks_ i54).bind fun e106 => some ((ibits .and .i64 e86 y104) != e106)).bind fun u85 => if u85 then some false else (spec_WayOk_L1 p1 p0 k1) (IntKind.i64.wrap (i54 + 1)) else some true

theorem spec_WayOk_L1_ind (p1 : Timpl_Way) (p0 : Timpl_Schema) {P : Int → Option (Bool) → Prop} (μ : Int → Nat) (h : ∀ (i54 : Int) (R : Int → Option (Bool)), (∀ i54', μ i54' < μ i54 → P i54' (R i54')) → P i54 (if decide (i54 < (p1.Masks_.length : Int)) then (idx p1.Masks_ i54).bind fun e83 => (if decide (e83 < 0) then some true else (idx p1.Masks_ i54).bind fun e86 => (idx p0.Attrs_ i54).bind fun e88 => (spec_FullMask e88).bind fun y104 => (idx p1.Masks_ i54).bind fun e106 => some ((ibits .and .i64 e86 y104) != e106)).bind fun u85 => if u85 then some false else (R) (IntKind.i64.wrap (i54 + 1)) else some true)) : ∀ k i54, μ i54 < k → P i54 (spec_WayOk_L1 p1 p0 k i54) := by
  intro k
  induction k with
  | zero => intro i54 hk; exact absurd hk (Nat.not_lt_zero _)
  | succ k ih => intro i54 hk; unfold spec_WayOk_L1; exact h i54 (spec_WayOk_L1 p1 p0 k) (fun i54' hs => ih i54' (Nat.lt_of_lt_of_le hs (Nat.le_of_lt_succ hk)))

noncomputable def spec_WayOk (p0 : Timpl_Schema) (p1 : Timpl_Way) : Option (Bool) :=
  (spec_SchemaOk p0).bind fun y17 => (if (!y17) then some true else (spec_l1In p1.Leaf_ 0 30).bind fun y20 => some (!y20)).bind fun u19 => if (u19 || ((p1.Masks_.length : Int) != (p0.Attrs_.length : Int))) then some false else spec_WayOk_L1 p1 p0 Fuel 0


noncomputable def impl_within (p0 : Int) (p1 : Int) (p2 : Int) : Option (Bool) :=
  some ((decide (p0 ≥ p1)) && (decide (p0 ≤ p2)))


noncomputable def impl_WordOk_L1 (p0 : List UInt8) : Nat → Int → Option (Bool)
  | 0, _ => none
  | k1 + 1, i11 =>
    if decide (i11 < (p0.length : Int)) then (idx p0 i11).bind fun b20 => (if decide ((b20.toNat : Int) < 97) then some true else (idx p0 i11).bind fun b23 => some (decide ((b23.toNat : Int) > 122))).bind fun u22 => if u22 then some false else (impl_WordOk_L1 p0 k1) (IntKind.i64.wrap (i11 + 1)) else some true

theorem impl_WordOk_L1_ind (p0 : List UInt8) {P : Int → Option (Bool) → Prop} (μ : Int → Nat) (h : ∀ (i11 : Int) (R : Int → Option (Bool)), (∀ i11', μ i11' < μ i11 → P i11' (R i11')) → P i11 (if decide (i11 < (p0.length : Int)) then (idx p0 i11).bind fun b20 => (if decide ((b20.toNat : Int) < 97) then some true else (idx p0 i11).bind fun b23 => some (decide ((b23.toNat : Int) > 122))).bind fun u22 => if u22 then some false else (R) (IntKind.i64.wrap (i11 + 1)) else some true)) : ∀ k i11, μ i11 < k → P i11 (impl_WordOk_L1 p0 k i11) := by
  intro k
  induction k with
  | zero => intro i11 hk; exact absurd hk (Nat.not_lt_zero _)
  | succ k ih => intro i11 hk; unfold impl_WordOk_L1; exact h i11 (impl_WordOk_L1 p0 k) (fun i11' hs => ih i11' (Nat.lt_of_lt_of_le hs (Nat.le_of_lt_succ hk)))

noncomputable def impl_WordOk (p0 : List UInt8) : Option (Bool) :=
  (impl_within (p0.length : Int) 1 8).bind fun y1 => if (!y1) then some false else impl_WordOk_L1 p0 Fuel 0


noncomputable def lib_slices_Index___string_string__L1 (p0 : List (List UInt8)) (p1 : List UInt8) : Nat → Int → Option (Int)
  | 0, _ => none
  | k1 + 1, i4 =>
    if decide (i4 < (p0.length : Int)) then (idx p0 i4).bind fun e8 => if (p1 == e8) then some i4 else (lib_slices_Index___string_string__L1 p0 p1 k1) (IntKind.i64.wrap (i4 + 1)) else some (-1)

theorem lib_slices_Index___string_string__L1_ind (p0 : List (List UInt8)) (p1 : List UInt8) {P : Int → Option (Int) → Prop} (μ : Int → Nat) (h : ∀ (i4 : Int) (R : Int → Option (Int)), (∀ i4', μ i4' < μ i4 → P i4' (R i4')) → P i4 (if decide (i4 < (p0.length : Int)) then (idx p0 i4).bind fun e8 => if (p1 == e8) then some i4 else (R) (IntKind.i64.wrap (i4 + 1)) else some (-1))) : ∀ k i4, μ i4 < k → P i4 (lib_slices_Index___string_string__L1 p0 p1 k i4) := by
  intro k
  induction k with
  | zero => intro i4 hk; exact absurd hk (Nat.not_lt_zero _)
  | succ k ih => intro i4 hk; unfold lib_slices_Index___string_string__L1; exact h i4 (lib_slices_Index___string_string__L1 p0 p1 k) (fun i4' hs => ih i4' (Nat.lt_of_lt_of_le hs (Nat.le_of_lt_succ hk)))

noncomputable def lib_slices_Index___string_string_ (p0 : List (List UInt8)) (p1 : List UInt8) : Option (Int) :=
  lib_slices_Index___string_string__L1 p0 p1 Fuel 0


noncomputable def lib_slices_Contains___string_string_ (p0 : List (List UInt8)) (p1 : List UInt8) : Option (Bool) :=
  (lib_slices_Index___string_string_ p0 p1).bind fun y1 => some (decide (y1 ≥ 0))


noncomputable def impl_distinctWords_L1 (p0 : List (List UInt8)) : Nat → Int → Option (Bool)
  | 0, _ => none
  | k1 + 1, i18 =>
    if decide (i18 < (p0.length : Int)) then (idx p0 i18).bind fun e35 => (impl_WordOk e35).bind fun y37 => (if (!y37) then some true else (sub p0 0 i18).bind fun l40 => (lib_slices_Contains___string_string_ l40 e35).bind fun y46 => some y46).bind fun u39 => if u39 then some false else (impl_distinctWords_L1 p0 k1) (IntKind.i64.wrap (i18 + 1)) else some true

theorem impl_distinctWords_L1_ind (p0 : List (List UInt8)) {P : Int → Option (Bool) → Prop} (μ : Int → Nat) (h : ∀ (i18 : Int) (R : Int → Option (Bool)), (∀ i18', μ i18' < μ i18 → P i18' (R i18')) → P i18 (if decide (i18 < (p0.length : Int)) then (idx p0 i18).bind fun e35 => (impl_WordOk e35).bind fun y37 => (if (!y37) then some true else (sub p0 0 i18).bind fun l40 => (lib_slices_Contains___string_string_ l40 e35).bind fun y46 => some y46).bind fun u39 => if u39 then some false else (R) (IntKind.i64.wrap (i18 + 1)) else some true)) : ∀ k i18, μ i18 < k → P i18 (impl_distinctWords_L1 p0 k i18) := by
  intro k
  induction k with
  | zero => intro i18 hk; exact absurd hk (Nat.not_lt_zero _)
  | succ k ih => intro i18 hk; unfold impl_distinctWords_L1; exact h i18 (impl_distinctWords_L1 p0 k) (fun i18' hs => ih i18' (Nat.lt_of_lt_of_le hs (Nat.le_of_lt_succ hk)))

noncomputable def impl_distinctWords (p0 : List (List UInt8)) : Option (Bool) :=
  impl_distinctWords_L1 p0 Fuel 0


noncomputable def impl_ascending_L1 (p0 : List Int) : Nat → Int → Option (Bool)
  | 0, _ => none
  | k1 + 1, i6 =>
    if decide (i6 < (p0.length : Int)) then (idx p0 i6).bind fun e12 => (idx p0 (IntKind.i64.wrap (i6 - 1))).bind fun e14 => if decide (e12 ≤ e14) then some false else (impl_ascending_L1 p0 k1) (IntKind.i64.wrap (i6 + 1)) else some true

theorem impl_ascending_L1_ind (p0 : List Int) {P : Int → Option (Bool) → Prop} (μ : Int → Nat) (h : ∀ (i6 : Int) (R : Int → Option (Bool)), (∀ i6', μ i6' < μ i6 → P i6' (R i6')) → P i6 (if decide (i6 < (p0.length : Int)) then (idx p0 i6).bind fun e12 => (idx p0 (IntKind.i64.wrap (i6 - 1))).bind fun e14 => if decide (e12 ≤ e14) then some false else (R) (IntKind.i64.wrap (i6 + 1)) else some true)) : ∀ k i6, μ i6 < k → P i6 (impl_ascending_L1 p0 k i6) := by
  intro k
  induction k with
  | zero => intro i6 hk; exact absurd hk (Nat.not_lt_zero _)
  | succ k ih => intro i6 hk; unfold impl_ascending_L1; exact h i6 (impl_ascending_L1 p0 k) (fun i6' hs => ih i6' (Nat.lt_of_lt_of_le hs (Nat.le_of_lt_succ hk)))

noncomputable def impl_ascending (p0 : List Int) : Option (Bool) :=
  impl_ascending_L1 p0 Fuel 1


noncomputable def impl_isCut (p0 : Int) : Option (Bool) :=
  (impl_within p0 (-9999) 9998).bind fun y1 => some y1


noncomputable def impl_CutsOk_1 (p0 : Int) : Option (Bool) :=
  (impl_isCut p0).bind fun y1 => some (!y1)


noncomputable def lib_slices_IndexFunc___int_int___impl_CutsOk_1_L1 (p0 : List Int) : Nat → Int → Option (Int)
  | 0, _ => none
  | k1 + 1, i6 =>
    if decide (i6 < (p0.length : Int)) then (idx p0 i6).bind fun e12 => (impl_CutsOk_1 e12).bind fun y14 => if y14 then some i6 else (lib_slices_IndexFunc___int_int___impl_CutsOk_1_L1 p0 k1) (IntKind.i64.wrap (i6 + 1)) else some (-1)

theorem lib_slices_IndexFunc___int_int___impl_CutsOk_1_L1_ind (p0 : List Int) {P : Int → Option (Int) → Prop} (μ : Int → Nat) (h : ∀ (i6 : Int) (R : Int → Option (Int)), (∀ i6', μ i6' < μ i6 → P i6' (R i6')) → P i6 (if decide (i6 < (p0.length : Int)) then (idx p0 i6).bind fun e12 => (impl_CutsOk_1 e12).bind fun y14 => if y14 then some i6 else (R) (IntKind.i64.wrap (i6 + 1)) else some (-1))) : ∀ k i6, μ i6 < k → P i6 (lib_slices_IndexFunc___int_int___impl_CutsOk_1_L1 p0 k i6) := by
  intro k
  induction k with
  | zero => intro i6 hk; exact absurd hk (Nat.not_lt_zero _)
  | succ k ih => intro i6 hk; unfold lib_slices_IndexFunc___int_int___impl_CutsOk_1_L1; exact h i6 (lib_slices_IndexFunc___int_int___impl_CutsOk_1_L1 p0 k) (fun i6' hs => ih i6' (Nat.lt_of_lt_of_le hs (Nat.le_of_lt_succ hk)))

noncomputable def lib_slices_IndexFunc___int_int___impl_CutsOk_1 (p0 : List Int) : Option (Int) :=
  lib_slices_IndexFunc___int_int___impl_CutsOk_1_L1 p0 Fuel 0


noncomputable def lib_slices_ContainsFunc___int_int___impl_CutsOk_1 (p0 : List Int) : Option (Bool) :=
  (lib_slices_IndexFunc___int_int___impl_CutsOk_1 p0).bind fun y1 => some (decide (y1 ≥ 0))


noncomputable def impl_CutsOk (p0 : List Int) : Option (Bool) :=
  (impl_within (p0.length : Int) 1 3).bind fun y1 => (if y1 then (impl_ascending p0).bind fun y4 => some y4 else some false).bind fun u3 => (if u3 then (lib_slices_ContainsFunc___int_int___impl_CutsOk_1 p0).bind fun y10 => some (!y10) else some false).bind fun u9 => some u9


noncomputable def impl_AttrOk (p0 : Timpl_Attr) : Option (Bool) :=
  (impl_WordOk p0.Name_).bind fun y12 => if (!y12) then some false else if ((p0.Cuts_.length : Int) == 0) then (impl_within (p0.Values_.length : Int) 2 4).bind fun y14 => (if y14 then (impl_distinctWords p0.Values_).bind fun y18 => some y18 else some false).bind fun u17 => some u17 else (if ((p0.Values_.length : Int) == 0) then (impl_CutsOk p0.Cuts_).bind fun y23 => some y23 else some false).bind fun u22 => some u22


noncomputable def impl_SchemaOk_L1 (p0 : Timpl_Schema) : Nat → Int → (List (List UInt8)) → Option (Bool)
  | 0, _, _ => none
  | k1 + 1, i54, l55 =>
    if decide (i54 < (p0.Attrs_.length : Int)) then (idx p0.Attrs_ i54).bind fun e90 => (impl_AttrOk e90).bind fun y107 => if (!y107) then some false else (app l55 ([e90.Name_] : List (List UInt8))).bind fun l110 => (impl_SchemaOk_L1 p0 k1) (IntKind.i64.wrap (i54 + 1)) l110 else (impl_distinctWords l55).bind fun y116 => some y116

theorem impl_SchemaOk_L1_ind (p0 : Timpl_Schema) {P : Int → (List (List UInt8)) → Option (Bool) → Prop} (μ : Int → (List (List UInt8)) → Nat) (h : ∀ (i54 : Int) (l55 : List (List UInt8)) (R : Int → (List (List UInt8)) → Option (Bool)), (∀ i54' l55', μ i54' l55' < μ i54 l55 → P i54' l55' (R i54' l55')) → P i54 l55 (if decide (i54 < (p0.Attrs_.length : Int)) then (idx p0.Attrs_ i54).bind fun e90 => (impl_AttrOk e90).bind fun y107 => if (!y107) then some false else (app l55 ([e90.Name_] : List (List UInt8))).bind fun l110 => (R) (IntKind.i64.wrap (i54 + 1)) l110 else (impl_distinctWords l55).bind fun y116 => some y116)) : ∀ k i54 l55, μ i54 l55 < k → P i54 l55 (impl_SchemaOk_L1 p0 k i54 l55) := by
  intro k
  induction k with
  | zero => intro i54 l55 hk; exact absurd hk (Nat.not_lt_zero _)
  | succ k ih => intro i54 l55 hk; unfold impl_SchemaOk_L1; exact h i54 l55 (impl_SchemaOk_L1 p0 k) (fun i54' l55' hs => ih i54' l55' (Nat.lt_of_lt_of_le hs (Nat.le_of_lt_succ hk)))

noncomputable def impl_SchemaOk (p0 : Timpl_Schema) : Option (Bool) :=
  (impl_within (p0.Attrs_.length : Int) 1 5).bind fun y10 => (if (!y10) then some true else (impl_within (p0.Classes_.length : Int) 2 3).bind fun y13 => some (!y13)).bind fun u12 => (if u12 then some true else (impl_distinctWords p0.Classes_).bind fun y18 => some (!y18)).bind fun u17 => if u17 then some false else impl_SchemaOk_L1 p0 Fuel 0 ([] : List (List UInt8))


noncomputable def impl_bins (p0 : Timpl_Attr) : Option (Int) :=
  if decide ((p0.Cuts_.length : Int) > 0) then some (IntKind.i64.wrap ((p0.Cuts_.length : Int) + 1)) else some (p0.Values_.length : Int)


noncomputable def impl_FullMask (p0 : Timpl_Attr) : Option (Int) :=
  (impl_AttrOk p0).bind fun y12 => if (!y12) then some 0 else (impl_bins p0).bind fun y14 => (shl .i64 1 y14).bind fun x16 => some (ibits .or .i64 (IntKind.i64.wrap (x16 - 1)) 16)


noncomputable def impl_WayOk_L1 (p1 : Timpl_Way) (p0 : Timpl_Schema) : Nat → Int → Option (Bool)
  | 0, _ => none
  | k1 + 1, i47 =>
    if decide (i47 < (p1.Masks_.length : Int)) then (idx p1.Masks_ i47).bind fun e69 => (idx p0.Attrs_ i47).bind fun e71 => (impl_FullMask e71).bind fun y87 => if ((ibits .andNot .i64 e69 y87) != 0) then some false else (impl_WayOk_L1 p1 p0 k1) (IntKind.i64.wrap (i47 + 1)) else some true

theorem impl_WayOk_L1_ind (p1 : Timpl_Way) (p0 : Timpl_Schema) {P : Int → Option (Bool) → Prop} (μ : Int → Nat) (h : ∀ (i47 : Int) (R : Int → Option (Bool)), (∀ i47', μ i47' < μ i47 → P i47' (R i47')) → P i47 (if decide (i47 < (p1.Masks_.length : Int)) then (idx p1.Masks_ i47).bind fun e69 => (idx p0.Attrs_ i47).bind fun e71 => (impl_FullMask e71).bind fun y87 => if ((ibits .andNot .i64 e69 y87) != 0) then some false else (R) (IntKind.i64.wrap (i47 + 1)) else some true)) : ∀ k i47, μ i47 < k → P i47 (impl_WayOk_L1 p1 p0 k i47) := by
  intro k
  induction k with
  | zero => intro i47 hk; exact absurd hk (Nat.not_lt_zero _)
  | succ k ih => intro i47 hk; unfold impl_WayOk_L1; exact h i47 (impl_WayOk_L1 p1 p0 k) (fun i47' hs => ih i47' (Nat.lt_of_lt_of_le hs (Nat.le_of_lt_succ hk)))

noncomputable def impl_WayOk (p0 : Timpl_Schema) (p1 : Timpl_Way) : Option (Bool) :=
  (impl_SchemaOk p0).bind fun y17 => (if (!y17) then some true else (impl_within p1.Leaf_ 0 30).bind fun y20 => some (!y20)).bind fun u19 => if (u19 || ((p1.Masks_.length : Int) != (p0.Attrs_.length : Int))) then some false else impl_WayOk_L1 p1 p0 Fuel 0


noncomputable def laws_eqIntS_L1 (p0 : List Int) (p1 : List Int) : Nat → Int → Option (Bool)
  | 0, _ => none
  | k1 + 1, i6 =>
    if decide (i6 < (p0.length : Int)) then (idx p0 i6).bind fun e12 => (idx p1 i6).bind fun e14 => if (e12 != e14) then some false else (laws_eqIntS_L1 p0 p1 k1) (IntKind.i64.wrap (i6 + 1)) else some true

theorem laws_eqIntS_L1_ind (p0 : List Int) (p1 : List Int) {P : Int → Option (Bool) → Prop} (μ : Int → Nat) (h : ∀ (i6 : Int) (R : Int → Option (Bool)), (∀ i6', μ i6' < μ i6 → P i6' (R i6')) → P i6 (if decide (i6 < (p0.length : Int)) then (idx p0 i6).bind fun e12 => (idx p1 i6).bind fun e14 => if (e12 != e14) then some false else (R) (IntKind.i64.wrap (i6 + 1)) else some true)) : ∀ k i6, μ i6 < k → P i6 (laws_eqIntS_L1 p0 p1 k i6) := by
  intro k
  induction k with
  | zero => intro i6 hk; exact absurd hk (Nat.not_lt_zero _)
  | succ k ih => intro i6 hk; unfold laws_eqIntS_L1; exact h i6 (laws_eqIntS_L1 p0 p1 k) (fun i6' hs => ih i6' (Nat.lt_of_lt_of_le hs (Nat.le_of_lt_succ hk)))

noncomputable def laws_eqIntS (p0 : List Int) (p1 : List Int) : Option (Bool) :=
  if ((p0.length : Int) != (p1.length : Int)) then some false else laws_eqIntS_L1 p0 p1 Fuel 0


noncomputable def laws_eqStringS_L1 (p0 : List (List UInt8)) (p1 : List (List UInt8)) : Nat → Int → Option (Bool)
  | 0, _ => none
  | k1 + 1, i6 =>
    if decide (i6 < (p0.length : Int)) then (idx p0 i6).bind fun e12 => (idx p1 i6).bind fun e14 => if (!(e12 == e14)) then some false else (laws_eqStringS_L1 p0 p1 k1) (IntKind.i64.wrap (i6 + 1)) else some true

theorem laws_eqStringS_L1_ind (p0 : List (List UInt8)) (p1 : List (List UInt8)) {P : Int → Option (Bool) → Prop} (μ : Int → Nat) (h : ∀ (i6 : Int) (R : Int → Option (Bool)), (∀ i6', μ i6' < μ i6 → P i6' (R i6')) → P i6 (if decide (i6 < (p0.length : Int)) then (idx p0 i6).bind fun e12 => (idx p1 i6).bind fun e14 => if (!(e12 == e14)) then some false else (R) (IntKind.i64.wrap (i6 + 1)) else some true)) : ∀ k i6, μ i6 < k → P i6 (laws_eqStringS_L1 p0 p1 k i6) := by
  intro k
  induction k with
  | zero => intro i6 hk; exact absurd hk (Nat.not_lt_zero _)
  | succ k ih => intro i6 hk; unfold laws_eqStringS_L1; exact h i6 (laws_eqStringS_L1 p0 p1 k) (fun i6' hs => ih i6' (Nat.lt_of_lt_of_le hs (Nat.le_of_lt_succ hk)))

noncomputable def laws_eqStringS (p0 : List (List UInt8)) (p1 : List (List UInt8)) : Option (Bool) :=
  if ((p0.length : Int) != (p1.length : Int)) then some false else laws_eqStringS_L1 p0 p1 Fuel 0


noncomputable def laws_eqAttr (p0 : Timpl_Attr) (p1 : Timpl_Attr) : Option (Bool) :=
  if (!(p0.Name_ == p1.Name_)) then some false else (laws_eqIntS p0.Cuts_ p1.Cuts_).bind fun y23 => if (!y23) then some false else (laws_eqStringS p0.Values_ p1.Values_).bind fun y25 => if (!y25) then some false else some true


noncomputable def laws_eqAttrS_L1 (p0 : List Timpl_Attr) (p1 : List Timpl_Attr) : Nat → Int → Option (Bool)
  | 0, _ => none
  | k1 + 1, i36 =>
    if decide (i36 < (p0.length : Int)) then (idx p0 i36).bind fun e72 => (idx p1 i36).bind fun e88 => (laws_eqAttr e72 e88).bind fun y104 => if (!y104) then some false else (laws_eqAttrS_L1 p0 p1 k1) (IntKind.i64.wrap (i36 + 1)) else some true

theorem laws_eqAttrS_L1_ind (p0 : List Timpl_Attr) (p1 : List Timpl_Attr) {P : Int → Option (Bool) → Prop} (μ : Int → Nat) (h : ∀ (i36 : Int) (R : Int → Option (Bool)), (∀ i36', μ i36' < μ i36 → P i36' (R i36')) → P i36 (if decide (i36 < (p0.length : Int)) then (idx p0 i36).bind fun e72 => (idx p1 i36).bind fun e88 => (laws_eqAttr e72 e88).bind fun y104 => if (!y104) then some false else (R) (IntKind.i64.wrap (i36 + 1)) else some true)) : ∀ k i36, μ i36 < k → P i36 (laws_eqAttrS_L1 p0 p1 k i36) := by
  intro k
  induction k with
  | zero => intro i36 hk; exact absurd hk (Nat.not_lt_zero _)
  | succ k ih => intro i36 hk; unfold laws_eqAttrS_L1; exact h i36 (laws_eqAttrS_L1 p0 p1 k) (fun i36' hs => ih i36' (Nat.lt_of_lt_of_le hs (Nat.le_of_lt_succ hk)))

noncomputable def laws_eqAttrS (p0 : List Timpl_Attr) (p1 : List Timpl_Attr) : Option (Bool) :=
  if ((p0.length : Int) != (p1.length : Int)) then some false else laws_eqAttrS_L1 p0 p1 Fuel 0


noncomputable def laws_eqSchema (p0 : Timpl_Schema) (p1 : Timpl_Schema) : Option (Bool) :=
  (laws_eqAttrS p0.Attrs_ p1.Attrs_).bind fun y19 => if (!y19) then some false else (laws_eqStringS p0.Classes_ p1.Classes_).bind fun y21 => if (!y21) then some false else some true


noncomputable def laws_eqWay (p0 : Timpl_Way) (p1 : Timpl_Way) : Option (Bool) :=
  if (p0.Leaf_ != p1.Leaf_) then some false else (laws_eqIntS p0.Masks_ p1.Masks_).bind fun y15 => if (!y15) then some false else some true


noncomputable def laws_FnExactWayOk (p0 : Tlaws_Schema) (p1 : Tlaws_Way) : Option (Bool) :=
  (laws_szSchema p0 1048576).bind fun y17 => if decide (y17 < 0) then some true else (laws_szWay p1 y17).bind fun y19 => if decide (y19 < 0) then some true else (laws_toSchema p0).bind fun y34 => (laws_toWay p1).bind fun y47 => (spec_WayOk y34 y47).bind fun y56 => (laws_toSchema p0).bind fun y58 => (laws_toWay p1).bind fun y72 => (impl_WayOk y58 y72).bind fun y82 => if (y82 != y56) then some false else (laws_toSchema p0).bind fun y97 => (laws_eqSchema y58 y97).bind fun y110 => if (!y110) then some false else (laws_toWay p1).bind fun y121 => (laws_eqWay y72 y121).bind fun y130 => if (!y130) then some false else some true


noncomputable def laws_szEx (p0 : Tlaws_Ex) (p1 : Int) : Option (Int) :=
  (laws_szIntS p0.Bins_ p1).bind fun y8 => if decide (y8 < 0) then some (-1) else some y8


noncomputable def laws_szEntry (p0 : Tlaws_Entry) (p1 : Int) : Option (Int) :=
  (laws_szEx p0.Ex_ p1).bind fun y12 => if decide (y12 < 0) then some (-1) else some y12


noncomputable def laws_szEntryS_L1 (p0 : List Tlaws_Entry) : Nat → Int → Int → Option (Int)
  | 0, _, _ => none
  | k1 + 1, i21, i22 =>
    if decide (i22 < (p0.length : Int)) then (idx p0 i22).bind fun e43 => (laws_szEntry e43 i21).bind fun y59 => if decide (y59 < 0) then some (-1) else (laws_szEntryS_L1 p0 k1) y59 (IntKind.i64.wrap (i22 + 1)) else some i21

theorem laws_szEntryS_L1_ind (p0 : List Tlaws_Entry) {P : Int → Int → Option (Int) → Prop} (μ : Int → Int → Nat) (h : ∀ (i21 : Int) (i22 : Int) (R : Int → Int → Option (Int)), (∀ i21' i22', μ i21' i22' < μ i21 i22 → P i21' i22' (R i21' i22')) → P i21 i22 (if decide (i22 < (p0.length : Int)) then (idx p0 i22).bind fun e43 => (laws_szEntry e43 i21).bind fun y59 => if decide (y59 < 0) then some (-1) else (R) y59 (IntKind.i64.wrap (i22 + 1)) else some i21)) : ∀ k i21 i22, μ i21 i22 < k → P i21 i22 (laws_szEntryS_L1 p0 k i21 i22) := by
  intro k
  induction k with
  | zero => intro i21 i22 hk; exact absurd hk (Nat.not_lt_zero _)
  | succ k ih => intro i21 i22 hk; unfold laws_szEntryS_L1; exact h i21 i22 (laws_szEntryS_L1 p0 k) (fun i21' i22' hs => ih i21' i22' (Nat.lt_of_lt_of_le hs (Nat.le_of_lt_succ hk)))

noncomputable def laws_szEntryS (p0 : List Tlaws_Entry) (p1 : Int) : Option (Int) :=
  if decide ((IntKind.i64.wrap (p1 - (p0.length : Int))) < 0) then some (-1) else laws_szEntryS_L1 p0 Fuel (IntKind.i64.wrap (p1 - (p0.length : Int))) 0


noncomputable def laws_szPast (p0 : Tlaws_Past) (p1 : Int) : Option (Int) :=
  (laws_szEntryS p0.Tree_ p1).bind fun y14 => if decide (y14 < 0) then some (-1) else (laws_szEntryS p0.Young_ y14).bind fun y16 => if decide (y16 < 0) then some (-1) else (laws_szIntS p0.Bits_ y16).bind fun y18 => if decide (y18 < 0) then some (-1) else some y18


noncomputable def laws_szPastS_L1 (p0 : List Tlaws_Past) : Nat → Int → Int → Option (Int)
  | 0, _, _ => none
  | k1 + 1, i23, i24 =>
    if decide (i24 < (p0.length : Int)) then (idx p0 i24).bind fun e47 => (laws_szPast e47 i23).bind fun y65 => if decide (y65 < 0) then some (-1) else (laws_szPastS_L1 p0 k1) y65 (IntKind.i64.wrap (i24 + 1)) else some i23

theorem laws_szPastS_L1_ind (p0 : List Tlaws_Past) {P : Int → Int → Option (Int) → Prop} (μ : Int → Int → Nat) (h : ∀ (i23 : Int) (i24 : Int) (R : Int → Int → Option (Int)), (∀ i23' i24', μ i23' i24' < μ i23 i24 → P i23' i24' (R i23' i24')) → P i23 i24 (if decide (i24 < (p0.length : Int)) then (idx p0 i24).bind fun e47 => (laws_szPast e47 i23).bind fun y65 => if decide (y65 < 0) then some (-1) else (R) y65 (IntKind.i64.wrap (i24 + 1)) else some i23)) : ∀ k i23 i24, μ i23 i24 < k → P i23 i24 (laws_szPastS_L1 p0 k i23 i24) := by
  intro k
  induction k with
  | zero => intro i23 i24 hk; exact absurd hk (Nat.not_lt_zero _)
  | succ k ih => intro i23 i24 hk; unfold laws_szPastS_L1; exact h i23 i24 (laws_szPastS_L1 p0 k) (fun i23' i24' hs => ih i23' i24' (Nat.lt_of_lt_of_le hs (Nat.le_of_lt_succ hk)))

noncomputable def laws_szPastS (p0 : List Tlaws_Past) (p1 : Int) : Option (Int) :=
  if decide ((IntKind.i64.wrap (p1 - (p0.length : Int))) < 0) then some (-1) else laws_szPastS_L1 p0 Fuel (IntKind.i64.wrap (p1 - (p0.length : Int))) 0


noncomputable def laws_szStepS (p0 : List Tlaws_Step) (p1 : Int) : Option (Int) :=
  if decide ((IntKind.i64.wrap (p1 - (p0.length : Int))) < 0) then some (-1) else some (IntKind.i64.wrap (p1 - (p0.length : Int)))


noncomputable def laws_toEx (p0 : Tlaws_Ex) : Option (Timpl_Ex) :=
  (laws_toIntS p0.Bins_).bind fun y10 => some (Timpl_Ex.mk y10 p0.Class_)


noncomputable def laws_toEntry (p0 : Tlaws_Entry) : Option (Timpl_Entry) :=
  (laws_toEx p0.Ex_).bind fun y14 => some (Timpl_Entry.mk y14 p0.Weight_)


noncomputable def laws_toEntryS_L1 (p0 : List Tlaws_Entry) : Nat → (List Timpl_Entry) → Int → Option (List Timpl_Entry)
  | 0, _, _ => none
  | k1 + 1, l47, i49 =>
    if decide (i49 < (p0.length : Int)) then (idx p0 i49).bind fun e93 => (laws_toEntry e93).bind fun y109 => (idx l47 i49).bind fun _ => (laws_toEntryS_L1 p0 k1) (l47.set i49.toNat y109) (IntKind.i64.wrap (i49 + 1)) else some l47

theorem laws_toEntryS_L1_ind (p0 : List Tlaws_Entry) {P : (List Timpl_Entry) → Int → Option (List Timpl_Entry) → Prop} (μ : (List Timpl_Entry) → Int → Nat) (h : ∀ (l47 : List Timpl_Entry) (i49 : Int) (R : (List Timpl_Entry) → Int → Option (List Timpl_Entry)), (∀ l47' i49', μ l47' i49' < μ l47 i49 → P l47' i49' (R l47' i49')) → P l47 i49 (if decide (i49 < (p0.length : Int)) then (idx p0 i49).bind fun e93 => (laws_toEntry e93).bind fun y109 => (idx l47 i49).bind fun _ => (R) (l47.set i49.toNat y109) (IntKind.i64.wrap (i49 + 1)) else some l47)) : ∀ k l47 i49, μ l47 i49 < k → P l47 i49 (laws_toEntryS_L1 p0 k l47 i49) := by
  intro k
  induction k with
  | zero => intro l47 i49 hk; exact absurd hk (Nat.not_lt_zero _)
  | succ k ih => intro l47 i49 hk; unfold laws_toEntryS_L1; exact h l47 i49 (laws_toEntryS_L1 p0 k) (fun l47' i49' hs => ih l47' i49' (Nat.lt_of_lt_of_le hs (Nat.le_of_lt_succ hk)))

noncomputable def laws_toEntryS (p0 : List Tlaws_Entry) : Option (List Timpl_Entry) :=
  (mk ((Timpl_Entry.mk (Timpl_Ex.mk [] 0) 0) : Timpl_Entry) (p0.length : Int)).bind fun l1 => laws_toEntryS_L1 p0 Fuel l1 0


noncomputable def laws_toPast (p0 : Tlaws_Past) : Option (Timpl_Past) :=
  (laws_toEntryS p0.Tree_).bind fun y16 => (laws_toEntryS p0.Young_).bind fun y25 => (laws_toIntS p0.Bits_).bind fun y34 => some (Timpl_Past.mk y16 y25 y34)


noncomputable def laws_toPastS_L1 (p0 : List Tlaws_Past) : Nat → (List Timpl_Past) → Int → Option (List Timpl_Past)
  | 0, _, _ => none
  | k1 + 1, l63, i65 =>
    if decide (i65 < (p0.length : Int)) then (idx p0 i65).bind fun e125 => (laws_toPast e125).bind fun y143 => (idx l63 i65).bind fun _ => (laws_toPastS_L1 p0 k1) (l63.set i65.toNat y143) (IntKind.i64.wrap (i65 + 1)) else some l63

theorem laws_toPastS_L1_ind (p0 : List Tlaws_Past) {P : (List Timpl_Past) → Int → Option (List Timpl_Past) → Prop} (μ : (List Timpl_Past) → Int → Nat) (h : ∀ (l63 : List Timpl_Past) (i65 : Int) (R : (List Timpl_Past) → Int → Option (List Timpl_Past)), (∀ l63' i65', μ l63' i65' < μ l63 i65 → P l63' i65' (R l63' i65')) → P l63 i65 (if decide (i65 < (p0.length : Int)) then (idx p0 i65).bind fun e125 => (laws_toPast e125).bind fun y143 => (idx l63 i65).bind fun _ => (R) (l63.set i65.toNat y143) (IntKind.i64.wrap (i65 + 1)) else some l63)) : ∀ k l63 i65, μ l63 i65 < k → P l63 i65 (laws_toPastS_L1 p0 k l63 i65) := by
  intro k
  induction k with
  | zero => intro l63 i65 hk; exact absurd hk (Nat.not_lt_zero _)
  | succ k ih => intro l63 i65 hk; unfold laws_toPastS_L1; exact h l63 i65 (laws_toPastS_L1 p0 k) (fun l63' i65' hs => ih l63' i65' (Nat.lt_of_lt_of_le hs (Nat.le_of_lt_succ hk)))

noncomputable def laws_toPastS (p0 : List Tlaws_Past) : Option (List Timpl_Past) :=
  (mk ((Timpl_Past.mk [] [] []) : Timpl_Past) (p0.length : Int)).bind fun l1 => laws_toPastS_L1 p0 Fuel l1 0


noncomputable def laws_toStep (p0 : Tlaws_Step) : Option (Timpl_Step) :=
  some (Timpl_Step.mk p0.Said_ p0.Bit_ p0.Weight_ p0.Grow_ p0.Young_ p0.Det_ p0.Began_ p0.Swapped_)


noncomputable def laws_toStepS_L1 (p0 : List Tlaws_Step) : Nat → (List Timpl_Step) → Int → Option (List Timpl_Step)
  | 0, _, _ => none
  | k1 + 1, l21, i23 =>
    if decide (i23 < (p0.length : Int)) then (idx p0 i23).bind fun e41 => (laws_toStep e41).bind fun y43 => (idx l21 i23).bind fun _ => (laws_toStepS_L1 p0 k1) (l21.set i23.toNat y43) (IntKind.i64.wrap (i23 + 1)) else some l21

theorem laws_toStepS_L1_ind (p0 : List Tlaws_Step) {P : (List Timpl_Step) → Int → Option (List Timpl_Step) → Prop} (μ : (List Timpl_Step) → Int → Nat) (h : ∀ (l21 : List Timpl_Step) (i23 : Int) (R : (List Timpl_Step) → Int → Option (List Timpl_Step)), (∀ l21' i23', μ l21' i23' < μ l21 i23 → P l21' i23' (R l21' i23')) → P l21 i23 (if decide (i23 < (p0.length : Int)) then (idx p0 i23).bind fun e41 => (laws_toStep e41).bind fun y43 => (idx l21 i23).bind fun _ => (R) (l21.set i23.toNat y43) (IntKind.i64.wrap (i23 + 1)) else some l21)) : ∀ k l21 i23, μ l21 i23 < k → P l21 i23 (laws_toStepS_L1 p0 k l21 i23) := by
  intro k
  induction k with
  | zero => intro l21 i23 hk; exact absurd hk (Nat.not_lt_zero _)
  | succ k ih => intro l21 i23 hk; unfold laws_toStepS_L1; exact h l21 i23 (laws_toStepS_L1 p0 k) (fun l21' i23' hs => ih l21' i23' (Nat.lt_of_lt_of_le hs (Nat.le_of_lt_succ hk)))

noncomputable def laws_toStepS (p0 : List Tlaws_Step) : Option (List Timpl_Step) :=
  (mk ((Timpl_Step.mk 0 0 0 0 0 0 false false) : Timpl_Step) (p0.length : Int)).bind fun l1 => laws_toStepS_L1 p0 Fuel l1 0


noncomputable def spec_l30CopyEntries_L1 (p0 : List Timpl_Entry) : Nat → (List Timpl_Entry) → Int → Option (List Timpl_Entry)
  | 0, _, _ => none
  | k1 + 1, l77, i81 =>
    if decide (i81 < (p0.length : Int)) then (idx p0 i81).bind fun e157 => (idx p0 i81).bind fun e198 => (app ([] : List Int) e157.Ex_.Bins_).bind fun l215 => (app l77 [(Timpl_Entry.mk (Timpl_Ex.mk l215 e157.Ex_.Class_) e198.Weight_)]).bind fun l222 => (spec_l30CopyEntries_L1 p0 k1) l222 (IntKind.i64.wrap (i81 + 1)) else some l77

theorem spec_l30CopyEntries_L1_ind (p0 : List Timpl_Entry) {P : (List Timpl_Entry) → Int → Option (List Timpl_Entry) → Prop} (μ : (List Timpl_Entry) → Int → Nat) (h : ∀ (l77 : List Timpl_Entry) (i81 : Int) (R : (List Timpl_Entry) → Int → Option (List Timpl_Entry)), (∀ l77' i81', μ l77' i81' < μ l77 i81 → P l77' i81' (R l77' i81')) → P l77 i81 (if decide (i81 < (p0.length : Int)) then (idx p0 i81).bind fun e157 => (idx p0 i81).bind fun e198 => (app ([] : List Int) e157.Ex_.Bins_).bind fun l215 => (app l77 [(Timpl_Entry.mk (Timpl_Ex.mk l215 e157.Ex_.Class_) e198.Weight_)]).bind fun l222 => (R) l222 (IntKind.i64.wrap (i81 + 1)) else some l77)) : ∀ k l77 i81, μ l77 i81 < k → P l77 i81 (spec_l30CopyEntries_L1 p0 k l77 i81) := by
  intro k
  induction k with
  | zero => intro l77 i81 hk; exact absurd hk (Nat.not_lt_zero _)
  | succ k ih => intro l77 i81 hk; unfold spec_l30CopyEntries_L1; exact h l77 i81 (spec_l30CopyEntries_L1 p0 k) (fun l77' i81' hs => ih l77' i81' (Nat.lt_of_lt_of_le hs (Nat.le_of_lt_succ hk)))

noncomputable def spec_l30CopyEntries (p0 : List Timpl_Entry) : Option (List Timpl_Entry) :=
  spec_l30CopyEntries_L1 p0 Fuel ([] : List Timpl_Entry) 0


noncomputable def spec_l30CopyPast (p0 : Timpl_Past) : Option (Timpl_Past) :=
  (spec_l30CopyEntries p0.Tree_).bind fun y34 => (spec_l30CopyEntries p0.Young_).bind fun y43 => (app ([] : List Int) p0.Bits_).bind fun l53 => some (Timpl_Past.mk y34 y43 l53)


noncomputable def spec_l30Grew (p0 : Int) : Option (Bool) :=
  some ((p0 == 0) || (p0 == 1))


noncomputable def spec_Follow_J1 (l279 : List Timpl_Past) (R1 : (List Timpl_Past) → Int → Option (List Timpl_Past)) (i283 : Int) (l695 : List Timpl_Entry) (l699 : List Timpl_Entry) (l703 : List Int) : Option (List Timpl_Past) :=
  (app l279 [(Timpl_Past.mk l695 l699 l703)]).bind fun l709 => R1 l709 (IntKind.i64.wrap (i283 + 1))

noncomputable def spec_Follow_J4 (e714 : Timpl_Step) (l279 : List Timpl_Past) (R1 : (List Timpl_Past) → Int → Option (List Timpl_Past)) (i283 : Int) (l734 : List Timpl_Entry) (l771 : List Int) (l778 : List Timpl_Entry) : Option (List Timpl_Past) :=
  if e714.Swapped_ then spec_Follow_J1 l279 R1 i283 l778 ([] : List Timpl_Entry) ([] : List Int) else spec_Follow_J1 l279 R1 i283 l734 l778 l771

noncomputable def spec_Follow_J3 (y572 : Timpl_Past) (e714 : Timpl_Step) (l279 : List Timpl_Past) (R1 : (List Timpl_Past) → Int → Option (List Timpl_Past)) (i283 : Int) (l734 : List Timpl_Entry) (l766 : List Timpl_Entry) : Option (List Timpl_Past) :=
  (app y572.Bits_ ([e714.Bit_] : List Int)).bind fun l771 => if e714.Began_ then spec_Follow_J4 e714 l279 R1 i283 l734 l771 ([] : List Timpl_Entry) else spec_Follow_J4 e714 l279 R1 i283 l734 l771 l766

noncomputable def spec_Follow_J2 (e714 : Timpl_Step) (y718 : List Timpl_Entry) (y572 : Timpl_Past) (l279 : List Timpl_Past) (R1 : (List Timpl_Past) → Int → Option (List Timpl_Past)) (i283 : Int) (l734 : List Timpl_Entry) : Option (List Timpl_Past) :=
  (spec_l30Grew e714.Young_).bind fun y785 => if y785 then (spec_l30CopyEntries y718).bind fun y796 => (app y572.Young_ y796).bind fun l805 => spec_Follow_J3 y572 e714 l279 R1 i283 l734 l805 else spec_Follow_J3 y572 e714 l279 R1 i283 l734 y572.Young_

noncomputable def spec_Follow_L1 (p0 : List Timpl_Past) (p2 : List Timpl_Step) (p1 : Timpl_Ex) : Nat → (List Timpl_Past) → Int → Option (List Timpl_Past)
  | 0, _, _ => none
  | k1 + 1, l279, i283 =>
    if decide (i283 < (p0.length : Int)) then (idx p0 i283).bind fun e554 => (spec_l30CopyPast e554).bind fun y572 => if ((p0.length : Int) == (p2.length : Int)) then (idx p2 i283).bind fun e714 => (spec_l30CopyEntries [(Timpl_Entry.mk p1 e714.Weight_)]).bind fun y718 => (spec_l30Grew e714.Grow_).bind fun y812 => if y812 then (app y572.Tree_ y718).bind fun l814 => spec_Follow_J2 e714 y718 y572 l279 (spec_Follow_L1 p0 p2 p1 k1) i283 l814 else spec_Follow_J2 e714 y718 y572 l279 (spec_Follow_L1 p0 p2 p1 k1) i283 y572.Tree_ else spec_Follow_J1 l279 (spec_Follow_L1 p0 p2 p1 k1) i283 y572.Tree_ y572.Young_ y572.Bits_ else some l279

theorem spec_Follow_L1_ind (p0 : List Timpl_Past) (p2 : List Timpl_Step) (p1 : Timpl_Ex) {P : (List Timpl_Past) → Int → Option (List Timpl_Past) → Prop} (μ : (List Timpl_Past) → Int → Nat) (h : ∀ (l279 : List Timpl_Past) (i283 : Int) (R : (List Timpl_Past) → Int → Option (List Timpl_Past)), (∀ l279' i283', μ l279' i283' < μ l279 i283 → P l279' i283' (R l279' i283')) → P l279 i283 (if decide (i283 < (p0.length : Int)) then (idx p0 i283).bind fun e554 => (spec_l30CopyPast e554).bind fun y572 => if ((p0.length : Int) == (p2.length : Int)) then (idx p2 i283).bind fun e714 => (spec_l30CopyEntries [(Timpl_Entry.mk p1 e714.Weight_)]).bind fun y718 => (spec_l30Grew e714.Grow_).bind fun y812 => if y812 then (app y572.Tree_ y718).bind fun l814 => spec_Follow_J2 e714 y718 y572 l279 (R) i283 l814 else spec_Follow_J2 e714 y718 y572 l279 (R) i283 y572.Tree_ else spec_Follow_J1 l279 (R) i283 y572.Tree_ y572.Young_ y572.Bits_ else some l279)) : ∀ k l279 i283, μ l279 i283 < k → P l279 i283 (spec_Follow_L1 p0 p2 p1 k l279 i283) := by
  intro k
  induction k with
  | zero => intro l279 i283 hk; exact absurd hk (Nat.not_lt_zero _)
  | succ k ih => intro l279 i283 hk; unfold spec_Follow_L1; exact h l279 i283 (spec_Follow_L1 p0 p2 p1 k) (fun l279' i283' hs => ih l279' i283' (Nat.lt_of_lt_of_le hs (Nat.le_of_lt_succ hk)))

noncomputable def spec_Follow (p0 : List Timpl_Past) (p1 : Timpl_Ex) (p2 : List Timpl_Step) : Option (List Timpl_Past) :=
  spec_Follow_L1 p0 p2 p1 Fuel ([] : List Timpl_Past) 0


noncomputable def lib_slices_Clone___int_int_ (p0 : List Int) : Option (List Int) :=
  (app ([] : List Int) p0).bind fun l2 => some l2


noncomputable def impl_cloneEntries_L1 (p0 : List Timpl_Entry) : Nat → (List Timpl_Entry) → Int → Option (List Timpl_Entry)
  | 0, _, _ => none
  | k1 + 1, l39, i43 =>
    if decide (i43 < (p0.length : Int)) then (idx p0 i43).bind fun e82 => (lib_slices_Clone___int_int_ e82.Ex_.Bins_).bind fun y99 => (app l39 [(Timpl_Entry.mk (Timpl_Ex.mk y99 e82.Ex_.Class_) e82.Weight_)]).bind fun l110 => (impl_cloneEntries_L1 p0 k1) l110 (IntKind.i64.wrap (i43 + 1)) else some l39

theorem impl_cloneEntries_L1_ind (p0 : List Timpl_Entry) {P : (List Timpl_Entry) → Int → Option (List Timpl_Entry) → Prop} (μ : (List Timpl_Entry) → Int → Nat) (h : ∀ (l39 : List Timpl_Entry) (i43 : Int) (R : (List Timpl_Entry) → Int → Option (List Timpl_Entry)), (∀ l39' i43', μ l39' i43' < μ l39 i43 → P l39' i43' (R l39' i43')) → P l39 i43 (if decide (i43 < (p0.length : Int)) then (idx p0 i43).bind fun e82 => (lib_slices_Clone___int_int_ e82.Ex_.Bins_).bind fun y99 => (app l39 [(Timpl_Entry.mk (Timpl_Ex.mk y99 e82.Ex_.Class_) e82.Weight_)]).bind fun l110 => (R) l110 (IntKind.i64.wrap (i43 + 1)) else some l39)) : ∀ k l39 i43, μ l39 i43 < k → P l39 i43 (impl_cloneEntries_L1 p0 k l39 i43) := by
  intro k
  induction k with
  | zero => intro l39 i43 hk; exact absurd hk (Nat.not_lt_zero _)
  | succ k ih => intro l39 i43 hk; unfold impl_cloneEntries_L1; exact h l39 i43 (impl_cloneEntries_L1 p0 k) (fun l39' i43' hs => ih l39' i43' (Nat.lt_of_lt_of_le hs (Nat.le_of_lt_succ hk)))

noncomputable def impl_cloneEntries (p0 : List Timpl_Entry) : Option (List Timpl_Entry) :=
  impl_cloneEntries_L1 p0 Fuel ([] : List Timpl_Entry) 0


noncomputable def impl_learned (p0 : Int) : Option (Bool) :=
  some ((p0 == 0) || (p0 == 1))


noncomputable def impl_Follow_1 (p0 : Timpl_Ex) (p1 : Timpl_Step) : Option (List Timpl_Entry) :=
  (impl_cloneEntries [(Timpl_Entry.mk p0 p1.Weight_)]).bind fun y8 => some y8


noncomputable def impl_Follow_J1 (l346 : List Timpl_Past) (R1 : Int → (List Timpl_Past) → Option (List Timpl_Past)) (i345 : Int) (l876 : List Timpl_Entry) (l880 : List Timpl_Entry) (l884 : List Int) : Option (List Timpl_Past) :=
  (app l346 [(Timpl_Past.mk l876 l880 l884)]).bind fun l890 => R1 (IntKind.i64.wrap (i345 + 1)) l890

noncomputable def impl_Follow_J4 (e895 : Timpl_Step) (l346 : List Timpl_Past) (R1 : Int → (List Timpl_Past) → Option (List Timpl_Past)) (i345 : Int) (l923 : List Timpl_Entry) (l957 : List Int) (l963 : List Timpl_Entry) : Option (List Timpl_Past) :=
  if e895.Swapped_ then impl_Follow_J1 l346 R1 i345 l963 ([] : List Timpl_Entry) ([] : List Int) else impl_Follow_J1 l346 R1 i345 l923 l963 l957

noncomputable def impl_Follow_J3 (y741 : List Int) (e895 : Timpl_Step) (l346 : List Timpl_Past) (R1 : Int → (List Timpl_Past) → Option (List Timpl_Past)) (i345 : Int) (l923 : List Timpl_Entry) (l952 : List Timpl_Entry) : Option (List Timpl_Past) :=
  (app y741 ([e895.Bit_] : List Int)).bind fun l957 => if e895.Began_ then impl_Follow_J4 e895 l346 R1 i345 l923 l957 ([] : List Timpl_Entry) else impl_Follow_J4 e895 l346 R1 i345 l923 l957 l952

noncomputable def impl_Follow_J2 (e895 : Timpl_Step) (p1 : Timpl_Ex) (y732 : List Timpl_Entry) (y741 : List Int) (l346 : List Timpl_Past) (R1 : Int → (List Timpl_Past) → Option (List Timpl_Past)) (i345 : Int) (l923 : List Timpl_Entry) : Option (List Timpl_Past) :=
  (impl_learned e895.Young_).bind fun y967 => if y967 then (impl_Follow_1 p1 e895).bind fun y978 => (app y732 y978).bind fun l987 => impl_Follow_J3 y741 e895 l346 R1 i345 l923 l987 else impl_Follow_J3 y741 e895 l346 R1 i345 l923 y732

noncomputable def impl_Follow_L1 (p0 : List Timpl_Past) (p2 : List Timpl_Step) (p1 : Timpl_Ex) : Nat → Int → (List Timpl_Past) → Option (List Timpl_Past)
  | 0, _, _ => none
  | k1 + 1, i345, l346 =>
    if decide (i345 < (p0.length : Int)) then (idx p0 i345).bind fun e686 => (impl_cloneEntries e686.Tree_).bind fun y723 => (impl_cloneEntries e686.Young_).bind fun y732 => (lib_slices_Clone___int_int_ e686.Bits_).bind fun y741 => if ((p0.length : Int) == (p2.length : Int)) then (idx p2 i345).bind fun e895 => (impl_learned e895.Grow_).bind fun y992 => if y992 then (impl_Follow_1 p1 e895).bind fun y1003 => (app y723 y1003).bind fun l1012 => impl_Follow_J2 e895 p1 y732 y741 l346 (impl_Follow_L1 p0 p2 p1 k1) i345 l1012 else impl_Follow_J2 e895 p1 y732 y741 l346 (impl_Follow_L1 p0 p2 p1 k1) i345 y723 else impl_Follow_J1 l346 (impl_Follow_L1 p0 p2 p1 k1) i345 y723 y732 y741 else some l346

theorem impl_Follow_L1_ind (p0 : List Timpl_Past) (p2 : List Timpl_Step) (p1 : Timpl_Ex) {P : Int → (List Timpl_Past) → Option (List Timpl_Past) → Prop} (μ : Int → (List Timpl_Past) → Nat) (h : ∀ (i345 : Int) (l346 : List Timpl_Past) (R : Int → (List Timpl_Past) → Option (List Timpl_Past)), (∀ i345' l346', μ i345' l346' < μ i345 l346 → P i345' l346' (R i345' l346')) → P i345 l346 (if decide (i345 < (p0.length : Int)) then (idx p0 i345).bind fun e686 => (impl_cloneEntries e686.Tree_).bind fun y723 => (impl_cloneEntries e686.Young_).bind fun y732 => (lib_slices_Clone___int_int_ e686.Bits_).bind fun y741 => if ((p0.length : Int) == (p2.length : Int)) then (idx p2 i345).bind fun e895 => (impl_learned e895.Grow_).bind fun y992 => if y992 then (impl_Follow_1 p1 e895).bind fun y1003 => (app y723 y1003).bind fun l1012 => impl_Follow_J2 e895 p1 y732 y741 l346 (R) i345 l1012 else impl_Follow_J2 e895 p1 y732 y741 l346 (R) i345 y723 else impl_Follow_J1 l346 (R) i345 y723 y732 y741 else some l346)) : ∀ k i345 l346, μ i345 l346 < k → P i345 l346 (impl_Follow_L1 p0 p2 p1 k i345 l346) := by
  intro k
  induction k with
  | zero => intro i345 l346 hk; exact absurd hk (Nat.not_lt_zero _)
  | succ k ih => intro i345 l346 hk; unfold impl_Follow_L1; exact h i345 l346 (impl_Follow_L1 p0 p2 p1 k) (fun i345' l346' hs => ih i345' l346' (Nat.lt_of_lt_of_le hs (Nat.le_of_lt_succ hk)))

noncomputable def impl_Follow (p0 : List Timpl_Past) (p1 : Timpl_Ex) (p2 : List Timpl_Step) : Option (List Timpl_Past) :=
  impl_Follow_L1 p0 p2 p1 Fuel 0 ([] : List Timpl_Past)


noncomputable def laws_eqEx (p0 : Timpl_Ex) (p1 : Timpl_Ex) : Option (Bool) :=
  (laws_eqIntS p0.Bins_ p1.Bins_).bind fun y15 => if (!y15) then some false else if (p0.Class_ != p1.Class_) then some false else some true


noncomputable def laws_eqEntry (p0 : Timpl_Entry) (p1 : Timpl_Entry) : Option (Bool) :=
  (laws_eqEx p0.Ex_ p1.Ex_).bind fun y23 => if (!y23) then some false else if (p0.Weight_ != p1.Weight_) then some false else some true


noncomputable def laws_eqEntryS_L1 (p0 : List Timpl_Entry) (p1 : List Timpl_Entry) : Nat → Int → Option (Bool)
  | 0, _ => none
  | k1 + 1, i36 =>
    if decide (i36 < (p0.length : Int)) then (idx p0 i36).bind fun e72 => (idx p1 i36).bind fun e88 => (laws_eqEntry e72 e88).bind fun y104 => if (!y104) then some false else (laws_eqEntryS_L1 p0 p1 k1) (IntKind.i64.wrap (i36 + 1)) else some true

theorem laws_eqEntryS_L1_ind (p0 : List Timpl_Entry) (p1 : List Timpl_Entry) {P : Int → Option (Bool) → Prop} (μ : Int → Nat) (h : ∀ (i36 : Int) (R : Int → Option (Bool)), (∀ i36', μ i36' < μ i36 → P i36' (R i36')) → P i36 (if decide (i36 < (p0.length : Int)) then (idx p0 i36).bind fun e72 => (idx p1 i36).bind fun e88 => (laws_eqEntry e72 e88).bind fun y104 => if (!y104) then some false else (R) (IntKind.i64.wrap (i36 + 1)) else some true)) : ∀ k i36, μ i36 < k → P i36 (laws_eqEntryS_L1 p0 p1 k i36) := by
  intro k
  induction k with
  | zero => intro i36 hk; exact absurd hk (Nat.not_lt_zero _)
  | succ k ih => intro i36 hk; unfold laws_eqEntryS_L1; exact h i36 (laws_eqEntryS_L1 p0 p1 k) (fun i36' hs => ih i36' (Nat.lt_of_lt_of_le hs (Nat.le_of_lt_succ hk)))

noncomputable def laws_eqEntryS (p0 : List Timpl_Entry) (p1 : List Timpl_Entry) : Option (Bool) :=
  if ((p0.length : Int) != (p1.length : Int)) then some false else laws_eqEntryS_L1 p0 p1 Fuel 0


noncomputable def laws_eqPast (p0 : Timpl_Past) (p1 : Timpl_Past) : Option (Bool) :=
  (laws_eqEntryS p0.Tree_ p1.Tree_).bind fun y27 => if (!y27) then some false else (laws_eqEntryS p0.Young_ p1.Young_).bind fun y29 => if (!y29) then some false else (laws_eqIntS p0.Bits_ p1.Bits_).bind fun y31 => if (!y31) then some false else some true


noncomputable def laws_eqPastS_L1 (p0 : List Timpl_Past) (p1 : List Timpl_Past) : Nat → Int → Option (Bool)
  | 0, _ => none
  | k1 + 1, i40 =>
    if decide (i40 < (p0.length : Int)) then (idx p0 i40).bind fun e80 => (idx p1 i40).bind fun e98 => (laws_eqPast e80 e98).bind fun y116 => if (!y116) then some false else (laws_eqPastS_L1 p0 p1 k1) (IntKind.i64.wrap (i40 + 1)) else some true

theorem laws_eqPastS_L1_ind (p0 : List Timpl_Past) (p1 : List Timpl_Past) {P : Int → Option (Bool) → Prop} (μ : Int → Nat) (h : ∀ (i40 : Int) (R : Int → Option (Bool)), (∀ i40', μ i40' < μ i40 → P i40' (R i40')) → P i40 (if decide (i40 < (p0.length : Int)) then (idx p0 i40).bind fun e80 => (idx p1 i40).bind fun e98 => (laws_eqPast e80 e98).bind fun y116 => if (!y116) then some false else (R) (IntKind.i64.wrap (i40 + 1)) else some true)) : ∀ k i40, μ i40 < k → P i40 (laws_eqPastS_L1 p0 p1 k i40) := by
  intro k
  induction k with
  | zero => intro i40 hk; exact absurd hk (Nat.not_lt_zero _)
  | succ k ih => intro i40 hk; unfold laws_eqPastS_L1; exact h i40 (laws_eqPastS_L1 p0 p1 k) (fun i40' hs => ih i40' (Nat.lt_of_lt_of_le hs (Nat.le_of_lt_succ hk)))

noncomputable def laws_eqPastS (p0 : List Timpl_Past) (p1 : List Timpl_Past) : Option (Bool) :=
  if ((p0.length : Int) != (p1.length : Int)) then some false else laws_eqPastS_L1 p0 p1 Fuel 0


noncomputable def laws_eqStep (p0 : Timpl_Step) (p1 : Timpl_Step) : Option (Bool) :=
  if (p0.Said_ != p1.Said_) then some false else if (p0.Bit_ != p1.Bit_) then some false else if (p0.Weight_ != p1.Weight_) then some false else if (p0.Grow_ != p1.Grow_) then some false else if (p0.Young_ != p1.Young_) then some false else if (p0.Det_ != p1.Det_) then some false else if (p0.Began_ != p1.Began_) then some false else if (p0.Swapped_ != p1.Swapped_) then some false else some true


noncomputable def laws_eqStepS_L1 (p0 : List Timpl_Step) (p1 : List Timpl_Step) : Nat → Int → Option (Bool)
  | 0, _ => none
  | k1 + 1, i9 =>
    if decide (i9 < (p0.length : Int)) then (idx p0 i9).bind fun e18 => (idx p1 i9).bind fun e20 => (laws_eqStep e18 e20).bind fun y22 => if (!y22) then some false else (laws_eqStepS_L1 p0 p1 k1) (IntKind.i64.wrap (i9 + 1)) else some true

theorem laws_eqStepS_L1_ind (p0 : List Timpl_Step) (p1 : List Timpl_Step) {P : Int → Option (Bool) → Prop} (μ : Int → Nat) (h : ∀ (i9 : Int) (R : Int → Option (Bool)), (∀ i9', μ i9' < μ i9 → P i9' (R i9')) → P i9 (if decide (i9 < (p0.length : Int)) then (idx p0 i9).bind fun e18 => (idx p1 i9).bind fun e20 => (laws_eqStep e18 e20).bind fun y22 => if (!y22) then some false else (R) (IntKind.i64.wrap (i9 + 1)) else some true)) : ∀ k i9, μ i9 < k → P i9 (laws_eqStepS_L1 p0 p1 k i9) := by
  intro k
  induction k with
  | zero => intro i9 hk; exact absurd hk (Nat.not_lt_zero _)
  | succ k ih => intro i9 hk; unfold laws_eqStepS_L1; exact h i9 (laws_eqStepS_L1 p0 p1 k) (fun i9' hs => ih i9' (Nat.lt_of_lt_of_le hs (Nat.le_of_lt_succ hk)))

noncomputable def laws_eqStepS (p0 : List Timpl_Step) (p1 : List Timpl_Step) : Option (Bool) :=
  if ((p0.length : Int) != (p1.length : Int)) then some false else laws_eqStepS_L1 p0 p1 Fuel 0


noncomputable def laws_markIntS_L1 (p0 : List Int) : Nat → (List Int) → Int → Int → Option (Int × (List Int))
  | 0, _, _, _ => none
  | k1 + 1, l6, i7, i9 =>
    if decide (i9 < (p0.length : Int)) then (idx l6 i9).bind fun _ => (laws_markIntS_L1 p0 k1) (l6.set i9.toNat i7) (IntKind.i64.wrap (i7 + 1)) (IntKind.i64.wrap (i9 + 1)) else some (i7, l6)

theorem laws_markIntS_L1_ind (p0 : List Int) {P : (List Int) → Int → Int → Option (Int × (List Int)) → Prop} (μ : (List Int) → Int → Int → Nat) (h : ∀ (l6 : List Int) (i7 : Int) (i9 : Int) (R : (List Int) → Int → Int → Option (Int × (List Int))), (∀ l6' i7' i9', μ l6' i7' i9' < μ l6 i7 i9 → P l6' i7' i9' (R l6' i7' i9')) → P l6 i7 i9 (if decide (i9 < (p0.length : Int)) then (idx l6 i9).bind fun _ => (R) (l6.set i9.toNat i7) (IntKind.i64.wrap (i7 + 1)) (IntKind.i64.wrap (i9 + 1)) else some (i7, l6))) : ∀ k l6 i7 i9, μ l6 i7 i9 < k → P l6 i7 i9 (laws_markIntS_L1 p0 k l6 i7 i9) := by
  intro k
  induction k with
  | zero => intro l6 i7 i9 hk; exact absurd hk (Nat.not_lt_zero _)
  | succ k ih => intro l6 i7 i9 hk; unfold laws_markIntS_L1; exact h l6 i7 i9 (laws_markIntS_L1 p0 k) (fun l6' i7' i9' hs => ih l6' i7' i9' (Nat.lt_of_lt_of_le hs (Nat.le_of_lt_succ hk)))

noncomputable def laws_markIntS (p0 : List Int) (p1 : Int) : Option (Int × (List Int)) :=
  laws_markIntS_L1 p0 Fuel p0 p1 0


noncomputable def laws_markEntryS_L1 (p0 : List Timpl_Entry) : Nat → (List Timpl_Entry) → Int → Int → Option (Int × (List Timpl_Entry))
  | 0, _, _, _ => none
  | k1 + 1, l26, i28, i29 =>
    if decide (i29 < (p0.length : Int)) then (idx l26 i29).bind fun e55 => (laws_markIntS e55.Ex_.Bins_ i28).bind fun y68 => (laws_markEntryS_L1 p0 k1) (l26.set i29.toNat (Timpl_Entry.mk (Timpl_Ex.mk y68.2 y68.1) (IntKind.i64.wrap (y68.1 + 1)))) (IntKind.i64.wrap ((IntKind.i64.wrap (y68.1 + 1)) + 1)) (IntKind.i64.wrap (i29 + 1)) else some (i28, l26)

theorem laws_markEntryS_L1_ind (p0 : List Timpl_Entry) {P : (List Timpl_Entry) → Int → Int → Option (Int × (List Timpl_Entry)) → Prop} (μ : (List Timpl_Entry) → Int → Int → Nat) (h : ∀ (l26 : List Timpl_Entry) (i28 : Int) (i29 : Int) (R : (List Timpl_Entry) → Int → Int → Option (Int × (List Timpl_Entry))), (∀ l26' i28' i29', μ l26' i28' i29' < μ l26 i28 i29 → P l26' i28' i29' (R l26' i28' i29')) → P l26 i28 i29 (if decide (i29 < (p0.length : Int)) then (idx l26 i29).bind fun e55 => (laws_markIntS e55.Ex_.Bins_ i28).bind fun y68 => (R) (l26.set i29.toNat (Timpl_Entry.mk (Timpl_Ex.mk y68.2 y68.1) (IntKind.i64.wrap (y68.1 + 1)))) (IntKind.i64.wrap ((IntKind.i64.wrap (y68.1 + 1)) + 1)) (IntKind.i64.wrap (i29 + 1)) else some (i28, l26))) : ∀ k l26 i28 i29, μ l26 i28 i29 < k → P l26 i28 i29 (laws_markEntryS_L1 p0 k l26 i28 i29) := by
  intro k
  induction k with
  | zero => intro l26 i28 i29 hk; exact absurd hk (Nat.not_lt_zero _)
  | succ k ih => intro l26 i28 i29 hk; unfold laws_markEntryS_L1; exact h l26 i28 i29 (laws_markEntryS_L1 p0 k) (fun l26' i28' i29' hs => ih l26' i28' i29' (Nat.lt_of_lt_of_le hs (Nat.le_of_lt_succ hk)))

noncomputable def laws_markEntryS (p0 : List Timpl_Entry) (p1 : Int) : Option (Int × (List Timpl_Entry)) :=
  laws_markEntryS_L1 p0 Fuel p0 p1 0


noncomputable def laws_markPastS_L1 (p0 : List Timpl_Past) : Nat → (List Timpl_Past) → Int → Int → Option (Int × (List Timpl_Past))
  | 0, _, _, _ => none
  | k1 + 1, l44, i46, i47 =>
    if decide (i47 < (p0.length : Int)) then (idx l44 i47).bind fun e91 => (laws_markEntryS e91.Tree_ i46).bind fun y110 => (laws_markEntryS e91.Young_ y110.1).bind fun y116 => (laws_markIntS e91.Bits_ y116.1).bind fun y122 => (laws_markPastS_L1 p0 k1) (l44.set i47.toNat (Timpl_Past.mk y110.2 y116.2 y122.2)) y122.1 (IntKind.i64.wrap (i47 + 1)) else some (i46, l44)

theorem laws_markPastS_L1_ind (p0 : List Timpl_Past) {P : (List Timpl_Past) → Int → Int → Option (Int × (List Timpl_Past)) → Prop} (μ : (List Timpl_Past) → Int → Int → Nat) (h : ∀ (l44 : List Timpl_Past) (i46 : Int) (i47 : Int) (R : (List Timpl_Past) → Int → Int → Option (Int × (List Timpl_Past))), (∀ l44' i46' i47', μ l44' i46' i47' < μ l44 i46 i47 → P l44' i46' i47' (R l44' i46' i47')) → P l44 i46 i47 (if decide (i47 < (p0.length : Int)) then (idx l44 i47).bind fun e91 => (laws_markEntryS e91.Tree_ i46).bind fun y110 => (laws_markEntryS e91.Young_ y110.1).bind fun y116 => (laws_markIntS e91.Bits_ y116.1).bind fun y122 => (R) (l44.set i47.toNat (Timpl_Past.mk y110.2 y116.2 y122.2)) y122.1 (IntKind.i64.wrap (i47 + 1)) else some (i46, l44))) : ∀ k l44 i46 i47, μ l44 i46 i47 < k → P l44 i46 i47 (laws_markPastS_L1 p0 k l44 i46 i47) := by
  intro k
  induction k with
  | zero => intro l44 i46 i47 hk; exact absurd hk (Nat.not_lt_zero _)
  | succ k ih => intro l44 i46 i47 hk; unfold laws_markPastS_L1; exact h l44 i46 i47 (laws_markPastS_L1 p0 k) (fun l44' i46' i47' hs => ih l44' i46' i47' (Nat.lt_of_lt_of_le hs (Nat.le_of_lt_succ hk)))

noncomputable def laws_markPastS (p0 : List Timpl_Past) (p1 : Int) : Option (Int × (List Timpl_Past)) :=
  laws_markPastS_L1 p0 Fuel p0 p1 0


noncomputable def laws_markEx (p0 : Timpl_Ex) (p1 : Int) : Option (Int × Timpl_Ex) :=
  (laws_markIntS p0.Bins_ p1).bind fun y2 => some (y2.1, (Timpl_Ex.mk y2.2 p0.Class_))


noncomputable def laws_markStepS_L1 (p0 : List Timpl_Step) : Nat → (List Timpl_Step) → Int → Int → Option (Int × (List Timpl_Step))
  | 0, _, _, _ => none
  | k1 + 1, l15, i17, i18 =>
    if decide (i18 < (p0.length : Int)) then (idx l15 i18).bind fun _ => (laws_markStepS_L1 p0 k1) (l15.set i18.toNat (Timpl_Step.mk i17 (IntKind.i64.wrap (i17 + 1)) (IntKind.i64.wrap ((IntKind.i64.wrap (i17 + 1)) + 1)) (IntKind.i64.wrap ((IntKind.i64.wrap ((IntKind.i64.wrap (i17 + 1)) + 1)) + 1)) (IntKind.i64.wrap ((IntKind.i64.wrap ((IntKind.i64.wrap ((IntKind.i64.wrap (i17 + 1)) + 1)) + 1)) + 1)) (IntKind.i64.wrap ((IntKind.i64.wrap ((IntKind.i64.wrap ((IntKind.i64.wrap ((IntKind.i64.wrap (i17 + 1)) + 1)) + 1)) + 1)) + 1)) ((Int.tmod (IntKind.i64.wrap ((IntKind.i64.wrap ((IntKind.i64.wrap ((IntKind.i64.wrap ((IntKind.i64.wrap ((IntKind.i64.wrap (i17 + 1)) + 1)) + 1)) + 1)) + 1)) + 1)) 3) == 0) ((Int.tmod (IntKind.i64.wrap ((IntKind.i64.wrap ((IntKind.i64.wrap ((IntKind.i64.wrap ((IntKind.i64.wrap ((IntKind.i64.wrap ((IntKind.i64.wrap (i17 + 1)) + 1)) + 1)) + 1)) + 1)) + 1)) + 1)) 3) == 0))) (IntKind.i64.wrap ((IntKind.i64.wrap ((IntKind.i64.wrap ((IntKind.i64.wrap ((IntKind.i64.wrap ((IntKind.i64.wrap ((IntKind.i64.wrap ((IntKind.i64.wrap (i17 + 1)) + 1)) + 1)) + 1)) + 1)) + 1)) + 1)) + 1)) (IntKind.i64.wrap (i18 + 1)) else some (i17, l15)

theorem laws_markStepS_L1_ind (p0 : List Timpl_Step) {P : (List Timpl_Step) → Int → Int → Option (Int × (List Timpl_Step)) → Prop} (μ : (List Timpl_Step) → Int → Int → Nat) (h : ∀ (l15 : List Timpl_Step) (i17 : Int) (i18 : Int) (R : (List Timpl_Step) → Int → Int → Option (Int × (List Timpl_Step))), (∀ l15' i17' i18', μ l15' i17' i18' < μ l15 i17 i18 → P l15' i17' i18' (R l15' i17' i18')) → P l15 i17 i18 (if decide (i18 < (p0.length : Int)) then (idx l15 i18).bind fun _ => (R) (l15.set i18.toNat (Timpl_Step.mk i17 (IntKind.i64.wrap (i17 + 1)) (IntKind.i64.wrap ((IntKind.i64.wrap (i17 + 1)) + 1)) (IntKind.i64.wrap ((IntKind.i64.wrap ((IntKind.i64.wrap (i17 + 1)) + 1)) + 1)) (IntKind.i64.wrap ((IntKind.i64.wrap ((IntKind.i64.wrap ((IntKind.i64.wrap (i17 + 1)) + 1)) + 1)) + 1)) (IntKind.i64.wrap ((IntKind.i64.wrap ((IntKind.i64.wrap ((IntKind.i64.wrap ((IntKind.i64.wrap (i17 + 1)) + 1)) + 1)) + 1)) + 1)) ((Int.tmod (IntKind.i64.wrap ((IntKind.i64.wrap ((IntKind.i64.wrap ((IntKind.i64.wrap ((IntKind.i64.wrap ((IntKind.i64.wrap (i17 + 1)) + 1)) + 1)) + 1)) + 1)) + 1)) 3) == 0) ((Int.tmod (IntKind.i64.wrap ((IntKind.i64.wrap ((IntKind.i64.wrap ((IntKind.i64.wrap ((IntKind.i64.wrap ((IntKind.i64.wrap ((IntKind.i64.wrap (i17 + 1)) + 1)) + 1)) + 1)) + 1)) + 1)) + 1)) 3) == 0))) (IntKind.i64.wrap ((IntKind.i64.wrap ((IntKind.i64.wrap ((IntKind.i64.wrap ((IntKind.i64.wrap ((IntKind.i64.wrap ((IntKind.i64.wrap ((IntKind.i64.wrap (i17 + 1)) + 1)) + 1)) + 1)) + 1)) + 1)) + 1)) + 1)) (IntKind.i64.wrap (i18 + 1)) else some (i17, l15))) : ∀ k l15 i17 i18, μ l15 i17 i18 < k → P l15 i17 i18 (laws_markStepS_L1 p0 k l15 i17 i18) := by
  intro k
  induction k with
  | zero => intro l15 i17 i18 hk; exact absurd hk (Nat.not_lt_zero _)
  | succ k ih => intro l15 i17 i18 hk; unfold laws_markStepS_L1; exact h l15 i17 i18 (laws_markStepS_L1 p0 k) (fun l15' i17' i18' hs => ih l15' i17' i18' (Nat.lt_of_lt_of_le hs (Nat.le_of_lt_succ hk)))

noncomputable def laws_markStepS (p0 : List Timpl_Step) (p1 : Int) : Option (Int × (List Timpl_Step)) :=
  laws_markStepS_L1 p0 Fuel p0 p1 0


noncomputable def laws_heldIntS_L1 (p0 : List Int) : Nat → Int → Int → Option (Int)
  | 0, _, _ => none
  | k1 + 1, i5, i6 =>
    if decide (i6 < (p0.length : Int)) then (idx p0 i6).bind fun e11 => if (e11 != i5) then some (-1) else (laws_heldIntS_L1 p0 k1) (IntKind.i64.wrap (i5 + 1)) (IntKind.i64.wrap (i6 + 1)) else some i5

theorem laws_heldIntS_L1_ind (p0 : List Int) {P : Int → Int → Option (Int) → Prop} (μ : Int → Int → Nat) (h : ∀ (i5 : Int) (i6 : Int) (R : Int → Int → Option (Int)), (∀ i5' i6', μ i5' i6' < μ i5 i6 → P i5' i6' (R i5' i6')) → P i5 i6 (if decide (i6 < (p0.length : Int)) then (idx p0 i6).bind fun e11 => if (e11 != i5) then some (-1) else (R) (IntKind.i64.wrap (i5 + 1)) (IntKind.i64.wrap (i6 + 1)) else some i5)) : ∀ k i5 i6, μ i5 i6 < k → P i5 i6 (laws_heldIntS_L1 p0 k i5 i6) := by
  intro k
  induction k with
  | zero => intro i5 i6 hk; exact absurd hk (Nat.not_lt_zero _)
  | succ k ih => intro i5 i6 hk; unfold laws_heldIntS_L1; exact h i5 i6 (laws_heldIntS_L1 p0 k) (fun i5' i6' hs => ih i5' i6' (Nat.lt_of_lt_of_le hs (Nat.le_of_lt_succ hk)))

noncomputable def laws_heldIntS (p0 : List Int) (p1 : Int) : Option (Int) :=
  laws_heldIntS_L1 p0 Fuel p1 0


noncomputable def laws_heldEntryS_L1 (p0 : List Timpl_Entry) : Nat → Int → Int → Option (Int)
  | 0, _, _ => none
  | k1 + 1, i53, i54 =>
    if decide (i54 < (p0.length : Int)) then (idx p0 i54).bind fun e107 => (laws_heldIntS e107.Ex_.Bins_ i53).bind fun y123 => if decide (y123 < 0) then some (-1) else (idx p0 i54).bind fun e125 => if (e125.Ex_.Class_ != y123) then some (-1) else (idx p0 i54).bind fun e141 => if (e141.Weight_ != (IntKind.i64.wrap (y123 + 1))) then some (-1) else (laws_heldEntryS_L1 p0 k1) (IntKind.i64.wrap ((IntKind.i64.wrap (y123 + 1)) + 1)) (IntKind.i64.wrap (i54 + 1)) else some i53

theorem laws_heldEntryS_L1_ind (p0 : List Timpl_Entry) {P : Int → Int → Option (Int) → Prop} (μ : Int → Int → Nat) (h : ∀ (i53 : Int) (i54 : Int) (R : Int → Int → Option (Int)), (∀ i53' i54', μ i53' i54' < μ i53 i54 → P i53' i54' (R i53' i54')) → P i53 i54 (if decide (i54 < (p0.length : Int)) then (idx p0 i54).bind fun e107 => (laws_heldIntS e107.Ex_.Bins_ i53).bind fun y123 => if decide (y123 < 0) then some (-1) else (idx p0 i54).bind fun e125 => if (e125.Ex_.Class_ != y123) then some (-1) else (idx p0 i54).bind fun e141 => if (e141.Weight_ != (IntKind.i64.wrap (y123 + 1))) then some (-1) else (R) (IntKind.i64.wrap ((IntKind.i64.wrap (y123 + 1)) + 1)) (IntKind.i64.wrap (i54 + 1)) else some i53)) : ∀ k i53 i54, μ i53 i54 < k → P i53 i54 (laws_heldEntryS_L1 p0 k i53 i54) := by
  intro k
  induction k with
  | zero => intro i53 i54 hk; exact absurd hk (Nat.not_lt_zero _)
  | succ k ih => intro i53 i54 hk; unfold laws_heldEntryS_L1; exact h i53 i54 (laws_heldEntryS_L1 p0 k) (fun i53' i54' hs => ih i53' i54' (Nat.lt_of_lt_of_le hs (Nat.le_of_lt_succ hk)))

noncomputable def laws_heldEntryS (p0 : List Timpl_Entry) (p1 : Int) : Option (Int) :=
  laws_heldEntryS_L1 p0 Fuel p1 0


noncomputable def laws_heldPastS_L1 (p0 : List Timpl_Past) : Nat → Int → Int → Option (Int)
  | 0, _, _ => none
  | k1 + 1, i63, i65 =>
    if decide (i65 < (p0.length : Int)) then (idx p0 i65).bind fun e128 => (laws_heldEntryS e128.Tree_ i63).bind fun y146 => if decide (y146 < 0) then some (-1) else (idx p0 i65).bind fun e148 => (laws_heldEntryS e148.Young_ y146).bind fun y166 => if decide (y166 < 0) then some (-1) else (idx p0 i65).bind fun e168 => (laws_heldIntS e168.Bits_ y166).bind fun y186 => if decide (y186 < 0) then some (-1) else (laws_heldPastS_L1 p0 k1) y186 (IntKind.i64.wrap (i65 + 1)) else some i63

theorem laws_heldPastS_L1_ind (p0 : List Timpl_Past) {P : Int → Int → Option (Int) → Prop} (μ : Int → Int → Nat) (h : ∀ (i63 : Int) (i65 : Int) (R : Int → Int → Option (Int)), (∀ i63' i65', μ i63' i65' < μ i63 i65 → P i63' i65' (R i63' i65')) → P i63 i65 (if decide (i65 < (p0.length : Int)) then (idx p0 i65).bind fun e128 => (laws_heldEntryS e128.Tree_ i63).bind fun y146 => if decide (y146 < 0) then some (-1) else (idx p0 i65).bind fun e148 => (laws_heldEntryS e148.Young_ y146).bind fun y166 => if decide (y166 < 0) then some (-1) else (idx p0 i65).bind fun e168 => (laws_heldIntS e168.Bits_ y166).bind fun y186 => if decide (y186 < 0) then some (-1) else (R) y186 (IntKind.i64.wrap (i65 + 1)) else some i63)) : ∀ k i63 i65, μ i63 i65 < k → P i63 i65 (laws_heldPastS_L1 p0 k i63 i65) := by
  intro k
  induction k with
  | zero => intro i63 i65 hk; exact absurd hk (Nat.not_lt_zero _)
  | succ k ih => intro i63 i65 hk; unfold laws_heldPastS_L1; exact h i63 i65 (laws_heldPastS_L1 p0 k) (fun i63' i65' hs => ih i63' i65' (Nat.lt_of_lt_of_le hs (Nat.le_of_lt_succ hk)))

noncomputable def laws_heldPastS (p0 : List Timpl_Past) (p1 : Int) : Option (Int) :=
  laws_heldPastS_L1 p0 Fuel p1 0


noncomputable def laws_FnExactFollow (p0 : List Tlaws_Past) (p1 : Tlaws_Ex) (p2 : List Tlaws_Step) : Option (Bool) :=
  (laws_szPastS p0 1048576).bind fun y8 => if decide (y8 < 0) then some true else (laws_szEx p1 y8).bind fun y10 => if decide (y10 < 0) then some true else (laws_szStepS p2 y10).bind fun y12 => if decide (y12 < 0) then some true else (laws_toPastS p0).bind fun y32 => (laws_toEx p1).bind fun y41 => (laws_toStepS p2).bind fun y50 => (spec_Follow y32 y41 y50).bind fun y59 => (laws_toPastS p0).bind fun y68 => (laws_toEx p1).bind fun y77 => (laws_toStepS p2).bind fun y87 => (impl_Follow y68 y77 y87).bind fun y96 => (laws_eqPastS y96 y59).bind fun y105 => if (!y105) then some false else (laws_toPastS p0).bind fun y107 => (laws_eqPastS y68 y107).bind fun y116 => if (!y116) then some false else (laws_toEx p1).bind fun y127 => (laws_eqEx y77 y127).bind fun y136 => if (!y136) then some false else (laws_toStepS p2).bind fun y138 => (laws_eqStepS y87 y138).bind fun y147 => if (!y147) then some false else (laws_markPastS y68 1).bind fun y149 => (laws_markEx y77 y149.1).bind fun y155 => (laws_markStepS y87 y155.1).bind fun y161 => (if decide (y161.1 < 0) then some true else (laws_eqPastS y96 y59).bind fun y168 => some (!y168)).bind fun u167 => if u167 then some false else (laws_markPastS y96 1).bind fun y172 => (laws_heldPastS y172.2 1).bind fun y178 => if decide (y178 < 0) then some false else if (y178 != y172.1) then some false else (laws_toPastS p0).bind fun y198 => (laws_toEx p1).bind fun y207 => (laws_toStepS p2).bind fun y216 => (impl_Follow y198 y207 y216).bind fun y225 => (laws_eqPastS y225 y59).bind fun y234 => if (!y234) then some false else (laws_heldPastS y172.2 1).bind fun y236 => if decide (y236 < 0) then some false else if (y236 != y172.1) then some false else some true


noncomputable def laws_szByteS (p0 : List Int) (p1 : Int) : Option (Int) :=
  if decide ((IntKind.i64.wrap (p1 - (p0.length : Int))) < 0) then some (-1) else some (IntKind.i64.wrap (p1 - (p0.length : Int)))


noncomputable def laws_szReply (p0 : Tlaws_Reply) (p1 : Int) : Option (Int) :=
  (laws_szIntS p0.Votes_ p1).bind fun y20 => if decide (y20 < 0) then some (-1) else (laws_szByteS p0.Bytes_ y20).bind fun y22 => if decide (y22 < 0) then some (-1) else (laws_szStepS p0.Steps_ y22).bind fun y24 => if decide (y24 < 0) then some (-1) else some y24


noncomputable def laws_toByteS_L1 (p0 : List Int) : Nat → (List Int) → Int → Option (List Int)
  | 0, _, _ => none
  | k1 + 1, l10, i11 =>
    if decide (i11 < (p0.length : Int)) then (idx p0 i11).bind fun e18 => (idx l10 i11).bind fun _ => (laws_toByteS_L1 p0 k1) (l10.set i11.toNat e18) (IntKind.i64.wrap (i11 + 1)) else some l10

theorem laws_toByteS_L1_ind (p0 : List Int) {P : (List Int) → Int → Option (List Int) → Prop} (μ : (List Int) → Int → Nat) (h : ∀ (l10 : List Int) (i11 : Int) (R : (List Int) → Int → Option (List Int)), (∀ l10' i11', μ l10' i11' < μ l10 i11 → P l10' i11' (R l10' i11')) → P l10 i11 (if decide (i11 < (p0.length : Int)) then (idx p0 i11).bind fun e18 => (idx l10 i11).bind fun _ => (R) (l10.set i11.toNat e18) (IntKind.i64.wrap (i11 + 1)) else some l10)) : ∀ k l10 i11, μ l10 i11 < k → P l10 i11 (laws_toByteS_L1 p0 k l10 i11) := by
  intro k
  induction k with
  | zero => intro l10 i11 hk; exact absurd hk (Nat.not_lt_zero _)
  | succ k ih => intro l10 i11 hk; unfold laws_toByteS_L1; exact h l10 i11 (laws_toByteS_L1 p0 k) (fun l10' i11' hs => ih l10' i11' (Nat.lt_of_lt_of_le hs (Nat.le_of_lt_succ hk)))

noncomputable def laws_toByteS (p0 : List Int) : Option (List Int) :=
  (mk (0 : Int) (p0.length : Int)).bind fun l1 => laws_toByteS_L1 p0 Fuel l1 0


noncomputable def laws_toReply (p0 : Tlaws_Reply) : Option (Timpl_Reply) :=
  (laws_toIntS p0.Votes_).bind fun y22 => (laws_toByteS p0.Bytes_).bind fun y31 => (laws_toStepS p0.Steps_).bind fun y40 => some (Timpl_Reply.mk p0.Code_ p0.At_ p0.Says_ y22 y31 y40)


noncomputable def spec_l5SameInts_L1 (p0 : List Int) (p1 : List Int) : Nat → Int → Option (Bool)
  | 0, _ => none
  | k1 + 1, i6 =>
    if decide (i6 < (p0.length : Int)) then (idx p0 i6).bind fun e12 => (idx p1 i6).bind fun e14 => if (e12 != e14) then some false else (spec_l5SameInts_L1 p0 p1 k1) (IntKind.i64.wrap (i6 + 1)) else some true

theorem spec_l5SameInts_L1_ind (p0 : List Int) (p1 : List Int) {P : Int → Option (Bool) → Prop} (μ : Int → Nat) (h : ∀ (i6 : Int) (R : Int → Option (Bool)), (∀ i6', μ i6' < μ i6 → P i6' (R i6')) → P i6 (if decide (i6 < (p0.length : Int)) then (idx p0 i6).bind fun e12 => (idx p1 i6).bind fun e14 => if (e12 != e14) then some false else (R) (IntKind.i64.wrap (i6 + 1)) else some true)) : ∀ k i6, μ i6 < k → P i6 (spec_l5SameInts_L1 p0 p1 k i6) := by
  intro k
  induction k with
  | zero => intro i6 hk; exact absurd hk (Nat.not_lt_zero _)
  | succ k ih => intro i6 hk; unfold spec_l5SameInts_L1; exact h i6 (spec_l5SameInts_L1 p0 p1 k) (fun i6' hs => ih i6' (Nat.lt_of_lt_of_le hs (Nat.le_of_lt_succ hk)))

noncomputable def spec_l5SameInts (p0 : List Int) (p1 : List Int) : Option (Bool) :=
  if ((p0.length : Int) != (p1.length : Int)) then some false else spec_l5SameInts_L1 p0 p1 Fuel 0


noncomputable def spec_ReplySame_L1 (p0 : Timpl_Reply) (p1 : Timpl_Reply) : Nat → Int → Option (Bool)
  | 0, _ => none
  | k1 + 1, i57 =>
    if decide (i57 < (p0.Steps_.length : Int)) then (idx p0.Steps_ i57).bind fun e63 => (idx p1.Steps_ i57).bind fun e65 => if (!(e63.Said_ == e65.Said_ && (e63.Bit_ == e65.Bit_ && (e63.Weight_ == e65.Weight_ && (e63.Grow_ == e65.Grow_ && (e63.Young_ == e65.Young_ && (e63.Det_ == e65.Det_ && (e63.Began_ == e65.Began_ && (e63.Swapped_ == e65.Swapped_ && true))))))))) then some false else (spec_ReplySame_L1 p0 p1 k1) (IntKind.i64.wrap (i57 + 1)) else some true

theorem spec_ReplySame_L1_ind (p0 : Timpl_Reply) (p1 : Timpl_Reply) {P : Int → Option (Bool) → Prop} (μ : Int → Nat) (h : ∀ (i57 : Int) (R : Int → Option (Bool)), (∀ i57', μ i57' < μ i57 → P i57' (R i57')) → P i57 (if decide (i57 < (p0.Steps_.length : Int)) then (idx p0.Steps_ i57).bind fun e63 => (idx p1.Steps_ i57).bind fun e65 => if (!(e63.Said_ == e65.Said_ && (e63.Bit_ == e65.Bit_ && (e63.Weight_ == e65.Weight_ && (e63.Grow_ == e65.Grow_ && (e63.Young_ == e65.Young_ && (e63.Det_ == e65.Det_ && (e63.Began_ == e65.Began_ && (e63.Swapped_ == e65.Swapped_ && true))))))))) then some false else (R) (IntKind.i64.wrap (i57 + 1)) else some true)) : ∀ k i57, μ i57 < k → P i57 (spec_ReplySame_L1 p0 p1 k i57) := by
  intro k
  induction k with
  | zero => intro i57 hk; exact absurd hk (Nat.not_lt_zero _)
  | succ k ih => intro i57 hk; unfold spec_ReplySame_L1; exact h i57 (spec_ReplySame_L1 p0 p1 k) (fun i57' hs => ih i57' (Nat.lt_of_lt_of_le hs (Nat.le_of_lt_succ hk)))

noncomputable def spec_ReplySame (p0 : Timpl_Reply) (p1 : Timpl_Reply) : Option (Bool) :=
  (if (((p0.Code_ != p1.Code_) || (p0.At_ != p1.At_)) || (p0.Says_ != p1.Says_)) then some true else (spec_l5SameInts p0.Votes_ p1.Votes_).bind fun y44 => some (!y44)).bind fun u43 => if ((u43 || (!((bytesOf p0.Bytes_) == (bytesOf p1.Bytes_)))) || ((p0.Steps_.length : Int) != (p1.Steps_.length : Int))) then some false else spec_ReplySame_L1 p0 p1 Fuel 0


noncomputable def lib_slices_Equal___int_int__L1 (p0 : List Int) (p1 : List Int) : Nat → Int → Option (Bool)
  | 0, _ => none
  | k1 + 1, i6 =>
    if decide (i6 < (p0.length : Int)) then (idx p0 i6).bind fun e12 => (idx p1 i6).bind fun e14 => if (e12 != e14) then some false else (lib_slices_Equal___int_int__L1 p0 p1 k1) (IntKind.i64.wrap (i6 + 1)) else some true

theorem lib_slices_Equal___int_int__L1_ind (p0 : List Int) (p1 : List Int) {P : Int → Option (Bool) → Prop} (μ : Int → Nat) (h : ∀ (i6 : Int) (R : Int → Option (Bool)), (∀ i6', μ i6' < μ i6 → P i6' (R i6')) → P i6 (if decide (i6 < (p0.length : Int)) then (idx p0 i6).bind fun e12 => (idx p1 i6).bind fun e14 => if (e12 != e14) then some false else (R) (IntKind.i64.wrap (i6 + 1)) else some true)) : ∀ k i6, μ i6 < k → P i6 (lib_slices_Equal___int_int__L1 p0 p1 k i6) := by
  intro k
  induction k with
  | zero => intro i6 hk; exact absurd hk (Nat.not_lt_zero _)
  | succ k ih => intro i6 hk; unfold lib_slices_Equal___int_int__L1; exact h i6 (lib_slices_Equal___int_int__L1 p0 p1 k) (fun i6' hs => ih i6' (Nat.lt_of_lt_of_le hs (Nat.le_of_lt_succ hk)))

noncomputable def lib_slices_Equal___int_int_ (p0 : List Int) (p1 : List Int) : Option (Bool) :=
  if ((p0.length : Int) != (p1.length : Int)) then some false else lib_slices_Equal___int_int__L1 p0 p1 Fuel 0


noncomputable def lib_bytes_Equal (p0 : List Int) (p1 : List Int) : Option (Bool) :=
  some ((bytesOf p0) == (bytesOf p1))


noncomputable def lib_slices_Equal___impl_Step_impl_Step__L1 (p0 : List Timpl_Step) (p1 : List Timpl_Step) : Nat → Int → Option (Bool)
  | 0, _ => none
  | k1 + 1, i6 =>
    if decide (i6 < (p0.length : Int)) then (idx p0 i6).bind fun e12 => (idx p1 i6).bind fun e14 => if (!(e12.Said_ == e14.Said_ && (e12.Bit_ == e14.Bit_ && (e12.Weight_ == e14.Weight_ && (e12.Grow_ == e14.Grow_ && (e12.Young_ == e14.Young_ && (e12.Det_ == e14.Det_ && (e12.Began_ == e14.Began_ && (e12.Swapped_ == e14.Swapped_ && true))))))))) then some false else (lib_slices_Equal___impl_Step_impl_Step__L1 p0 p1 k1) (IntKind.i64.wrap (i6 + 1)) else some true

theorem lib_slices_Equal___impl_Step_impl_Step__L1_ind (p0 : List Timpl_Step) (p1 : List Timpl_Step) {P : Int → Option (Bool) → Prop} (μ : Int → Nat) (h : ∀ (i6 : Int) (R : Int → Option (Bool)), (∀ i6', μ i6' < μ i6 → P i6' (R i6')) → P i6 (if decide (i6 < (p0.length : Int)) then (idx p0 i6).bind fun e12 => (idx p1 i6).bind fun e14 => if (!(e12.Said_ == e14.Said_ && (e12.Bit_ == e14.Bit_ && (e12.Weight_ == e14.Weight_ && (e12.Grow_ == e14.Grow_ && (e12.Young_ == e14.Young_ && (e12.Det_ == e14.Det_ && (e12.Began_ == e14.Began_ && (e12.Swapped_ == e14.Swapped_ && true))))))))) then some false else (R) (IntKind.i64.wrap (i6 + 1)) else some true)) : ∀ k i6, μ i6 < k → P i6 (lib_slices_Equal___impl_Step_impl_Step__L1 p0 p1 k i6) := by
  intro k
  induction k with
  | zero => intro i6 hk; exact absurd hk (Nat.not_lt_zero _)
  | succ k ih => intro i6 hk; unfold lib_slices_Equal___impl_Step_impl_Step__L1; exact h i6 (lib_slices_Equal___impl_Step_impl_Step__L1 p0 p1 k) (fun i6' hs => ih i6' (Nat.lt_of_lt_of_le hs (Nat.le_of_lt_succ hk)))

noncomputable def lib_slices_Equal___impl_Step_impl_Step_ (p0 : List Timpl_Step) (p1 : List Timpl_Step) : Option (Bool) :=
  if ((p0.length : Int) != (p1.length : Int)) then some false else lib_slices_Equal___impl_Step_impl_Step__L1 p0 p1 Fuel 0


noncomputable def impl_ReplySame (p0 : Timpl_Reply) (p1 : Timpl_Reply) : Option (Bool) :=
  (if (((p0.Code_ == p1.Code_) && (p0.At_ == p1.At_)) && (p0.Says_ == p1.Says_)) then (lib_slices_Equal___int_int_ p0.Votes_ p1.Votes_).bind fun y44 => some y44 else some false).bind fun u43 => (if u43 then (lib_bytes_Equal p0.Bytes_ p1.Bytes_).bind fun y49 => some y49 else some false).bind fun u48 => (if u48 then (lib_slices_Equal___impl_Step_impl_Step_ p0.Steps_ p1.Steps_).bind fun y54 => some y54 else some false).bind fun u53 => some u53


noncomputable def laws_eqByteS_L1 (p0 : List Int) (p1 : List Int) : Nat → Int → Option (Bool)
  | 0, _ => none
  | k1 + 1, i6 =>
    if decide (i6 < (p0.length : Int)) then (idx p0 i6).bind fun e12 => (idx p1 i6).bind fun e14 => if (e12 != e14) then some false else (laws_eqByteS_L1 p0 p1 k1) (IntKind.i64.wrap (i6 + 1)) else some true

theorem laws_eqByteS_L1_ind (p0 : List Int) (p1 : List Int) {P : Int → Option (Bool) → Prop} (μ : Int → Nat) (h : ∀ (i6 : Int) (R : Int → Option (Bool)), (∀ i6', μ i6' < μ i6 → P i6' (R i6')) → P i6 (if decide (i6 < (p0.length : Int)) then (idx p0 i6).bind fun e12 => (idx p1 i6).bind fun e14 => if (e12 != e14) then some false else (R) (IntKind.i64.wrap (i6 + 1)) else some true)) : ∀ k i6, μ i6 < k → P i6 (laws_eqByteS_L1 p0 p1 k i6) := by
  intro k
  induction k with
  | zero => intro i6 hk; exact absurd hk (Nat.not_lt_zero _)
  | succ k ih => intro i6 hk; unfold laws_eqByteS_L1; exact h i6 (laws_eqByteS_L1 p0 p1 k) (fun i6' hs => ih i6' (Nat.lt_of_lt_of_le hs (Nat.le_of_lt_succ hk)))

noncomputable def laws_eqByteS (p0 : List Int) (p1 : List Int) : Option (Bool) :=
  if ((p0.length : Int) != (p1.length : Int)) then some false else laws_eqByteS_L1 p0 p1 Fuel 0


noncomputable def laws_eqReply (p0 : Timpl_Reply) (p1 : Timpl_Reply) : Option (Bool) :=
  if (p0.Code_ != p1.Code_) then some false else if (p0.At_ != p1.At_) then some false else if (p0.Says_ != p1.Says_) then some false else (laws_eqIntS p0.Votes_ p1.Votes_).bind fun y39 => if (!y39) then some false else (laws_eqByteS p0.Bytes_ p1.Bytes_).bind fun y41 => if (!y41) then some false else (laws_eqStepS p0.Steps_ p1.Steps_).bind fun y43 => if (!y43) then some false else some true


noncomputable def laws_FnExactReplySame (p0 : Tlaws_Reply) (p1 : Tlaws_Reply) : Option (Bool) :=
  (laws_szReply p0 1048576).bind fun y39 => if decide (y39 < 0) then some true else (laws_szReply p1 y39).bind fun y41 => if decide (y41 < 0) then some true else (laws_toReply p0).bind fun y60 => (laws_toReply p1).bind fun y77 => (spec_ReplySame y60 y77).bind fun y94 => (laws_toReply p0).bind fun y96 => (laws_toReply p1).bind fun y114 => (impl_ReplySame y96 y114).bind fun y132 => if (y132 != y94) then some false else (laws_toReply p0).bind fun y151 => (laws_eqReply y96 y151).bind fun y168 => if (!y168) then some false else (laws_toReply p1).bind fun y187 => (laws_eqReply y114 y187).bind fun y204 => if (!y204) then some false else some true


noncomputable def spec_ExOk_L1 (p1 : Timpl_Ex) (p0 : Timpl_Schema) : Nat → Int → Option (Bool)
  | 0, _ => none
  | k1 + 1, i49 =>
    if decide (i49 < (p1.Bins_.length : Int)) then (idx p1.Bins_ i49).bind fun e73 => (idx p0.Attrs_ i49).bind fun e75 => (spec_Bins e75).bind fun y91 => (spec_l1In e73 (-1) (IntKind.i64.wrap (y91 - 1))).bind fun y93 => if (!y93) then some false else (spec_ExOk_L1 p1 p0 k1) (IntKind.i64.wrap (i49 + 1)) else some true

theorem spec_ExOk_L1_ind (p1 : Timpl_Ex) (p0 : Timpl_Schema) {P : Int → Option (Bool) → Prop} (μ : Int → Nat) (h : ∀ (i49 : Int) (R : Int → Option (Bool)), (∀ i49', μ i49' < μ i49 → P i49' (R i49')) → P i49 (if decide (i49 < (p1.Bins_.length : Int)) then (idx p1.Bins_ i49).bind fun e73 => (idx p0.Attrs_ i49).bind fun e75 => (spec_Bins e75).bind fun y91 => (spec_l1In e73 (-1) (IntKind.i64.wrap (y91 - 1))).bind fun y93 => if (!y93) then some false else (R) (IntKind.i64.wrap (i49 + 1)) else some true)) : ∀ k i49, μ i49 < k → P i49 (spec_ExOk_L1 p1 p0 k i49) := by
  intro k
  induction k with
  | zero => intro i49 hk; exact absurd hk (Nat.not_lt_zero _)
  | succ k ih => intro i49 hk; unfold spec_ExOk_L1; exact h i49 (spec_ExOk_L1 p1 p0 k) (fun i49' hs => ih i49' (Nat.lt_of_lt_of_le hs (Nat.le_of_lt_succ hk)))

noncomputable def spec_ExOk (p0 : Timpl_Schema) (p1 : Timpl_Ex) : Option (Bool) :=
  (spec_SchemaOk p0).bind fun y17 => (if ((!y17) || ((p1.Bins_.length : Int) != (p0.Attrs_.length : Int))) then some true else (spec_l1In p1.Class_ (-1) (IntKind.i64.wrap ((p0.Classes_.length : Int) - 1))).bind fun y22 => some (!y22)).bind fun u21 => if u21 then some false else spec_ExOk_L1 p1 p0 Fuel 0


noncomputable def spec_EntriesOk_L1 (p1 : List Timpl_Entry) (p0 : Timpl_Schema) : Nat → Int → Option (Bool)
  | 0, _ => none
  | k1 + 1, i71 =>
    if decide (i71 < (p1.length : Int)) then (idx p1 i71).bind fun e131 => (spec_ExOk p0 e131.Ex_).bind fun y147 => (if (!y147) then some true else (idx p1 i71).bind fun e150 => some (decide (e150.Ex_.Class_ < 0))).bind fun u149 => (if u149 then some true else (idx p1 i71).bind fun e169 => (spec_l1In e169.Weight_ 1 7).bind fun y185 => some (!y185)).bind fun u168 => if u168 then some false else (spec_EntriesOk_L1 p1 p0 k1) (IntKind.i64.wrap (i71 + 1)) else some true

theorem spec_EntriesOk_L1_ind (p1 : List Timpl_Entry) (p0 : Timpl_Schema) {P : Int → Option (Bool) → Prop} (μ : Int → Nat) (h : ∀ (i71 : Int) (R : Int → Option (Bool)), (∀ i71', μ i71' < μ i71 → P i71' (R i71')) → P i71 (if decide (i71 < (p1.length : Int)) then (idx p1 i71).bind fun e131 => (spec_ExOk p0 e131.Ex_).bind fun y147 => (if (!y147) then some true else (idx p1 i71).bind fun e150 => some (decide (e150.Ex_.Class_ < 0))).bind fun u149 => (if u149 then some true else (idx p1 i71).bind fun e169 => (spec_l1In e169.Weight_ 1 7).bind fun y185 => some (!y185)).bind fun u168 => if u168 then some false else (R) (IntKind.i64.wrap (i71 + 1)) else some true)) : ∀ k i71, μ i71 < k → P i71 (spec_EntriesOk_L1 p1 p0 k i71) := by
  intro k
  induction k with
  | zero => intro i71 hk; exact absurd hk (Nat.not_lt_zero _)
  | succ k ih => intro i71 hk; unfold spec_EntriesOk_L1; exact h i71 (spec_EntriesOk_L1 p1 p0 k) (fun i71' hs => ih i71' (Nat.lt_of_lt_of_le hs (Nat.le_of_lt_succ hk)))

noncomputable def spec_EntriesOk (p0 : Timpl_Schema) (p1 : List Timpl_Entry) : Option (Bool) :=
  (spec_SchemaOk p0).bind fun y10 => if (!y10) then some false else spec_EntriesOk_L1 p1 p0 Fuel 0


noncomputable def impl_ExOk_L1 (p1 : Timpl_Ex) (p0 : Timpl_Schema) : Nat → Int → Option (Bool)
  | 0, _ => none
  | k1 + 1, i49 =>
    if decide (i49 < (p1.Bins_.length : Int)) then (idx p1.Bins_ i49).bind fun e73 => (idx p0.Attrs_ i49).bind fun e75 => (impl_bins e75).bind fun y91 => (impl_within e73 (-1) (IntKind.i64.wrap (y91 - 1))).bind fun y93 => if (!y93) then some false else (impl_ExOk_L1 p1 p0 k1) (IntKind.i64.wrap (i49 + 1)) else some true

theorem impl_ExOk_L1_ind (p1 : Timpl_Ex) (p0 : Timpl_Schema) {P : Int → Option (Bool) → Prop} (μ : Int → Nat) (h : ∀ (i49 : Int) (R : Int → Option (Bool)), (∀ i49', μ i49' < μ i49 → P i49' (R i49')) → P i49 (if decide (i49 < (p1.Bins_.length : Int)) then (idx p1.Bins_ i49).bind fun e73 => (idx p0.Attrs_ i49).bind fun e75 => (impl_bins e75).bind fun y91 => (impl_within e73 (-1) (IntKind.i64.wrap (y91 - 1))).bind fun y93 => if (!y93) then some false else (R) (IntKind.i64.wrap (i49 + 1)) else some true)) : ∀ k i49, μ i49 < k → P i49 (impl_ExOk_L1 p1 p0 k i49) := by
  intro k
  induction k with
  | zero => intro i49 hk; exact absurd hk (Nat.not_lt_zero _)
  | succ k ih => intro i49 hk; unfold impl_ExOk_L1; exact h i49 (impl_ExOk_L1 p1 p0 k) (fun i49' hs => ih i49' (Nat.lt_of_lt_of_le hs (Nat.le_of_lt_succ hk)))

noncomputable def impl_ExOk (p0 : Timpl_Schema) (p1 : Timpl_Ex) : Option (Bool) :=
  (impl_SchemaOk p0).bind fun y17 => (if ((!y17) || ((p1.Bins_.length : Int) != (p0.Attrs_.length : Int))) then some true else (impl_within p1.Class_ (-1) (IntKind.i64.wrap ((p0.Classes_.length : Int) - 1))).bind fun y22 => some (!y22)).bind fun u21 => if u21 then some false else impl_ExOk_L1 p1 p0 Fuel 0


noncomputable def impl_EntriesOk_1 (p0 : Timpl_Entry) (p1 : Timpl_Schema) : Option (Bool) :=
  (impl_ExOk p1 p0.Ex_).bind fun y20 => (if ((!y20) || (decide (p0.Ex_.Class_ < 0))) then some true else (impl_within p0.Weight_ 1 7).bind fun y25 => some (!y25)).bind fun u24 => some u24


noncomputable def lib_slices_IndexFunc___impl_Entry_impl_Entry___impl_EntriesOk_1_L1 (p0 : List Timpl_Entry) (p1_0 : Timpl_Schema) : Nat → Int → Option (Int)
  | 0, _ => none
  | k1 + 1, i28 =>
    if decide (i28 < (p0.length : Int)) then (idx p0 i28).bind fun e48 => (impl_EntriesOk_1 e48 p1_0).bind fun y64 => if y64 then some i28 else (lib_slices_IndexFunc___impl_Entry_impl_Entry___impl_EntriesOk_1_L1 p0 p1_0 k1) (IntKind.i64.wrap (i28 + 1)) else some (-1)

theorem lib_slices_IndexFunc___impl_Entry_impl_Entry___impl_EntriesOk_1_L1_ind (p0 : List Timpl_Entry) (p1_0 : Timpl_Schema) {P : Int → Option (Int) → Prop} (μ : Int → Nat) (h : ∀ (i28 : Int) (R : Int → Option (Int)), (∀ i28', μ i28' < μ i28 → P i28' (R i28')) → P i28 (if decide (i28 < (p0.length : Int)) then (idx p0 i28).bind fun e48 => (impl_EntriesOk_1 e48 p1_0).bind fun y64 => if y64 then some i28 else (R) (IntKind.i64.wrap (i28 + 1)) else some (-1))) : ∀ k i28, μ i28 < k → P i28 (lib_slices_IndexFunc___impl_Entry_impl_Entry___impl_EntriesOk_1_L1 p0 p1_0 k i28) := by
  intro k
  induction k with
  | zero => intro i28 hk; exact absurd hk (Nat.not_lt_zero _)
  | succ k ih => intro i28 hk; unfold lib_slices_IndexFunc___impl_Entry_impl_Entry___impl_EntriesOk_1_L1; exact h i28 (lib_slices_IndexFunc___impl_Entry_impl_Entry___impl_EntriesOk_1_L1 p0 p1_0 k) (fun i28' hs => ih i28' (Nat.lt_of_lt_of_le hs (Nat.le_of_lt_succ hk)))

noncomputable def lib_slices_IndexFunc___impl_Entry_impl_Entry___impl_EntriesOk_1 (p0 : List Timpl_Entry) (p1_0 : Timpl_Schema) : Option (Int) :=
  lib_slices_IndexFunc___impl_Entry_impl_Entry___impl_EntriesOk_1_L1 p0 p1_0 Fuel 0


noncomputable def lib_slices_ContainsFunc___impl_Entry_impl_Entry___impl_EntriesOk_1 (p0 : List Timpl_Entry) (p1_0 : Timpl_Schema) : Option (Bool) :=
  (lib_slices_IndexFunc___impl_Entry_impl_Entry___impl_EntriesOk_1 p0 p1_0).bind fun y9 => some (decide (y9 ≥ 0))


noncomputable def impl_EntriesOk (p0 : Timpl_Schema) (p1 : List Timpl_Entry) : Option (Bool) :=
  (impl_SchemaOk p0).bind fun y10 => (if y10 then (lib_slices_ContainsFunc___impl_Entry_impl_Entry___impl_EntriesOk_1 p1 p0).bind fun y13 => some (!y13) else some false).bind fun u12 => some u12


noncomputable def laws_FnExactEntriesOk (p0 : Tlaws_Schema) (p1 : List Tlaws_Entry) : Option (Bool) :=
  (laws_szSchema p0 1048576).bind fun y10 => if decide (y10 < 0) then some true else (laws_szEntryS p1 y10).bind fun y12 => if decide (y12 < 0) then some true else (laws_toSchema p0).bind fun y14 => (laws_toEntryS p1).bind fun y27 => (spec_EntriesOk y14 y27).bind fun y36 => (laws_toSchema p0).bind fun y38 => (laws_toEntryS p1).bind fun y52 => (impl_EntriesOk y38 y52).bind fun y61 => if (y61 != y36) then some false else (laws_toSchema p0).bind fun y76 => (laws_eqSchema y38 y76).bind fun y89 => if (!y89) then some false else (laws_toEntryS p1).bind fun y91 => (laws_eqEntryS y52 y91).bind fun y100 => if (!y100) then some false else some true


noncomputable def spec_AllRoom_L1 (p0 : Timpl_Schema) : Nat → Int → Int → Option (Int)
  | 0, _, _ => none
  | k1 + 1, i33, i34 =>
    if decide (i34 < (p0.Attrs_.length : Int)) then (idx p0.Attrs_ i34).bind fun e55 => (spec_Bins e55).bind fun y71 => (spec_AllRoom_L1 p0 k1) (IntKind.i64.wrap (i33 * (IntKind.i64.wrap (y71 + 1)))) (IntKind.i64.wrap (i34 + 1)) else some i33

theorem spec_AllRoom_L1_ind (p0 : Timpl_Schema) {P : Int → Int → Option (Int) → Prop} (μ : Int → Int → Nat) (h : ∀ (i33 : Int) (i34 : Int) (R : Int → Int → Option (Int)), (∀ i33' i34', μ i33' i34' < μ i33 i34 → P i33' i34' (R i33' i34')) → P i33 i34 (if decide (i34 < (p0.Attrs_.length : Int)) then (idx p0.Attrs_ i34).bind fun e55 => (spec_Bins e55).bind fun y71 => (R) (IntKind.i64.wrap (i33 * (IntKind.i64.wrap (y71 + 1)))) (IntKind.i64.wrap (i34 + 1)) else some i33)) : ∀ k i33 i34, μ i33 i34 < k → P i33 i34 (spec_AllRoom_L1 p0 k i33 i34) := by
  intro k
  induction k with
  | zero => intro i33 i34 hk; exact absurd hk (Nat.not_lt_zero _)
  | succ k ih => intro i33 i34 hk; unfold spec_AllRoom_L1; exact h i33 i34 (spec_AllRoom_L1 p0 k) (fun i33' i34' hs => ih i33' i34' (Nat.lt_of_lt_of_le hs (Nat.le_of_lt_succ hk)))

noncomputable def spec_AllRoom (p0 : Timpl_Schema) : Option (Int) :=
  (spec_SchemaOk p0).bind fun y10 => if (!y10) then some 0 else spec_AllRoom_L1 p0 Fuel 1 0


noncomputable def impl_AllRoom_L1 (p0 : Timpl_Schema) : Nat → Int → Int → Option (Int)
  | 0, _, _ => none
  | k1 + 1, i34, i35 =>
    if decide (i34 < (p0.Attrs_.length : Int)) then (idx p0.Attrs_ i34).bind fun e57 => (impl_bins e57).bind fun y74 => (impl_AllRoom_L1 p0 k1) (IntKind.i64.wrap (i34 + 1)) (IntKind.i64.wrap (i35 * (IntKind.i64.wrap (y74 + 1)))) else some i35

theorem impl_AllRoom_L1_ind (p0 : Timpl_Schema) {P : Int → Int → Option (Int) → Prop} (μ : Int → Int → Nat) (h : ∀ (i34 : Int) (i35 : Int) (R : Int → Int → Option (Int)), (∀ i34' i35', μ i34' i35' < μ i34 i35 → P i34' i35' (R i34' i35')) → P i34 i35 (if decide (i34 < (p0.Attrs_.length : Int)) then (idx p0.Attrs_ i34).bind fun e57 => (impl_bins e57).bind fun y74 => (R) (IntKind.i64.wrap (i34 + 1)) (IntKind.i64.wrap (i35 * (IntKind.i64.wrap (y74 + 1)))) else some i35)) : ∀ k i34 i35, μ i34 i35 < k → P i34 i35 (impl_AllRoom_L1 p0 k i34 i35) := by
  intro k
  induction k with
  | zero => intro i34 i35 hk; exact absurd hk (Nat.not_lt_zero _)
  | succ k ih => intro i34 i35 hk; unfold impl_AllRoom_L1; exact h i34 i35 (impl_AllRoom_L1 p0 k) (fun i34' i35' hs => ih i34' i35' (Nat.lt_of_lt_of_le hs (Nat.le_of_lt_succ hk)))

noncomputable def impl_AllRoom (p0 : Timpl_Schema) : Option (Int) :=
  (impl_SchemaOk p0).bind fun y10 => if (!y10) then some 0 else impl_AllRoom_L1 p0 Fuel 0 1


noncomputable def laws_FnExactAllRoom (p0 : Tlaws_Schema) : Option (Bool) :=
  (laws_szSchema p0 1048576).bind fun y10 => if decide (y10 < 0) then some true else (laws_toSchema p0).bind fun y12 => (spec_AllRoom y12).bind fun y25 => (laws_toSchema p0).bind fun y27 => (impl_AllRoom y27).bind fun y41 => if (y41 != y25) then some false else (laws_toSchema p0).bind fun y56 => (laws_eqSchema y27 y56).bind fun y69 => if (!y69) then some false else some true


noncomputable def spec_WayRoom_L2 (p1 : Timpl_Way) (i41 : Int) (R1 : Int → Int → Option (Int)) (i40 : Int) : Nat → Int → Int → Option (Int)
  | 0, _, _ => none
  | k2 + 1, i68, i69 =>
    if decide (i69 < 5) then (idx p1.Masks_ i41).bind fun e76 => (spec_l16Power i69).bind fun y78 => if ((ibits .and .i64 e76 y78) != 0) then (spec_WayRoom_L2 p1 i41 R1 i40 k2) (IntKind.i64.wrap (i68 + 1)) (IntKind.i64.wrap (i69 + 1)) else (spec_WayRoom_L2 p1 i41 R1 i40 k2) i68 (IntKind.i64.wrap (i69 + 1)) else R1 (IntKind.i64.wrap (i40 * i68)) (IntKind.i64.wrap (i41 + 1))

theorem spec_WayRoom_L2_ind (p1 : Timpl_Way) (i41 : Int) (R1 : Int → Int → Option (Int)) (i40 : Int) {P : Int → Int → Option (Int) → Prop} (μ : Int → Int → Nat) (h : ∀ (i68 : Int) (i69 : Int) (R : Int → Int → Option (Int)), (∀ i68' i69', μ i68' i69' < μ i68 i69 → P i68' i69' (R i68' i69')) → P i68 i69 (if decide (i69 < 5) then (idx p1.Masks_ i41).bind fun e76 => (spec_l16Power i69).bind fun y78 => if ((ibits .and .i64 e76 y78) != 0) then (R) (IntKind.i64.wrap (i68 + 1)) (IntKind.i64.wrap (i69 + 1)) else (R) i68 (IntKind.i64.wrap (i69 + 1)) else R1 (IntKind.i64.wrap (i40 * i68)) (IntKind.i64.wrap (i41 + 1)))) : ∀ k i68 i69, μ i68 i69 < k → P i68 i69 (spec_WayRoom_L2 p1 i41 R1 i40 k i68 i69) := by
  intro k
  induction k with
  | zero => intro i68 i69 hk; exact absurd hk (Nat.not_lt_zero _)
  | succ k ih => intro i68 i69 hk; unfold spec_WayRoom_L2; exact h i68 i69 (spec_WayRoom_L2 p1 i41 R1 i40 k) (fun i68' i69' hs => ih i68' i69' (Nat.lt_of_lt_of_le hs (Nat.le_of_lt_succ hk)))

noncomputable def spec_WayRoom_L1 (p1 : Timpl_Way) : Nat → Int → Int → Option (Int)
  | 0, _, _ => none
  | k1 + 1, i40, i41 =>
    if decide (i41 < (p1.Masks_.length : Int)) then spec_WayRoom_L2 p1 i41 (spec_WayRoom_L1 p1 k1) i40 Fuel 0 0 else some i40

theorem spec_WayRoom_L1_ind (p1 : Timpl_Way) {P : Int → Int → Option (Int) → Prop} (μ : Int → Int → Nat) (h : ∀ (i40 : Int) (i41 : Int) (R : Int → Int → Option (Int)), (∀ i40' i41', μ i40' i41' < μ i40 i41 → P i40' i41' (R i40' i41')) → P i40 i41 (if decide (i41 < (p1.Masks_.length : Int)) then spec_WayRoom_L2 p1 i41 (R) i40 Fuel 0 0 else some i40)) : ∀ k i40 i41, μ i40 i41 < k → P i40 i41 (spec_WayRoom_L1 p1 k i40 i41) := by
  intro k
  induction k with
  | zero => intro i40 i41 hk; exact absurd hk (Nat.not_lt_zero _)
  | succ k ih => intro i40 i41 hk; unfold spec_WayRoom_L1; exact h i40 i41 (spec_WayRoom_L1 p1 k) (fun i40' i41' hs => ih i40' i41' (Nat.lt_of_lt_of_le hs (Nat.le_of_lt_succ hk)))

noncomputable def spec_WayRoom (p0 : Timpl_Schema) (p1 : Timpl_Way) : Option (Int) :=
  (spec_WayOk p0 p1).bind fun y17 => if (!y17) then some 0 else spec_WayRoom_L1 p1 Fuel 1 0


noncomputable def lib_bits_OnesCount32 (p0 : Int) : Option (Int) :=
  (idx ([0, 1, 1, 2, 1, 2, 2, 3, 1, 2, 2, 3, 2, 3, 3, 4, 1, 2, 2, 3, 2, 3, 3, 4, 2, 3, 3, 4, 3, 4, 4, 5, 1, 2, 2, 3, 2, 3, 3, 4, 2, 3, 3, 4, 3, 4, 4, 5, 2, 3, 3, 4, 3, 4, 4, 5, 3, 4, 4, 5, 4, 5, 5, 6, 1, 2, 2, 3, 2, 3, 3, 4, 2, 3, 3, 4, 3, 4, 4, 5, 2, 3, 3, 4, 3, 4, 4, 5, 3, 4, 4, 5, 4, 5, 5, 6, 2, 3, 3, 4, 3, 4, 4, 5, 3, 4, 4, 5, 4, 5, 5, 6, 3, 4, 4, 5, 4, 5, 5, 6, 4, 5, 5, 6, 5, 6, 6, 7, 1, 2, 2, 3, 2, 3, 3, 4, 2, 3, 3, 4, 3, 4, 4, 5, 2, 3, 3, 4, 3, 4, 4, 5, 3, 4, 4, 5, 4, 5, 5, 6, 2, 3, 3, 4, 3, 4, 4, 5, 3, 4, 4, 5, 4, 5, 5, 6, 3, 4, 4, 5, 4, 5, 5, 6, 4, 5, 5, 6, 5, 6, 6, 7, 2, 3, 3, 4, 3, 4, 4, 5, 3, 4, 4, 5, 4, 5, 5, 6, 3, 4, 4, 5, 4, 5, 5, 6, 4, 5, 5, 6, 5, 6, 6, 7, 3, 4, 4, 5, 4, 5, 5, 6, 4, 5, 5, 6, 5, 6, 6, 7, 4, 5, 5, 6, 5, 6, 6, 7, 5, 6, 6, 7, 6, 7, 7, 8] : List UInt8) (ishr .u32 p0 24)).bind fun b1 => (idx ([0, 1, 1, 2, 1, 2, 2, 3, 1, 2, 2, 3, 2, 3, 3, 4, 1, 2, 2, 3, 2, 3, 3, 4, 2, 3, 3, 4, 3, 4, 4, 5, 1, 2, 2, 3, 2, 3, 3, 4, 2, 3, 3, 4, 3, 4, 4, 5, 2, 3, 3, 4, 3, 4, 4, 5, 3, 4, 4, 5, 4, 5, 5, 6, 1, 2, 2, 3, 2, 3, 3, 4, 2, 3, 3, 4, 3, 4, 4, 5, 2, 3, 3, 4, 3, 4, 4, 5, 3, 4, 4, 5, 4, 5, 5, 6, 2, 3, 3, 4, 3, 4, 4, 5, 3, 4, 4, 5, 4, 5, 5, 6, 3, 4, 4, 5, 4, 5, 5, 6, 4, 5, 5, 6, 5, 6, 6, 7, 1, 2, 2, 3, 2, 3, 3, 4, 2, 3, 3, 4, 3, 4, 4, 5, 2, 3, 3, 4, 3, 4, 4, 5, 3, 4, 4, 5, 4, 5, 5, 6, 2, 3, 3, 4, 3, 4, 4, 5, 3, 4, 4, 5, 4, 5, 5, 6, 3, 4, 4, 5, 4, 5, 5, 6, 4, 5, 5, 6, 5, 6, 6, 7, 2, 3, 3, 4, 3, 4, 4, 5, 3, 4, 4, 5, 4, 5, 5, 6, 3, 4, 4, 5, 4, 5, 5, 6, 4, 5, 5, 6, 5, 6, 6, 7, 3, 4, 4, 5, 4, 5, 5, 6, 4, 5, 5, 6, 5, 6, 6, 7, 4, 5, 5, 6, 5, 6, 6, 7, 5, 6, 6, 7, 6, 7, 7, 8] : List UInt8) (ibits .and .u32 (ishr .u32 p0 16) 255)).bind fun b3 => (idx ([0, 1, 1, 2, 1, 2, 2, 3, 1, 2, 2, 3, 2, 3, 3, 4, 1, 2, 2, 3, 2, 3, 3, 4, 2, 3, 3, 4, 3, 4, 4, 5, 1, 2, 2, 3, 2, 3, 3, 4, 2, 3, 3, 4, 3, 4, 4, 5, 2, 3, 3, 4, 3, 4, 4, 5, 3, 4, 4, 5, 4, 5, 5, 6, 1, 2, 2, 3, 2, 3, 3, 4, 2, 3, 3, 4, 3, 4, 4, 5, 2, 3, 3, 4, 3, 4, 4, 5, 3, 4, 4, 5, 4, 5, 5, 6, 2, 3, 3, 4, 3, 4, 4, 5, 3, 4, 4, 5, 4, 5, 5, 6, 3, 4, 4, 5, 4, 5, 5, 6, 4, 5, 5, 6, 5, 6, 6, 7, 1, 2, 2, 3, 2, 3, 3, 4, 2, 3, 3, 4, 3, 4, 4, 5, 2, 3, 3, 4, 3, 4, 4, 5, 3, 4, 4, 5, 4, 5, 5, 6, 2, 3, 3, 4, 3, 4, 4, 5, 3, 4, 4, 5, 4, 5, 5, 6, 3, 4, 4, 5, 4, 5, 5, 6, 4, 5, 5, 6, 5, 6, 6, 7, 2, 3, 3, 4, 3, 4, 4, 5, 3, 4, 4, 5, 4, 5, 5, 6, 3, 4, 4, 5, 4, 5, 5, 6, 4, 5, 5, 6, 5, 6, 6, 7, 3, 4, 4, 5, 4, 5, 5, 6, 4, 5, 5, 6, 5, 6, 6, 7, 4, 5, 5, 6, 5, 6, 6, 7, 5, 6, 6, 7, 6, 7, 7, 8] : List UInt8) (ibits .and .u32 (ishr .u32 p0 8) 255)).bind fun b5 => (idx ([0, 1, 1, 2, 1, 2, 2, 3, 1, 2, 2, 3, 2, 3, 3, 4, 1, 2, 2, 3, 2, 3, 3, 4, 2, 3, 3, 4, 3, 4, 4, 5, 1, 2, 2, 3, 2, 3, 3, 4, 2, 3, 3, 4, 3, 4, 4, 5, 2, 3, 3, 4, 3, 4, 4, 5, 3, 4, 4, 5, 4, 5, 5, 6, 1, 2, 2, 3, 2, 3, 3, 4, 2, 3, 3, 4, 3, 4, 4, 5, 2, 3, 3, 4, 3, 4, 4, 5, 3, 4, 4, 5, 4, 5, 5, 6, 2, 3, 3, 4, 3, 4, 4, 5, 3, 4, 4, 5, 4, 5, 5, 6, 3, 4, 4, 5, 4, 5, 5, 6, 4, 5, 5, 6, 5, 6, 6, 7, 1, 2, 2, 3, 2, 3, 3, 4, 2, 3, 3, 4, 3, 4, 4, 5, 2, 3, 3, 4, 3, 4, 4, 5, 3, 4, 4, 5, 4, 5, 5, 6, 2, 3, 3, 4, 3, 4, 4, 5, 3, 4, 4, 5, 4, 5, 5, 6, 3, 4, 4, 5, 4, 5, 5, 6, 4, 5, 5, 6, 5, 6, 6, 7, 2, 3, 3, 4, 3, 4, 4, 5, 3, 4, 4, 5, 4, 5, 5, 6, 3, 4, 4, 5, 4, 5, 5, 6, 4, 5, 5, 6, 5, 6, 6, 7, 3, 4, 4, 5, 4, 5, 5, 6, 4, 5, 5, 6, 5, 6, 6, 7, 4, 5, 5, 6, 5, 6, 6, 7, 5, 6, 6, 7, 6, 7, 7, 8] : List UInt8) (ibits .and .u32 p0 255)).bind fun b7 => some (IntKind.i64.wrap (IntKind.u8.wrap ((IntKind.u8.wrap ((IntKind.u8.wrap ((b1.toNat : Int) + (b3.toNat : Int))) + (b5.toNat : Int))) + (b7.toNat : Int))))


noncomputable def lib_bits_OnesCount64 (p0 : Int) : Option (Int) :=
  some (ibits .and .i64 (IntKind.i64.wrap (IntKind.u64.wrap ((IntKind.u64.wrap ((IntKind.u64.wrap ((ibits .and .u64 (IntKind.u64.wrap ((ishr .u64 (IntKind.u64.wrap ((ibits .and .u64 (ishr .u64 (IntKind.u64.wrap ((ibits .and .u64 (ishr .u64 p0 1) 6148914691236517205) + (ibits .and .u64 p0 6148914691236517205))) 2) 3689348814741910323) + (ibits .and .u64 (IntKind.u64.wrap ((ibits .and .u64 (ishr .u64 p0 1) 6148914691236517205) + (ibits .and .u64 p0 6148914691236517205))) 3689348814741910323))) 4) + (IntKind.u64.wrap ((ibits .and .u64 (ishr .u64 (IntKind.u64.wrap ((ibits .and .u64 (ishr .u64 p0 1) 6148914691236517205) + (ibits .and .u64 p0 6148914691236517205))) 2) 3689348814741910323) + (ibits .and .u64 (IntKind.u64.wrap ((ibits .and .u64 (ishr .u64 p0 1) 6148914691236517205) + (ibits .and .u64 p0 6148914691236517205))) 3689348814741910323))))) 1085102592571150095) + (ishr .u64 (ibits .and .u64 (IntKind.u64.wrap ((ishr .u64 (IntKind.u64.wrap ((ibits .and .u64 (ishr .u64 (IntKind.u64.wrap ((ibits .and .u64 (ishr .u64 p0 1) 6148914691236517205) + (ibits .and .u64 p0 6148914691236517205))) 2) 3689348814741910323) + (ibits .and .u64 (IntKind.u64.wrap ((ibits .and .u64 (ishr .u64 p0 1) 6148914691236517205) + (ibits .and .u64 p0 6148914691236517205))) 3689348814741910323))) 4) + (IntKind.u64.wrap ((ibits .and .u64 (ishr .u64 (IntKind.u64.wrap ((ibits .and .u64 (ishr .u64 p0 1) 6148914691236517205) + (ibits .and .u64 p0 6148914691236517205))) 2) 3689348814741910323) + (ibits .and .u64 (IntKind.u64.wrap ((ibits .and .u64 (ishr .u64 p0 1) 6148914691236517205) + (ibits .and .u64 p0 6148914691236517205))) 3689348814741910323))))) 1085102592571150095) 8))) + (ishr .u64 (IntKind.u64.wrap ((ibits .and .u64 (IntKind.u64.wrap ((ishr .u64 (IntKind.u64.wrap ((ibits .and .u64 (ishr .u64 (IntKind.u64.wrap ((ibits .and .u64 (ishr .u64 p0 1) 6148914691236517205) + (ibits .and .u64 p0 6148914691236517205))) 2) 3689348814741910323) + (ibits .and .u64 (IntKind.u64.wrap ((ibits .and .u64 (ishr .u64 p0 1) 6148914691236517205) + (ibits .and .u64 p0 6148914691236517205))) 3689348814741910323))) 4) + (IntKind.u64.wrap ((ibits .and .u64 (ishr .u64 (IntKind.u64.wrap ((ibits .and .u64 (ishr .u64 p0 1) 6148914691236517205) + (ibits .and .u64 p0 6148914691236517205))) 2) 3689348814741910323) + (ibits .and .u64 (IntKind.u64.wrap ((ibits .and .u64 (ishr .u64 p0 1) 6148914691236517205) + (ibits .and .u64 p0 6148914691236517205))) 3689348814741910323))))) 1085102592571150095) + (ishr .u64 (ibits .and .u64 (IntKind.u64.wrap ((ishr .u64 (IntKind.u64.wrap ((ibits .and .u64 (ishr .u64 (IntKind.u64.wrap ((ibits .and .u64 (ishr .u64 p0 1) 6148914691236517205) + (ibits .and .u64 p0 6148914691236517205))) 2) 3689348814741910323) + (ibits .and .u64 (IntKind.u64.wrap ((ibits .and .u64 (ishr .u64 p0 1) 6148914691236517205) + (ibits .and .u64 p0 6148914691236517205))) 3689348814741910323))) 4) + (IntKind.u64.wrap ((ibits .and .u64 (ishr .u64 (IntKind.u64.wrap ((ibits .and .u64 (ishr .u64 p0 1) 6148914691236517205) + (ibits .and .u64 p0 6148914691236517205))) 2) 3689348814741910323) + (ibits .and .u64 (IntKind.u64.wrap ((ibits .and .u64 (ishr .u64 p0 1) 6148914691236517205) + (ibits .and .u64 p0 6148914691236517205))) 3689348814741910323))))) 1085102592571150095) 8))) 16))) + (ishr .u64 (IntKind.u64.wrap ((IntKind.u64.wrap ((ibits .and .u64 (IntKind.u64.wrap ((ishr .u64 (IntKind.u64.wrap ((ibits .and .u64 (ishr .u64 (IntKind.u64.wrap ((ibits .and .u64 (ishr .u64 p0 1) 6148914691236517205) + (ibits .and .u64 p0 6148914691236517205))) 2) 3689348814741910323) + (ibits .and .u64 (IntKind.u64.wrap ((ibits .and .u64 (ishr .u64 p0 1) 6148914691236517205) + (ibits .and .u64 p0 6148914691236517205))) 3689348814741910323))) 4) + (IntKind.u64.wrap ((ibits .and .u64 (ishr .u64 (IntKind.u64.wrap ((ibits .and .u64 (ishr .u64 p0 1) 6148914691236517205) + (ibits .and .u64 p0 6148914691236517205))) 2) 3689348814741910323) + (ibits .and .u64 (IntKind.u64.wrap ((ibits .and .u64 (ishr .u64 p0 1) 6148914691236517205) + (ibits .and .u64 p0 6148914691236517205))) 3689348814741910323))))) 1085102592571150095) + (ishr .u64 (ibits .and .u64 (IntKind.u64.wrap ((ishr .u64 (IntKind.u64.wrap ((ibits .and .u64 (ishr .u64 (IntKind.u64.wrap ((ibits .and .u64 (ishr .u64 p0 1) 6148914691236517205) + (ibits .and .u64 p0 6148914691236517205))) 2) 3689348814741910323) + (ibits .and .u64 (IntKind.u64.wrap ((ibits .and .u64 (ishr .u64 p0 1) 6148914691236517205) + (ibits .and .u64 p0 6148914691236517205))) 3689348814741910323))) 4) + (IntKind.u64.wrap ((ibits .and .u64 (ishr .u64 (IntKind.u64.wrap ((ibits .and .u64 (ishr .u64 p0 1) 6148914691236517205) + (ibits .and .u64 p0 6148914691236517205))) 2) 3689348814741910323) + (ibits .and .u64 (IntKind.u64.wrap ((ibits .and .u64 (ishr .u64 p0 1) 6148914691236517205) + (ibits .and .u64 p0 6148914691236517205))) 3689348814741910323))))) 1085102592571150095) 8))) + (ishr .u64 (IntKind.u64.wrap ((ibits .and .u64 (IntKind.u64.wrap ((ishr .u64 (IntKind.u64.wrap ((ibits .and .u64 (ishr .u64 (IntKind.u64.wrap ((ibits .and .u64 (ishr .u64 p0 1) 6148914691236517205) + (ibits .and .u64 p0 6148914691236517205))) 2) 3689348814741910323) + (ibits .and .u64 (IntKind.u64.wrap ((ibits .and .u64 (ishr .u64 p0 1) 6148914691236517205) + (ibits .and .u64 p0 6148914691236517205))) 3689348814741910323))) 4) + (IntKind.u64.wrap ((ibits .and .u64 (ishr .u64 (IntKind.u64.wrap ((ibits .and .u64 (ishr .u64 p0 1) 6148914691236517205) + (ibits .and .u64 p0 6148914691236517205))) 2) 3689348814741910323) + (ibits .and .u64 (IntKind.u64.wrap ((ibits .and .u64 (ishr .u64 p0 1) 6148914691236517205) + (ibits .and .u64 p0 6148914691236517205))) 3689348814741910323))))) 1085102592571150095) + (ishr .u64 (ibits .and .u64 (IntKind.u64.wrap ((ishr .u64 (IntKind.u64.wrap ((ibits .and .u64 (ishr .u64 (IntKind.u64.wrap ((ibits .and .u64 (ishr .u64 p0 1) 6148914691236517205) + (ibits .and .u64 p0 6148914691236517205))) 2) 3689348814741910323) + (ibits .and .u64 (IntKind.u64.wrap ((ibits .and .u64 (ishr .u64 p0 1) 6148914691236517205) + (ibits .and .u64 p0 6148914691236517205))) 3689348814741910323))) 4) + (IntKind.u64.wrap ((ibits .and .u64 (ishr .u64 (IntKind.u64.wrap ((ibits .and .u64 (ishr .u64 p0 1) 6148914691236517205) + (ibits .and .u64 p0 6148914691236517205))) 2) 3689348814741910323) + (ibits .and .u64 (IntKind.u64.wrap ((ibits .and .u64 (ishr .u64 p0 1) 6148914691236517205) + (ibits .and .u64 p0 6148914691236517205))) 3689348814741910323))))) 1085102592571150095) 8))) 16))) 32)))) 127)


noncomputable def lib_bits_OnesCount (p0 : Int) : Option (Int) :=
  (lib_bits_OnesCount64 p0).bind fun y1 => some y1


noncomputable def impl_WayRoom_L1 (p1 : Timpl_Way) : Nat → Int → Int → Option (Int)
  | 0, _, _ => none
  | k1 + 1, i25, i26 =>
    if decide (i25 < (p1.Masks_.length : Int)) then (idx p1.Masks_ i25).bind fun e34 => (lib_bits_OnesCount (IntKind.u64.wrap e34)).bind fun y36 => (impl_WayRoom_L1 p1 k1) (IntKind.i64.wrap (i25 + 1)) (IntKind.i64.wrap (i26 * y36)) else some i26

theorem impl_WayRoom_L1_ind (p1 : Timpl_Way) {P : Int → Int → Option (Int) → Prop} (μ : Int → Int → Nat) (h : ∀ (i25 : Int) (i26 : Int) (R : Int → Int → Option (Int)), (∀ i25' i26', μ i25' i26' < μ i25 i26 → P i25' i26' (R i25' i26')) → P i25 i26 (if decide (i25 < (p1.Masks_.length : Int)) then (idx p1.Masks_ i25).bind fun e34 => (lib_bits_OnesCount (IntKind.u64.wrap e34)).bind fun y36 => (R) (IntKind.i64.wrap (i25 + 1)) (IntKind.i64.wrap (i26 * y36)) else some i26)) : ∀ k i25 i26, μ i25 i26 < k → P i25 i26 (impl_WayRoom_L1 p1 k i25 i26) := by
  intro k
  induction k with
  | zero => intro i25 i26 hk; exact absurd hk (Nat.not_lt_zero _)
  | succ k ih => intro i25 i26 hk; unfold impl_WayRoom_L1; exact h i25 i26 (impl_WayRoom_L1 p1 k) (fun i25' i26' hs => ih i25' i26' (Nat.lt_of_lt_of_le hs (Nat.le_of_lt_succ hk)))

noncomputable def impl_WayRoom (p0 : Timpl_Schema) (p1 : Timpl_Way) : Option (Int) :=
  (impl_WayOk p0 p1).bind fun y17 => if (!y17) then some 0 else impl_WayRoom_L1 p1 Fuel 0 1


noncomputable def laws_FnExactWayRoom (p0 : Tlaws_Schema) (p1 : Tlaws_Way) : Option (Bool) :=
  (laws_szSchema p0 1048576).bind fun y17 => if decide (y17 < 0) then some true else (laws_szWay p1 y17).bind fun y19 => if decide (y19 < 0) then some true else (laws_toSchema p0).bind fun y34 => (laws_toWay p1).bind fun y47 => (spec_WayRoom y34 y47).bind fun y56 => (laws_toSchema p0).bind fun y58 => (laws_toWay p1).bind fun y72 => (impl_WayRoom y58 y72).bind fun y82 => if (y82 != y56) then some false else (laws_toSchema p0).bind fun y97 => (laws_eqSchema y58 y97).bind fun y110 => if (!y110) then some false else (laws_toWay p1).bind fun y121 => (laws_eqWay y72 y121).bind fun y130 => if (!y130) then some false else some true


noncomputable def spec_WayMeets_J1 (p1 : Timpl_Way) (i47 : Int) (R1 : Int → Option (Bool)) (i70 : Int) : Option (Bool) :=
  (idx p1.Masks_ i47).bind fun e71 => if ((ibits .and .i64 e71 i70) == 0) then some false else R1 (IntKind.i64.wrap (i47 + 1))

noncomputable def spec_WayMeets_L1 (p2 : Timpl_Ex) (p1 : Timpl_Way) : Nat → Int → Option (Bool)
  | 0, _ => none
  | k1 + 1, i47 =>
    if decide (i47 < (p2.Bins_.length : Int)) then (idx p2.Bins_ i47).bind fun e73 => if decide (e73 ≥ 0) then (idx p2.Bins_ i47).bind fun e75 => (spec_l16Power e75).bind fun y77 => spec_WayMeets_J1 p1 i47 (spec_WayMeets_L1 p2 p1 k1) y77 else spec_WayMeets_J1 p1 i47 (spec_WayMeets_L1 p2 p1 k1) 16 else some true

theorem spec_WayMeets_L1_ind (p2 : Timpl_Ex) (p1 : Timpl_Way) {P : Int → Option (Bool) → Prop} (μ : Int → Nat) (h : ∀ (i47 : Int) (R : Int → Option (Bool)), (∀ i47', μ i47' < μ i47 → P i47' (R i47')) → P i47 (if decide (i47 < (p2.Bins_.length : Int)) then (idx p2.Bins_ i47).bind fun e73 => if decide (e73 ≥ 0) then (idx p2.Bins_ i47).bind fun e75 => (spec_l16Power e75).bind fun y77 => spec_WayMeets_J1 p1 i47 (R) y77 else spec_WayMeets_J1 p1 i47 (R) 16 else some true)) : ∀ k i47, μ i47 < k → P i47 (spec_WayMeets_L1 p2 p1 k i47) := by
  intro k
  induction k with
  | zero => intro i47 hk; exact absurd hk (Nat.not_lt_zero _)
  | succ k ih => intro i47 hk; unfold spec_WayMeets_L1; exact h i47 (spec_WayMeets_L1 p2 p1 k) (fun i47' hs => ih i47' (Nat.lt_of_lt_of_le hs (Nat.le_of_lt_succ hk)))

noncomputable def spec_WayMeets (p0 : Timpl_Schema) (p1 : Timpl_Way) (p2 : Timpl_Ex) : Option (Bool) :=
  (spec_WayOk p0 p1).bind fun y24 => (if (!y24) then some true else (spec_ExOk p0 p2).bind fun y27 => some (!y27)).bind fun u26 => if u26 then some false else spec_WayMeets_L1 p2 p1 Fuel 0


noncomputable def impl_WayMeets_J1 (p1 : Timpl_Way) (i41 : Int) (R1 : Int → Option (Bool)) (i56 : Int) : Option (Bool) :=
  (idx p1.Masks_ i41).bind fun e57 => if ((ibits .and .i64 e57 i56) == 0) then some false else R1 (IntKind.i64.wrap (i41 + 1))

noncomputable def impl_WayMeets_L1 (p2 : Timpl_Ex) (p1 : Timpl_Way) : Nat → Int → Option (Bool)
  | 0, _ => none
  | k1 + 1, i41 =>
    if decide (i41 < (p2.Bins_.length : Int)) then (idx p2.Bins_ i41).bind fun e52 => if decide (e52 ≥ 0) then (shl .i64 1 e52).bind fun x59 => impl_WayMeets_J1 p1 i41 (impl_WayMeets_L1 p2 p1 k1) x59 else impl_WayMeets_J1 p1 i41 (impl_WayMeets_L1 p2 p1 k1) 16 else some true

theorem impl_WayMeets_L1_ind (p2 : Timpl_Ex) (p1 : Timpl_Way) {P : Int → Option (Bool) → Prop} (μ : Int → Nat) (h : ∀ (i41 : Int) (R : Int → Option (Bool)), (∀ i41', μ i41' < μ i41 → P i41' (R i41')) → P i41 (if decide (i41 < (p2.Bins_.length : Int)) then (idx p2.Bins_ i41).bind fun e52 => if decide (e52 ≥ 0) then (shl .i64 1 e52).bind fun x59 => impl_WayMeets_J1 p1 i41 (R) x59 else impl_WayMeets_J1 p1 i41 (R) 16 else some true)) : ∀ k i41, μ i41 < k → P i41 (impl_WayMeets_L1 p2 p1 k i41) := by
  intro k
  induction k with
  | zero => intro i41 hk; exact absurd hk (Nat.not_lt_zero _)
  | succ k ih => intro i41 hk; unfold impl_WayMeets_L1; exact h i41 (impl_WayMeets_L1 p2 p1 k) (fun i41' hs => ih i41' (Nat.lt_of_lt_of_le hs (Nat.le_of_lt_succ hk)))

noncomputable def impl_WayMeets (p0 : Timpl_Schema) (p1 : Timpl_Way) (p2 : Timpl_Ex) : Option (Bool) :=
  (impl_WayOk p0 p1).bind fun y24 => (if (!y24) then some true else (impl_ExOk p0 p2).bind fun y27 => some (!y27)).bind fun u26 => if u26 then some false else impl_WayMeets_L1 p2 p1 Fuel 0


noncomputable def laws_FnExactWayMeets (p0 : Tlaws_Schema) (p1 : Tlaws_Way) (p2 : Tlaws_Ex) : Option (Bool) :=
  (laws_szSchema p0 1048576).bind fun y24 => if decide (y24 < 0) then some true else (laws_szWay p1 y24).bind fun y26 => if decide (y26 < 0) then some true else (laws_szEx p2 y26).bind fun y28 => if decide (y28 < 0) then some true else (laws_toSchema p0).bind fun y52 => (laws_toWay p1).bind fun y65 => (laws_toEx p2).bind fun y74 => (spec_WayMeets y52 y65 y74).bind fun y83 => (laws_toSchema p0).bind fun y85 => (laws_toWay p1).bind fun y99 => (laws_toEx p2).bind fun y109 => (impl_WayMeets y85 y99 y109).bind fun y119 => if (y119 != y83) then some false else (laws_toSchema p0).bind fun y134 => (laws_eqSchema y85 y134).bind fun y147 => if (!y147) then some false else (laws_toWay p1).bind fun y158 => (laws_eqWay y99 y158).bind fun y167 => if (!y167) then some false else (laws_toEx p2).bind fun y178 => (laws_eqEx y109 y178).bind fun y187 => if (!y187) then some false else some true


noncomputable def laws_FnExactFullMask (p0 : Tlaws_Attr) : Option (Bool) :=
  (laws_szAttr p0 1048576).bind fun y12 => if decide (y12 < 0) then some true else (laws_toAttr p0).bind fun y14 => (spec_FullMask y14).bind fun y27 => (laws_toAttr p0).bind fun y29 => (impl_FullMask y29).bind fun y43 => if (y43 != y27) then some false else (laws_toAttr p0).bind fun y58 => (laws_eqAttr y29 y58).bind fun y71 => if (!y71) then some false else some true


end Go.Vk
