/- The functions of the code, as functions of data. Printed by program. -/

import Derived.Test.YtejkhekgflacaaaVkN

namespace Go.Vk



structure Tspec_l1Cur where
  i_ : Int
  h_ : Int
  deriving DecidableEq, Inhabited

noncomputable def spec_l1In (p0 : Int) (p1 : Int) (p2 : Int) : Option (Bool) :=
  some ((decide (p0 ≥ p1)) && (decide (p0 ≤ p2)))


noncomputable def spec_PutNum_L1  : Nat → Int → (List Int) → Option (List Int)
  | 0, _, _ => none
  | k1 + 1, i17, l18 =>
    if decide (i17 > 127) then (app l18 ([IntKind.u8.wrap (IntKind.i64.wrap ((Int.tmod i17 128) + 128))] : List Int)).bind fun l35 => (spec_PutNum_L1 k1) (IntKind.i64.wrap (Int.tdiv i17 128)) l35 else (app l18 ([IntKind.u8.wrap i17] : List Int)).bind fun l42 => some l42

theorem spec_PutNum_L1_ind  {P : Int → (List Int) → Option (List Int) → Prop} (μ : Int → (List Int) → Nat) (h : ∀ (i17 : Int) (l18 : List Int) (R : Int → (List Int) → Option (List Int)), (∀ i17' l18', μ i17' l18' < μ i17 l18 → P i17' l18' (R i17' l18')) → P i17 l18 (if decide (i17 > 127) then (app l18 ([IntKind.u8.wrap (IntKind.i64.wrap ((Int.tmod i17 128) + 128))] : List Int)).bind fun l35 => (R) (IntKind.i64.wrap (Int.tdiv i17 128)) l35 else (app l18 ([IntKind.u8.wrap i17] : List Int)).bind fun l42 => some l42)) : ∀ k i17 l18, μ i17 l18 < k → P i17 l18 (spec_PutNum_L1 k i17 l18) := by
  intro k
  induction k with
  | zero => intro i17 l18 hk; exact absurd hk (Nat.not_lt_zero _)
  | succ k ih => intro i17 l18 hk; unfold spec_PutNum_L1; exact h i17 l18 (spec_PutNum_L1 k) (fun i17' l18' hs => ih i17' l18' (Nat.lt_of_lt_of_le hs (Nat.le_of_lt_succ hk)))

noncomputable def spec_PutNum (p0 : Int) : Option (List Int) :=
  (spec_l1In p0 0 2147483647).bind fun y2 => if (!y2) then some ([] : List Int) else spec_PutNum_L1 Fuel p0 ([] : List Int)


noncomputable def spec_PutInt (p0 : Int) : Option (List Int) :=
  (spec_l1In p0 (-1000000000) 1000000000).bind fun y1 => if (!y1) then some ([] : List Int) else if decide (p0 < 0) then (spec_PutNum (IntKind.i64.wrap ((IntKind.i64.wrap (0 - (IntKind.i64.wrap (2 * p0)))) - 1))).bind fun y4 => some y4 else (spec_PutNum (IntKind.i64.wrap (2 * p0))).bind fun y13 => some y13


noncomputable def impl_within (p0 : Int) (p1 : Int) (p2 : Int) : Option (Bool) :=
  some ((decide (p0 ≥ p1)) && (decide (p0 ≤ p2)))


noncomputable def impl_PutNum_L1  : Nat → Int → (List Int) → Option ((List Int) × Bool)
  | 0, _, _ => none
  | k1 + 1, i17, l18 =>
    if decide (i17 ≥ 128) then (app l18 ([IntKind.u8.wrap (ibits .or .i64 (ibits .and .i64 i17 127) 128)] : List Int)).bind fun l35 => (impl_PutNum_L1 k1) (ishr .i64 i17 7) l35 else (app l18 ([IntKind.u8.wrap i17] : List Int)).bind fun l42 => some (l42, false)

theorem impl_PutNum_L1_ind  {P : Int → (List Int) → Option ((List Int) × Bool) → Prop} (μ : Int → (List Int) → Nat) (h : ∀ (i17 : Int) (l18 : List Int) (R : Int → (List Int) → Option ((List Int) × Bool)), (∀ i17' l18', μ i17' l18' < μ i17 l18 → P i17' l18' (R i17' l18')) → P i17 l18 (if decide (i17 ≥ 128) then (app l18 ([IntKind.u8.wrap (ibits .or .i64 (ibits .and .i64 i17 127) 128)] : List Int)).bind fun l35 => (R) (ishr .i64 i17 7) l35 else (app l18 ([IntKind.u8.wrap i17] : List Int)).bind fun l42 => some (l42, false))) : ∀ k i17 l18, μ i17 l18 < k → P i17 l18 (impl_PutNum_L1 k i17 l18) := by
  intro k
  induction k with
  | zero => intro i17 l18 hk; exact absurd hk (Nat.not_lt_zero _)
  | succ k ih => intro i17 l18 hk; unfold impl_PutNum_L1; exact h i17 l18 (impl_PutNum_L1 k) (fun i17' l18' hs => ih i17' l18' (Nat.lt_of_lt_of_le hs (Nat.le_of_lt_succ hk)))

noncomputable def impl_PutNum (p0 : Int) : Option ((List Int) × Bool) :=
  (impl_within p0 0 2147483647).bind fun y1 => if (!y1) then some (([] : List Int), true) else impl_PutNum_L1 Fuel p0 ([] : List Int)


noncomputable def impl_PutInt (p0 : Int) : Option ((List Int) × Bool) :=
  (impl_within p0 (-1000000000) 1000000000).bind fun y1 => if (!y1) then some (([] : List Int), true) else if decide (p0 < 0) then (impl_PutNum (IntKind.i64.wrap ((IntKind.i64.wrap ((-2) * p0)) - 1))).bind fun y3 => some (y3.1, y3.2) else (impl_PutNum (IntKind.i64.wrap (2 * p0))).bind fun y13 => some (y13.1, y13.2)


noncomputable def laws_eqByteS_L1 (p0 : List Int) (p1 : List Int) : Nat → Int → Option (Bool)
  | 0, _ => none
  | k1 + 1, i6 =>
    if decide (i6 < (p0.length : Int)) then (idx p0 i6).bind fun e12 => (idx p1 i6).bind fun e14 => if (e12 != e14) then some false else (laws_eqByteS_L1 p0 p1 k1) (IntKind.i64.wrap (i6 + 1)) else some true

theorem laws_eqByteS_L1_ind (p0 : List Int) (p1 : List Int) {P : Int → Option (Bool) → Prop} (μ : Int → Nat) (h : ∀ (i6 : Int) (R : Int → Option (Bool)), (∀ i6', μ i6' < μ i6 → P i6' (R i6')) → P i6 (if decide (i6 < (p0.length : Int)) then (idx p0 i6).bind fun e12 => (idx p1 i6).bind fun e14 => if (e12 != e14) then some false else (R) (IntKind.i64.wrap (i6 + 1)) else some true)) : ∀ k i6, μ i6 < k → P i6 (laws_eqByteS_L1 p0 p1 k i6) := by
  intro k
  induction k with
  | zero => intro i6 hk; exact absurd hk (Nat.not_lt_zero _)
  | succ k ih => intro i6 hk; unfold laws_eqByteS_L1; exact h i6 (laws_eqByteS_L1 p0 p1 k) (fun i6' hs => ih i6' (Nat.lt_of_lt_of_le hs (Nat.le_of_lt_succ hk)))

noncomputable def laws_eqByteS (p0 : List Int) (p1 : List Int) : Option (Bool) :=
  if ((p0.length : Int) != (p1.length : Int)) then some false else laws_eqByteS_L1 p0 p1 Fuel 0


noncomputable def laws_markByteS_L1 (p0 : List Int) : Nat → (List Int) → Int → Int → Option (Int × (List Int))
  | 0, _, _, _ => none
  | k1 + 1, l6, i7, i9 =>
    if decide (i9 < (p0.length : Int)) then (idx l6 i9).bind fun _ => (laws_markByteS_L1 p0 k1) (l6.set i9.toNat (IntKind.u8.wrap i7)) (IntKind.i64.wrap (i7 + 1)) (IntKind.i64.wrap (i9 + 1)) else some (i7, l6)

theorem laws_markByteS_L1_ind (p0 : List Int) {P : (List Int) → Int → Int → Option (Int × (List Int)) → Prop} (μ : (List Int) → Int → Int → Nat) (h : ∀ (l6 : List Int) (i7 : Int) (i9 : Int) (R : (List Int) → Int → Int → Option (Int × (List Int))), (∀ l6' i7' i9', μ l6' i7' i9' < μ l6 i7 i9 → P l6' i7' i9' (R l6' i7' i9')) → P l6 i7 i9 (if decide (i9 < (p0.length : Int)) then (idx l6 i9).bind fun _ => (R) (l6.set i9.toNat (IntKind.u8.wrap i7)) (IntKind.i64.wrap (i7 + 1)) (IntKind.i64.wrap (i9 + 1)) else some (i7, l6))) : ∀ k l6 i7 i9, μ l6 i7 i9 < k → P l6 i7 i9 (laws_markByteS_L1 p0 k l6 i7 i9) := by
  intro k
  induction k with
  | zero => intro l6 i7 i9 hk; exact absurd hk (Nat.not_lt_zero _)
  | succ k ih => intro l6 i7 i9 hk; unfold laws_markByteS_L1; exact h l6 i7 i9 (laws_markByteS_L1 p0 k) (fun l6' i7' i9' hs => ih l6' i7' i9' (Nat.lt_of_lt_of_le hs (Nat.le_of_lt_succ hk)))

noncomputable def laws_markByteS (p0 : List Int) (p1 : Int) : Option (Int × (List Int)) :=
  laws_markByteS_L1 p0 Fuel p0 p1 0


noncomputable def laws_heldByteS_L1 (p0 : List Int) : Nat → Int → Int → Option (Int)
  | 0, _, _ => none
  | k1 + 1, i5, i6 =>
    if decide (i6 < (p0.length : Int)) then (idx p0 i6).bind fun e11 => if (e11 != (IntKind.u8.wrap i5)) then some (-1) else (laws_heldByteS_L1 p0 k1) (IntKind.i64.wrap (i5 + 1)) (IntKind.i64.wrap (i6 + 1)) else some i5

theorem laws_heldByteS_L1_ind (p0 : List Int) {P : Int → Int → Option (Int) → Prop} (μ : Int → Int → Nat) (h : ∀ (i5 : Int) (i6 : Int) (R : Int → Int → Option (Int)), (∀ i5' i6', μ i5' i6' < μ i5 i6 → P i5' i6' (R i5' i6')) → P i5 i6 (if decide (i6 < (p0.length : Int)) then (idx p0 i6).bind fun e11 => if (e11 != (IntKind.u8.wrap i5)) then some (-1) else (R) (IntKind.i64.wrap (i5 + 1)) (IntKind.i64.wrap (i6 + 1)) else some i5)) : ∀ k i5 i6, μ i5 i6 < k → P i5 i6 (laws_heldByteS_L1 p0 k i5 i6) := by
  intro k
  induction k with
  | zero => intro i5 i6 hk; exact absurd hk (Nat.not_lt_zero _)
  | succ k ih => intro i5 i6 hk; unfold laws_heldByteS_L1; exact h i5 i6 (laws_heldByteS_L1 p0 k) (fun i5' i6' hs => ih i5' i6' (Nat.lt_of_lt_of_le hs (Nat.le_of_lt_succ hk)))

noncomputable def laws_heldByteS (p0 : List Int) (p1 : Int) : Option (Int) :=
  laws_heldByteS_L1 p0 Fuel p1 0


noncomputable def laws_FnExactPutInt (p0 : Int) : Option (Bool) :=
  (spec_PutInt p0).bind fun y1 => (impl_PutInt p0).bind fun y10 => (laws_eqByteS y10.1 y1).bind fun y20 => if (!y20) then some false else (laws_markByteS y10.1 1).bind fun y22 => (laws_heldByteS y22.2 1).bind fun y28 => if decide (y28 < 0) then some false else if (y28 != y22.1) then some false else (impl_PutInt p0).bind fun y30 => (laws_eqByteS y30.1 y1).bind fun y40 => if (!y40) then some false else (laws_heldByteS y22.2 1).bind fun y42 => if decide (y42 < 0) then some false else if (y42 != y22.1) then some false else some true


noncomputable def laws_toByteS_L1 (p0 : List Int) : Nat → (List Int) → Int → Option (List Int)
  | 0, _, _ => none
  | k1 + 1, l10, i11 =>
    if decide (i11 < (p0.length : Int)) then (idx p0 i11).bind fun e18 => (idx l10 i11).bind fun _ => (laws_toByteS_L1 p0 k1) (l10.set i11.toNat e18) (IntKind.i64.wrap (i11 + 1)) else some l10

theorem laws_toByteS_L1_ind (p0 : List Int) {P : (List Int) → Int → Option (List Int) → Prop} (μ : (List Int) → Int → Nat) (h : ∀ (l10 : List Int) (i11 : Int) (R : (List Int) → Int → Option (List Int)), (∀ l10' i11', μ l10' i11' < μ l10 i11 → P l10' i11' (R l10' i11')) → P l10 i11 (if decide (i11 < (p0.length : Int)) then (idx p0 i11).bind fun e18 => (idx l10 i11).bind fun _ => (R) (l10.set i11.toNat e18) (IntKind.i64.wrap (i11 + 1)) else some l10)) : ∀ k l10 i11, μ l10 i11 < k → P l10 i11 (laws_toByteS_L1 p0 k l10 i11) := by
  intro k
  induction k with
  | zero => intro l10 i11 hk; exact absurd hk (Nat.not_lt_zero _)
  | succ k ih => intro l10 i11 hk; unfold laws_toByteS_L1; exact h l10 i11 (laws_toByteS_L1 p0 k) (fun l10' i11' hs => ih l10' i11' (Nat.lt_of_lt_of_le hs (Nat.le_of_lt_succ hk)))

noncomputable def laws_toByteS (p0 : List Int) : Option (List Int) :=
  (mk (0 : Int) (p0.length : Int)).bind fun l1 => laws_toByteS_L1 p0 Fuel l1 0


noncomputable def spec_GetNum_L1 (p1 : Int) (p0 : List Int) : Nat → Int → Int → Option (Int × Int × Bool)
  | 0, _, _ => none
  | k1 + 1, i13, i14 =>
    if decide (i14 < 5) then if ((decide (p1 < 0)) || (decide (p1 ≥ (IntKind.i64.wrap ((p0.length : Int) - i14))))) then some (0, 0, false) else (idx p0 (IntKind.i64.wrap (p1 + i14))).bind fun e29 => (shl .i64 (Int.tmod (IntKind.i64.wrap e29) 128) (IntKind.i64.wrap (7 * i14))).bind fun x31 => if decide ((IntKind.i64.wrap e29) < 128) then if (((decide (i14 > 0)) && ((IntKind.i64.wrap e29) == 0)) || (decide ((ibits .or .i64 i13 x31) > 2147483647))) then some (0, 0, false) else some (ibits .or .i64 i13 x31, IntKind.i64.wrap ((IntKind.i64.wrap (p1 + i14)) + 1), true) else (spec_GetNum_L1 p1 p0 k1) (ibits .or .i64 i13 x31) (IntKind.i64.wrap (i14 + 1)) else some (0, 0, false)

theorem spec_GetNum_L1_ind (p1 : Int) (p0 : List Int) {P : Int → Int → Option (Int × Int × Bool) → Prop} (μ : Int → Int → Nat) (h : ∀ (i13 : Int) (i14 : Int) (R : Int → Int → Option (Int × Int × Bool)), (∀ i13' i14', μ i13' i14' < μ i13 i14 → P i13' i14' (R i13' i14')) → P i13 i14 (if decide (i14 < 5) then if ((decide (p1 < 0)) || (decide (p1 ≥ (IntKind.i64.wrap ((p0.length : Int) - i14))))) then some (0, 0, false) else (idx p0 (IntKind.i64.wrap (p1 + i14))).bind fun e29 => (shl .i64 (Int.tmod (IntKind.i64.wrap e29) 128) (IntKind.i64.wrap (7 * i14))).bind fun x31 => if decide ((IntKind.i64.wrap e29) < 128) then if (((decide (i14 > 0)) && ((IntKind.i64.wrap e29) == 0)) || (decide ((ibits .or .i64 i13 x31) > 2147483647))) then some (0, 0, false) else some (ibits .or .i64 i13 x31, IntKind.i64.wrap ((IntKind.i64.wrap (p1 + i14)) + 1), true) else (R) (ibits .or .i64 i13 x31) (IntKind.i64.wrap (i14 + 1)) else some (0, 0, false))) : ∀ k i13 i14, μ i13 i14 < k → P i13 i14 (spec_GetNum_L1 p1 p0 k i13 i14) := by
  intro k
  induction k with
  | zero => intro i13 i14 hk; exact absurd hk (Nat.not_lt_zero _)
  | succ k ih => intro i13 i14 hk; unfold spec_GetNum_L1; exact h i13 i14 (spec_GetNum_L1 p1 p0 k) (fun i13' i14' hs => ih i13' i14' (Nat.lt_of_lt_of_le hs (Nat.le_of_lt_succ hk)))

noncomputable def spec_GetNum (p0 : List Int) (p1 : Int) : Option (Int × Int × Bool) :=
  spec_GetNum_L1 p1 p0 Fuel 0 0


noncomputable def spec_GetInt_J1 (y1 : Int × Int × Bool) (i3 : Int) : Option (Int × Int × Bool) :=
  (spec_l1In i3 (-1000000000) 1000000000).bind fun y4 => if (!y4) then some (0, 0, false) else some (i3, y1.2.1, true)

noncomputable def spec_GetInt (p0 : List Int) (p1 : Int) : Option (Int × Int × Bool) :=
  (spec_GetNum p0 p1).bind fun y1 => if (!y1.2.2) then some (0, 0, false) else if ((Int.tmod y1.1 2) == 1) then spec_GetInt_J1 y1 (IntKind.i64.wrap ((IntKind.i64.wrap (0 - (IntKind.i64.wrap (Int.tdiv y1.1 2)))) - 1)) else spec_GetInt_J1 y1 (IntKind.i64.wrap (Int.tdiv y1.1 2))


noncomputable def impl_GetNum_L1 (p1 : Int) (p0 : List Int) : Nat → Int → Int → Option (Int × Int × Bool)
  | 0, _, _ => none
  | k1 + 1, i15, i17 =>
    if (((decide (i17 < 5)) && (decide ((IntKind.i64.wrap (p1 + i17)) ≥ 0))) && (decide ((IntKind.i64.wrap (p1 + i17)) < (p0.length : Int)))) then (idx p0 (IntKind.i64.wrap (p1 + i17))).bind fun e37 => (shl .i64 (ibits .and .i64 (IntKind.i64.wrap e37) 127) (IntKind.i64.wrap (7 * i17))).bind fun x39 => if decide ((IntKind.i64.wrap e37) ≥ 128) then (impl_GetNum_L1 p1 p0 k1) (ibits .or .i64 i15 x39) (IntKind.i64.wrap (i17 + 1)) else if ((((IntKind.i64.wrap e37) == 0) && (decide (i17 > 0))) || (decide ((ibits .or .i64 i15 x39) > 2147483647))) then some (0, 0, false) else some (ibits .or .i64 i15 x39, IntKind.i64.wrap ((IntKind.i64.wrap (p1 + i17)) + 1), true) else some (0, 0, false)

theorem impl_GetNum_L1_ind (p1 : Int) (p0 : List Int) {P : Int → Int → Option (Int × Int × Bool) → Prop} (μ : Int → Int → Nat) (h : ∀ (i15 : Int) (i17 : Int) (R : Int → Int → Option (Int × Int × Bool)), (∀ i15' i17', μ i15' i17' < μ i15 i17 → P i15' i17' (R i15' i17')) → P i15 i17 (if (((decide (i17 < 5)) && (decide ((IntKind.i64.wrap (p1 + i17)) ≥ 0))) && (decide ((IntKind.i64.wrap (p1 + i17)) < (p0.length : Int)))) then (idx p0 (IntKind.i64.wrap (p1 + i17))).bind fun e37 => (shl .i64 (ibits .and .i64 (IntKind.i64.wrap e37) 127) (IntKind.i64.wrap (7 * i17))).bind fun x39 => if decide ((IntKind.i64.wrap e37) ≥ 128) then (R) (ibits .or .i64 i15 x39) (IntKind.i64.wrap (i17 + 1)) else if ((((IntKind.i64.wrap e37) == 0) && (decide (i17 > 0))) || (decide ((ibits .or .i64 i15 x39) > 2147483647))) then some (0, 0, false) else some (ibits .or .i64 i15 x39, IntKind.i64.wrap ((IntKind.i64.wrap (p1 + i17)) + 1), true) else some (0, 0, false))) : ∀ k i15 i17, μ i15 i17 < k → P i15 i17 (impl_GetNum_L1 p1 p0 k i15 i17) := by
  intro k
  induction k with
  | zero => intro i15 i17 hk; exact absurd hk (Nat.not_lt_zero _)
  | succ k ih => intro i15 i17 hk; unfold impl_GetNum_L1; exact h i15 i17 (impl_GetNum_L1 p1 p0 k) (fun i15' i17' hs => ih i15' i17' (Nat.lt_of_lt_of_le hs (Nat.le_of_lt_succ hk)))

noncomputable def impl_GetNum (p0 : List Int) (p1 : Int) : Option (Int × Int × Bool) :=
  if decide (p1 < 0) then some (0, 0, false) else impl_GetNum_L1 p1 p0 Fuel 0 0


noncomputable def impl_GetInt_J1 (y1 : Int × Int × Bool) (i3 : Int) : Option (Int × Int × Bool) :=
  (if (!y1.2.2) then some true else (impl_within i3 (-1000000000) 1000000000).bind fun y5 => some (!y5)).bind fun u4 => if u4 then some (0, 0, false) else some (i3, y1.2.1, true)

noncomputable def impl_GetInt (p0 : List Int) (p1 : Int) : Option (Int × Int × Bool) :=
  (impl_GetNum p0 p1).bind fun y1 => if ((Int.tmod y1.1 2) == 1) then impl_GetInt_J1 y1 (IntKind.i64.wrap ((IntKind.i64.wrap (0 - (IntKind.i64.wrap (Int.tdiv y1.1 2)))) - 1)) else impl_GetInt_J1 y1 (IntKind.i64.wrap (Int.tdiv y1.1 2))


noncomputable def laws_FnExactGetInt (p0 : List Int) (p1 : Int) : Option (Bool) :=
  if decide ((p0.length : Int) > 1048576) then some true else (laws_toByteS p0).bind fun y1 => (spec_GetInt y1 p1).bind fun y10 => (laws_toByteS p0).bind fun y12 => (impl_GetInt y12 p1).bind fun y21 => if (((y21.1 != y10.1) || (y21.2.1 != y10.2.1)) || (y21.2.2 != y10.2.2)) then some false else (laws_toByteS p0).bind fun y27 => (laws_eqByteS y12 y27).bind fun y36 => if (!y36) then some false else some true


noncomputable def spec_Crc_L2 (R1 : Int → Int → Option (Int)) (i13 : Int) : Nat → Int → Int → Option (Int)
  | 0, _, _ => none
  | k2 + 1, i29, i30 =>
    if decide (i30 < 8) then if ((Int.tmod i29 2) == 1) then (spec_Crc_L2 R1 i13 k2) (ibits .xor .i64 (IntKind.i64.wrap (Int.tdiv i29 2)) 3988292384) (IntKind.i64.wrap (i30 + 1)) else (spec_Crc_L2 R1 i13 k2) (IntKind.i64.wrap (Int.tdiv i29 2)) (IntKind.i64.wrap (i30 + 1)) else R1 i29 (IntKind.i64.wrap (i13 + 1))

theorem spec_Crc_L2_ind (R1 : Int → Int → Option (Int)) (i13 : Int) {P : Int → Int → Option (Int) → Prop} (μ : Int → Int → Nat) (h : ∀ (i29 : Int) (i30 : Int) (R : Int → Int → Option (Int)), (∀ i29' i30', μ i29' i30' < μ i29 i30 → P i29' i30' (R i29' i30')) → P i29 i30 (if decide (i30 < 8) then if ((Int.tmod i29 2) == 1) then (R) (ibits .xor .i64 (IntKind.i64.wrap (Int.tdiv i29 2)) 3988292384) (IntKind.i64.wrap (i30 + 1)) else (R) (IntKind.i64.wrap (Int.tdiv i29 2)) (IntKind.i64.wrap (i30 + 1)) else R1 i29 (IntKind.i64.wrap (i13 + 1)))) : ∀ k i29 i30, μ i29 i30 < k → P i29 i30 (spec_Crc_L2 R1 i13 k i29 i30) := by
  intro k
  induction k with
  | zero => intro i29 i30 hk; exact absurd hk (Nat.not_lt_zero _)
  | succ k ih => intro i29 i30 hk; unfold spec_Crc_L2; exact h i29 i30 (spec_Crc_L2 R1 i13 k) (fun i29' i30' hs => ih i29' i30' (Nat.lt_of_lt_of_le hs (Nat.le_of_lt_succ hk)))

noncomputable def spec_Crc_L1 (p0 : List Int) : Nat → Int → Int → Option (Int)
  | 0, _, _ => none
  | k1 + 1, i12, i13 =>
    if decide (i13 < (p0.length : Int)) then (idx p0 i13).bind fun e25 => spec_Crc_L2 (spec_Crc_L1 p0 k1) i13 Fuel (ibits .xor .i64 i12 (IntKind.i64.wrap e25)) 0 else some (ibits .xor .i64 i12 4294967295)

theorem spec_Crc_L1_ind (p0 : List Int) {P : Int → Int → Option (Int) → Prop} (μ : Int → Int → Nat) (h : ∀ (i12 : Int) (i13 : Int) (R : Int → Int → Option (Int)), (∀ i12' i13', μ i12' i13' < μ i12 i13 → P i12' i13' (R i12' i13')) → P i12 i13 (if decide (i13 < (p0.length : Int)) then (idx p0 i13).bind fun e25 => spec_Crc_L2 (R) i13 Fuel (ibits .xor .i64 i12 (IntKind.i64.wrap e25)) 0 else some (ibits .xor .i64 i12 4294967295))) : ∀ k i12 i13, μ i12 i13 < k → P i12 i13 (spec_Crc_L1 p0 k i12 i13) := by
  intro k
  induction k with
  | zero => intro i12 i13 hk; exact absurd hk (Nat.not_lt_zero _)
  | succ k ih => intro i12 i13 hk; unfold spec_Crc_L1; exact h i12 i13 (spec_Crc_L1 p0 k) (fun i12' i13' hs => ih i12' i13' (Nat.lt_of_lt_of_le hs (Nat.le_of_lt_succ hk)))

noncomputable def spec_Crc (p0 : List Int) : Option (Int) :=
  spec_Crc_L1 p0 Fuel 4294967295 0


noncomputable def impl_Crc_L2 (R1 : Int → Int → Option (Int)) (i13 : Int) : Nat → Int → Int → Option (Int)
  | 0, _, _ => none
  | k2 + 1, i29, i30 =>
    if decide (i29 < 8) then if ((ibits .and .i64 i30 1) == 1) then (impl_Crc_L2 R1 i13 k2) (IntKind.i64.wrap (i29 + 1)) (ibits .xor .i64 (ishr .i64 i30 1) 3988292384) else (impl_Crc_L2 R1 i13 k2) (IntKind.i64.wrap (i29 + 1)) (ishr .i64 i30 1) else R1 i30 (IntKind.i64.wrap (i13 + 1))

theorem impl_Crc_L2_ind (R1 : Int → Int → Option (Int)) (i13 : Int) {P : Int → Int → Option (Int) → Prop} (μ : Int → Int → Nat) (h : ∀ (i29 : Int) (i30 : Int) (R : Int → Int → Option (Int)), (∀ i29' i30', μ i29' i30' < μ i29 i30 → P i29' i30' (R i29' i30')) → P i29 i30 (if decide (i29 < 8) then if ((ibits .and .i64 i30 1) == 1) then (R) (IntKind.i64.wrap (i29 + 1)) (ibits .xor .i64 (ishr .i64 i30 1) 3988292384) else (R) (IntKind.i64.wrap (i29 + 1)) (ishr .i64 i30 1) else R1 i30 (IntKind.i64.wrap (i13 + 1)))) : ∀ k i29 i30, μ i29 i30 < k → P i29 i30 (impl_Crc_L2 R1 i13 k i29 i30) := by
  intro k
  induction k with
  | zero => intro i29 i30 hk; exact absurd hk (Nat.not_lt_zero _)
  | succ k ih => intro i29 i30 hk; unfold impl_Crc_L2; exact h i29 i30 (impl_Crc_L2 R1 i13 k) (fun i29' i30' hs => ih i29' i30' (Nat.lt_of_lt_of_le hs (Nat.le_of_lt_succ hk)))

noncomputable def impl_Crc_L1 (p0 : List Int) : Nat → Int → Int → Option (Int)
  | 0, _, _ => none
  | k1 + 1, i12, i13 =>
    if decide (i13 < (p0.length : Int)) then (idx p0 i13).bind fun e25 => impl_Crc_L2 (impl_Crc_L1 p0 k1) i13 Fuel 0 (ibits .xor .i64 i12 (IntKind.i64.wrap e25)) else some (ibits .xor .i64 i12 4294967295)

theorem impl_Crc_L1_ind (p0 : List Int) {P : Int → Int → Option (Int) → Prop} (μ : Int → Int → Nat) (h : ∀ (i12 : Int) (i13 : Int) (R : Int → Int → Option (Int)), (∀ i12' i13', μ i12' i13' < μ i12 i13 → P i12' i13' (R i12' i13')) → P i12 i13 (if decide (i13 < (p0.length : Int)) then (idx p0 i13).bind fun e25 => impl_Crc_L2 (R) i13 Fuel 0 (ibits .xor .i64 i12 (IntKind.i64.wrap e25)) else some (ibits .xor .i64 i12 4294967295))) : ∀ k i12 i13, μ i12 i13 < k → P i12 i13 (impl_Crc_L1 p0 k i12 i13) := by
  intro k
  induction k with
  | zero => intro i12 i13 hk; exact absurd hk (Nat.not_lt_zero _)
  | succ k ih => intro i12 i13 hk; unfold impl_Crc_L1; exact h i12 i13 (impl_Crc_L1 p0 k) (fun i12' i13' hs => ih i12' i13' (Nat.lt_of_lt_of_le hs (Nat.le_of_lt_succ hk)))

noncomputable def impl_Crc (p0 : List Int) : Option (Int) :=
  impl_Crc_L1 p0 Fuel 4294967295 0


noncomputable def laws_FnExactCrc (p0 : List Int) : Option (Bool) :=
  if decide ((p0.length : Int) > 1048576) then some true else (laws_toByteS p0).bind fun y1 => (spec_Crc y1).bind fun y10 => (laws_toByteS p0).bind fun y12 => (impl_Crc y12).bind fun y21 => if (y21 != y10) then some false else (laws_toByteS p0).bind fun y23 => (laws_eqByteS y12 y23).bind fun y32 => if (!y32) then some false else some true


noncomputable def laws_big (p0 : List Int) : Option (Bool) :=
  some (decide ((p0.length : Int) > 1048576))


noncomputable def spec_l1New_L1 (p0 : List Int) : Nat → Int → Int → Option (Tspec_l1Cur)
  | 0, _, _ => none
  | k1 + 1, i7, i9 =>
    if ((decide (i9 < (p0.length : Int))) && (decide (i9 < 4000))) then (idx p0 i9).bind fun e19 => (spec_l1New_L1 p0 k1) (ibits .and .i64 (IntKind.i64.wrap ((IntKind.i64.wrap ((IntKind.i64.wrap (i7 * 131)) + (IntKind.i64.wrap e19))) + 7)) 1073741823) (IntKind.i64.wrap (i9 + 1)) else some (Tspec_l1Cur.mk 0 i7)

theorem spec_l1New_L1_ind (p0 : List Int) {P : Int → Int → Option (Tspec_l1Cur) → Prop} (μ : Int → Int → Nat) (h : ∀ (i7 : Int) (i9 : Int) (R : Int → Int → Option (Tspec_l1Cur)), (∀ i7' i9', μ i7' i9' < μ i7 i9 → P i7' i9' (R i7' i9')) → P i7 i9 (if ((decide (i9 < (p0.length : Int))) && (decide (i9 < 4000))) then (idx p0 i9).bind fun e19 => (R) (ibits .and .i64 (IntKind.i64.wrap ((IntKind.i64.wrap ((IntKind.i64.wrap (i7 * 131)) + (IntKind.i64.wrap e19))) + 7)) 1073741823) (IntKind.i64.wrap (i9 + 1)) else some (Tspec_l1Cur.mk 0 i7))) : ∀ k i7 i9, μ i7 i9 < k → P i7 i9 (spec_l1New_L1 p0 k i7 i9) := by
  intro k
  induction k with
  | zero => intro i7 i9 hk; exact absurd hk (Nat.not_lt_zero _)
  | succ k ih => intro i7 i9 hk; unfold spec_l1New_L1; exact h i7 i9 (spec_l1New_L1 p0 k) (fun i7' i9' hs => ih i7' i9' (Nat.lt_of_lt_of_le hs (Nat.le_of_lt_succ hk)))

noncomputable def spec_l1New (p0 : List Int) : Option (Tspec_l1Cur) :=
  spec_l1New_L1 p0 Fuel (IntKind.i64.wrap (26583 + (p0.length : Int))) 0


noncomputable def spec_l1Byte (p0b : List Int) (p0 : Tspec_l1Cur) : Option (Int × Tspec_l1Cur) :=
  if decide (p0.i_ < (p0b.length : Int)) then (idx p0b p0.i_).bind fun e1 => some (ibits .and .i64 (IntKind.i64.wrap ((ibits .and .i64 (ibits .xor .i64 (ishr .i64 (IntKind.i64.wrap ((IntKind.i64.wrap (p0.h_ * 6364136223846793005)) + 1442695040888963407)) 33) (ishr .i64 (IntKind.i64.wrap ((IntKind.i64.wrap (p0.h_ * 6364136223846793005)) + 1442695040888963407)) 45)) 255) + (IntKind.i64.wrap e1))) 255, (Tspec_l1Cur.mk (IntKind.i64.wrap (p0.i_ + 1)) (IntKind.i64.wrap ((IntKind.i64.wrap (p0.h_ * 6364136223846793005)) + 1442695040888963407)))) else some (ibits .and .i64 (ibits .xor .i64 (ishr .i64 (IntKind.i64.wrap ((IntKind.i64.wrap (p0.h_ * 6364136223846793005)) + 1442695040888963407)) 33) (ishr .i64 (IntKind.i64.wrap ((IntKind.i64.wrap (p0.h_ * 6364136223846793005)) + 1442695040888963407)) 45)) 255, (Tspec_l1Cur.mk p0.i_ (IntKind.i64.wrap ((IntKind.i64.wrap (p0.h_ * 6364136223846793005)) + 1442695040888963407))))


noncomputable def spec_l1Below (p0b : List Int) (p0 : Tspec_l1Cur) (p1 : Int) : Option (Int × Tspec_l1Cur) :=
  if decide (p1 ≤ 0) then some (0, p0) else if decide (p1 ≤ 256) then (spec_l1Byte p0b p0).bind fun y1 => (rem y1.1 p1).bind fun x6 => some (x6, y1.2) else (spec_l1Byte p0b p0).bind fun y8 => (spec_l1Byte p0b y8.2).bind fun y13 => (spec_l1Byte p0b y13.2).bind fun y18 => (spec_l1Byte p0b y18.2).bind fun y23 => (rem (IntKind.i64.wrap ((IntKind.i64.wrap ((IntKind.i64.wrap ((IntKind.i64.wrap (y8.1 * 16777216)) + (IntKind.i64.wrap (y13.1 * 65536)))) + (IntKind.i64.wrap (y18.1 * 256)))) + y23.1)) p1).bind fun x28 => some (x28, y23.2)


noncomputable def spec_l1PickInt (p0b : List Int) (p0 : Tspec_l1Cur) (p1 : List Int) : Option (Int × Tspec_l1Cur) :=
  (spec_l1Below p0b p0 (p1.length : Int)).bind fun y1 => (idx p1 y1.1).bind fun e6 => some (e6, y1.2)


noncomputable def spec_l15Bytes_L1 (p1 : Int) (p0b : List Int) : Nat → Int → Int → (List Int) → Int → Option ((List Int) × Tspec_l1Cur)
  | 0, _, _, _, _ => none
  | k1 + 1, i21, i22, l23, i27 =>
    if decide (i27 < p1) then (spec_l1Byte p0b (Tspec_l1Cur.mk i21 i22)).bind fun y47 => (app l23 ([IntKind.u8.wrap y47.1] : List Int)).bind fun l53 => (spec_l15Bytes_L1 p1 p0b k1) y47.2.i_ y47.2.h_ l53 (IntKind.i64.wrap (i27 + 1)) else some (l23, (Tspec_l1Cur.mk i21 i22))

theorem spec_l15Bytes_L1_ind (p1 : Int) (p0b : List Int) {P : Int → Int → (List Int) → Int → Option ((List Int) × Tspec_l1Cur) → Prop} (μ : Int → Int → (List Int) → Int → Nat) (h : ∀ (i21 : Int) (i22 : Int) (l23 : List Int) (i27 : Int) (R : Int → Int → (List Int) → Int → Option ((List Int) × Tspec_l1Cur)), (∀ i21' i22' l23' i27', μ i21' i22' l23' i27' < μ i21 i22 l23 i27 → P i21' i22' l23' i27' (R i21' i22' l23' i27')) → P i21 i22 l23 i27 (if decide (i27 < p1) then (spec_l1Byte p0b (Tspec_l1Cur.mk i21 i22)).bind fun y47 => (app l23 ([IntKind.u8.wrap y47.1] : List Int)).bind fun l53 => (R) y47.2.i_ y47.2.h_ l53 (IntKind.i64.wrap (i27 + 1)) else some (l23, (Tspec_l1Cur.mk i21 i22)))) : ∀ k i21 i22 l23 i27, μ i21 i22 l23 i27 < k → P i21 i22 l23 i27 (spec_l15Bytes_L1 p1 p0b k i21 i22 l23 i27) := by
  intro k
  induction k with
  | zero => intro i21 i22 l23 i27 hk; exact absurd hk (Nat.not_lt_zero _)
  | succ k ih => intro i21 i22 l23 i27 hk; unfold spec_l15Bytes_L1; exact h i21 i22 l23 i27 (spec_l15Bytes_L1 p1 p0b k) (fun i21' i22' l23' i27' hs => ih i21' i22' l23' i27' (Nat.lt_of_lt_of_le hs (Nat.le_of_lt_succ hk)))

noncomputable def spec_l15Bytes (p0b : List Int) (p0 : Tspec_l1Cur) (p1 : Int) : Option ((List Int) × Tspec_l1Cur) :=
  spec_l15Bytes_L1 p1 p0b Fuel p0.i_ p0.h_ ([] : List Int) 0


noncomputable def spec_DrawCrc (p0 : List Int) : Option (List Int) :=
  (spec_l1New p0).bind fun y1 => (spec_l1PickInt p0 y1 ([0, 1, 4, 9, 40] : List Int)).bind fun y8 => (spec_l15Bytes p0 y8.2 y8.1).bind fun y13 => some y13.1


noncomputable def laws_at0 (p0 : List Int) (p1 : Int) : Option (Int) :=
  if decide (p1 < (p0.length : Int)) then (idx p0 p1).bind fun e1 => some (IntKind.i64.wrap e1) else some (Int.tmod (IntKind.i64.wrap ((IntKind.i64.wrap (p1 * 7)) + (p0.length : Int))) 256)


noncomputable def laws_bit_L1 (p0 : Int) : Nat → Int → Int → Option (Int)
  | 0, _, _ => none
  | k1 + 1, i3, i4 =>
    if decide (i4 < (Int.tmod p0 8)) then (laws_bit_L1 p0 k1) (IntKind.i64.wrap (2 * i3)) (IntKind.i64.wrap (i4 + 1)) else some (IntKind.u8.wrap i3)

theorem laws_bit_L1_ind (p0 : Int) {P : Int → Int → Option (Int) → Prop} (μ : Int → Int → Nat) (h : ∀ (i3 : Int) (i4 : Int) (R : Int → Int → Option (Int)), (∀ i3' i4', μ i3' i4' < μ i3 i4 → P i3' i4' (R i3' i4')) → P i3 i4 (if decide (i4 < (Int.tmod p0 8)) then (R) (IntKind.i64.wrap (2 * i3)) (IntKind.i64.wrap (i4 + 1)) else some (IntKind.u8.wrap i3))) : ∀ k i3 i4, μ i3 i4 < k → P i3 i4 (laws_bit_L1 p0 k i3 i4) := by
  intro k
  induction k with
  | zero => intro i3 i4 hk; exact absurd hk (Nat.not_lt_zero _)
  | succ k ih => intro i3 i4 hk; unfold laws_bit_L1; exact h i3 i4 (laws_bit_L1 p0 k) (fun i3' i4' hs => ih i3' i4' (Nat.lt_of_lt_of_le hs (Nat.le_of_lt_succ hk)))

noncomputable def laws_bit (p0 : Int) : Option (Int) :=
  laws_bit_L1 p0 Fuel 1 0


noncomputable def laws_FnCrc (p0 : List Int) : Option (Bool) :=
  (laws_big p0).bind fun y1 => if y1 then some true else (spec_DrawCrc p0).bind fun y3 => if ((y3.length : Int) == 0) then (impl_Crc y3).bind fun y12 => some (y12 == 0) else (app ([] : List Int) y3).bind fun l15 => (laws_at0 p0 5).bind fun y20 => (laws_at0 p0 6).bind fun y22 => (rem (IntKind.i64.wrap ((IntKind.i64.wrap (y20 * 256)) + y22)) (y3.length : Int)).bind fun x24 => (idx l15 x24).bind fun e26 => (laws_at0 p0 7).bind fun y28 => (laws_bit y28).bind fun y30 => (idx l15 x24).bind fun _ => (impl_Crc (l15.set x24.toNat (ibits .xor .u8 e26 y30))).bind fun y34 => (impl_Crc y3).bind fun y36 => (if (y34 != y36) then (impl_Crc (l15.set x24.toNat (ibits .xor .u8 e26 y30))).bind fun y39 => some (decide (y39 ≥ 0)) else some false).bind fun u38 => (if u38 then (impl_Crc (l15.set x24.toNat (ibits .xor .u8 e26 y30))).bind fun y44 => some (decide (y44 ≤ 4294967295)) else some false).bind fun u43 => some u43


noncomputable def spec_l32Half (p0 : Int) : Option (Int) :=
  if ((decide (p0 ≥ 48)) && (decide (p0 ≤ 57))) then some (IntKind.i64.wrap ((IntKind.i64.wrap p0) - 48)) else if ((decide (p0 ≥ 97)) && (decide (p0 ≤ 102))) then some (IntKind.i64.wrap ((IntKind.i64.wrap p0) - 87)) else some (-1)


noncomputable def spec_HexOf_L1 (p0 : List UInt8) : Nat → (List Int) → Int → Option ((List Int) × Bool)
  | 0, _, _ => none
  | k1 + 1, l25, i29 =>
    if decide (i29 < (p0.length : Int)) then (idx p0 i29).bind fun b53 => (spec_l32Half (b53.toNat : Int)).bind fun y55 => (idx p0 (IntKind.i64.wrap (i29 + 1))).bind fun b57 => (spec_l32Half (b57.toNat : Int)).bind fun y59 => if ((decide (y55 < 0)) || (decide (y59 < 0))) then some (([] : List Int), false) else (app l25 ([IntKind.u8.wrap (IntKind.i64.wrap ((IntKind.i64.wrap (16 * y55)) + y59))] : List Int)).bind fun l65 => (spec_HexOf_L1 p0 k1) l65 (IntKind.i64.wrap (i29 + 2)) else some (l25, true)

theorem spec_HexOf_L1_ind (p0 : List UInt8) {P : (List Int) → Int → Option ((List Int) × Bool) → Prop} (μ : (List Int) → Int → Nat) (h : ∀ (l25 : List Int) (i29 : Int) (R : (List Int) → Int → Option ((List Int) × Bool)), (∀ l25' i29', μ l25' i29' < μ l25 i29 → P l25' i29' (R l25' i29')) → P l25 i29 (if decide (i29 < (p0.length : Int)) then (idx p0 i29).bind fun b53 => (spec_l32Half (b53.toNat : Int)).bind fun y55 => (idx p0 (IntKind.i64.wrap (i29 + 1))).bind fun b57 => (spec_l32Half (b57.toNat : Int)).bind fun y59 => if ((decide (y55 < 0)) || (decide (y59 < 0))) then some (([] : List Int), false) else (app l25 ([IntKind.u8.wrap (IntKind.i64.wrap ((IntKind.i64.wrap (16 * y55)) + y59))] : List Int)).bind fun l65 => (R) l65 (IntKind.i64.wrap (i29 + 2)) else some (l25, true))) : ∀ k l25 i29, μ l25 i29 < k → P l25 i29 (spec_HexOf_L1 p0 k l25 i29) := by
  intro k
  induction k with
  | zero => intro l25 i29 hk; exact absurd hk (Nat.not_lt_zero _)
  | succ k ih => intro l25 i29 hk; unfold spec_HexOf_L1; exact h l25 i29 (spec_HexOf_L1 p0 k) (fun l25' i29' hs => ih l25' i29' (Nat.lt_of_lt_of_le hs (Nat.le_of_lt_succ hk)))

noncomputable def spec_HexOf (p0 : List UInt8) : Option ((List Int) × Bool) :=
  if ((Int.tmod (p0.length : Int) 2) != 0) then some (([] : List Int), false) else spec_HexOf_L1 p0 Fuel ([] : List Int) 0


noncomputable def lib_stringslite_IndexByte (p0 : List UInt8) (p1 : Int) : Option (Int) :=
  some (Lib.indexByte p0 (Int.toNat p1).toUInt8)


noncomputable def lib_strings_IndexByte (p0 : List UInt8) (p1 : Int) : Option (Int) :=
  (lib_stringslite_IndexByte p0 p1).bind fun y1 => some y1


noncomputable def impl_HexOf_L1 (p0 : List UInt8) : Nat → (List Int) → Int → Option ((List Int) × Bool)
  | 0, _, _ => none
  | k1 + 1, l24, i28 =>
    if decide (i28 < (p0.length : Int)) then (idx p0 i28).bind fun b51 => (lib_strings_IndexByte ([48, 49, 50, 51, 52, 53, 54, 55, 56, 57, 97, 98, 99, 100, 101, 102] : List UInt8) (b51.toNat : Int)).bind fun y53 => (idx p0 (IntKind.i64.wrap (i28 + 1))).bind fun b55 => (lib_strings_IndexByte ([48, 49, 50, 51, 52, 53, 54, 55, 56, 57, 97, 98, 99, 100, 101, 102] : List UInt8) (b55.toNat : Int)).bind fun y57 => if ((decide (y53 < 0)) || (decide (y57 < 0))) then some (([] : List Int), false) else (app l24 ([IntKind.u8.wrap (ibits .or .i64 (ishl .i64 y53 4) y57)] : List Int)).bind fun l62 => (impl_HexOf_L1 p0 k1) l62 (IntKind.i64.wrap (i28 + 2)) else some (l24, true)

theorem impl_HexOf_L1_ind (p0 : List UInt8) {P : (List Int) → Int → Option ((List Int) × Bool) → Prop} (μ : (List Int) → Int → Nat) (h : ∀ (l24 : List Int) (i28 : Int) (R : (List Int) → Int → Option ((List Int) × Bool)), (∀ l24' i28', μ l24' i28' < μ l24 i28 → P l24' i28' (R l24' i28')) → P l24 i28 (if decide (i28 < (p0.length : Int)) then (idx p0 i28).bind fun b51 => (lib_strings_IndexByte ([48, 49, 50, 51, 52, 53, 54, 55, 56, 57, 97, 98, 99, 100, 101, 102] : List UInt8) (b51.toNat : Int)).bind fun y53 => (idx p0 (IntKind.i64.wrap (i28 + 1))).bind fun b55 => (lib_strings_IndexByte ([48, 49, 50, 51, 52, 53, 54, 55, 56, 57, 97, 98, 99, 100, 101, 102] : List UInt8) (b55.toNat : Int)).bind fun y57 => if ((decide (y53 < 0)) || (decide (y57 < 0))) then some (([] : List Int), false) else (app l24 ([IntKind.u8.wrap (ibits .or .i64 (ishl .i64 y53 4) y57)] : List Int)).bind fun l62 => (R) l62 (IntKind.i64.wrap (i28 + 2)) else some (l24, true))) : ∀ k l24 i28, μ l24 i28 < k → P l24 i28 (impl_HexOf_L1 p0 k l24 i28) := by
  intro k
  induction k with
  | zero => intro l24 i28 hk; exact absurd hk (Nat.not_lt_zero _)
  | succ k ih => intro l24 i28 hk; unfold impl_HexOf_L1; exact h l24 i28 (impl_HexOf_L1 p0 k) (fun l24' i28' hs => ih l24' i28' (Nat.lt_of_lt_of_le hs (Nat.le_of_lt_succ hk)))

noncomputable def impl_HexOf (p0 : List UInt8) : Option ((List Int) × Bool) :=
  if ((Int.tmod (p0.length : Int) 2) != 0) then some (([] : List Int), false) else impl_HexOf_L1 p0 Fuel ([] : List Int) 0


noncomputable def laws_FnExactHexOf (p0 : List UInt8) : Option (Bool) :=
  if decide ((p0.length : Int) > 1048576) then some true else (spec_HexOf p0).bind fun y1 => (impl_HexOf p0).bind fun y10 => (laws_eqByteS y10.1 y1.1).bind fun y19 => if ((!y19) || (y10.2 != y1.2)) then some false else (laws_markByteS y10.1 1).bind fun y23 => (laws_heldByteS y23.2 1).bind fun y29 => if decide (y29 < 0) then some false else if (y29 != y23.1) then some false else (impl_HexOf p0).bind fun y31 => (laws_eqByteS y31.1 y1.1).bind fun y40 => if ((!y40) || (y31.2 != y1.2)) then some false else (laws_heldByteS y23.2 1).bind fun y44 => if decide (y44 < 0) then some false else if (y44 != y23.1) then some false else some true


noncomputable def spec_l32Sign (p0 : Int) : Option (Int) :=
  if decide (p0 < 10) then some (IntKind.u8.wrap (IntKind.i64.wrap (48 + p0))) else some (IntKind.u8.wrap (IntKind.i64.wrap (87 + p0)))


noncomputable def spec_HexText_L1 (p0 : List Int) : Nat → (List Int) → Int → Option (List UInt8)
  | 0, _, _ => none
  | k1 + 1, l31, i35 =>
    if decide (i35 < (p0.length : Int)) then (idx p0 i35).bind fun e75 => (idx p0 i35).bind fun e77 => (spec_l32Sign (IntKind.i64.wrap (Int.tdiv (IntKind.i64.wrap e75) 16))).bind fun y79 => (spec_l32Sign (Int.tmod (IntKind.i64.wrap e77) 16)).bind fun y81 => (app l31 ([y79, y81] : List Int)).bind fun l84 => (spec_HexText_L1 p0 k1) l84 (IntKind.i64.wrap (i35 + 1)) else some (bytesOf l31)

theorem spec_HexText_L1_ind (p0 : List Int) {P : (List Int) → Int → Option (List UInt8) → Prop} (μ : (List Int) → Int → Nat) (h : ∀ (l31 : List Int) (i35 : Int) (R : (List Int) → Int → Option (List UInt8)), (∀ l31' i35', μ l31' i35' < μ l31 i35 → P l31' i35' (R l31' i35')) → P l31 i35 (if decide (i35 < (p0.length : Int)) then (idx p0 i35).bind fun e75 => (idx p0 i35).bind fun e77 => (spec_l32Sign (IntKind.i64.wrap (Int.tdiv (IntKind.i64.wrap e75) 16))).bind fun y79 => (spec_l32Sign (Int.tmod (IntKind.i64.wrap e77) 16)).bind fun y81 => (app l31 ([y79, y81] : List Int)).bind fun l84 => (R) l84 (IntKind.i64.wrap (i35 + 1)) else some (bytesOf l31))) : ∀ k l31 i35, μ l31 i35 < k → P l31 i35 (spec_HexText_L1 p0 k l31 i35) := by
  intro k
  induction k with
  | zero => intro l31 i35 hk; exact absurd hk (Nat.not_lt_zero _)
  | succ k ih => intro l31 i35 hk; unfold spec_HexText_L1; exact h l31 i35 (spec_HexText_L1 p0 k) (fun l31' i35' hs => ih l31' i35' (Nat.lt_of_lt_of_le hs (Nat.le_of_lt_succ hk)))

noncomputable def spec_HexText (p0 : List Int) : Option (List UInt8) :=
  spec_HexText_L1 p0 Fuel ([] : List Int) 0


noncomputable def impl_HexText_L1 (p0 : List Int) : Nat → (List Int) → Int → Option (List UInt8)
  | 0, _, _ => none
  | k1 + 1, l25, i29 =>
    if decide (i29 < (p0.length : Int)) then (idx p0 i29).bind fun e53 => (idx ([48, 49, 50, 51, 52, 53, 54, 55, 56, 57, 97, 98, 99, 100, 101, 102] : List UInt8) (ishr .u8 e53 4)).bind fun b60 => (idx ([48, 49, 50, 51, 52, 53, 54, 55, 56, 57, 97, 98, 99, 100, 101, 102] : List UInt8) (ibits .and .u8 e53 15)).bind fun b62 => (app l25 ([(b60.toNat : Int), (b62.toNat : Int)] : List Int)).bind fun l65 => (impl_HexText_L1 p0 k1) l65 (IntKind.i64.wrap (i29 + 1)) else some (bytesOf l25)

theorem impl_HexText_L1_ind (p0 : List Int) {P : (List Int) → Int → Option (List UInt8) → Prop} (μ : (List Int) → Int → Nat) (h : ∀ (l25 : List Int) (i29 : Int) (R : (List Int) → Int → Option (List UInt8)), (∀ l25' i29', μ l25' i29' < μ l25 i29 → P l25' i29' (R l25' i29')) → P l25 i29 (if decide (i29 < (p0.length : Int)) then (idx p0 i29).bind fun e53 => (idx ([48, 49, 50, 51, 52, 53, 54, 55, 56, 57, 97, 98, 99, 100, 101, 102] : List UInt8) (ishr .u8 e53 4)).bind fun b60 => (idx ([48, 49, 50, 51, 52, 53, 54, 55, 56, 57, 97, 98, 99, 100, 101, 102] : List UInt8) (ibits .and .u8 e53 15)).bind fun b62 => (app l25 ([(b60.toNat : Int), (b62.toNat : Int)] : List Int)).bind fun l65 => (R) l65 (IntKind.i64.wrap (i29 + 1)) else some (bytesOf l25))) : ∀ k l25 i29, μ l25 i29 < k → P l25 i29 (impl_HexText_L1 p0 k l25 i29) := by
  intro k
  induction k with
  | zero => intro l25 i29 hk; exact absurd hk (Nat.not_lt_zero _)
  | succ k ih => intro l25 i29 hk; unfold impl_HexText_L1; exact h l25 i29 (impl_HexText_L1 p0 k) (fun l25' i29' hs => ih l25' i29' (Nat.lt_of_lt_of_le hs (Nat.le_of_lt_succ hk)))

noncomputable def impl_HexText (p0 : List Int) : Option (List UInt8) :=
  impl_HexText_L1 p0 Fuel ([] : List Int) 0


noncomputable def laws_FnExactHexText (p0 : List Int) : Option (Bool) :=
  if decide ((p0.length : Int) > 1048576) then some true else (laws_toByteS p0).bind fun y1 => (spec_HexText y1).bind fun y10 => (laws_toByteS p0).bind fun y12 => (impl_HexText y12).bind fun y21 => if (!(y21 == y10)) then some false else (laws_toByteS p0).bind fun y23 => (laws_eqByteS y12 y23).bind fun y32 => if (!y32) then some false else some true


end Go.Vk
