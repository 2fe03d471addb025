/- The functions of the code, as functions of data. Printed by program. -/

import Derived.Test.YtkhdakkhmikfcaaVkBr

namespace Go.Vk



structure Tlaws_Pair where
  Truth_ : Int
  Said_ : Int
  deriving DecidableEq, Inhabited

structure Tlaws_Score where
  Table_ : List (List Int)
  Last_ : List Tlaws_Pair
  deriving DecidableEq, Inhabited

structure Timpl_Pair where
  Truth_ : Int
  Said_ : Int
  deriving DecidableEq, Inhabited

structure Timpl_Score where
  Table_ : List (List Int)
  Last_ : List Timpl_Pair
  deriving DecidableEq, Inhabited

structure Tspec_l1Cur where
  i_ : Int
  h_ : Int
  deriving DecidableEq, Inhabited

structure Timpl_Frac where
  Num_ : Int
  Den_ : Int
  deriving DecidableEq, Inhabited

noncomputable def laws_szIntS (p0 : List Int) (p1 : Int) : Option (Int) :=
  if decide ((IntKind.i64.wrap (p1 - (p0.length : Int))) < 0) then some (-1) else some (IntKind.i64.wrap (p1 - (p0.length : Int)))


noncomputable def laws_szIntSS_L1 (p0 : List (List Int)) : Nat → Int → Int → Option (Int)
  | 0, _, _ => none
  | k1 + 1, i13, i14 =>
    if decide (i14 < (p0.length : Int)) then (idx p0 i14).bind fun e27 => (laws_szIntS e27 i13).bind fun y35 => if decide (y35 < 0) then some (-1) else (laws_szIntSS_L1 p0 k1) y35 (IntKind.i64.wrap (i14 + 1)) else some i13

theorem laws_szIntSS_L1_ind (p0 : List (List Int)) {P : Int → Int → Option (Int) → Prop} (μ : Int → Int → Nat) (h : ∀ (i13 : Int) (i14 : Int) (R : Int → Int → Option (Int)), (∀ i13' i14', μ i13' i14' < μ i13 i14 → P i13' i14' (R i13' i14')) → P i13 i14 (if decide (i14 < (p0.length : Int)) then (idx p0 i14).bind fun e27 => (laws_szIntS e27 i13).bind fun y35 => if decide (y35 < 0) then some (-1) else (R) y35 (IntKind.i64.wrap (i14 + 1)) else some i13)) : ∀ k i13 i14, μ i13 i14 < k → P i13 i14 (laws_szIntSS_L1 p0 k i13 i14) := by
  intro k
  induction k with
  | zero => intro i13 i14 hk; exact absurd hk (Nat.not_lt_zero _)
  | succ k ih => intro i13 i14 hk; unfold laws_szIntSS_L1; exact h i13 i14 (laws_szIntSS_L1 p0 k) (fun i13' i14' hs => ih i13' i14' (Nat.lt_of_lt_of_le hs (Nat.le_of_lt_succ hk)))

noncomputable def laws_szIntSS (p0 : List (List Int)) (p1 : Int) : Option (Int) :=
  if decide ((IntKind.i64.wrap (p1 - (p0.length : Int))) < 0) then some (-1) else laws_szIntSS_L1 p0 Fuel (IntKind.i64.wrap (p1 - (p0.length : Int))) 0


noncomputable def laws_szPairS (p0 : List Tlaws_Pair) (p1 : Int) : Option (Int) :=
  if decide ((IntKind.i64.wrap (p1 - (p0.length : Int))) < 0) then some (-1) else some (IntKind.i64.wrap (p1 - (p0.length : Int)))


noncomputable def laws_szScore (p0 : Tlaws_Score) (p1 : Int) : Option (Int) :=
  (laws_szIntSS p0.Table_ p1).bind fun y10 => if decide (y10 < 0) then some (-1) else (laws_szPairS p0.Last_ y10).bind fun y12 => if decide (y12 < 0) then some (-1) else some y12


noncomputable def laws_toIntS_L1 (p0 : List Int) : Nat → (List Int) → Int → Option (List Int)
  | 0, _, _ => none
  | k1 + 1, l10, i11 =>
    if decide (i11 < (p0.length : Int)) then (idx p0 i11).bind fun e18 => (idx l10 i11).bind fun _ => (laws_toIntS_L1 p0 k1) (l10.set i11.toNat e18) (IntKind.i64.wrap (i11 + 1)) else some l10

theorem laws_toIntS_L1_ind (p0 : List Int) {P : (List Int) → Int → Option (List Int) → Prop} (μ : (List Int) → Int → Nat) (h : ∀ (l10 : List Int) (i11 : Int) (R : (List Int) → Int → Option (List Int)), (∀ l10' i11', μ l10' i11' < μ l10 i11 → P l10' i11' (R l10' i11')) → P l10 i11 (if decide (i11 < (p0.length : Int)) then (idx p0 i11).bind fun e18 => (idx l10 i11).bind fun _ => (R) (l10.set i11.toNat e18) (IntKind.i64.wrap (i11 + 1)) else some l10)) : ∀ k l10 i11, μ l10 i11 < k → P l10 i11 (laws_toIntS_L1 p0 k l10 i11) := by
  intro k
  induction k with
  | zero => intro l10 i11 hk; exact absurd hk (Nat.not_lt_zero _)
  | succ k ih => intro l10 i11 hk; unfold laws_toIntS_L1; exact h l10 i11 (laws_toIntS_L1 p0 k) (fun l10' i11' hs => ih l10' i11' (Nat.lt_of_lt_of_le hs (Nat.le_of_lt_succ hk)))

noncomputable def laws_toIntS (p0 : List Int) : Option (List Int) :=
  (mk (0 : Int) (p0.length : Int)).bind fun l1 => laws_toIntS_L1 p0 Fuel l1 0


noncomputable def laws_toIntSS_L1 (p0 : List (List Int)) : Nat → (List (List Int)) → Int → Option (List (List Int))
  | 0, _, _ => none
  | k1 + 1, l37, i39 =>
    if decide (i39 < (p0.length : Int)) then (idx p0 i39).bind fun e73 => (laws_toIntS e73).bind fun y81 => (idx l37 i39).bind fun _ => (laws_toIntSS_L1 p0 k1) (l37.set i39.toNat y81) (IntKind.i64.wrap (i39 + 1)) else some l37

theorem laws_toIntSS_L1_ind (p0 : List (List Int)) {P : (List (List Int)) → Int → Option (List (List Int)) → Prop} (μ : (List (List Int)) → Int → Nat) (h : ∀ (l37 : List (List Int)) (i39 : Int) (R : (List (List Int)) → Int → Option (List (List Int))), (∀ l37' i39', μ l37' i39' < μ l37 i39 → P l37' i39' (R l37' i39')) → P l37 i39 (if decide (i39 < (p0.length : Int)) then (idx p0 i39).bind fun e73 => (laws_toIntS e73).bind fun y81 => (idx l37 i39).bind fun _ => (R) (l37.set i39.toNat y81) (IntKind.i64.wrap (i39 + 1)) else some l37)) : ∀ k l37 i39, μ l37 i39 < k → P l37 i39 (laws_toIntSS_L1 p0 k l37 i39) := by
  intro k
  induction k with
  | zero => intro l37 i39 hk; exact absurd hk (Nat.not_lt_zero _)
  | succ k ih => intro l37 i39 hk; unfold laws_toIntSS_L1; exact h l37 i39 (laws_toIntSS_L1 p0 k) (fun l37' i39' hs => ih l37' i39' (Nat.lt_of_lt_of_le hs (Nat.le_of_lt_succ hk)))

noncomputable def laws_toIntSS (p0 : List (List Int)) : Option (List (List Int)) :=
  (mk ([] : List Int) (p0.length : Int)).bind fun l1 => laws_toIntSS_L1 p0 Fuel l1 0


noncomputable def laws_toPair (p0 : Tlaws_Pair) : Option (Timpl_Pair) :=
  some (Timpl_Pair.mk p0.Truth_ p0.Said_)


noncomputable def laws_toPairS_L1 (p0 : List Tlaws_Pair) : Nat → (List Timpl_Pair) → Int → Option (List Timpl_Pair)
  | 0, _, _ => none
  | k1 + 1, l21, i23 =>
    if decide (i23 < (p0.length : Int)) then (idx p0 i23).bind fun e41 => (laws_toPair e41).bind fun y43 => (idx l21 i23).bind fun _ => (laws_toPairS_L1 p0 k1) (l21.set i23.toNat y43) (IntKind.i64.wrap (i23 + 1)) else some l21

theorem laws_toPairS_L1_ind (p0 : List Tlaws_Pair) {P : (List Timpl_Pair) → Int → Option (List Timpl_Pair) → Prop} (μ : (List Timpl_Pair) → Int → Nat) (h : ∀ (l21 : List Timpl_Pair) (i23 : Int) (R : (List Timpl_Pair) → Int → Option (List Timpl_Pair)), (∀ l21' i23', μ l21' i23' < μ l21 i23 → P l21' i23' (R l21' i23')) → P l21 i23 (if decide (i23 < (p0.length : Int)) then (idx p0 i23).bind fun e41 => (laws_toPair e41).bind fun y43 => (idx l21 i23).bind fun _ => (R) (l21.set i23.toNat y43) (IntKind.i64.wrap (i23 + 1)) else some l21)) : ∀ k l21 i23, μ l21 i23 < k → P l21 i23 (laws_toPairS_L1 p0 k l21 i23) := by
  intro k
  induction k with
  | zero => intro l21 i23 hk; exact absurd hk (Nat.not_lt_zero _)
  | succ k ih => intro l21 i23 hk; unfold laws_toPairS_L1; exact h l21 i23 (laws_toPairS_L1 p0 k) (fun l21' i23' hs => ih l21' i23' (Nat.lt_of_lt_of_le hs (Nat.le_of_lt_succ hk)))

noncomputable def laws_toPairS (p0 : List Tlaws_Pair) : Option (List Timpl_Pair) :=
  (mk ((Timpl_Pair.mk 0 0) : Timpl_Pair) (p0.length : Int)).bind fun l1 => laws_toPairS_L1 p0 Fuel l1 0


noncomputable def laws_toScore (p0 : Tlaws_Score) : Option (Timpl_Score) :=
  (laws_toIntSS p0.Table_).bind fun y12 => (laws_toPairS p0.Last_).bind fun y21 => some (Timpl_Score.mk y12 y21)


noncomputable def spec_l1In (p0 : Int) (p1 : Int) (p2 : Int) : Option (Bool) :=
  some ((decide (p0 ≥ p1)) && (decide (p0 ≤ p2)))


noncomputable def spec_l25Pairs_L1 (p0 : List Timpl_Pair) (p1 : Int) (p2 : Int) : Nat → Int → Int → Option (Int)
  | 0, _, _ => none
  | k1 + 1, i11, i12 =>
    if decide (i12 < (p0.length : Int)) then (idx p0 i12).bind fun e22 => (if (e22.Truth_ == p1) then (idx p0 i12).bind fun e25 => some (e25.Said_ == p2) else some false).bind fun u24 => if u24 then (spec_l25Pairs_L1 p0 p1 p2 k1) (IntKind.i64.wrap (i11 + 1)) (IntKind.i64.wrap (i12 + 1)) else (spec_l25Pairs_L1 p0 p1 p2 k1) i11 (IntKind.i64.wrap (i12 + 1)) else some i11

theorem spec_l25Pairs_L1_ind (p0 : List Timpl_Pair) (p1 : Int) (p2 : Int) {P : Int → Int → Option (Int) → Prop} (μ : Int → Int → Nat) (h : ∀ (i11 : Int) (i12 : Int) (R : Int → Int → Option (Int)), (∀ i11' i12', μ i11' i12' < μ i11 i12 → P i11' i12' (R i11' i12')) → P i11 i12 (if decide (i12 < (p0.length : Int)) then (idx p0 i12).bind fun e22 => (if (e22.Truth_ == p1) then (idx p0 i12).bind fun e25 => some (e25.Said_ == p2) else some false).bind fun u24 => if u24 then (R) (IntKind.i64.wrap (i11 + 1)) (IntKind.i64.wrap (i12 + 1)) else (R) i11 (IntKind.i64.wrap (i12 + 1)) else some i11)) : ∀ k i11 i12, μ i11 i12 < k → P i11 i12 (spec_l25Pairs_L1 p0 p1 p2 k i11 i12) := by
  intro k
  induction k with
  | zero => intro i11 i12 hk; exact absurd hk (Nat.not_lt_zero _)
  | succ k ih => intro i11 i12 hk; unfold spec_l25Pairs_L1; exact h i11 i12 (spec_l25Pairs_L1 p0 p1 p2 k) (fun i11' i12' hs => ih i11' i12' (Nat.lt_of_lt_of_le hs (Nat.le_of_lt_succ hk)))

noncomputable def spec_l25Pairs (p0 : List Timpl_Pair) (p1 : Int) (p2 : Int) : Option (Int) :=
  spec_l25Pairs_L1 p0 p1 p2 Fuel 0 0


noncomputable def spec_l1Min (p0 : Int) (p1 : Int) : Option (Int) :=
  if decide (p0 < p1) then some p0 else some p1


noncomputable def spec_ScoreOk_L2 (p0 : Int) (p1 : Timpl_Score) (i142 : Int) (R1 : Int → Int → Option (Bool)) : Nat → Int → Int → Option (Bool)
  | 0, _, _ => none
  | k2 + 1, i317, i318 =>
    if decide (i318 < p0) then (idx p1.Table_ i142).bind fun e358 => (idx e358 i318).bind fun e366 => (spec_l1In e366 0 9999).bind fun y368 => (if (!y368) then some true else (spec_l25Pairs p1.Last_ i142 i318).bind fun y371 => (idx p1.Table_ i142).bind fun e373 => (idx e373 i318).bind fun e381 => some (decide (y371 > e381))).bind fun u370 => if u370 then some false else (idx p1.Table_ i142).bind fun e385 => (idx e385 i318).bind fun e393 => (spec_ScoreOk_L2 p0 p1 i142 R1 k2) (IntKind.i64.wrap (i317 + e393)) (IntKind.i64.wrap (i318 + 1)) else R1 i317 (IntKind.i64.wrap (i142 + 1))

theorem spec_ScoreOk_L2_ind (p0 : Int) (p1 : Timpl_Score) (i142 : Int) (R1 : Int → Int → Option (Bool)) {P : Int → Int → Option (Bool) → Prop} (μ : Int → Int → Nat) (h : ∀ (i317 : Int) (i318 : Int) (R : Int → Int → Option (Bool)), (∀ i317' i318', μ i317' i318' < μ i317 i318 → P i317' i318' (R i317' i318')) → P i317 i318 (if decide (i318 < p0) then (idx p1.Table_ i142).bind fun e358 => (idx e358 i318).bind fun e366 => (spec_l1In e366 0 9999).bind fun y368 => (if (!y368) then some true else (spec_l25Pairs p1.Last_ i142 i318).bind fun y371 => (idx p1.Table_ i142).bind fun e373 => (idx e373 i318).bind fun e381 => some (decide (y371 > e381))).bind fun u370 => if u370 then some false else (idx p1.Table_ i142).bind fun e385 => (idx e385 i318).bind fun e393 => (R) (IntKind.i64.wrap (i317 + e393)) (IntKind.i64.wrap (i318 + 1)) else R1 i317 (IntKind.i64.wrap (i142 + 1)))) : ∀ k i317 i318, μ i317 i318 < k → P i317 i318 (spec_ScoreOk_L2 p0 p1 i142 R1 k i317 i318) := by
  intro k
  induction k with
  | zero => intro i317 i318 hk; exact absurd hk (Nat.not_lt_zero _)
  | succ k ih => intro i317 i318 hk; unfold spec_ScoreOk_L2; exact h i317 i318 (spec_ScoreOk_L2 p0 p1 i142 R1 k) (fun i317' i318' hs => ih i317' i318' (Nat.lt_of_lt_of_le hs (Nat.le_of_lt_succ hk)))

noncomputable def spec_ScoreOk_L3 (p1 : Timpl_Score) (p0 : Int) : Nat → Int → Option (Bool)
  | 0, _ => none
  | k3 + 1, i412 =>
    if decide (i412 < (p1.Last_.length : Int)) then (idx p1.Last_ i412).bind fun e425 => (spec_l1In e425.Truth_ 0 (IntKind.i64.wrap (p0 - 1))).bind fun y427 => (if (!y427) then some true else (idx p1.Last_ i412).bind fun e430 => (spec_l1In e430.Said_ 0 (IntKind.i64.wrap (p0 - 1))).bind fun y432 => some (!y432)).bind fun u429 => if u429 then some false else (spec_ScoreOk_L3 p1 p0 k3) (IntKind.i64.wrap (i412 + 1)) else some true

theorem spec_ScoreOk_L3_ind (p1 : Timpl_Score) (p0 : Int) {P : Int → Option (Bool) → Prop} (μ : Int → Nat) (h : ∀ (i412 : Int) (R : Int → Option (Bool)), (∀ i412', μ i412' < μ i412 → P i412' (R i412')) → P i412 (if decide (i412 < (p1.Last_.length : Int)) then (idx p1.Last_ i412).bind fun e425 => (spec_l1In e425.Truth_ 0 (IntKind.i64.wrap (p0 - 1))).bind fun y427 => (if (!y427) then some true else (idx p1.Last_ i412).bind fun e430 => (spec_l1In e430.Said_ 0 (IntKind.i64.wrap (p0 - 1))).bind fun y432 => some (!y432)).bind fun u429 => if u429 then some false else (R) (IntKind.i64.wrap (i412 + 1)) else some true)) : ∀ k i412, μ i412 < k → P i412 (spec_ScoreOk_L3 p1 p0 k i412) := by
  intro k
  induction k with
  | zero => intro i412 hk; exact absurd hk (Nat.not_lt_zero _)
  | succ k ih => intro i412 hk; unfold spec_ScoreOk_L3; exact h i412 (spec_ScoreOk_L3 p1 p0 k) (fun i412' hs => ih i412' (Nat.lt_of_lt_of_le hs (Nat.le_of_lt_succ hk)))

noncomputable def spec_ScoreOk_L1 (p0 : Int) (p1 : Timpl_Score) : Nat → Int → Int → Option (Bool)
  | 0, _, _ => none
  | k1 + 1, i141, i142 =>
    if decide (i142 < p0) then (idx p1.Table_ i142).bind fun e270 => if ((e270.length : Int) != p0) then some false else spec_ScoreOk_L2 p0 p1 i142 (spec_ScoreOk_L1 p0 p1 k1) Fuel i141 0 else (if decide (i141 > 9999) then some true else (spec_l1Min i141 20).bind fun y396 => some ((p1.Last_.length : Int) != y396)).bind fun u395 => if u395 then some false else spec_ScoreOk_L3 p1 p0 Fuel 0

theorem spec_ScoreOk_L1_ind (p0 : Int) (p1 : Timpl_Score) {P : Int → Int → Option (Bool) → Prop} (μ : Int → Int → Nat) (h : ∀ (i141 : Int) (i142 : Int) (R : Int → Int → Option (Bool)), (∀ i141' i142', μ i141' i142' < μ i141 i142 → P i141' i142' (R i141' i142')) → P i141 i142 (if decide (i142 < p0) then (idx p1.Table_ i142).bind fun e270 => if ((e270.length : Int) != p0) then some false else spec_ScoreOk_L2 p0 p1 i142 (R) Fuel i141 0 else (if decide (i141 > 9999) then some true else (spec_l1Min i141 20).bind fun y396 => some ((p1.Last_.length : Int) != y396)).bind fun u395 => if u395 then some false else spec_ScoreOk_L3 p1 p0 Fuel 0)) : ∀ k i141 i142, μ i141 i142 < k → P i141 i142 (spec_ScoreOk_L1 p0 p1 k i141 i142) := by
  intro k
  induction k with
  | zero => intro i141 i142 hk; exact absurd hk (Nat.not_lt_zero _)
  | succ k ih => intro i141 i142 hk; unfold spec_ScoreOk_L1; exact h i141 i142 (spec_ScoreOk_L1 p0 p1 k) (fun i141' i142' hs => ih i141' i142' (Nat.lt_of_lt_of_le hs (Nat.le_of_lt_succ hk)))

noncomputable def spec_ScoreOk (p0 : Int) (p1 : Timpl_Score) : Option (Bool) :=
  (spec_l1In p0 2 3).bind fun y10 => if ((!y10) || ((p1.Table_.length : Int) != p0)) then some false else spec_ScoreOk_L1 p0 p1 Fuel 0 0


noncomputable def spec_l10Sum_L1 (p0 : List Int) : Nat → Int → Int → Option (Int)
  | 0, _, _ => none
  | k1 + 1, i5, i6 =>
    if decide (i6 < (p0.length : Int)) then (idx p0 i6).bind fun e11 => (spec_l10Sum_L1 p0 k1) (IntKind.i64.wrap (i5 + e11)) (IntKind.i64.wrap (i6 + 1)) else some i5

theorem spec_l10Sum_L1_ind (p0 : List Int) {P : Int → Int → Option (Int) → Prop} (μ : Int → Int → Nat) (h : ∀ (i5 : Int) (i6 : Int) (R : Int → Int → Option (Int)), (∀ i5' i6', μ i5' i6' < μ i5 i6 → P i5' i6' (R i5' i6')) → P i5 i6 (if decide (i6 < (p0.length : Int)) then (idx p0 i6).bind fun e11 => (R) (IntKind.i64.wrap (i5 + e11)) (IntKind.i64.wrap (i6 + 1)) else some i5)) : ∀ k i5 i6, μ i5 i6 < k → P i5 i6 (spec_l10Sum_L1 p0 k i5 i6) := by
  intro k
  induction k with
  | zero => intro i5 i6 hk; exact absurd hk (Nat.not_lt_zero _)
  | succ k ih => intro i5 i6 hk; unfold spec_l10Sum_L1; exact h i5 i6 (spec_l10Sum_L1 p0 k) (fun i5' i6' hs => ih i5' i6' (Nat.lt_of_lt_of_le hs (Nat.le_of_lt_succ hk)))

noncomputable def spec_l10Sum (p0 : List Int) : Option (Int) :=
  spec_l10Sum_L1 p0 Fuel 0 0


noncomputable def spec_Count_L1 (p0 : Int) (p1 : Timpl_Score) : Nat → Int → Int → Option (Int)
  | 0, _, _ => none
  | k1 + 1, i24, i25 =>
    if decide (i25 < p0) then (idx p1.Table_ i25).bind fun e38 => (spec_l10Sum e38).bind fun y46 => (spec_Count_L1 p0 p1 k1) (IntKind.i64.wrap (i24 + y46)) (IntKind.i64.wrap (i25 + 1)) else some i24

theorem spec_Count_L1_ind (p0 : Int) (p1 : Timpl_Score) {P : Int → Int → Option (Int) → Prop} (μ : Int → Int → Nat) (h : ∀ (i24 : Int) (i25 : Int) (R : Int → Int → Option (Int)), (∀ i24' i25', μ i24' i25' < μ i24 i25 → P i24' i25' (R i24' i25')) → P i24 i25 (if decide (i25 < p0) then (idx p1.Table_ i25).bind fun e38 => (spec_l10Sum e38).bind fun y46 => (R) (IntKind.i64.wrap (i24 + y46)) (IntKind.i64.wrap (i25 + 1)) else some i24)) : ∀ k i24 i25, μ i24 i25 < k → P i24 i25 (spec_Count_L1 p0 p1 k i24 i25) := by
  intro k
  induction k with
  | zero => intro i24 i25 hk; exact absurd hk (Nat.not_lt_zero _)
  | succ k ih => intro i24 i25 hk; unfold spec_Count_L1; exact h i24 i25 (spec_Count_L1 p0 p1 k) (fun i24' i25' hs => ih i24' i25' (Nat.lt_of_lt_of_le hs (Nat.le_of_lt_succ hk)))

noncomputable def spec_Count (p0 : Int) (p1 : Timpl_Score) : Option (Int) :=
  (spec_ScoreOk p0 p1).bind fun y10 => if (!y10) then some 0 else spec_Count_L1 p0 p1 Fuel 0 0


noncomputable def impl_within (p0 : Int) (p1 : Int) (p2 : Int) : Option (Bool) :=
  some ((decide (p0 ≥ p1)) && (decide (p0 ≤ p2)))


noncomputable def impl_ScoreOk_1 (p0 : Int) : Option (Bool) :=
  (impl_within p0 0 9999).bind fun y1 => some (!y1)


noncomputable def impl_total_L1 (p0 : List Int) : Nat → Int → Int → Option (Int)
  | 0, _, _ => none
  | k1 + 1, i5, i6 =>
    if decide (i6 < (p0.length : Int)) then (idx p0 i6).bind fun e11 => (impl_total_L1 p0 k1) (IntKind.i64.wrap (i5 + e11)) (IntKind.i64.wrap (i6 + 1)) else some i5

theorem impl_total_L1_ind (p0 : List Int) {P : Int → Int → Option (Int) → Prop} (μ : Int → Int → Nat) (h : ∀ (i5 : Int) (i6 : Int) (R : Int → Int → Option (Int)), (∀ i5' i6', μ i5' i6' < μ i5 i6 → P i5' i6' (R i5' i6')) → P i5 i6 (if decide (i6 < (p0.length : Int)) then (idx p0 i6).bind fun e11 => (R) (IntKind.i64.wrap (i5 + e11)) (IntKind.i64.wrap (i6 + 1)) else some i5)) : ∀ k i5 i6, μ i5 i6 < k → P i5 i6 (impl_total_L1 p0 k i5 i6) := by
  intro k
  induction k with
  | zero => intro i5 i6 hk; exact absurd hk (Nat.not_lt_zero _)
  | succ k ih => intro i5 i6 hk; unfold impl_total_L1; exact h i5 i6 (impl_total_L1 p0 k) (fun i5' i6' hs => ih i5' i6' (Nat.lt_of_lt_of_le hs (Nat.le_of_lt_succ hk)))

noncomputable def impl_total (p0 : List Int) : Option (Int) :=
  impl_total_L1 p0 Fuel 0 0


noncomputable def impl_tableSum_L1 (p0 : List (List Int)) : Nat → Int → Int → Option (Int)
  | 0, _, _ => none
  | k1 + 1, i13, i14 =>
    if decide (i14 < (p0.length : Int)) then (idx p0 i14).bind fun e27 => (impl_total e27).bind fun y35 => (impl_tableSum_L1 p0 k1) (IntKind.i64.wrap (i13 + y35)) (IntKind.i64.wrap (i14 + 1)) else some i13

theorem impl_tableSum_L1_ind (p0 : List (List Int)) {P : Int → Int → Option (Int) → Prop} (μ : Int → Int → Nat) (h : ∀ (i13 : Int) (i14 : Int) (R : Int → Int → Option (Int)), (∀ i13' i14', μ i13' i14' < μ i13 i14 → P i13' i14' (R i13' i14')) → P i13 i14 (if decide (i14 < (p0.length : Int)) then (idx p0 i14).bind fun e27 => (impl_total e27).bind fun y35 => (R) (IntKind.i64.wrap (i13 + y35)) (IntKind.i64.wrap (i14 + 1)) else some i13)) : ∀ k i13 i14, μ i13 i14 < k → P i13 i14 (impl_tableSum_L1 p0 k i13 i14) := by
  intro k
  induction k with
  | zero => intro i13 i14 hk; exact absurd hk (Nat.not_lt_zero _)
  | succ k ih => intro i13 i14 hk; unfold impl_tableSum_L1; exact h i13 i14 (impl_tableSum_L1 p0 k) (fun i13' i14' hs => ih i13' i14' (Nat.lt_of_lt_of_le hs (Nat.le_of_lt_succ hk)))

noncomputable def impl_tableSum (p0 : List (List Int)) : Option (Int) :=
  impl_tableSum_L1 p0 Fuel 0 0


noncomputable def lib_slices_IndexFunc___int_int___impl_ScoreOk_1_L1 (p0 : List Int) : Nat → Int → Option (Int)
  | 0, _ => none
  | k1 + 1, i6 =>
    if decide (i6 < (p0.length : Int)) then (idx p0 i6).bind fun e12 => (impl_ScoreOk_1 e12).bind fun y14 => if y14 then some i6 else (lib_slices_IndexFunc___int_int___impl_ScoreOk_1_L1 p0 k1) (IntKind.i64.wrap (i6 + 1)) else some (-1)

theorem lib_slices_IndexFunc___int_int___impl_ScoreOk_1_L1_ind (p0 : List Int) {P : Int → Option (Int) → Prop} (μ : Int → Nat) (h : ∀ (i6 : Int) (R : Int → Option (Int)), (∀ i6', μ i6' < μ i6 → P i6' (R i6')) → P i6 (if decide (i6 < (p0.length : Int)) then (idx p0 i6).bind fun e12 => (impl_ScoreOk_1 e12).bind fun y14 => if y14 then some i6 else (R) (IntKind.i64.wrap (i6 + 1)) else some (-1))) : ∀ k i6, μ i6 < k → P i6 (lib_slices_IndexFunc___int_int___impl_ScoreOk_1_L1 p0 k i6) := by
  intro k
  induction k with
  | zero => intro i6 hk; exact absurd hk (Nat.not_lt_zero _)
  | succ k ih => intro i6 hk; unfold lib_slices_IndexFunc___int_int___impl_ScoreOk_1_L1; exact h i6 (lib_slices_IndexFunc___int_int___impl_ScoreOk_1_L1 p0 k) (fun i6' hs => ih i6' (Nat.lt_of_lt_of_le hs (Nat.le_of_lt_succ hk)))

noncomputable def lib_slices_IndexFunc___int_int___impl_ScoreOk_1 (p0 : List Int) : Option (Int) :=
  lib_slices_IndexFunc___int_int___impl_ScoreOk_1_L1 p0 Fuel 0


noncomputable def lib_slices_ContainsFunc___int_int___impl_ScoreOk_1 (p0 : List Int) : Option (Bool) :=
  (lib_slices_IndexFunc___int_int___impl_ScoreOk_1 p0).bind fun y1 => some (decide (y1 ≥ 0))


noncomputable def impl_ScoreOk_L2 (p1 : Timpl_Score) (p0 : Int) : Nat → Int → (List (Timpl_Pair × Int)) → Option (Bool)
  | 0, _, _ => none
  | k2 + 1, i86, m87 =>
    if decide (i86 < (p1.Last_.length : Int)) then (idx p1.Last_ i86).bind fun e113 => (impl_within e113.Truth_ 0 (IntKind.i64.wrap (p0 - 1))).bind fun y116 => (if (!y116) then some true else (impl_within e113.Said_ 0 (IntKind.i64.wrap (p0 - 1))).bind fun y119 => some (!y119)).bind fun u118 => (if u118 then some true else (idx p1.Table_ e113.Truth_).bind fun e124 => (idx e124 e113.Said_).bind fun e132 => some (decide ((mGet (mPut m87 e113 (IntKind.i64.wrap ((mGet m87 e113) + 1))) e113) > e132))).bind fun u123 => if u123 then some false else (impl_ScoreOk_L2 p1 p0 k2) (IntKind.i64.wrap (i86 + 1)) (mPut m87 e113 (IntKind.i64.wrap ((mGet m87 e113) + 1))) else some true

theorem impl_ScoreOk_L2_ind (p1 : Timpl_Score) (p0 : Int) {P : Int → (List (Timpl_Pair × Int)) → Option (Bool) → Prop} (μ : Int → (List (Timpl_Pair × Int)) → Nat) (h : ∀ (i86 : Int) (m87 : List (Timpl_Pair × Int)) (R : Int → (List (Timpl_Pair × Int)) → Option (Bool)), (∀ i86' m87', μ i86' m87' < μ i86 m87 → P i86' m87' (R i86' m87')) → P i86 m87 (if decide (i86 < (p1.Last_.length : Int)) then (idx p1.Last_ i86).bind fun e113 => (impl_within e113.Truth_ 0 (IntKind.i64.wrap (p0 - 1))).bind fun y116 => (if (!y116) then some true else (impl_within e113.Said_ 0 (IntKind.i64.wrap (p0 - 1))).bind fun y119 => some (!y119)).bind fun u118 => (if u118 then some true else (idx p1.Table_ e113.Truth_).bind fun e124 => (idx e124 e113.Said_).bind fun e132 => some (decide ((mGet (mPut m87 e113 (IntKind.i64.wrap ((mGet m87 e113) + 1))) e113) > e132))).bind fun u123 => if u123 then some false else (R) (IntKind.i64.wrap (i86 + 1)) (mPut m87 e113 (IntKind.i64.wrap ((mGet m87 e113) + 1))) else some true)) : ∀ k i86 m87, μ i86 m87 < k → P i86 m87 (impl_ScoreOk_L2 p1 p0 k i86 m87) := by
  intro k
  induction k with
  | zero => intro i86 m87 hk; exact absurd hk (Nat.not_lt_zero _)
  | succ k ih => intro i86 m87 hk; unfold impl_ScoreOk_L2; exact h i86 m87 (impl_ScoreOk_L2 p1 p0 k) (fun i86' m87' hs => ih i86' m87' (Nat.lt_of_lt_of_le hs (Nat.le_of_lt_succ hk)))

noncomputable def impl_ScoreOk_L1 (p1 : Timpl_Score) (p0 : Int) : Nat → Int → Option (Bool)
  | 0, _ => none
  | k1 + 1, i28 =>
    if decide (i28 < (p1.Table_.length : Int)) then (idx p1.Table_ i28).bind fun e43 => (if ((e43.length : Int) != p0) then some true else (lib_slices_ContainsFunc___int_int___impl_ScoreOk_1 e43).bind fun y52 => some y52).bind fun u51 => if u51 then some false else (impl_ScoreOk_L1 p1 p0 k1) (IntKind.i64.wrap (i28 + 1)) else (impl_tableSum p1.Table_).bind fun y56 => if ((decide (y56 > 9999)) || ((p1.Last_.length : Int) != (if 20 < y56 then 20 else y56))) then some false else impl_ScoreOk_L2 p1 p0 Fuel 0 ([] : List (Timpl_Pair × Int))

theorem impl_ScoreOk_L1_ind (p1 : Timpl_Score) (p0 : Int) {P : Int → Option (Bool) → Prop} (μ : Int → Nat) (h : ∀ (i28 : Int) (R : Int → Option (Bool)), (∀ i28', μ i28' < μ i28 → P i28' (R i28')) → P i28 (if decide (i28 < (p1.Table_.length : Int)) then (idx p1.Table_ i28).bind fun e43 => (if ((e43.length : Int) != p0) then some true else (lib_slices_ContainsFunc___int_int___impl_ScoreOk_1 e43).bind fun y52 => some y52).bind fun u51 => if u51 then some false else (R) (IntKind.i64.wrap (i28 + 1)) else (impl_tableSum p1.Table_).bind fun y56 => if ((decide (y56 > 9999)) || ((p1.Last_.length : Int) != (if 20 < y56 then 20 else y56))) then some false else impl_ScoreOk_L2 p1 p0 Fuel 0 ([] : List (Timpl_Pair × Int)))) : ∀ k i28, μ i28 < k → P i28 (impl_ScoreOk_L1 p1 p0 k i28) := by
  intro k
  induction k with
  | zero => intro i28 hk; exact absurd hk (Nat.not_lt_zero _)
  | succ k ih => intro i28 hk; unfold impl_ScoreOk_L1; exact h i28 (impl_ScoreOk_L1 p1 p0 k) (fun i28' hs => ih i28' (Nat.lt_of_lt_of_le hs (Nat.le_of_lt_succ hk)))

noncomputable def impl_ScoreOk (p0 : Int) (p1 : Timpl_Score) : Option (Bool) :=
  (impl_within p0 2 3).bind fun y10 => if ((!y10) || ((p1.Table_.length : Int) != p0)) then some false else impl_ScoreOk_L1 p1 p0 Fuel 0


noncomputable def impl_Count (p0 : Int) (p1 : Timpl_Score) : Option (Int) :=
  (impl_ScoreOk p0 p1).bind fun y10 => if (!y10) then some 0 else (impl_tableSum p1.Table_).bind fun y12 => some y12


noncomputable def laws_eqIntS_L1 (p0 : List Int) (p1 : List Int) : Nat → Int → Option (Bool)
  | 0, _ => none
  | k1 + 1, i6 =>
    if decide (i6 < (p0.length : Int)) then (idx p0 i6).bind fun e12 => (idx p1 i6).bind fun e14 => if (e12 != e14) then some false else (laws_eqIntS_L1 p0 p1 k1) (IntKind.i64.wrap (i6 + 1)) else some true

theorem laws_eqIntS_L1_ind (p0 : List Int) (p1 : List Int) {P : Int → Option (Bool) → Prop} (μ : Int → Nat) (h : ∀ (i6 : Int) (R : Int → Option (Bool)), (∀ i6', μ i6' < μ i6 → P i6' (R i6')) → P i6 (if decide (i6 < (p0.length : Int)) then (idx p0 i6).bind fun e12 => (idx p1 i6).bind fun e14 => if (e12 != e14) then some false else (R) (IntKind.i64.wrap (i6 + 1)) else some true)) : ∀ k i6, μ i6 < k → P i6 (laws_eqIntS_L1 p0 p1 k i6) := by
  intro k
  induction k with
  | zero => intro i6 hk; exact absurd hk (Nat.not_lt_zero _)
  | succ k ih => intro i6 hk; unfold laws_eqIntS_L1; exact h i6 (laws_eqIntS_L1 p0 p1 k) (fun i6' hs => ih i6' (Nat.lt_of_lt_of_le hs (Nat.le_of_lt_succ hk)))

noncomputable def laws_eqIntS (p0 : List Int) (p1 : List Int) : Option (Bool) :=
  if ((p0.length : Int) != (p1.length : Int)) then some false else laws_eqIntS_L1 p0 p1 Fuel 0


noncomputable def laws_eqIntSS_L1 (p0 : List (List Int)) (p1 : List (List Int)) : Nat → Int → Option (Bool)
  | 0, _ => none
  | k1 + 1, i20 =>
    if decide (i20 < (p0.length : Int)) then (idx p0 i20).bind fun e40 => (idx p1 i20).bind fun e48 => (laws_eqIntS e40 e48).bind fun y56 => if (!y56) then some false else (laws_eqIntSS_L1 p0 p1 k1) (IntKind.i64.wrap (i20 + 1)) else some true

theorem laws_eqIntSS_L1_ind (p0 : List (List Int)) (p1 : List (List Int)) {P : Int → Option (Bool) → Prop} (μ : Int → Nat) (h : ∀ (i20 : Int) (R : Int → Option (Bool)), (∀ i20', μ i20' < μ i20 → P i20' (R i20')) → P i20 (if decide (i20 < (p0.length : Int)) then (idx p0 i20).bind fun e40 => (idx p1 i20).bind fun e48 => (laws_eqIntS e40 e48).bind fun y56 => if (!y56) then some false else (R) (IntKind.i64.wrap (i20 + 1)) else some true)) : ∀ k i20, μ i20 < k → P i20 (laws_eqIntSS_L1 p0 p1 k i20) := by
  intro k
  induction k with
  | zero => intro i20 hk; exact absurd hk (Nat.not_lt_zero _)
  | succ k ih => intro i20 hk; unfold laws_eqIntSS_L1; exact h i20 (laws_eqIntSS_L1 p0 p1 k) (fun i20' hs => ih i20' (Nat.lt_of_lt_of_le hs (Nat.le_of_lt_succ hk)))

noncomputable def laws_eqIntSS (p0 : List (List Int)) (p1 : List (List Int)) : Option (Bool) :=
  if ((p0.length : Int) != (p1.length : Int)) then some false else laws_eqIntSS_L1 p0 p1 Fuel 0


noncomputable def laws_eqPair (p0 : Timpl_Pair) (p1 : Timpl_Pair) : Option (Bool) :=
  if (p0.Truth_ != p1.Truth_) then some false else if (p0.Said_ != p1.Said_) then some false else some true


noncomputable def laws_eqPairS_L1 (p0 : List Timpl_Pair) (p1 : List Timpl_Pair) : Nat → Int → Option (Bool)
  | 0, _ => none
  | k1 + 1, i9 =>
    if decide (i9 < (p0.length : Int)) then (idx p0 i9).bind fun e18 => (idx p1 i9).bind fun e20 => (laws_eqPair e18 e20).bind fun y22 => if (!y22) then some false else (laws_eqPairS_L1 p0 p1 k1) (IntKind.i64.wrap (i9 + 1)) else some true

theorem laws_eqPairS_L1_ind (p0 : List Timpl_Pair) (p1 : List Timpl_Pair) {P : Int → Option (Bool) → Prop} (μ : Int → Nat) (h : ∀ (i9 : Int) (R : Int → Option (Bool)), (∀ i9', μ i9' < μ i9 → P i9' (R i9')) → P i9 (if decide (i9 < (p0.length : Int)) then (idx p0 i9).bind fun e18 => (idx p1 i9).bind fun e20 => (laws_eqPair e18 e20).bind fun y22 => if (!y22) then some false else (R) (IntKind.i64.wrap (i9 + 1)) else some true)) : ∀ k i9, μ i9 < k → P i9 (laws_eqPairS_L1 p0 p1 k i9) := by
  intro k
  induction k with
  | zero => intro i9 hk; exact absurd hk (Nat.not_lt_zero _)
  | succ k ih => intro i9 hk; unfold laws_eqPairS_L1; exact h i9 (laws_eqPairS_L1 p0 p1 k) (fun i9' hs => ih i9' (Nat.lt_of_lt_of_le hs (Nat.le_of_lt_succ hk)))

noncomputable def laws_eqPairS (p0 : List Timpl_Pair) (p1 : List Timpl_Pair) : Option (Bool) :=
  if ((p0.length : Int) != (p1.length : Int)) then some false else laws_eqPairS_L1 p0 p1 Fuel 0


noncomputable def laws_eqScore (p0 : Timpl_Score) (p1 : Timpl_Score) : Option (Bool) :=
  (laws_eqIntSS p0.Table_ p1.Table_).bind fun y19 => if (!y19) then some false else (laws_eqPairS p0.Last_ p1.Last_).bind fun y21 => if (!y21) then some false else some true


noncomputable def laws_FnExactCount (p0 : Int) (p1 : Tlaws_Score) : Option (Bool) :=
  (laws_szScore p1 1048576).bind fun y10 => if decide (y10 < 0) then some true else (laws_toScore p1).bind fun y12 => (spec_Count p0 y12).bind fun y25 => (laws_toScore p1).bind fun y27 => (impl_Count p0 y27).bind fun y41 => if (y41 != y25) then some false else (laws_toScore p1).bind fun y56 => (laws_eqScore y27 y56).bind fun y69 => if (!y69) then some false else some true


noncomputable def spec_l25Copy_L1 (p0 : Timpl_Score) (l12 : List Timpl_Pair) : Nat → (List (List Int)) → Int → Option (Timpl_Score)
  | 0, _, _ => none
  | k1 + 1, l58, i62 =>
    if decide (i62 < (p0.Table_.length : Int)) then (idx p0.Table_ i62).bind fun e118 => (app ([] : List Int) e118).bind fun l127 => (app l58 [l127]).bind fun l133 => (spec_l25Copy_L1 p0 l12 k1) l133 (IntKind.i64.wrap (i62 + 1)) else some (Timpl_Score.mk l58 l12)

theorem spec_l25Copy_L1_ind (p0 : Timpl_Score) (l12 : List Timpl_Pair) {P : (List (List Int)) → Int → Option (Timpl_Score) → Prop} (μ : (List (List Int)) → Int → Nat) (h : ∀ (l58 : List (List Int)) (i62 : Int) (R : (List (List Int)) → Int → Option (Timpl_Score)), (∀ l58' i62', μ l58' i62' < μ l58 i62 → P l58' i62' (R l58' i62')) → P l58 i62 (if decide (i62 < (p0.Table_.length : Int)) then (idx p0.Table_ i62).bind fun e118 => (app ([] : List Int) e118).bind fun l127 => (app l58 [l127]).bind fun l133 => (R) l133 (IntKind.i64.wrap (i62 + 1)) else some (Timpl_Score.mk l58 l12))) : ∀ k l58 i62, μ l58 i62 < k → P l58 i62 (spec_l25Copy_L1 p0 l12 k l58 i62) := by
  intro k
  induction k with
  | zero => intro l58 i62 hk; exact absurd hk (Nat.not_lt_zero _)
  | succ k ih => intro l58 i62 hk; unfold spec_l25Copy_L1; exact h l58 i62 (spec_l25Copy_L1 p0 l12 k) (fun l58' i62' hs => ih l58' i62' (Nat.lt_of_lt_of_le hs (Nat.le_of_lt_succ hk)))

noncomputable def spec_l25Copy (p0 : Timpl_Score) : Option (Timpl_Score) :=
  (app ([] : List Timpl_Pair) p0.Last_).bind fun l12 => spec_l25Copy_L1 p0 l12 Fuel ([] : List (List Int)) 0


noncomputable def spec_ScoreAdd (p0 : Int) (p1 : Timpl_Score) (p2 : Int) (p3 : Int) : Option (Timpl_Score × Bool) :=
  (spec_l25Copy p1).bind fun y11 => (spec_ScoreOk p0 p1).bind fun y25 => (if (!y25) then some true else (spec_l1In p2 0 (IntKind.i64.wrap (p0 - 1))).bind fun y28 => some (!y28)).bind fun u27 => (if u27 then some true else (spec_l1In p3 0 (IntKind.i64.wrap (p0 - 1))).bind fun y34 => some (!y34)).bind fun u33 => (if u33 then some true else (spec_Count p0 p1).bind fun y39 => some (y39 == 9999)).bind fun u38 => if u38 then some (y11, false) else (idx y11.Table_ p2).bind fun e43 => (idx e43 p3).bind fun e55 => (idx e43 p3).bind fun _ => (app y11.Last_ ([(Timpl_Pair.mk p2 p3)] : List Timpl_Pair)).bind fun l60 => if decide ((l60.length : Int) > 20) then (sub l60 1 (l60.length : Int)).bind fun l67 => (app ([] : List Timpl_Pair) l67).bind fun l69 => some ((Timpl_Score.mk (y11.Table_.set p2.toNat (e43.set p3.toNat (IntKind.i64.wrap (e55 + 1)))) l69), true) else some ((Timpl_Score.mk (y11.Table_.set p2.toNat (e43.set p3.toNat (IntKind.i64.wrap (e55 + 1)))) l60), true)


noncomputable def lib_slices_Clone___int_int_ (p0 : List Int) : Option (List Int) :=
  (app ([] : List Int) p0).bind fun l2 => some l2


noncomputable def impl_cloneLists_L1 (p0 : List (List Int)) : Nat → (List (List Int)) → Int → Option (List (List Int))
  | 0, _, _ => none
  | k1 + 1, l29, i33 =>
    if decide (i33 < (p0.length : Int)) then (idx p0 i33).bind fun e62 => (lib_slices_Clone___int_int_ e62).bind fun y70 => (app l29 [y70]).bind fun l80 => (impl_cloneLists_L1 p0 k1) l80 (IntKind.i64.wrap (i33 + 1)) else some l29

theorem impl_cloneLists_L1_ind (p0 : List (List Int)) {P : (List (List Int)) → Int → Option (List (List Int)) → Prop} (μ : (List (List Int)) → Int → Nat) (h : ∀ (l29 : List (List Int)) (i33 : Int) (R : (List (List Int)) → Int → Option (List (List Int))), (∀ l29' i33', μ l29' i33' < μ l29 i33 → P l29' i33' (R l29' i33')) → P l29 i33 (if decide (i33 < (p0.length : Int)) then (idx p0 i33).bind fun e62 => (lib_slices_Clone___int_int_ e62).bind fun y70 => (app l29 [y70]).bind fun l80 => (R) l80 (IntKind.i64.wrap (i33 + 1)) else some l29)) : ∀ k l29 i33, μ l29 i33 < k → P l29 i33 (impl_cloneLists_L1 p0 k l29 i33) := by
  intro k
  induction k with
  | zero => intro l29 i33 hk; exact absurd hk (Nat.not_lt_zero _)
  | succ k ih => intro l29 i33 hk; unfold impl_cloneLists_L1; exact h l29 i33 (impl_cloneLists_L1 p0 k) (fun l29' i33' hs => ih l29' i33' (Nat.lt_of_lt_of_le hs (Nat.le_of_lt_succ hk)))

noncomputable def impl_cloneLists (p0 : List (List Int)) : Option (List (List Int)) :=
  impl_cloneLists_L1 p0 Fuel ([] : List (List Int)) 0


noncomputable def lib_slices_Clone___impl_Pair_impl_Pair_ (p0 : List Timpl_Pair) : Option (List Timpl_Pair) :=
  (app ([] : List Timpl_Pair) p0).bind fun l2 => some l2


noncomputable def impl_cloneScore (p0 : Timpl_Score) : Option (Timpl_Score) :=
  (impl_cloneLists p0.Table_).bind fun y20 => (lib_slices_Clone___impl_Pair_impl_Pair_ p0.Last_).bind fun y29 => some (Timpl_Score.mk y20 y29)


noncomputable def lib_slices_Delete___impl_Pair_impl_Pair_ (p0 : List Timpl_Pair) (p1 : Int) (p2 : Int) : Option (List Timpl_Pair) :=
  (sub p0 p1 p2).bind fun _ => if (p1 == p2) then some p0 else (sub p0 0 p1).bind fun l3 => (sub p0 p2 (p0.length : Int)).bind fun l5 => some (l3 ++ l5)


noncomputable def impl_ScoreAdd (p0 : Int) (p1 : Timpl_Score) (p2 : Int) (p3 : Int) : Option (Timpl_Score × Bool) :=
  (impl_cloneScore p1).bind fun y11 => (impl_ScoreOk p0 p1).bind fun y25 => (if (!y25) then some true else (impl_within p2 0 (IntKind.i64.wrap (p0 - 1))).bind fun y28 => some (!y28)).bind fun u27 => (if u27 then some true else (impl_within p3 0 (IntKind.i64.wrap (p0 - 1))).bind fun y34 => some (!y34)).bind fun u33 => (if u33 then some true else (impl_tableSum p1.Table_).bind fun y39 => some (y39 == 9999)).bind fun u38 => if u38 then some (y11, false) else (idx y11.Table_ p2).bind fun e43 => (idx e43 p3).bind fun e55 => (idx e43 p3).bind fun _ => (app y11.Last_ ([(Timpl_Pair.mk p2 p3)] : List Timpl_Pair)).bind fun l60 => if decide ((l60.length : Int) > 20) then (lib_slices_Delete___impl_Pair_impl_Pair_ l60 0 1).bind fun y66 => some ((Timpl_Score.mk (y11.Table_.set p2.toNat (e43.set p3.toNat (IntKind.i64.wrap (e55 + 1)))) y66), true) else some ((Timpl_Score.mk (y11.Table_.set p2.toNat (e43.set p3.toNat (IntKind.i64.wrap (e55 + 1)))) l60), true)


noncomputable def laws_markIntS_L1 (p0 : List Int) : Nat → (List Int) → Int → Int → Option (Int × (List Int))
  | 0, _, _, _ => none
  | k1 + 1, l6, i7, i9 =>
    if decide (i9 < (p0.length : Int)) then (idx l6 i9).bind fun _ => (laws_markIntS_L1 p0 k1) (l6.set i9.toNat i7) (IntKind.i64.wrap (i7 + 1)) (IntKind.i64.wrap (i9 + 1)) else some (i7, l6)

theorem laws_markIntS_L1_ind (p0 : List Int) {P : (List Int) → Int → Int → Option (Int × (List Int)) → Prop} (μ : (List Int) → Int → Int → Nat) (h : ∀ (l6 : List Int) (i7 : Int) (i9 : Int) (R : (List Int) → Int → Int → Option (Int × (List Int))), (∀ l6' i7' i9', μ l6' i7' i9' < μ l6 i7 i9 → P l6' i7' i9' (R l6' i7' i9')) → P l6 i7 i9 (if decide (i9 < (p0.length : Int)) then (idx l6 i9).bind fun _ => (R) (l6.set i9.toNat i7) (IntKind.i64.wrap (i7 + 1)) (IntKind.i64.wrap (i9 + 1)) else some (i7, l6))) : ∀ k l6 i7 i9, μ l6 i7 i9 < k → P l6 i7 i9 (laws_markIntS_L1 p0 k l6 i7 i9) := by
  intro k
  induction k with
  | zero => intro l6 i7 i9 hk; exact absurd hk (Nat.not_lt_zero _)
  | succ k ih => intro l6 i7 i9 hk; unfold laws_markIntS_L1; exact h l6 i7 i9 (laws_markIntS_L1 p0 k) (fun l6' i7' i9' hs => ih l6' i7' i9' (Nat.lt_of_lt_of_le hs (Nat.le_of_lt_succ hk)))

noncomputable def laws_markIntS (p0 : List Int) (p1 : Int) : Option (Int × (List Int)) :=
  laws_markIntS_L1 p0 Fuel p0 p1 0


noncomputable def laws_markIntSS_L1 (p0 : List (List Int)) : Nat → (List (List Int)) → Int → Int → Option (Int × (List (List Int)))
  | 0, _, _, _ => none
  | k1 + 1, l24, i26, i27 =>
    if decide (i27 < (p0.length : Int)) then (idx l24 i27).bind fun e51 => (laws_markIntS e51 i26).bind fun y63 => (laws_markIntSS_L1 p0 k1) (l24.set i27.toNat y63.2) y63.1 (IntKind.i64.wrap (i27 + 1)) else some (i26, l24)

theorem laws_markIntSS_L1_ind (p0 : List (List Int)) {P : (List (List Int)) → Int → Int → Option (Int × (List (List Int))) → Prop} (μ : (List (List Int)) → Int → Int → Nat) (h : ∀ (l24 : List (List Int)) (i26 : Int) (i27 : Int) (R : (List (List Int)) → Int → Int → Option (Int × (List (List Int)))), (∀ l24' i26' i27', μ l24' i26' i27' < μ l24 i26 i27 → P l24' i26' i27' (R l24' i26' i27')) → P l24 i26 i27 (if decide (i27 < (p0.length : Int)) then (idx l24 i27).bind fun e51 => (laws_markIntS e51 i26).bind fun y63 => (R) (l24.set i27.toNat y63.2) y63.1 (IntKind.i64.wrap (i27 + 1)) else some (i26, l24))) : ∀ k l24 i26 i27, μ l24 i26 i27 < k → P l24 i26 i27 (laws_markIntSS_L1 p0 k l24 i26 i27) := by
  intro k
  induction k with
  | zero => intro l24 i26 i27 hk; exact absurd hk (Nat.not_lt_zero _)
  | succ k ih => intro l24 i26 i27 hk; unfold laws_markIntSS_L1; exact h l24 i26 i27 (laws_markIntSS_L1 p0 k) (fun l24' i26' i27' hs => ih l24' i26' i27' (Nat.lt_of_lt_of_le hs (Nat.le_of_lt_succ hk)))

noncomputable def laws_markIntSS (p0 : List (List Int)) (p1 : Int) : Option (Int × (List (List Int))) :=
  laws_markIntSS_L1 p0 Fuel p0 p1 0


noncomputable def laws_markPairS_L1 (p0 : List Timpl_Pair) : Nat → (List Timpl_Pair) → Int → Int → Option (Int × (List Timpl_Pair))
  | 0, _, _, _ => none
  | k1 + 1, l15, i17, i18 =>
    if decide (i18 < (p0.length : Int)) then (idx l15 i18).bind fun _ => (laws_markPairS_L1 p0 k1) (l15.set i18.toNat (Timpl_Pair.mk i17 (IntKind.i64.wrap (i17 + 1)))) (IntKind.i64.wrap ((IntKind.i64.wrap (i17 + 1)) + 1)) (IntKind.i64.wrap (i18 + 1)) else some (i17, l15)

theorem laws_markPairS_L1_ind (p0 : List Timpl_Pair) {P : (List Timpl_Pair) → Int → Int → Option (Int × (List Timpl_Pair)) → Prop} (μ : (List Timpl_Pair) → Int → Int → Nat) (h : ∀ (l15 : List Timpl_Pair) (i17 : Int) (i18 : Int) (R : (List Timpl_Pair) → Int → Int → Option (Int × (List Timpl_Pair))), (∀ l15' i17' i18', μ l15' i17' i18' < μ l15 i17 i18 → P l15' i17' i18' (R l15' i17' i18')) → P l15 i17 i18 (if decide (i18 < (p0.length : Int)) then (idx l15 i18).bind fun _ => (R) (l15.set i18.toNat (Timpl_Pair.mk i17 (IntKind.i64.wrap (i17 + 1)))) (IntKind.i64.wrap ((IntKind.i64.wrap (i17 + 1)) + 1)) (IntKind.i64.wrap (i18 + 1)) else some (i17, l15))) : ∀ k l15 i17 i18, μ l15 i17 i18 < k → P l15 i17 i18 (laws_markPairS_L1 p0 k l15 i17 i18) := by
  intro k
  induction k with
  | zero => intro l15 i17 i18 hk; exact absurd hk (Nat.not_lt_zero _)
  | succ k ih => intro l15 i17 i18 hk; unfold laws_markPairS_L1; exact h l15 i17 i18 (laws_markPairS_L1 p0 k) (fun l15' i17' i18' hs => ih l15' i17' i18' (Nat.lt_of_lt_of_le hs (Nat.le_of_lt_succ hk)))

noncomputable def laws_markPairS (p0 : List Timpl_Pair) (p1 : Int) : Option (Int × (List Timpl_Pair)) :=
  laws_markPairS_L1 p0 Fuel p0 p1 0


noncomputable def laws_markScore (p0 : Timpl_Score) (p1 : Int) : Option (Int × Timpl_Score) :=
  (laws_markIntSS p0.Table_ p1).bind fun y2 => (laws_markPairS p0.Last_ y2.1).bind fun y8 => some (y8.1, (Timpl_Score.mk y2.2 y8.2))


noncomputable def laws_heldIntS_L1 (p0 : List Int) : Nat → Int → Int → Option (Int)
  | 0, _, _ => none
  | k1 + 1, i5, i6 =>
    if decide (i6 < (p0.length : Int)) then (idx p0 i6).bind fun e11 => if (e11 != i5) then some (-1) else (laws_heldIntS_L1 p0 k1) (IntKind.i64.wrap (i5 + 1)) (IntKind.i64.wrap (i6 + 1)) else some i5

theorem laws_heldIntS_L1_ind (p0 : List Int) {P : Int → Int → Option (Int) → Prop} (μ : Int → Int → Nat) (h : ∀ (i5 : Int) (i6 : Int) (R : Int → Int → Option (Int)), (∀ i5' i6', μ i5' i6' < μ i5 i6 → P i5' i6' (R i5' i6')) → P i5 i6 (if decide (i6 < (p0.length : Int)) then (idx p0 i6).bind fun e11 => if (e11 != i5) then some (-1) else (R) (IntKind.i64.wrap (i5 + 1)) (IntKind.i64.wrap (i6 + 1)) else some i5)) : ∀ k i5 i6, μ i5 i6 < k → P i5 i6 (laws_heldIntS_L1 p0 k i5 i6) := by
  intro k
  induction k with
  | zero => intro i5 i6 hk; exact absurd hk (Nat.not_lt_zero _)
  | succ k ih => intro i5 i6 hk; unfold laws_heldIntS_L1; exact h i5 i6 (laws_heldIntS_L1 p0 k) (fun i5' i6' hs => ih i5' i6' (Nat.lt_of_lt_of_le hs (Nat.le_of_lt_succ hk)))

noncomputable def laws_heldIntS (p0 : List Int) (p1 : Int) : Option (Int) :=
  laws_heldIntS_L1 p0 Fuel p1 0


noncomputable def laws_heldIntSS_L1 (p0 : List (List Int)) : Nat → Int → Int → Option (Int)
  | 0, _, _ => none
  | k1 + 1, i13, i14 =>
    if decide (i14 < (p0.length : Int)) then (idx p0 i14).bind fun e27 => (laws_heldIntS e27 i13).bind fun y35 => if decide (y35 < 0) then some (-1) else (laws_heldIntSS_L1 p0 k1) y35 (IntKind.i64.wrap (i14 + 1)) else some i13

theorem laws_heldIntSS_L1_ind (p0 : List (List Int)) {P : Int → Int → Option (Int) → Prop} (μ : Int → Int → Nat) (h : ∀ (i13 : Int) (i14 : Int) (R : Int → Int → Option (Int)), (∀ i13' i14', μ i13' i14' < μ i13 i14 → P i13' i14' (R i13' i14')) → P i13 i14 (if decide (i14 < (p0.length : Int)) then (idx p0 i14).bind fun e27 => (laws_heldIntS e27 i13).bind fun y35 => if decide (y35 < 0) then some (-1) else (R) y35 (IntKind.i64.wrap (i14 + 1)) else some i13)) : ∀ k i13 i14, μ i13 i14 < k → P i13 i14 (laws_heldIntSS_L1 p0 k i13 i14) := by
  intro k
  induction k with
  | zero => intro i13 i14 hk; exact absurd hk (Nat.not_lt_zero _)
  | succ k ih => intro i13 i14 hk; unfold laws_heldIntSS_L1; exact h i13 i14 (laws_heldIntSS_L1 p0 k) (fun i13' i14' hs => ih i13' i14' (Nat.lt_of_lt_of_le hs (Nat.le_of_lt_succ hk)))

noncomputable def laws_heldIntSS (p0 : List (List Int)) (p1 : Int) : Option (Int) :=
  laws_heldIntSS_L1 p0 Fuel p1 0


noncomputable def laws_heldPairS_L1 (p0 : List Timpl_Pair) : Nat → Int → Int → Option (Int)
  | 0, _, _ => none
  | k1 + 1, i7, i9 =>
    if decide (i9 < (p0.length : Int)) then (idx p0 i9).bind fun e16 => if (e16.Truth_ != i7) then some (-1) else (idx p0 i9).bind fun e18 => if (e18.Said_ != (IntKind.i64.wrap (i7 + 1))) then some (-1) else (laws_heldPairS_L1 p0 k1) (IntKind.i64.wrap ((IntKind.i64.wrap (i7 + 1)) + 1)) (IntKind.i64.wrap (i9 + 1)) else some i7

theorem laws_heldPairS_L1_ind (p0 : List Timpl_Pair) {P : Int → Int → Option (Int) → Prop} (μ : Int → Int → Nat) (h : ∀ (i7 : Int) (i9 : Int) (R : Int → Int → Option (Int)), (∀ i7' i9', μ i7' i9' < μ i7 i9 → P i7' i9' (R i7' i9')) → P i7 i9 (if decide (i9 < (p0.length : Int)) then (idx p0 i9).bind fun e16 => if (e16.Truth_ != i7) then some (-1) else (idx p0 i9).bind fun e18 => if (e18.Said_ != (IntKind.i64.wrap (i7 + 1))) then some (-1) else (R) (IntKind.i64.wrap ((IntKind.i64.wrap (i7 + 1)) + 1)) (IntKind.i64.wrap (i9 + 1)) else some i7)) : ∀ k i7 i9, μ i7 i9 < k → P i7 i9 (laws_heldPairS_L1 p0 k i7 i9) := by
  intro k
  induction k with
  | zero => intro i7 i9 hk; exact absurd hk (Nat.not_lt_zero _)
  | succ k ih => intro i7 i9 hk; unfold laws_heldPairS_L1; exact h i7 i9 (laws_heldPairS_L1 p0 k) (fun i7' i9' hs => ih i7' i9' (Nat.lt_of_lt_of_le hs (Nat.le_of_lt_succ hk)))

noncomputable def laws_heldPairS (p0 : List Timpl_Pair) (p1 : Int) : Option (Int) :=
  laws_heldPairS_L1 p0 Fuel p1 0


noncomputable def laws_heldScore (p0 : Timpl_Score) (p1 : Int) : Option (Int) :=
  (laws_heldIntSS p0.Table_ p1).bind fun y10 => if decide (y10 < 0) then some (-1) else (laws_heldPairS p0.Last_ y10).bind fun y12 => if decide (y12 < 0) then some (-1) else some y12


noncomputable def laws_FnExactScoreAdd (p0 : Int) (p1 : Tlaws_Score) (p2 : Int) (p3 : Int) : Option (Bool) :=
  (laws_szScore p1 1048576).bind fun y10 => if decide (y10 < 0) then some true else (laws_toScore p1).bind fun y12 => (spec_ScoreAdd p0 y12 p2 p3).bind fun y25 => (laws_toScore p1).bind fun y39 => (impl_ScoreAdd p0 y39 p2 p3).bind fun y53 => (laws_eqScore y53.1 y25.1).bind fun y67 => if ((!y67) || (y53.2 != y25.2)) then some false else (laws_toScore p1).bind fun y84 => (laws_eqScore y39 y84).bind fun y97 => if (!y97) then some false else (laws_markScore y39 1).bind fun y99 => (if decide (y99.1 < 0) then some true else (laws_eqScore y53.1 y25.1).bind fun y107 => some (!y107)).bind fun u106 => if (u106 || (y53.2 != y25.2)) then some false else (laws_markScore y53.1 1).bind fun y113 => (laws_heldScore y113.2 1).bind fun y120 => if decide (y120 < 0) then some false else if (y120 != y113.1) then some false else (laws_toScore p1).bind fun y122 => (impl_ScoreAdd p0 y122 p2 p3).bind fun y135 => (laws_eqScore y135.1 y25.1).bind fun y149 => if ((!y149) || (y135.2 != y25.2)) then some false else (laws_heldScore y113.2 1).bind fun y153 => if decide (y153 < 0) then some false else if (y153 != y113.1) then some false else some true


noncomputable def laws_big (p0 : List Int) : Option (Bool) :=
  some (decide ((p0.length : Int) > 1048576))


noncomputable def spec_l1New_L1 (p0 : List Int) : Nat → Int → Int → Option (Tspec_l1Cur)
  | 0, _, _ => none
  | k1 + 1, i7, i9 =>
    if ((decide (i9 < (p0.length : Int))) && (decide (i9 < 4000))) then (idx p0 i9).bind fun e19 => (spec_l1New_L1 p0 k1) (ibits .and .i64 (IntKind.i64.wrap ((IntKind.i64.wrap ((IntKind.i64.wrap (i7 * 131)) + (IntKind.i64.wrap e19))) + 7)) 1073741823) (IntKind.i64.wrap (i9 + 1)) else some (Tspec_l1Cur.mk 0 i7)

theorem spec_l1New_L1_ind (p0 : List Int) {P : Int → Int → Option (Tspec_l1Cur) → Prop} (μ : Int → Int → Nat) (h : ∀ (i7 : Int) (i9 : Int) (R : Int → Int → Option (Tspec_l1Cur)), (∀ i7' i9', μ i7' i9' < μ i7 i9 → P i7' i9' (R i7' i9')) → P i7 i9 (if ((decide (i9 < (p0.length : Int))) && (decide (i9 < 4000))) then (idx p0 i9).bind fun e19 => (R) (ibits .and .i64 (IntKind.i64.wrap ((IntKind.i64.wrap ((IntKind.i64.wrap (i7 * 131)) + (IntKind.i64.wrap e19))) + 7)) 1073741823) (IntKind.i64.wrap (i9 + 1)) else some (Tspec_l1Cur.mk 0 i7))) : ∀ k i7 i9, μ i7 i9 < k → P i7 i9 (spec_l1New_L1 p0 k i7 i9) := by
  intro k
  induction k with
  | zero => intro i7 i9 hk; exact absurd hk (Nat.not_lt_zero _)
  | succ k ih => intro i7 i9 hk; unfold spec_l1New_L1; exact h i7 i9 (spec_l1New_L1 p0 k) (fun i7' i9' hs => ih i7' i9' (Nat.lt_of_lt_of_le hs (Nat.le_of_lt_succ hk)))

noncomputable def spec_l1New (p0 : List Int) : Option (Tspec_l1Cur) :=
  spec_l1New_L1 p0 Fuel (IntKind.i64.wrap (26583 + (p0.length : Int))) 0


noncomputable def spec_l1Byte (p0b : List Int) (p0 : Tspec_l1Cur) : Option (Int × Tspec_l1Cur) :=
  if decide (p0.i_ < (p0b.length : Int)) then (idx p0b p0.i_).bind fun e1 => some (ibits .and .i64 (IntKind.i64.wrap ((ibits .and .i64 (ibits .xor .i64 (ishr .i64 (IntKind.i64.wrap ((IntKind.i64.wrap (p0.h_ * 6364136223846793005)) + 1442695040888963407)) 33) (ishr .i64 (IntKind.i64.wrap ((IntKind.i64.wrap (p0.h_ * 6364136223846793005)) + 1442695040888963407)) 45)) 255) + (IntKind.i64.wrap e1))) 255, (Tspec_l1Cur.mk (IntKind.i64.wrap (p0.i_ + 1)) (IntKind.i64.wrap ((IntKind.i64.wrap (p0.h_ * 6364136223846793005)) + 1442695040888963407)))) else some (ibits .and .i64 (ibits .xor .i64 (ishr .i64 (IntKind.i64.wrap ((IntKind.i64.wrap (p0.h_ * 6364136223846793005)) + 1442695040888963407)) 33) (ishr .i64 (IntKind.i64.wrap ((IntKind.i64.wrap (p0.h_ * 6364136223846793005)) + 1442695040888963407)) 45)) 255, (Tspec_l1Cur.mk p0.i_ (IntKind.i64.wrap ((IntKind.i64.wrap (p0.h_ * 6364136223846793005)) + 1442695040888963407))))


noncomputable def spec_l1Below (p0b : List Int) (p0 : Tspec_l1Cur) (p1 : Int) : Option (Int × Tspec_l1Cur) :=
  if decide (p1 ≤ 0) then some (0, p0) else if decide (p1 ≤ 256) then (spec_l1Byte p0b p0).bind fun y1 => (rem y1.1 p1).bind fun x6 => some (x6, y1.2) else (spec_l1Byte p0b p0).bind fun y8 => (spec_l1Byte p0b y8.2).bind fun y13 => (spec_l1Byte p0b y13.2).bind fun y18 => (spec_l1Byte p0b y18.2).bind fun y23 => (rem (IntKind.i64.wrap ((IntKind.i64.wrap ((IntKind.i64.wrap ((IntKind.i64.wrap (y8.1 * 16777216)) + (IntKind.i64.wrap (y13.1 * 65536)))) + (IntKind.i64.wrap (y18.1 * 256)))) + y23.1)) p1).bind fun x28 => some (x28, y23.2)


noncomputable def spec_ScoreNew_L1 (p0 : Int) : Nat → (List (List Int)) → Int → Option (Timpl_Score)
  | 0, _, _ => none
  | k1 + 1, l23, i27 =>
    if decide (i27 < p0) then (mk (0 : Int) p0).bind fun l50 => (app l23 [l50]).bind fun l54 => (spec_ScoreNew_L1 p0 k1) l54 (IntKind.i64.wrap (i27 + 1)) else some (Timpl_Score.mk l23 ([] : List Timpl_Pair))

theorem spec_ScoreNew_L1_ind (p0 : Int) {P : (List (List Int)) → Int → Option (Timpl_Score) → Prop} (μ : (List (List Int)) → Int → Nat) (h : ∀ (l23 : List (List Int)) (i27 : Int) (R : (List (List Int)) → Int → Option (Timpl_Score)), (∀ l23' i27', μ l23' i27' < μ l23 i27 → P l23' i27' (R l23' i27')) → P l23 i27 (if decide (i27 < p0) then (mk (0 : Int) p0).bind fun l50 => (app l23 [l50]).bind fun l54 => (R) l54 (IntKind.i64.wrap (i27 + 1)) else some (Timpl_Score.mk l23 ([] : List Timpl_Pair)))) : ∀ k l23 i27, μ l23 i27 < k → P l23 i27 (spec_ScoreNew_L1 p0 k l23 i27) := by
  intro k
  induction k with
  | zero => intro l23 i27 hk; exact absurd hk (Nat.not_lt_zero _)
  | succ k ih => intro l23 i27 hk; unfold spec_ScoreNew_L1; exact h l23 i27 (spec_ScoreNew_L1 p0 k) (fun l23' i27' hs => ih l23' i27' (Nat.lt_of_lt_of_le hs (Nat.le_of_lt_succ hk)))

noncomputable def spec_ScoreNew (p0 : Int) : Option (Timpl_Score) :=
  (spec_l1In p0 2 3).bind fun y3 => if (!y3) then some (Timpl_Score.mk ([] : List (List Int)) ([] : List Timpl_Pair)) else spec_ScoreNew_L1 p0 Fuel ([] : List (List Int)) 0


noncomputable def spec_l1Once (p0b : List Int) (p0 : Tspec_l1Cur) (p1 : Int) : Option (Bool × Tspec_l1Cur) :=
  (spec_l1Below p0b p0 p1).bind fun y1 => some ((y1.1 == 0), y1.2)


noncomputable def spec_l1PickInt (p0b : List Int) (p0 : Tspec_l1Cur) (p1 : List Int) : Option (Int × Tspec_l1Cur) :=
  (spec_l1Below p0b p0 (p1.length : Int)).bind fun y1 => (idx p1 y1.1).bind fun e6 => some (e6, y1.2)


noncomputable def spec_l25Right_L1 (y2 : Timpl_Score) (e21 : List Int) (y38 : Int × Tspec_l1Cur) : Nat → (List Timpl_Pair) → Int → Option (Timpl_Score × Tspec_l1Cur)
  | 0, _, _ => none
  | k1 + 1, l58, i62 =>
    if decide (i62 < 20) then (app l58 ([(Timpl_Pair.mk 0 0)] : List Timpl_Pair)).bind fun l76 => (spec_l25Right_L1 y2 e21 y38 k1) l76 (IntKind.i64.wrap (i62 + 1)) else some ((Timpl_Score.mk (y2.Table_.set (0 : Int).toNat (e21.set (0 : Int).toNat (IntKind.i64.wrap (9999 - y38.1)))) l58), y38.2)

theorem spec_l25Right_L1_ind (y2 : Timpl_Score) (e21 : List Int) (y38 : Int × Tspec_l1Cur) {P : (List Timpl_Pair) → Int → Option (Timpl_Score × Tspec_l1Cur) → Prop} (μ : (List Timpl_Pair) → Int → Nat) (h : ∀ (l58 : List Timpl_Pair) (i62 : Int) (R : (List Timpl_Pair) → Int → Option (Timpl_Score × Tspec_l1Cur)), (∀ l58' i62', μ l58' i62' < μ l58 i62 → P l58' i62' (R l58' i62')) → P l58 i62 (if decide (i62 < 20) then (app l58 ([(Timpl_Pair.mk 0 0)] : List Timpl_Pair)).bind fun l76 => (R) l76 (IntKind.i64.wrap (i62 + 1)) else some ((Timpl_Score.mk (y2.Table_.set (0 : Int).toNat (e21.set (0 : Int).toNat (IntKind.i64.wrap (9999 - y38.1)))) l58), y38.2))) : ∀ k l58 i62, μ l58 i62 < k → P l58 i62 (spec_l25Right_L1 y2 e21 y38 k l58 i62) := by
  intro k
  induction k with
  | zero => intro l58 i62 hk; exact absurd hk (Nat.not_lt_zero _)
  | succ k ih => intro l58 i62 hk; unfold spec_l25Right_L1; exact h l58 i62 (spec_l25Right_L1 y2 e21 y38 k) (fun l58' i62' hs => ih l58' i62' (Nat.lt_of_lt_of_le hs (Nat.le_of_lt_succ hk)))

noncomputable def spec_l25Right_L2 (y83 : Int × Tspec_l1Cur) (p0b : List Int) (p1 : Int) : Nat → Int → Int → (List (List Int)) → (List Timpl_Pair) → Int → Option (Timpl_Score × Tspec_l1Cur)
  | 0, _, _, _, _, _ => none
  | k2 + 1, i176, i177, l178, l182, i186 =>
    if decide (i186 < y83.1) then (spec_l1Below p0b (Tspec_l1Cur.mk i176 i177) p1).bind fun y298 => (spec_l1Below p0b y298.2 p1).bind fun y303 => (spec_ScoreAdd p1 (Timpl_Score.mk l178 l182) y298.1 y303.1).bind fun y308 => (spec_l25Right_L2 y83 p0b p1 k2) y303.2.i_ y303.2.h_ y308.1.Table_ y308.1.Last_ (IntKind.i64.wrap (i186 + 1)) else some ((Timpl_Score.mk l178 l182), (Tspec_l1Cur.mk i176 i177))

theorem spec_l25Right_L2_ind (y83 : Int × Tspec_l1Cur) (p0b : List Int) (p1 : Int) {P : Int → Int → (List (List Int)) → (List Timpl_Pair) → Int → Option (Timpl_Score × Tspec_l1Cur) → Prop} (μ : Int → Int → (List (List Int)) → (List Timpl_Pair) → Int → Nat) (h : ∀ (i176 : Int) (i177 : Int) (l178 : List (List Int)) (l182 : List Timpl_Pair) (i186 : Int) (R : Int → Int → (List (List Int)) → (List Timpl_Pair) → Int → Option (Timpl_Score × Tspec_l1Cur)), (∀ i176' i177' l178' l182' i186', μ i176' i177' l178' l182' i186' < μ i176 i177 l178 l182 i186 → P i176' i177' l178' l182' i186' (R i176' i177' l178' l182' i186')) → P i176 i177 l178 l182 i186 (if decide (i186 < y83.1) then (spec_l1Below p0b (Tspec_l1Cur.mk i176 i177) p1).bind fun y298 => (spec_l1Below p0b y298.2 p1).bind fun y303 => (spec_ScoreAdd p1 (Timpl_Score.mk l178 l182) y298.1 y303.1).bind fun y308 => (R) y303.2.i_ y303.2.h_ y308.1.Table_ y308.1.Last_ (IntKind.i64.wrap (i186 + 1)) else some ((Timpl_Score.mk l178 l182), (Tspec_l1Cur.mk i176 i177)))) : ∀ k i176 i177 l178 l182 i186, μ i176 i177 l178 l182 i186 < k → P i176 i177 l178 l182 i186 (spec_l25Right_L2 y83 p0b p1 k i176 i177 l178 l182 i186) := by
  intro k
  induction k with
  | zero => intro i176 i177 l178 l182 i186 hk; exact absurd hk (Nat.not_lt_zero _)
  | succ k ih => intro i176 i177 l178 l182 i186 hk; unfold spec_l25Right_L2; exact h i176 i177 l178 l182 i186 (spec_l25Right_L2 y83 p0b p1 k) (fun i176' i177' l178' l182' i186' hs => ih i176' i177' l178' l182' i186' (Nat.lt_of_lt_of_le hs (Nat.le_of_lt_succ hk)))

noncomputable def spec_l25Right (p0b : List Int) (p0 : Tspec_l1Cur) (p1 : Int) : Option (Timpl_Score × Tspec_l1Cur) :=
  (spec_ScoreNew p1).bind fun y2 => (spec_l1Once p0b p0 6).bind fun y16 => if y16.1 then (idx y2.Table_ 0).bind fun e21 => (spec_l1Below p0b y16.2 2).bind fun y38 => (idx e21 0).bind fun _ => spec_l25Right_L1 y2 e21 y38 Fuel y2.Last_ 0 else (spec_l1PickInt p0b y16.2 ([0, 1, 5, 20, 30] : List Int)).bind fun y83 => spec_l25Right_L2 y83 p0b p1 Fuel y83.2.i_ y83.2.h_ y2.Table_ y2.Last_ 0


noncomputable def spec_l25Draw (p0b : List Int) (p0 : Tspec_l1Cur) (p1 : Int) : Option (Timpl_Score × Tspec_l1Cur) :=
  (spec_l25Right p0b p0 p1).bind fun y2 => (spec_l1Below p0b y2.2 12).bind fun y16 => if (y16.1 == 0) then (idx y2.1.Table_ 0).bind fun e21 => (idx e21 0).bind fun e33 => (idx e21 0).bind fun _ => some ((Timpl_Score.mk (y2.1.Table_.set (0 : Int).toNat (e21.set (0 : Int).toNat (IntKind.i64.wrap (e33 + 1)))) y2.1.Last_), y16.2) else if (y16.1 == 1) then (idx y2.1.Table_ 1).bind fun e38 => (spec_l1PickInt p0b y16.2 ([(-1), 10000, 9223372036854775807] : List Int)).bind fun y57 => (idx e38 0).bind fun _ => some ((Timpl_Score.mk (y2.1.Table_.set (1 : Int).toNat (e38.set (0 : Int).toNat y57.1)) y2.1.Last_), y57.2) else if (y16.1 == 2) then (spec_l1Below p0b y16.2 4).bind fun y71 => (app y2.1.Last_ ([(Timpl_Pair.mk (IntKind.i64.wrap (y71.1 - 1)) 0)] : List Timpl_Pair)).bind fun l77 => some ((Timpl_Score.mk y2.1.Table_ l77), y71.2) else if (y16.1 == 3) then (app y2.1.Table_ [([0] : List Int)]).bind fun l85 => some ((Timpl_Score.mk l85 y2.1.Last_), y16.2) else if (y16.1 == 4) then if decide ((y2.1.Last_.length : Int) > 0) then (spec_l1Below p0b y16.2 5).bind fun y95 => (idx y2.1.Last_ 0).bind fun e100 => some ((Timpl_Score.mk y2.1.Table_ (y2.1.Last_.set (0 : Int).toNat (Timpl_Pair.mk e100.Truth_ (IntKind.i64.wrap (y95.1 - 1))))), y95.2) else some (y2.1, y16.2) else some (y2.1, y16.2)


noncomputable def spec_l25Two (p0 : List Int) : Option (Int × Timpl_Score) :=
  (spec_l1New p0).bind fun y2 => (spec_l1Below p0 y2 2).bind fun y8 => (spec_l25Draw p0 y8.2 (IntKind.i64.wrap (2 + y8.1))).bind fun y13 => (spec_l1Once p0 y13.2 12).bind fun y27 => if y27.1 then (spec_l1PickInt p0 y27.2 ([1, 4, 2, 3, (-1)] : List Int)).bind fun y33 => some (y33.1, y13.1) else some (IntKind.i64.wrap (2 + y8.1), y13.1)


noncomputable def spec_DrawKappa (p0 : List Int) : Option (Int × Timpl_Score) :=
  (spec_l25Two p0).bind fun y2 => some (y2.1, y2.2)


noncomputable def impl_Right_L1 (p0 : Int) (p1 : Timpl_Score) : Nat → Int → Int → Option (Int)
  | 0, _, _ => none
  | k1 + 1, i24, i25 =>
    if decide (i24 < p0) then (idx p1.Table_ i24).bind fun e38 => (idx e38 i24).bind fun e46 => (impl_Right_L1 p0 p1 k1) (IntKind.i64.wrap (i24 + 1)) (IntKind.i64.wrap (i25 + e46)) else some i25

theorem impl_Right_L1_ind (p0 : Int) (p1 : Timpl_Score) {P : Int → Int → Option (Int) → Prop} (μ : Int → Int → Nat) (h : ∀ (i24 : Int) (i25 : Int) (R : Int → Int → Option (Int)), (∀ i24' i25', μ i24' i25' < μ i24 i25 → P i24' i25' (R i24' i25')) → P i24 i25 (if decide (i24 < p0) then (idx p1.Table_ i24).bind fun e38 => (idx e38 i24).bind fun e46 => (R) (IntKind.i64.wrap (i24 + 1)) (IntKind.i64.wrap (i25 + e46)) else some i25)) : ∀ k i24 i25, μ i24 i25 < k → P i24 i25 (impl_Right_L1 p0 p1 k i24 i25) := by
  intro k
  induction k with
  | zero => intro i24 i25 hk; exact absurd hk (Nat.not_lt_zero _)
  | succ k ih => intro i24 i25 hk; unfold impl_Right_L1; exact h i24 i25 (impl_Right_L1 p0 p1 k) (fun i24' i25' hs => ih i24' i25' (Nat.lt_of_lt_of_le hs (Nat.le_of_lt_succ hk)))

noncomputable def impl_Right (p0 : Int) (p1 : Timpl_Score) : Option (Int) :=
  (impl_ScoreOk p0 p1).bind fun y10 => if (!y10) then some 0 else impl_Right_L1 p0 p1 Fuel 0 0


noncomputable def impl_Kappa_L2 (p1 : Timpl_Score) (i60 : Int) (R1 : Int → Int → Option (Int × Int)) (i61 : Int) : Nat → Int → Int → Option (Int × Int)
  | 0, _, _ => none
  | k2 + 1, i122, i123 =>
    if decide (i122 < (p1.Table_.length : Int)) then (idx p1.Table_ i122).bind fun e136 => (idx e136 i60).bind fun e144 => (impl_Kappa_L2 p1 i60 R1 i61 k2) (IntKind.i64.wrap (i122 + 1)) (IntKind.i64.wrap (i123 + e144)) else (idx p1.Table_ i60).bind fun e146 => (impl_total e146).bind fun y154 => R1 (IntKind.i64.wrap (i60 + 1)) (IntKind.i64.wrap (i61 + (IntKind.i64.wrap (y154 * i123))))

theorem impl_Kappa_L2_ind (p1 : Timpl_Score) (i60 : Int) (R1 : Int → Int → Option (Int × Int)) (i61 : Int) {P : Int → Int → Option (Int × Int) → Prop} (μ : Int → Int → Nat) (h : ∀ (i122 : Int) (i123 : Int) (R : Int → Int → Option (Int × Int)), (∀ i122' i123', μ i122' i123' < μ i122 i123 → P i122' i123' (R i122' i123')) → P i122 i123 (if decide (i122 < (p1.Table_.length : Int)) then (idx p1.Table_ i122).bind fun e136 => (idx e136 i60).bind fun e144 => (R) (IntKind.i64.wrap (i122 + 1)) (IntKind.i64.wrap (i123 + e144)) else (idx p1.Table_ i60).bind fun e146 => (impl_total e146).bind fun y154 => R1 (IntKind.i64.wrap (i60 + 1)) (IntKind.i64.wrap (i61 + (IntKind.i64.wrap (y154 * i123)))))) : ∀ k i122 i123, μ i122 i123 < k → P i122 i123 (impl_Kappa_L2 p1 i60 R1 i61 k i122 i123) := by
  intro k
  induction k with
  | zero => intro i122 i123 hk; exact absurd hk (Nat.not_lt_zero _)
  | succ k ih => intro i122 i123 hk; unfold impl_Kappa_L2; exact h i122 i123 (impl_Kappa_L2 p1 i60 R1 i61 k) (fun i122' i123' hs => ih i122' i123' (Nat.lt_of_lt_of_le hs (Nat.le_of_lt_succ hk)))

noncomputable def impl_Kappa_L1 (p0 : Int) (p1 : Timpl_Score) : Nat → Int → Int → Option (Int × Int)
  | 0, _, _ => none
  | k1 + 1, i60, i61 =>
    if decide (i60 < p0) then impl_Kappa_L2 p1 i60 (impl_Kappa_L1 p0 p1 k1) i61 Fuel 0 0 else (impl_Count p0 p1).bind fun y156 => (impl_Right p0 p1).bind fun y158 => some (IntKind.i64.wrap ((IntKind.i64.wrap (y156 * y158)) - i61), IntKind.i64.wrap ((IntKind.i64.wrap (y156 * y156)) - i61))

theorem impl_Kappa_L1_ind (p0 : Int) (p1 : Timpl_Score) {P : Int → Int → Option (Int × Int) → Prop} (μ : Int → Int → Nat) (h : ∀ (i60 : Int) (i61 : Int) (R : Int → Int → Option (Int × Int)), (∀ i60' i61', μ i60' i61' < μ i60 i61 → P i60' i61' (R i60' i61')) → P i60 i61 (if decide (i60 < p0) then impl_Kappa_L2 p1 i60 (R) i61 Fuel 0 0 else (impl_Count p0 p1).bind fun y156 => (impl_Right p0 p1).bind fun y158 => some (IntKind.i64.wrap ((IntKind.i64.wrap (y156 * y158)) - i61), IntKind.i64.wrap ((IntKind.i64.wrap (y156 * y156)) - i61)))) : ∀ k i60 i61, μ i60 i61 < k → P i60 i61 (impl_Kappa_L1 p0 p1 k i60 i61) := by
  intro k
  induction k with
  | zero => intro i60 i61 hk; exact absurd hk (Nat.not_lt_zero _)
  | succ k ih => intro i60 i61 hk; unfold impl_Kappa_L1; exact h i60 i61 (impl_Kappa_L1 p0 p1 k) (fun i60' i61' hs => ih i60' i61' (Nat.lt_of_lt_of_le hs (Nat.le_of_lt_succ hk)))

noncomputable def impl_Kappa (p0 : Int) (p1 : Timpl_Score) : Option (Int × Int) :=
  (impl_ScoreOk p0 p1).bind fun y10 => if (!y10) then some (0, 0) else impl_Kappa_L1 p0 p1 Fuel 0 0


noncomputable def impl_FracOk (p0 : Timpl_Frac) : Option (Bool) :=
  (impl_within p0.Num_ 0 4000000000000000).bind fun y2 => (if y2 then (impl_within p0.Den_ 1 4000000000000000).bind fun y5 => some y5 else some false).bind fun u4 => some u4


noncomputable def impl_Gcd_L1  : Nat → Int → Int → Option (Int)
  | 0, _, _ => none
  | k1 + 1, i7, i9 =>
    if (i9 != 0) then (rem i7 i9).bind fun x14 => (impl_Gcd_L1 k1) i9 x14 else some i7

theorem impl_Gcd_L1_ind  {P : Int → Int → Option (Int) → Prop} (μ : Int → Int → Nat) (h : ∀ (i7 : Int) (i9 : Int) (R : Int → Int → Option (Int)), (∀ i7' i9', μ i7' i9' < μ i7 i9 → P i7' i9' (R i7' i9')) → P i7 i9 (if (i9 != 0) then (rem i7 i9).bind fun x14 => (R) i9 x14 else some i7)) : ∀ k i7 i9, μ i7 i9 < k → P i7 i9 (impl_Gcd_L1 k i7 i9) := by
  intro k
  induction k with
  | zero => intro i7 i9 hk; exact absurd hk (Nat.not_lt_zero _)
  | succ k ih => intro i7 i9 hk; unfold impl_Gcd_L1; exact h i7 i9 (impl_Gcd_L1 k) (fun i7' i9' hs => ih i7' i9' (Nat.lt_of_lt_of_le hs (Nat.le_of_lt_succ hk)))

noncomputable def impl_Gcd (p0 : Int) (p1 : Int) : Option (Int) :=
  if ((decide (p0 < 0)) || (decide (p1 < 0))) then some (-1) else impl_Gcd_L1 Fuel p0 p1


noncomputable def impl_FracLow (p0 : Timpl_Frac) : Option (Timpl_Frac) :=
  (impl_FracOk p0).bind fun y3 => if (!y3) then some (Timpl_Frac.mk 0 0) else (impl_Gcd p0.Num_ p0.Den_).bind fun y5 => (quo .i64 p0.Num_ y5).bind fun x7 => (quo .i64 p0.Den_ y5).bind fun x9 => some (Timpl_Frac.mk x7 x9)


noncomputable def impl_share (p0 : Int) (p1 : Int) : Option (Timpl_Frac) :=
  if (p1 == 0) then some (Timpl_Frac.mk 0 1) else (impl_FracLow (Timpl_Frac.mk p0 p1)).bind fun y2 => some y2


noncomputable def impl_Recall (p0 : Int) (p1 : Timpl_Score) (p2 : Int) : Option (Timpl_Frac) :=
  (impl_ScoreOk p0 p1).bind fun y11 => (if (!y11) then some true else (impl_within p2 0 (IntKind.i64.wrap (p0 - 1))).bind fun y14 => some (!y14)).bind fun u13 => if u13 then some (Timpl_Frac.mk 0 0) else (idx p1.Table_ p2).bind fun e18 => (idx e18 p2).bind fun e26 => (idx p1.Table_ p2).bind fun e28 => (impl_total e28).bind fun y36 => (impl_share e26 y36).bind fun y38 => some y38


noncomputable def impl_LastRight_L1 (p1 : Timpl_Score) : Nat → Int → Int → Option (Int)
  | 0, _, _ => none
  | k1 + 1, i18, i19 =>
    if decide (i18 < (p1.Last_.length : Int)) then (idx p1.Last_ i18).bind fun e25 => if (e25.Truth_ == e25.Said_) then (impl_LastRight_L1 p1 k1) (IntKind.i64.wrap (i18 + 1)) (IntKind.i64.wrap (i19 + 1)) else (impl_LastRight_L1 p1 k1) (IntKind.i64.wrap (i18 + 1)) i19 else some i19

theorem impl_LastRight_L1_ind (p1 : Timpl_Score) {P : Int → Int → Option (Int) → Prop} (μ : Int → Int → Nat) (h : ∀ (i18 : Int) (i19 : Int) (R : Int → Int → Option (Int)), (∀ i18' i19', μ i18' i19' < μ i18 i19 → P i18' i19' (R i18' i19')) → P i18 i19 (if decide (i18 < (p1.Last_.length : Int)) then (idx p1.Last_ i18).bind fun e25 => if (e25.Truth_ == e25.Said_) then (R) (IntKind.i64.wrap (i18 + 1)) (IntKind.i64.wrap (i19 + 1)) else (R) (IntKind.i64.wrap (i18 + 1)) i19 else some i19)) : ∀ k i18 i19, μ i18 i19 < k → P i18 i19 (impl_LastRight_L1 p1 k i18 i19) := by
  intro k
  induction k with
  | zero => intro i18 i19 hk; exact absurd hk (Nat.not_lt_zero _)
  | succ k ih => intro i18 i19 hk; unfold impl_LastRight_L1; exact h i18 i19 (impl_LastRight_L1 p1 k) (fun i18' i19' hs => ih i18' i19' (Nat.lt_of_lt_of_le hs (Nat.le_of_lt_succ hk)))

noncomputable def impl_LastRight (p0 : Int) (p1 : Timpl_Score) : Option (Int) :=
  (impl_ScoreOk p0 p1).bind fun y10 => if (!y10) then some 0 else impl_LastRight_L1 p1 Fuel 0 0


noncomputable def laws_FnKappa_L1 (y3 : Int × Timpl_Score) (y17 : Int × Int) (y28 : Int) (y30 : Int) : Nat → Int → Option (Bool)
  | 0, _ => none
  | k1 + 1, i38 =>
    if decide (i38 < y3.1) then (impl_Recall y3.1 y3.2 i38).bind fun y45 => if ((decide (y45.Den_ < 1)) || (decide (y45.Num_ > y45.Den_))) then some false else (laws_FnKappa_L1 y3 y17 y28 y30 k1) (IntKind.i64.wrap (i38 + 1)) else (if ((((decide (y17.1 ≤ y17.2)) && (decide (y17.2 ≥ 0))) && ((IntKind.i64.wrap (y17.2 - y17.1)) == (IntKind.i64.wrap (y28 * (IntKind.i64.wrap (y28 - y30)))))) && (decide (y30 ≤ y28))) then (impl_LastRight y3.1 y3.2).bind fun y57 => some (decide (y57 ≤ y30)) else some false).bind fun u56 => some u56

theorem laws_FnKappa_L1_ind (y3 : Int × Timpl_Score) (y17 : Int × Int) (y28 : Int) (y30 : Int) {P : Int → Option (Bool) → Prop} (μ : Int → Nat) (h : ∀ (i38 : Int) (R : Int → Option (Bool)), (∀ i38', μ i38' < μ i38 → P i38' (R i38')) → P i38 (if decide (i38 < y3.1) then (impl_Recall y3.1 y3.2 i38).bind fun y45 => if ((decide (y45.Den_ < 1)) || (decide (y45.Num_ > y45.Den_))) then some false else (R) (IntKind.i64.wrap (i38 + 1)) else (if ((((decide (y17.1 ≤ y17.2)) && (decide (y17.2 ≥ 0))) && ((IntKind.i64.wrap (y17.2 - y17.1)) == (IntKind.i64.wrap (y28 * (IntKind.i64.wrap (y28 - y30)))))) && (decide (y30 ≤ y28))) then (impl_LastRight y3.1 y3.2).bind fun y57 => some (decide (y57 ≤ y30)) else some false).bind fun u56 => some u56)) : ∀ k i38, μ i38 < k → P i38 (laws_FnKappa_L1 y3 y17 y28 y30 k i38) := by
  intro k
  induction k with
  | zero => intro i38 hk; exact absurd hk (Nat.not_lt_zero _)
  | succ k ih => intro i38 hk; unfold laws_FnKappa_L1; exact h i38 (laws_FnKappa_L1 y3 y17 y28 y30 k) (fun i38' hs => ih i38' (Nat.lt_of_lt_of_le hs (Nat.le_of_lt_succ hk)))

noncomputable def laws_FnKappa (p0 : List Int) : Option (Bool) :=
  (laws_big p0).bind fun y1 => if y1 then some true else (spec_DrawKappa p0).bind fun y3 => (impl_Kappa y3.1 y3.2).bind fun y17 => (spec_ScoreOk y3.1 y3.2).bind fun y19 => if (!y19) then (if ((y17.1 == 0) && (y17.2 == 0)) then (impl_ScoreOk y3.1 y3.2).bind fun y24 => some (!y24) else some false).bind fun u23 => some u23 else (impl_Count y3.1 y3.2).bind fun y28 => (impl_Right y3.1 y3.2).bind fun y30 => laws_FnKappa_L1 y3 y17 y28 y30 Fuel 0


noncomputable def spec_Right_L1 (p0 : Int) (p1 : Timpl_Score) : Nat → Int → Int → Option (Int)
  | 0, _, _ => none
  | k1 + 1, i24, i25 =>
    if decide (i25 < p0) then (idx p1.Table_ i25).bind fun e38 => (idx e38 i25).bind fun e46 => (spec_Right_L1 p0 p1 k1) (IntKind.i64.wrap (i24 + e46)) (IntKind.i64.wrap (i25 + 1)) else some i24

theorem spec_Right_L1_ind (p0 : Int) (p1 : Timpl_Score) {P : Int → Int → Option (Int) → Prop} (μ : Int → Int → Nat) (h : ∀ (i24 : Int) (i25 : Int) (R : Int → Int → Option (Int)), (∀ i24' i25', μ i24' i25' < μ i24 i25 → P i24' i25' (R i24' i25')) → P i24 i25 (if decide (i25 < p0) then (idx p1.Table_ i25).bind fun e38 => (idx e38 i25).bind fun e46 => (R) (IntKind.i64.wrap (i24 + e46)) (IntKind.i64.wrap (i25 + 1)) else some i24)) : ∀ k i24 i25, μ i24 i25 < k → P i24 i25 (spec_Right_L1 p0 p1 k i24 i25) := by
  intro k
  induction k with
  | zero => intro i24 i25 hk; exact absurd hk (Nat.not_lt_zero _)
  | succ k ih => intro i24 i25 hk; unfold spec_Right_L1; exact h i24 i25 (spec_Right_L1 p0 p1 k) (fun i24' i25' hs => ih i24' i25' (Nat.lt_of_lt_of_le hs (Nat.le_of_lt_succ hk)))

noncomputable def spec_Right (p0 : Int) (p1 : Timpl_Score) : Option (Int) :=
  (spec_ScoreOk p0 p1).bind fun y10 => if (!y10) then some 0 else spec_Right_L1 p0 p1 Fuel 0 0


noncomputable def spec_FracOk (p0 : Timpl_Frac) : Option (Bool) :=
  (spec_l1In p0.Num_ 0 4000000000000000).bind fun y2 => (if y2 then (spec_l1In p0.Den_ 1 4000000000000000).bind fun y5 => some y5 else some false).bind fun u4 => some u4


noncomputable def spec_Gcd_L1  : Nat → Int → Int → Option (Int)
  | 0, _, _ => none
  | k1 + 1, i7, i9 =>
    if decide (i9 > 0) then (rem i7 i9).bind fun x14 => (spec_Gcd_L1 k1) i9 x14 else some i7

theorem spec_Gcd_L1_ind  {P : Int → Int → Option (Int) → Prop} (μ : Int → Int → Nat) (h : ∀ (i7 : Int) (i9 : Int) (R : Int → Int → Option (Int)), (∀ i7' i9', μ i7' i9' < μ i7 i9 → P i7' i9' (R i7' i9')) → P i7 i9 (if decide (i9 > 0) then (rem i7 i9).bind fun x14 => (R) i9 x14 else some i7)) : ∀ k i7 i9, μ i7 i9 < k → P i7 i9 (spec_Gcd_L1 k i7 i9) := by
  intro k
  induction k with
  | zero => intro i7 i9 hk; exact absurd hk (Nat.not_lt_zero _)
  | succ k ih => intro i7 i9 hk; unfold spec_Gcd_L1; exact h i7 i9 (spec_Gcd_L1 k) (fun i7' i9' hs => ih i7' i9' (Nat.lt_of_lt_of_le hs (Nat.le_of_lt_succ hk)))

noncomputable def spec_Gcd (p0 : Int) (p1 : Int) : Option (Int) :=
  if ((decide (p0 < 0)) || (decide (p1 < 0))) then some (-1) else spec_Gcd_L1 Fuel p0 p1


noncomputable def spec_FracLow (p0 : Timpl_Frac) : Option (Timpl_Frac) :=
  (spec_FracOk p0).bind fun y3 => if (!y3) then some (Timpl_Frac.mk 0 0) else (spec_Gcd p0.Num_ p0.Den_).bind fun y5 => (quo .i64 p0.Num_ y5).bind fun x7 => (quo .i64 p0.Den_ y5).bind fun x9 => some (Timpl_Frac.mk x7 x9)


noncomputable def spec_l25Share (p0 : Int) (p1 : Int) : Option (Timpl_Frac) :=
  if (p1 == 0) then some (Timpl_Frac.mk 0 1) else (spec_FracLow (Timpl_Frac.mk p0 p1)).bind fun y2 => some y2


noncomputable def spec_Accuracy (p0 : Int) (p1 : Timpl_Score) : Option (Timpl_Frac) :=
  (spec_ScoreOk p0 p1).bind fun y11 => if (!y11) then some (Timpl_Frac.mk 0 0) else (spec_Right p0 p1).bind fun y13 => (spec_Count p0 p1).bind fun y15 => (spec_l25Share y13 y15).bind fun y17 => some y17


noncomputable def impl_Accuracy (p0 : Int) (p1 : Timpl_Score) : Option (Timpl_Frac) :=
  (impl_ScoreOk p0 p1).bind fun y11 => if (!y11) then some (Timpl_Frac.mk 0 0) else (impl_Right p0 p1).bind fun y13 => (impl_Count p0 p1).bind fun y15 => (impl_share y13 y15).bind fun y17 => some y17


noncomputable def laws_eqFrac (p0 : Timpl_Frac) (p1 : Timpl_Frac) : Option (Bool) :=
  if (p0.Num_ != p1.Num_) then some false else if (p0.Den_ != p1.Den_) then some false else some true


noncomputable def laws_FnExactAccuracy (p0 : Int) (p1 : Tlaws_Score) : Option (Bool) :=
  (laws_szScore p1 1048576).bind fun y10 => if decide (y10 < 0) then some true else (laws_toScore p1).bind fun y12 => (spec_Accuracy p0 y12).bind fun y25 => (laws_toScore p1).bind fun y28 => (impl_Accuracy p0 y28).bind fun y42 => (laws_eqFrac y42 y25).bind fun y45 => if (!y45) then some false else (laws_toScore p1).bind fun y60 => (laws_eqScore y28 y60).bind fun y73 => if (!y73) then some false else some true


noncomputable def spec_LastRight_L1 (p0 : Int) (p1 : Timpl_Score) : Nat → Int → Int → Option (Int)
  | 0, _, _ => none
  | k1 + 1, i17, i18 =>
    if decide (i18 < p0) then (spec_l25Pairs p1.Last_ i18 i18).bind fun y23 => (spec_LastRight_L1 p0 p1 k1) (IntKind.i64.wrap (i17 + y23)) (IntKind.i64.wrap (i18 + 1)) else some i17

theorem spec_LastRight_L1_ind (p0 : Int) (p1 : Timpl_Score) {P : Int → Int → Option (Int) → Prop} (μ : Int → Int → Nat) (h : ∀ (i17 : Int) (i18 : Int) (R : Int → Int → Option (Int)), (∀ i17' i18', μ i17' i18' < μ i17 i18 → P i17' i18' (R i17' i18')) → P i17 i18 (if decide (i18 < p0) then (spec_l25Pairs p1.Last_ i18 i18).bind fun y23 => (R) (IntKind.i64.wrap (i17 + y23)) (IntKind.i64.wrap (i18 + 1)) else some i17)) : ∀ k i17 i18, μ i17 i18 < k → P i17 i18 (spec_LastRight_L1 p0 p1 k i17 i18) := by
  intro k
  induction k with
  | zero => intro i17 i18 hk; exact absurd hk (Nat.not_lt_zero _)
  | succ k ih => intro i17 i18 hk; unfold spec_LastRight_L1; exact h i17 i18 (spec_LastRight_L1 p0 p1 k) (fun i17' i18' hs => ih i17' i18' (Nat.lt_of_lt_of_le hs (Nat.le_of_lt_succ hk)))

noncomputable def spec_LastRight (p0 : Int) (p1 : Timpl_Score) : Option (Int) :=
  (spec_ScoreOk p0 p1).bind fun y10 => if (!y10) then some 0 else spec_LastRight_L1 p0 p1 Fuel 0 0


noncomputable def laws_FnExactLastRight (p0 : Int) (p1 : Tlaws_Score) : Option (Bool) :=
  (laws_szScore p1 1048576).bind fun y10 => if decide (y10 < 0) then some true else (laws_toScore p1).bind fun y12 => (spec_LastRight p0 y12).bind fun y25 => (laws_toScore p1).bind fun y27 => (impl_LastRight p0 y27).bind fun y41 => if (y41 != y25) then some false else (laws_toScore p1).bind fun y56 => (laws_eqScore y27 y56).bind fun y69 => if (!y69) then some false else some true


noncomputable def spec_Kappa_L2 (p0 : Int) (p1 : Timpl_Score) (i61 : Int) (R1 : Int → Int → Option (Int × Int)) (i60 : Int) : Nat → Int → Int → Option (Int × Int)
  | 0, _, _ => none
  | k2 + 1, i122, i123 =>
    if decide (i123 < p0) then (idx p1.Table_ i123).bind fun e136 => (idx e136 i61).bind fun e144 => (spec_Kappa_L2 p0 p1 i61 R1 i60 k2) (IntKind.i64.wrap (i122 + e144)) (IntKind.i64.wrap (i123 + 1)) else (idx p1.Table_ i61).bind fun e146 => (spec_l10Sum e146).bind fun y154 => R1 (IntKind.i64.wrap (i60 + (IntKind.i64.wrap (y154 * i122)))) (IntKind.i64.wrap (i61 + 1))

theorem spec_Kappa_L2_ind (p0 : Int) (p1 : Timpl_Score) (i61 : Int) (R1 : Int → Int → Option (Int × Int)) (i60 : Int) {P : Int → Int → Option (Int × Int) → Prop} (μ : Int → Int → Nat) (h : ∀ (i122 : Int) (i123 : Int) (R : Int → Int → Option (Int × Int)), (∀ i122' i123', μ i122' i123' < μ i122 i123 → P i122' i123' (R i122' i123')) → P i122 i123 (if decide (i123 < p0) then (idx p1.Table_ i123).bind fun e136 => (idx e136 i61).bind fun e144 => (R) (IntKind.i64.wrap (i122 + e144)) (IntKind.i64.wrap (i123 + 1)) else (idx p1.Table_ i61).bind fun e146 => (spec_l10Sum e146).bind fun y154 => R1 (IntKind.i64.wrap (i60 + (IntKind.i64.wrap (y154 * i122)))) (IntKind.i64.wrap (i61 + 1)))) : ∀ k i122 i123, μ i122 i123 < k → P i122 i123 (spec_Kappa_L2 p0 p1 i61 R1 i60 k i122 i123) := by
  intro k
  induction k with
  | zero => intro i122 i123 hk; exact absurd hk (Nat.not_lt_zero _)
  | succ k ih => intro i122 i123 hk; unfold spec_Kappa_L2; exact h i122 i123 (spec_Kappa_L2 p0 p1 i61 R1 i60 k) (fun i122' i123' hs => ih i122' i123' (Nat.lt_of_lt_of_le hs (Nat.le_of_lt_succ hk)))

noncomputable def spec_Kappa_L1 (p0 : Int) (p1 : Timpl_Score) : Nat → Int → Int → Option (Int × Int)
  | 0, _, _ => none
  | k1 + 1, i60, i61 =>
    if decide (i61 < p0) then spec_Kappa_L2 p0 p1 i61 (spec_Kappa_L1 p0 p1 k1) i60 Fuel 0 0 else (spec_Count p0 p1).bind fun y156 => (spec_Right p0 p1).bind fun y158 => some (IntKind.i64.wrap ((IntKind.i64.wrap (y156 * y158)) - i60), IntKind.i64.wrap ((IntKind.i64.wrap (y156 * y156)) - i60))

theorem spec_Kappa_L1_ind (p0 : Int) (p1 : Timpl_Score) {P : Int → Int → Option (Int × Int) → Prop} (μ : Int → Int → Nat) (h : ∀ (i60 : Int) (i61 : Int) (R : Int → Int → Option (Int × Int)), (∀ i60' i61', μ i60' i61' < μ i60 i61 → P i60' i61' (R i60' i61')) → P i60 i61 (if decide (i61 < p0) then spec_Kappa_L2 p0 p1 i61 (R) i60 Fuel 0 0 else (spec_Count p0 p1).bind fun y156 => (spec_Right p0 p1).bind fun y158 => some (IntKind.i64.wrap ((IntKind.i64.wrap (y156 * y158)) - i60), IntKind.i64.wrap ((IntKind.i64.wrap (y156 * y156)) - i60)))) : ∀ k i60 i61, μ i60 i61 < k → P i60 i61 (spec_Kappa_L1 p0 p1 k i60 i61) := by
  intro k
  induction k with
  | zero => intro i60 i61 hk; exact absurd hk (Nat.not_lt_zero _)
  | succ k ih => intro i60 i61 hk; unfold spec_Kappa_L1; exact h i60 i61 (spec_Kappa_L1 p0 p1 k) (fun i60' i61' hs => ih i60' i61' (Nat.lt_of_lt_of_le hs (Nat.le_of_lt_succ hk)))

noncomputable def spec_Kappa (p0 : Int) (p1 : Timpl_Score) : Option (Int × Int) :=
  (spec_ScoreOk p0 p1).bind fun y10 => if (!y10) then some (0, 0) else spec_Kappa_L1 p0 p1 Fuel 0 0


noncomputable def laws_FnExactKappa (p0 : Int) (p1 : Tlaws_Score) : Option (Bool) :=
  (laws_szScore p1 1048576).bind fun y10 => if decide (y10 < 0) then some true else (laws_toScore p1).bind fun y12 => (spec_Kappa p0 y12).bind fun y25 => (laws_toScore p1).bind fun y27 => (impl_Kappa p0 y27).bind fun y41 => if ((y41.1 != y25.1) || (y41.2 != y25.2)) then some false else (laws_toScore p1).bind fun y58 => (laws_eqScore y27 y58).bind fun y71 => if (!y71) then some false else some true


noncomputable def spec_Recall (p0 : Int) (p1 : Timpl_Score) (p2 : Int) : Option (Timpl_Frac) :=
  (spec_ScoreOk p0 p1).bind fun y11 => (if (!y11) then some true else (spec_l1In p2 0 (IntKind.i64.wrap (p0 - 1))).bind fun y14 => some (!y14)).bind fun u13 => if u13 then some (Timpl_Frac.mk 0 0) else (idx p1.Table_ p2).bind fun e18 => (idx e18 p2).bind fun e26 => (idx p1.Table_ p2).bind fun e28 => (spec_l10Sum e28).bind fun y36 => (spec_l25Share e26 y36).bind fun y38 => some y38


noncomputable def laws_FnExactRecall (p0 : Int) (p1 : Tlaws_Score) (p2 : Int) : Option (Bool) :=
  (laws_szScore p1 1048576).bind fun y10 => if decide (y10 < 0) then some true else (laws_toScore p1).bind fun y12 => (spec_Recall p0 y12 p2).bind fun y25 => (laws_toScore p1).bind fun y28 => (impl_Recall p0 y28 p2).bind fun y42 => (laws_eqFrac y42 y25).bind fun y45 => if (!y45) then some false else (laws_toScore p1).bind fun y60 => (laws_eqScore y28 y60).bind fun y73 => if (!y73) then some false else some true


noncomputable def laws_FnExactRight (p0 : Int) (p1 : Tlaws_Score) : Option (Bool) :=
  (laws_szScore p1 1048576).bind fun y10 => if decide (y10 < 0) then some true else (laws_toScore p1).bind fun y12 => (spec_Right p0 y12).bind fun y25 => (laws_toScore p1).bind fun y27 => (impl_Right p0 y27).bind fun y41 => if (y41 != y25) then some false else (laws_toScore p1).bind fun y56 => (laws_eqScore y27 y56).bind fun y69 => if (!y69) then some false else some true


end Go.Vk
