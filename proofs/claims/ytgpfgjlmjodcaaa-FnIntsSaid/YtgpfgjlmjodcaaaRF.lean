/- The functions of the code, as functions of data. Printed by program. -/

import Derived.Test.YtgpfgjlmjodcaaaVkN

namespace Go.Vk



structure Tlaws_Window where
  Rows_ : List (List Int)
  deriving DecidableEq, Inhabited

structure Timpl_Window where
  Rows_ : List (List Int)
  deriving DecidableEq, Inhabited

structure Timpl_writer where
  out_ : List Int
  bad_ : Bool
  deriving DecidableEq, Inhabited

structure Tspec_l1Cur where
  i_ : Int
  h_ : Int
  deriving DecidableEq, Inhabited

structure Timpl_reader where
  at_ : Int
  bad_ : Bool
  deriving DecidableEq, Inhabited

structure Timpl_Fork where
  Attr_ : Int
  At_ : Int
  deriving DecidableEq, Inhabited

structure Timpl_Stats where
  Totals_ : List Int
  Cells_ : List (List Int)
  deriving DecidableEq, Inhabited

structure Timpl_Node where
  Leaf_ : Bool
  Fork_ : Timpl_Fork
  Kids_ : List Int
  Miss_ : Int
  Stats_ : Timpl_Stats
  Since_ : Int
  Attrs_ : List Int
  Depth_ : Int
  Up_ : Int
  Born_ : Int
  deriving DecidableEq, Inhabited

structure Timpl_Tree where
  Nodes_ : List Timpl_Node
  Seen_ : Int
  deriving DecidableEq, Inhabited

structure Tlaws_Stats where
  Totals_ : List Int
  Cells_ : List (List Int)
  deriving DecidableEq, Inhabited

structure Tlaws_Fork where
  Attr_ : Int
  At_ : Int
  deriving DecidableEq, Inhabited

structure Tlaws_Node where
  Leaf_ : Bool
  Fork_ : Tlaws_Fork
  Kids_ : List Int
  Miss_ : Int
  Stats_ : Tlaws_Stats
  Since_ : Int
  Attrs_ : List Int
  Depth_ : Int
  Up_ : Int
  Born_ : Int
  deriving DecidableEq, Inhabited

structure Tlaws_Tree where
  Nodes_ : List Tlaws_Node
  Seen_ : Int
  deriving DecidableEq, Inhabited

noncomputable def laws_szIntS (p0 : List Int) (p1 : Int) : Option (Int) :=
  if decide ((IntKind.i64.wrap (p1 - (p0.length : Int))) < 0) then some (-1) else some (IntKind.i64.wrap (p1 - (p0.length : Int)))


noncomputable def laws_szIntSS_L1 (p0 : List (List Int)) : Nat → Int → Int → Option (Int)
  | 0, _, _ => none
  | k1 + 1, i13, i14 =>
    if decide (i14 < (p0.length : Int)) then (idx p0 i14).bind fun e27 => (laws_szIntS e27 i13).bind fun y35 => if decide (y35 < 0) then some (-1) else (laws_szIntSS_L1 p0 k1) y35 (IntKind.i64.wrap (i14 + 1)) else some i13

theorem laws_szIntSS_L1_ind (p0 : List (List Int)) {P : Int → Int → Option (Int) → Prop} (μ : Int → Int → Nat) (h : ∀ (i13 : Int) (i14 : Int) (R : Int → Int → Option (Int)), (∀ i13' i14', μ i13' i14' < μ i13 i14 → P i13' i14' (R i13' i14')) → P i13 i14 (if decide (i14 < (p0.length : Int)) then (idx p0 i14).bind fun e27 => (laws_szIntS e27 i13).bind fun y35 => if decide (y35 < 0) then some (-1) else (R) y35 (IntKind.i64.wrap (i14 + 1)) else some i13)) : ∀ k i13 i14, μ i13 i14 < k → P i13 i14 (laws_szIntSS_L1 p0 k i13 i14) := by
  intro k
  induction k with
  | zero => intro i13 i14 hk; exact absurd hk (Nat.not_lt_zero _)
  | succ k ih => intro i13 i14 hk; unfold laws_szIntSS_L1; exact h i13 i14 (laws_szIntSS_L1 p0 k) (fun i13' i14' hs => ih i13' i14' (Nat.lt_of_lt_of_le hs (Nat.le_of_lt_succ hk)))

noncomputable def laws_szIntSS (p0 : List (List Int)) (p1 : Int) : Option (Int) :=
  if decide ((IntKind.i64.wrap (p1 - (p0.length : Int))) < 0) then some (-1) else laws_szIntSS_L1 p0 Fuel (IntKind.i64.wrap (p1 - (p0.length : Int))) 0


noncomputable def laws_szWindow (p0 : Tlaws_Window) (p1 : Int) : Option (Int) :=
  (laws_szIntSS p0.Rows_ p1).bind fun y6 => if decide (y6 < 0) then some (-1) else some y6


noncomputable def laws_toIntS_L1 (p0 : List Int) : Nat → (List Int) → Int → Option (List Int)
  | 0, _, _ => none
  | k1 + 1, l10, i11 =>
    if decide (i11 < (p0.length : Int)) then (idx p0 i11).bind fun e18 => (idx l10 i11).bind fun _ => (laws_toIntS_L1 p0 k1) (l10.set i11.toNat e18) (IntKind.i64.wrap (i11 + 1)) else some l10

theorem laws_toIntS_L1_ind (p0 : List Int) {P : (List Int) → Int → Option (List Int) → Prop} (μ : (List Int) → Int → Nat) (h : ∀ (l10 : List Int) (i11 : Int) (R : (List Int) → Int → Option (List Int)), (∀ l10' i11', μ l10' i11' < μ l10 i11 → P l10' i11' (R l10' i11')) → P l10 i11 (if decide (i11 < (p0.length : Int)) then (idx p0 i11).bind fun e18 => (idx l10 i11).bind fun _ => (R) (l10.set i11.toNat e18) (IntKind.i64.wrap (i11 + 1)) else some l10)) : ∀ k l10 i11, μ l10 i11 < k → P l10 i11 (laws_toIntS_L1 p0 k l10 i11) := by
  intro k
  induction k with
  | zero => intro l10 i11 hk; exact absurd hk (Nat.not_lt_zero _)
  | succ k ih => intro l10 i11 hk; unfold laws_toIntS_L1; exact h l10 i11 (laws_toIntS_L1 p0 k) (fun l10' i11' hs => ih l10' i11' (Nat.lt_of_lt_of_le hs (Nat.le_of_lt_succ hk)))

noncomputable def laws_toIntS (p0 : List Int) : Option (List Int) :=
  (mk (0 : Int) (p0.length : Int)).bind fun l1 => laws_toIntS_L1 p0 Fuel l1 0


noncomputable def laws_toIntSS_L1 (p0 : List (List Int)) : Nat → (List (List Int)) → Int → Option (List (List Int))
  | 0, _, _ => none
  | k1 + 1, l37, i39 =>
    if decide (i39 < (p0.length : Int)) then (idx p0 i39).bind fun e73 => (laws_toIntS e73).bind fun y81 => (idx l37 i39).bind fun _ => (laws_toIntSS_L1 p0 k1) (l37.set i39.toNat y81) (IntKind.i64.wrap (i39 + 1)) else some l37

theorem laws_toIntSS_L1_ind (p0 : List (List Int)) {P : (List (List Int)) → Int → Option (List (List Int)) → Prop} (μ : (List (List Int)) → Int → Nat) (h : ∀ (l37 : List (List Int)) (i39 : Int) (R : (List (List Int)) → Int → Option (List (List Int))), (∀ l37' i39', μ l37' i39' < μ l37 i39 → P l37' i39' (R l37' i39')) → P l37 i39 (if decide (i39 < (p0.length : Int)) then (idx p0 i39).bind fun e73 => (laws_toIntS e73).bind fun y81 => (idx l37 i39).bind fun _ => (R) (l37.set i39.toNat y81) (IntKind.i64.wrap (i39 + 1)) else some l37)) : ∀ k l37 i39, μ l37 i39 < k → P l37 i39 (laws_toIntSS_L1 p0 k l37 i39) := by
  intro k
  induction k with
  | zero => intro l37 i39 hk; exact absurd hk (Nat.not_lt_zero _)
  | succ k ih => intro l37 i39 hk; unfold laws_toIntSS_L1; exact h l37 i39 (laws_toIntSS_L1 p0 k) (fun l37' i39' hs => ih l37' i39' (Nat.lt_of_lt_of_le hs (Nat.le_of_lt_succ hk)))

noncomputable def laws_toIntSS (p0 : List (List Int)) : Option (List (List Int)) :=
  (mk ([] : List Int) (p0.length : Int)).bind fun l1 => laws_toIntSS_L1 p0 Fuel l1 0


noncomputable def laws_toWindow (p0 : Tlaws_Window) : Option (Timpl_Window) :=
  (laws_toIntSS p0.Rows_).bind fun y8 => some (Timpl_Window.mk y8)


noncomputable def spec_l1In (p0 : Int) (p1 : Int) (p2 : Int) : Option (Bool) :=
  some ((decide (p0 ≥ p1)) && (decide (p0 ≤ p2)))


noncomputable def spec_l27Fits_L1 (p0 : List Int) : Nat → Int → Option (Bool)
  | 0, _ => none
  | k1 + 1, i6 =>
    if decide (i6 < (p0.length : Int)) then (idx p0 i6).bind fun e12 => (spec_l1In e12 (-1000000000) 1000000000).bind fun y14 => if (!y14) then some false else (spec_l27Fits_L1 p0 k1) (IntKind.i64.wrap (i6 + 1)) else some true

theorem spec_l27Fits_L1_ind (p0 : List Int) {P : Int → Option (Bool) → Prop} (μ : Int → Nat) (h : ∀ (i6 : Int) (R : Int → Option (Bool)), (∀ i6', μ i6' < μ i6 → P i6' (R i6')) → P i6 (if decide (i6 < (p0.length : Int)) then (idx p0 i6).bind fun e12 => (spec_l1In e12 (-1000000000) 1000000000).bind fun y14 => if (!y14) then some false else (R) (IntKind.i64.wrap (i6 + 1)) else some true)) : ∀ k i6, μ i6 < k → P i6 (spec_l27Fits_L1 p0 k i6) := by
  intro k
  induction k with
  | zero => intro i6 hk; exact absurd hk (Nat.not_lt_zero _)
  | succ k ih => intro i6 hk; unfold spec_l27Fits_L1; exact h i6 (spec_l27Fits_L1 p0 k) (fun i6' hs => ih i6' (Nat.lt_of_lt_of_le hs (Nat.le_of_lt_succ hk)))

noncomputable def spec_l27Fits (p0 : List Int) : Option (Bool) :=
  spec_l27Fits_L1 p0 Fuel 0


noncomputable def spec_PutNum_L1  : Nat → Int → (List Int) → Option (List Int)
  | 0, _, _ => none
  | k1 + 1, i16, l17 =>
    if decide (i16 > 127) then (app l17 ([IntKind.u8.wrap (IntKind.i64.wrap ((Int.tmod i16 128) + 128))] : List Int)).bind fun l34 => (spec_PutNum_L1 k1) (IntKind.i64.wrap (Int.tdiv i16 128)) l34 else (app l17 ([IntKind.u8.wrap i16] : List Int)).bind fun l41 => some l41

theorem spec_PutNum_L1_ind  {P : Int → (List Int) → Option (List Int) → Prop} (μ : Int → (List Int) → Nat) (h : ∀ (i16 : Int) (l17 : List Int) (R : Int → (List Int) → Option (List Int)), (∀ i16' l17', μ i16' l17' < μ i16 l17 → P i16' l17' (R i16' l17')) → P i16 l17 (if decide (i16 > 127) then (app l17 ([IntKind.u8.wrap (IntKind.i64.wrap ((Int.tmod i16 128) + 128))] : List Int)).bind fun l34 => (R) (IntKind.i64.wrap (Int.tdiv i16 128)) l34 else (app l17 ([IntKind.u8.wrap i16] : List Int)).bind fun l41 => some l41)) : ∀ k i16 l17, μ i16 l17 < k → P i16 l17 (spec_PutNum_L1 k i16 l17) := by
  intro k
  induction k with
  | zero => intro i16 l17 hk; exact absurd hk (Nat.not_lt_zero _)
  | succ k ih => intro i16 l17 hk; unfold spec_PutNum_L1; exact h i16 l17 (spec_PutNum_L1 k) (fun i16' l17' hs => ih i16' l17' (Nat.lt_of_lt_of_le hs (Nat.le_of_lt_succ hk)))

noncomputable def spec_PutNum (p0 : Int) : Option (List Int) :=
  (spec_l1In p0 0 2147483647).bind fun y2 => if (!y2) then some ([] : List Int) else spec_PutNum_L1 Fuel p0 ([] : List Int)


noncomputable def spec_PutInt (p0 : Int) : Option (List Int) :=
  (spec_l1In p0 (-1000000000) 1000000000).bind fun y1 => if (!y1) then some ([] : List Int) else if decide (p0 < 0) then (spec_PutNum (IntKind.i64.wrap ((IntKind.i64.wrap (0 - (IntKind.i64.wrap (2 * p0)))) - 1))).bind fun y4 => some y4 else (spec_PutNum (IntKind.i64.wrap (2 * p0))).bind fun y13 => some y13


noncomputable def spec_PutInts_L1 (p0 : List Int) : Nat → (List Int) → Int → Option (List Int)
  | 0, _, _ => none
  | k1 + 1, l34, i38 =>
    if decide (i38 < (p0.length : Int)) then (idx p0 i38).bind fun e60 => (spec_PutInt e60).bind fun y62 => (app l34 y62).bind fun l71 => (spec_PutInts_L1 p0 k1) l71 (IntKind.i64.wrap (i38 + 1)) else some l34

theorem spec_PutInts_L1_ind (p0 : List Int) {P : (List Int) → Int → Option (List Int) → Prop} (μ : (List Int) → Int → Nat) (h : ∀ (l34 : List Int) (i38 : Int) (R : (List Int) → Int → Option (List Int)), (∀ l34' i38', μ l34' i38' < μ l34 i38 → P l34' i38' (R l34' i38')) → P l34 i38 (if decide (i38 < (p0.length : Int)) then (idx p0 i38).bind fun e60 => (spec_PutInt e60).bind fun y62 => (app l34 y62).bind fun l71 => (R) l71 (IntKind.i64.wrap (i38 + 1)) else some l34)) : ∀ k l34 i38, μ l34 i38 < k → P l34 i38 (spec_PutInts_L1 p0 k l34 i38) := by
  intro k
  induction k with
  | zero => intro l34 i38 hk; exact absurd hk (Nat.not_lt_zero _)
  | succ k ih => intro l34 i38 hk; unfold spec_PutInts_L1; exact h l34 i38 (spec_PutInts_L1 p0 k) (fun l34' i38' hs => ih l34' i38' (Nat.lt_of_lt_of_le hs (Nat.le_of_lt_succ hk)))

noncomputable def spec_PutInts (p0 : List Int) : Option (List Int) :=
  (spec_l27Fits p0).bind fun y1 => if (!y1) then some ([] : List Int) else (spec_PutInt (p0.length : Int)).bind fun y4 => spec_PutInts_L1 p0 Fuel y4 0


noncomputable def spec_l27PutLists_L1 (p0 : List (List Int)) : Nat → (List Int) → Int → Option (List Int)
  | 0, _, _ => none
  | k1 + 1, l37, i41 =>
    if decide (i41 < (p0.length : Int)) then (idx p0 i41).bind fun e69 => (spec_PutInts e69).bind fun y77 => (app l37 y77).bind fun l86 => (spec_l27PutLists_L1 p0 k1) l86 (IntKind.i64.wrap (i41 + 1)) else some l37

theorem spec_l27PutLists_L1_ind (p0 : List (List Int)) {P : (List Int) → Int → Option (List Int) → Prop} (μ : (List Int) → Int → Nat) (h : ∀ (l37 : List Int) (i41 : Int) (R : (List Int) → Int → Option (List Int)), (∀ l37' i41', μ l37' i41' < μ l37 i41 → P l37' i41' (R l37' i41')) → P l37 i41 (if decide (i41 < (p0.length : Int)) then (idx p0 i41).bind fun e69 => (spec_PutInts e69).bind fun y77 => (app l37 y77).bind fun l86 => (R) l86 (IntKind.i64.wrap (i41 + 1)) else some l37)) : ∀ k l37 i41, μ l37 i41 < k → P l37 i41 (spec_l27PutLists_L1 p0 k l37 i41) := by
  intro k
  induction k with
  | zero => intro l37 i41 hk; exact absurd hk (Nat.not_lt_zero _)
  | succ k ih => intro l37 i41 hk; unfold spec_l27PutLists_L1; exact h l37 i41 (spec_l27PutLists_L1 p0 k) (fun l37' i41' hs => ih l37' i41' (Nat.lt_of_lt_of_le hs (Nat.le_of_lt_succ hk)))

noncomputable def spec_l27PutLists (p0 : List (List Int)) : Option (List Int) :=
  (spec_PutInt (p0.length : Int)).bind fun y1 => spec_l27PutLists_L1 p0 Fuel y1 0


noncomputable def spec_PutWindow_L1 (p0 : Timpl_Window) : Nat → Int → Option (List Int)
  | 0, _ => none
  | k1 + 1, i18 =>
    if decide (i18 < (p0.Rows_.length : Int)) then (idx p0.Rows_ i18).bind fun e31 => (spec_l27Fits e31).bind fun y39 => if (!y39) then some ([] : List Int) else (spec_PutWindow_L1 p0 k1) (IntKind.i64.wrap (i18 + 1)) else (spec_l27PutLists p0.Rows_).bind fun y42 => some y42

theorem spec_PutWindow_L1_ind (p0 : Timpl_Window) {P : Int → Option (List Int) → Prop} (μ : Int → Nat) (h : ∀ (i18 : Int) (R : Int → Option (List Int)), (∀ i18', μ i18' < μ i18 → P i18' (R i18')) → P i18 (if decide (i18 < (p0.Rows_.length : Int)) then (idx p0.Rows_ i18).bind fun e31 => (spec_l27Fits e31).bind fun y39 => if (!y39) then some ([] : List Int) else (R) (IntKind.i64.wrap (i18 + 1)) else (spec_l27PutLists p0.Rows_).bind fun y42 => some y42)) : ∀ k i18, μ i18 < k → P i18 (spec_PutWindow_L1 p0 k i18) := by
  intro k
  induction k with
  | zero => intro i18 hk; exact absurd hk (Nat.not_lt_zero _)
  | succ k ih => intro i18 hk; unfold spec_PutWindow_L1; exact h i18 (spec_PutWindow_L1 p0 k) (fun i18' hs => ih i18' (Nat.lt_of_lt_of_le hs (Nat.le_of_lt_succ hk)))

noncomputable def spec_PutWindow (p0 : Timpl_Window) : Option (List Int) :=
  spec_PutWindow_L1 p0 Fuel 0


noncomputable def impl_within (p0 : Int) (p1 : Int) (p2 : Int) : Option (Bool) :=
  some ((decide (p0 ≥ p1)) && (decide (p0 ≤ p2)))


noncomputable def impl_PutNum_L1  : Nat → Int → (List Int) → Option ((List Int) × Bool)
  | 0, _, _ => none
  | k1 + 1, i16, l17 =>
    if decide (i16 ≥ 128) then (app l17 ([IntKind.u8.wrap (ibits .or .i64 (ibits .and .i64 i16 127) 128)] : List Int)).bind fun l34 => (impl_PutNum_L1 k1) (ishr .i64 i16 7) l34 else (app l17 ([IntKind.u8.wrap i16] : List Int)).bind fun l41 => some (l41, false)

theorem impl_PutNum_L1_ind  {P : Int → (List Int) → Option ((List Int) × Bool) → Prop} (μ : Int → (List Int) → Nat) (h : ∀ (i16 : Int) (l17 : List Int) (R : Int → (List Int) → Option ((List Int) × Bool)), (∀ i16' l17', μ i16' l17' < μ i16 l17 → P i16' l17' (R i16' l17')) → P i16 l17 (if decide (i16 ≥ 128) then (app l17 ([IntKind.u8.wrap (ibits .or .i64 (ibits .and .i64 i16 127) 128)] : List Int)).bind fun l34 => (R) (ishr .i64 i16 7) l34 else (app l17 ([IntKind.u8.wrap i16] : List Int)).bind fun l41 => some (l41, false))) : ∀ k i16 l17, μ i16 l17 < k → P i16 l17 (impl_PutNum_L1 k i16 l17) := by
  intro k
  induction k with
  | zero => intro i16 l17 hk; exact absurd hk (Nat.not_lt_zero _)
  | succ k ih => intro i16 l17 hk; unfold impl_PutNum_L1; exact h i16 l17 (impl_PutNum_L1 k) (fun i16' l17' hs => ih i16' l17' (Nat.lt_of_lt_of_le hs (Nat.le_of_lt_succ hk)))

noncomputable def impl_PutNum (p0 : Int) : Option ((List Int) × Bool) :=
  (impl_within p0 0 2147483647).bind fun y1 => if (!y1) then some (([] : List Int), true) else impl_PutNum_L1 Fuel p0 ([] : List Int)


noncomputable def impl_PutInt (p0 : Int) : Option ((List Int) × Bool) :=
  (impl_within p0 (-1000000000) 1000000000).bind fun y1 => if (!y1) then some (([] : List Int), true) else if decide (p0 < 0) then (impl_PutNum (IntKind.i64.wrap ((IntKind.i64.wrap ((-2) * p0)) - 1))).bind fun y3 => some (y3.1, y3.2) else (impl_PutNum (IntKind.i64.wrap (2 * p0))).bind fun y13 => some (y13.1, y13.2)


noncomputable def impl_writer_ints_L1 (p1 : List Int) : Nat → (List Int) → Bool → Int → Option (Timpl_writer)
  | 0, _, _, _ => none
  | k1 + 1, l26, q30, i31 =>
    if decide (i31 < (p1.length : Int)) then (idx p1 i31).bind fun e57 => (impl_PutInt e57).bind fun y59 => (app l26 y59.1).bind fun l71 => (impl_writer_ints_L1 p1 k1) l71 (q30 || y59.2) (IntKind.i64.wrap (i31 + 1)) else some (Timpl_writer.mk l26 q30)

theorem impl_writer_ints_L1_ind (p1 : List Int) {P : (List Int) → Bool → Int → Option (Timpl_writer) → Prop} (μ : (List Int) → Bool → Int → Nat) (h : ∀ (l26 : List Int) (q30 : Bool) (i31 : Int) (R : (List Int) → Bool → Int → Option (Timpl_writer)), (∀ l26' q30' i31', μ l26' q30' i31' < μ l26 q30 i31 → P l26' q30' i31' (R l26' q30' i31')) → P l26 q30 i31 (if decide (i31 < (p1.length : Int)) then (idx p1 i31).bind fun e57 => (impl_PutInt e57).bind fun y59 => (app l26 y59.1).bind fun l71 => (R) l71 (q30 || y59.2) (IntKind.i64.wrap (i31 + 1)) else some (Timpl_writer.mk l26 q30))) : ∀ k l26 q30 i31, μ l26 q30 i31 < k → P l26 q30 i31 (impl_writer_ints_L1 p1 k l26 q30 i31) := by
  intro k
  induction k with
  | zero => intro l26 q30 i31 hk; exact absurd hk (Nat.not_lt_zero _)
  | succ k ih => intro l26 q30 i31 hk; unfold impl_writer_ints_L1; exact h l26 q30 i31 (impl_writer_ints_L1 p1 k) (fun l26' q30' i31' hs => ih l26' q30' i31' (Nat.lt_of_lt_of_le hs (Nat.le_of_lt_succ hk)))

noncomputable def impl_writer_ints (p0 : Timpl_writer) (p1 : List Int) : Option (Timpl_writer) :=
  impl_writer_ints_L1 p1 Fuel p0.out_ p0.bad_ 0


noncomputable def impl_writer_list (p0 : Timpl_writer) (p1 : List Int) : Option (Timpl_writer) :=
  (impl_writer_ints p0 ([(p1.length : Int)] : List Int)).bind fun y2 => (impl_writer_ints y2 p1).bind fun y11 => some y11


noncomputable def impl_writer_window_L1 (p1 : Timpl_Window) : Nat → (List Int) → Bool → Int → Option (Timpl_writer)
  | 0, _, _, _ => none
  | k1 + 1, l39, q43, i44 =>
    if decide (i44 < (p1.Rows_.length : Int)) then (idx p1.Rows_ i44).bind fun e68 => (impl_writer_list (Timpl_writer.mk l39 q43) e68).bind fun y76 => (impl_writer_window_L1 p1 k1) y76.out_ y76.bad_ (IntKind.i64.wrap (i44 + 1)) else some (Timpl_writer.mk l39 q43)

theorem impl_writer_window_L1_ind (p1 : Timpl_Window) {P : (List Int) → Bool → Int → Option (Timpl_writer) → Prop} (μ : (List Int) → Bool → Int → Nat) (h : ∀ (l39 : List Int) (q43 : Bool) (i44 : Int) (R : (List Int) → Bool → Int → Option (Timpl_writer)), (∀ l39' q43' i44', μ l39' q43' i44' < μ l39 q43 i44 → P l39' q43' i44' (R l39' q43' i44')) → P l39 q43 i44 (if decide (i44 < (p1.Rows_.length : Int)) then (idx p1.Rows_ i44).bind fun e68 => (impl_writer_list (Timpl_writer.mk l39 q43) e68).bind fun y76 => (R) y76.out_ y76.bad_ (IntKind.i64.wrap (i44 + 1)) else some (Timpl_writer.mk l39 q43))) : ∀ k l39 q43 i44, μ l39 q43 i44 < k → P l39 q43 i44 (impl_writer_window_L1 p1 k l39 q43 i44) := by
  intro k
  induction k with
  | zero => intro l39 q43 i44 hk; exact absurd hk (Nat.not_lt_zero _)
  | succ k ih => intro l39 q43 i44 hk; unfold impl_writer_window_L1; exact h l39 q43 i44 (impl_writer_window_L1 p1 k) (fun l39' q43' i44' hs => ih l39' q43' i44' (Nat.lt_of_lt_of_le hs (Nat.le_of_lt_succ hk)))

noncomputable def impl_writer_window (p0 : Timpl_writer) (p1 : Timpl_Window) : Option (Timpl_writer) :=
  (impl_writer_ints p0 ([(p1.Rows_.length : Int)] : List Int)).bind fun y7 => impl_writer_window_L1 p1 Fuel y7.out_ y7.bad_ 0


noncomputable def impl_writer_done (p0 : Timpl_writer) : Option (List Int) :=
  if p0.bad_ then some ([] : List Int) else some p0.out_


noncomputable def impl_PutWindow (p0 : Timpl_Window) : Option (List Int) :=
  (impl_writer_window (Timpl_writer.mk ([] : List Int) false) p0).bind fun y7 => (impl_writer_done y7).bind fun y16 => some y16


noncomputable def laws_eqByteS_L1 (p0 : List Int) (p1 : List Int) : Nat → Int → Option (Bool)
  | 0, _ => none
  | k1 + 1, i6 =>
    if decide (i6 < (p0.length : Int)) then (idx p0 i6).bind fun e12 => (idx p1 i6).bind fun e14 => if (e12 != e14) then some false else (laws_eqByteS_L1 p0 p1 k1) (IntKind.i64.wrap (i6 + 1)) else some true

theorem laws_eqByteS_L1_ind (p0 : List Int) (p1 : List Int) {P : Int → Option (Bool) → Prop} (μ : Int → Nat) (h : ∀ (i6 : Int) (R : Int → Option (Bool)), (∀ i6', μ i6' < μ i6 → P i6' (R i6')) → P i6 (if decide (i6 < (p0.length : Int)) then (idx p0 i6).bind fun e12 => (idx p1 i6).bind fun e14 => if (e12 != e14) then some false else (R) (IntKind.i64.wrap (i6 + 1)) else some true)) : ∀ k i6, μ i6 < k → P i6 (laws_eqByteS_L1 p0 p1 k i6) := by
  intro k
  induction k with
  | zero => intro i6 hk; exact absurd hk (Nat.not_lt_zero _)
  | succ k ih => intro i6 hk; unfold laws_eqByteS_L1; exact h i6 (laws_eqByteS_L1 p0 p1 k) (fun i6' hs => ih i6' (Nat.lt_of_lt_of_le hs (Nat.le_of_lt_succ hk)))

noncomputable def laws_eqByteS (p0 : List Int) (p1 : List Int) : Option (Bool) :=
  if ((p0.length : Int) != (p1.length : Int)) then some false else laws_eqByteS_L1 p0 p1 Fuel 0


noncomputable def laws_eqIntS_L1 (p0 : List Int) (p1 : List Int) : Nat → Int → Option (Bool)
  | 0, _ => none
  | k1 + 1, i6 =>
    if decide (i6 < (p0.length : Int)) then (idx p0 i6).bind fun e12 => (idx p1 i6).bind fun e14 => if (e12 != e14) then some false else (laws_eqIntS_L1 p0 p1 k1) (IntKind.i64.wrap (i6 + 1)) else some true

theorem laws_eqIntS_L1_ind (p0 : List Int) (p1 : List Int) {P : Int → Option (Bool) → Prop} (μ : Int → Nat) (h : ∀ (i6 : Int) (R : Int → Option (Bool)), (∀ i6', μ i6' < μ i6 → P i6' (R i6')) → P i6 (if decide (i6 < (p0.length : Int)) then (idx p0 i6).bind fun e12 => (idx p1 i6).bind fun e14 => if (e12 != e14) then some false else (R) (IntKind.i64.wrap (i6 + 1)) else some true)) : ∀ k i6, μ i6 < k → P i6 (laws_eqIntS_L1 p0 p1 k i6) := by
  intro k
  induction k with
  | zero => intro i6 hk; exact absurd hk (Nat.not_lt_zero _)
  | succ k ih => intro i6 hk; unfold laws_eqIntS_L1; exact h i6 (laws_eqIntS_L1 p0 p1 k) (fun i6' hs => ih i6' (Nat.lt_of_lt_of_le hs (Nat.le_of_lt_succ hk)))

noncomputable def laws_eqIntS (p0 : List Int) (p1 : List Int) : Option (Bool) :=
  if ((p0.length : Int) != (p1.length : Int)) then some false else laws_eqIntS_L1 p0 p1 Fuel 0


noncomputable def laws_eqIntSS_L1 (p0 : List (List Int)) (p1 : List (List Int)) : Nat → Int → Option (Bool)
  | 0, _ => none
  | k1 + 1, i20 =>
    if decide (i20 < (p0.length : Int)) then (idx p0 i20).bind fun e40 => (idx p1 i20).bind fun e48 => (laws_eqIntS e40 e48).bind fun y56 => if (!y56) then some false else (laws_eqIntSS_L1 p0 p1 k1) (IntKind.i64.wrap (i20 + 1)) else some true

theorem laws_eqIntSS_L1_ind (p0 : List (List Int)) (p1 : List (List Int)) {P : Int → Option (Bool) → Prop} (μ : Int → Nat) (h : ∀ (i20 : Int) (R : Int → Option (Bool)), (∀ i20', μ i20' < μ i20 → P i20' (R i20')) → P i20 (if decide (i20 < (p0.length : Int)) then (idx p0 i20).bind fun e40 => (idx p1 i20).bind fun e48 => (laws_eqIntS e40 e48).bind fun y56 => if (!y56) then some false else (R) (IntKind.i64.wrap (i20 + 1)) else some true)) : ∀ k i20, μ i20 < k → P i20 (laws_eqIntSS_L1 p0 p1 k i20) := by
  intro k
  induction k with
  | zero => intro i20 hk; exact absurd hk (Nat.not_lt_zero _)
  | succ k ih => intro i20 hk; unfold laws_eqIntSS_L1; exact h i20 (laws_eqIntSS_L1 p0 p1 k) (fun i20' hs => ih i20' (Nat.lt_of_lt_of_le hs (Nat.le_of_lt_succ hk)))

noncomputable def laws_eqIntSS (p0 : List (List Int)) (p1 : List (List Int)) : Option (Bool) :=
  if ((p0.length : Int) != (p1.length : Int)) then some false else laws_eqIntSS_L1 p0 p1 Fuel 0


noncomputable def laws_eqWindow (p0 : Timpl_Window) (p1 : Timpl_Window) : Option (Bool) :=
  (laws_eqIntSS p0.Rows_ p1.Rows_).bind fun y11 => if (!y11) then some false else some true


noncomputable def laws_markIntS_L1 (p0 : List Int) : Nat → (List Int) → Int → Int → Option (Int × (List Int))
  | 0, _, _, _ => none
  | k1 + 1, l6, i7, i8 =>
    if decide (i8 < (p0.length : Int)) then (idx l6 i8).bind fun _ => (laws_markIntS_L1 p0 k1) (l6.set i8.toNat i7) (IntKind.i64.wrap (i7 + 1)) (IntKind.i64.wrap (i8 + 1)) else some (i7, l6)

theorem laws_markIntS_L1_ind (p0 : List Int) {P : (List Int) → Int → Int → Option (Int × (List Int)) → Prop} (μ : (List Int) → Int → Int → Nat) (h : ∀ (l6 : List Int) (i7 : Int) (i8 : Int) (R : (List Int) → Int → Int → Option (Int × (List Int))), (∀ l6' i7' i8', μ l6' i7' i8' < μ l6 i7 i8 → P l6' i7' i8' (R l6' i7' i8')) → P l6 i7 i8 (if decide (i8 < (p0.length : Int)) then (idx l6 i8).bind fun _ => (R) (l6.set i8.toNat i7) (IntKind.i64.wrap (i7 + 1)) (IntKind.i64.wrap (i8 + 1)) else some (i7, l6))) : ∀ k l6 i7 i8, μ l6 i7 i8 < k → P l6 i7 i8 (laws_markIntS_L1 p0 k l6 i7 i8) := by
  intro k
  induction k with
  | zero => intro l6 i7 i8 hk; exact absurd hk (Nat.not_lt_zero _)
  | succ k ih => intro l6 i7 i8 hk; unfold laws_markIntS_L1; exact h l6 i7 i8 (laws_markIntS_L1 p0 k) (fun l6' i7' i8' hs => ih l6' i7' i8' (Nat.lt_of_lt_of_le hs (Nat.le_of_lt_succ hk)))

noncomputable def laws_markIntS (p0 : List Int) (p1 : Int) : Option (Int × (List Int)) :=
  laws_markIntS_L1 p0 Fuel p0 p1 0


noncomputable def laws_markIntSS_L1 (p0 : List (List Int)) : Nat → (List (List Int)) → Int → Int → Option (Int × (List (List Int)))
  | 0, _, _, _ => none
  | k1 + 1, l24, i26, i27 =>
    if decide (i27 < (p0.length : Int)) then (idx l24 i27).bind fun e51 => (laws_markIntS e51 i26).bind fun y63 => (laws_markIntSS_L1 p0 k1) (l24.set i27.toNat y63.2) y63.1 (IntKind.i64.wrap (i27 + 1)) else some (i26, l24)

theorem laws_markIntSS_L1_ind (p0 : List (List Int)) {P : (List (List Int)) → Int → Int → Option (Int × (List (List Int))) → Prop} (μ : (List (List Int)) → Int → Int → Nat) (h : ∀ (l24 : List (List Int)) (i26 : Int) (i27 : Int) (R : (List (List Int)) → Int → Int → Option (Int × (List (List Int)))), (∀ l24' i26' i27', μ l24' i26' i27' < μ l24 i26 i27 → P l24' i26' i27' (R l24' i26' i27')) → P l24 i26 i27 (if decide (i27 < (p0.length : Int)) then (idx l24 i27).bind fun e51 => (laws_markIntS e51 i26).bind fun y63 => (R) (l24.set i27.toNat y63.2) y63.1 (IntKind.i64.wrap (i27 + 1)) else some (i26, l24))) : ∀ k l24 i26 i27, μ l24 i26 i27 < k → P l24 i26 i27 (laws_markIntSS_L1 p0 k l24 i26 i27) := by
  intro k
  induction k with
  | zero => intro l24 i26 i27 hk; exact absurd hk (Nat.not_lt_zero _)
  | succ k ih => intro l24 i26 i27 hk; unfold laws_markIntSS_L1; exact h l24 i26 i27 (laws_markIntSS_L1 p0 k) (fun l24' i26' i27' hs => ih l24' i26' i27' (Nat.lt_of_lt_of_le hs (Nat.le_of_lt_succ hk)))

noncomputable def laws_markIntSS (p0 : List (List Int)) (p1 : Int) : Option (Int × (List (List Int))) :=
  laws_markIntSS_L1 p0 Fuel p0 p1 0


noncomputable def laws_markWindow (p0 : Timpl_Window) (p1 : Int) : Option (Int × Timpl_Window) :=
  (laws_markIntSS p0.Rows_ p1).bind fun y2 => some (y2.1, (Timpl_Window.mk y2.2))


noncomputable def laws_markByteS_L1 (p0 : List Int) : Nat → (List Int) → Int → Int → Option (Int × (List Int))
  | 0, _, _, _ => none
  | k1 + 1, l6, i7, i8 =>
    if decide (i8 < (p0.length : Int)) then (idx l6 i8).bind fun _ => (laws_markByteS_L1 p0 k1) (l6.set i8.toNat (IntKind.u8.wrap i7)) (IntKind.i64.wrap (i7 + 1)) (IntKind.i64.wrap (i8 + 1)) else some (i7, l6)

theorem laws_markByteS_L1_ind (p0 : List Int) {P : (List Int) → Int → Int → Option (Int × (List Int)) → Prop} (μ : (List Int) → Int → Int → Nat) (h : ∀ (l6 : List Int) (i7 : Int) (i8 : Int) (R : (List Int) → Int → Int → Option (Int × (List Int))), (∀ l6' i7' i8', μ l6' i7' i8' < μ l6 i7 i8 → P l6' i7' i8' (R l6' i7' i8')) → P l6 i7 i8 (if decide (i8 < (p0.length : Int)) then (idx l6 i8).bind fun _ => (R) (l6.set i8.toNat (IntKind.u8.wrap i7)) (IntKind.i64.wrap (i7 + 1)) (IntKind.i64.wrap (i8 + 1)) else some (i7, l6))) : ∀ k l6 i7 i8, μ l6 i7 i8 < k → P l6 i7 i8 (laws_markByteS_L1 p0 k l6 i7 i8) := by
  intro k
  induction k with
  | zero => intro l6 i7 i8 hk; exact absurd hk (Nat.not_lt_zero _)
  | succ k ih => intro l6 i7 i8 hk; unfold laws_markByteS_L1; exact h l6 i7 i8 (laws_markByteS_L1 p0 k) (fun l6' i7' i8' hs => ih l6' i7' i8' (Nat.lt_of_lt_of_le hs (Nat.le_of_lt_succ hk)))

noncomputable def laws_markByteS (p0 : List Int) (p1 : Int) : Option (Int × (List Int)) :=
  laws_markByteS_L1 p0 Fuel p0 p1 0


noncomputable def laws_heldByteS_L1 (p0 : List Int) : Nat → Int → Int → Option (Int)
  | 0, _, _ => none
  | k1 + 1, i5, i6 =>
    if decide (i6 < (p0.length : Int)) then (idx p0 i6).bind fun e11 => if (e11 != (IntKind.u8.wrap i5)) then some (-1) else (laws_heldByteS_L1 p0 k1) (IntKind.i64.wrap (i5 + 1)) (IntKind.i64.wrap (i6 + 1)) else some i5

theorem laws_heldByteS_L1_ind (p0 : List Int) {P : Int → Int → Option (Int) → Prop} (μ : Int → Int → Nat) (h : ∀ (i5 : Int) (i6 : Int) (R : Int → Int → Option (Int)), (∀ i5' i6', μ i5' i6' < μ i5 i6 → P i5' i6' (R i5' i6')) → P i5 i6 (if decide (i6 < (p0.length : Int)) then (idx p0 i6).bind fun e11 => if (e11 != (IntKind.u8.wrap i5)) then some (-1) else (R) (IntKind.i64.wrap (i5 + 1)) (IntKind.i64.wrap (i6 + 1)) else some i5)) : ∀ k i5 i6, μ i5 i6 < k → P i5 i6 (laws_heldByteS_L1 p0 k i5 i6) := by
  intro k
  induction k with
  | zero => intro i5 i6 hk; exact absurd hk (Nat.not_lt_zero _)
  | succ k ih => intro i5 i6 hk; unfold laws_heldByteS_L1; exact h i5 i6 (laws_heldByteS_L1 p0 k) (fun i5' i6' hs => ih i5' i6' (Nat.lt_of_lt_of_le hs (Nat.le_of_lt_succ hk)))

noncomputable def laws_heldByteS (p0 : List Int) (p1 : Int) : Option (Int) :=
  laws_heldByteS_L1 p0 Fuel p1 0


noncomputable def laws_FnExactPutWindow (p0 : Tlaws_Window) : Option (Bool) :=
  (laws_szWindow p0 1048576).bind fun y6 => if decide (y6 < 0) then some true else (laws_toWindow p0).bind fun y8 => (spec_PutWindow y8).bind fun y17 => (laws_toWindow p0).bind fun y26 => (impl_PutWindow y26).bind fun y36 => (laws_eqByteS y36 y17).bind fun y45 => if (!y45) then some false else (laws_toWindow p0).bind fun y56 => (laws_eqWindow y26 y56).bind fun y65 => if (!y65) then some false else (laws_markWindow y26 1).bind fun y67 => (if decide (y67.1 < 0) then some true else (laws_eqByteS y36 y17).bind fun y74 => some (!y74)).bind fun u73 => if u73 then some false else (laws_markByteS y36 1).bind fun y78 => (laws_heldByteS y78.2 1).bind fun y84 => if decide (y84 < 0) then some false else if (y84 != y78.1) then some false else (laws_toWindow p0).bind fun y86 => (impl_PutWindow y86).bind fun y95 => (laws_eqByteS y95 y17).bind fun y104 => if (!y104) then some false else (laws_heldByteS y78.2 1).bind fun y106 => if decide (y106 < 0) then some false else if (y106 != y78.1) then some false else some true


noncomputable def laws_big (p0 : List Int) : Option (Bool) :=
  some (decide ((p0.length : Int) > 1048576))


noncomputable def spec_l1New_L1 (p0 : List Int) : Nat → Int → Int → Option (Tspec_l1Cur)
  | 0, _, _ => none
  | k1 + 1, i7, i8 =>
    if ((decide (i8 < (p0.length : Int))) && (decide (i8 < 4000))) then (idx p0 i8).bind fun e17 => (spec_l1New_L1 p0 k1) (ibits .and .i64 (IntKind.i64.wrap ((IntKind.i64.wrap ((IntKind.i64.wrap (i7 * 131)) + (IntKind.i64.wrap e17))) + 7)) 1073741823) (IntKind.i64.wrap (i8 + 1)) else some (Tspec_l1Cur.mk 0 i7)

theorem spec_l1New_L1_ind (p0 : List Int) {P : Int → Int → Option (Tspec_l1Cur) → Prop} (μ : Int → Int → Nat) (h : ∀ (i7 : Int) (i8 : Int) (R : Int → Int → Option (Tspec_l1Cur)), (∀ i7' i8', μ i7' i8' < μ i7 i8 → P i7' i8' (R i7' i8')) → P i7 i8 (if ((decide (i8 < (p0.length : Int))) && (decide (i8 < 4000))) then (idx p0 i8).bind fun e17 => (R) (ibits .and .i64 (IntKind.i64.wrap ((IntKind.i64.wrap ((IntKind.i64.wrap (i7 * 131)) + (IntKind.i64.wrap e17))) + 7)) 1073741823) (IntKind.i64.wrap (i8 + 1)) else some (Tspec_l1Cur.mk 0 i7))) : ∀ k i7 i8, μ i7 i8 < k → P i7 i8 (spec_l1New_L1 p0 k i7 i8) := by
  intro k
  induction k with
  | zero => intro i7 i8 hk; exact absurd hk (Nat.not_lt_zero _)
  | succ k ih => intro i7 i8 hk; unfold spec_l1New_L1; exact h i7 i8 (spec_l1New_L1 p0 k) (fun i7' i8' hs => ih i7' i8' (Nat.lt_of_lt_of_le hs (Nat.le_of_lt_succ hk)))

noncomputable def spec_l1New (p0 : List Int) : Option (Tspec_l1Cur) :=
  spec_l1New_L1 p0 Fuel (IntKind.i64.wrap (26583 + (p0.length : Int))) 0


noncomputable def spec_l1Byte (p0b : List Int) (p0 : Tspec_l1Cur) : Option (Int × Tspec_l1Cur) :=
  if decide (p0.i_ < (p0b.length : Int)) then (idx p0b p0.i_).bind fun e1 => some (ibits .and .i64 (IntKind.i64.wrap ((ibits .and .i64 (ibits .xor .i64 (ishr .i64 (IntKind.i64.wrap ((IntKind.i64.wrap (p0.h_ * 6364136223846793005)) + 1442695040888963407)) 33) (ishr .i64 (IntKind.i64.wrap ((IntKind.i64.wrap (p0.h_ * 6364136223846793005)) + 1442695040888963407)) 45)) 255) + (IntKind.i64.wrap e1))) 255, (Tspec_l1Cur.mk (IntKind.i64.wrap (p0.i_ + 1)) (IntKind.i64.wrap ((IntKind.i64.wrap (p0.h_ * 6364136223846793005)) + 1442695040888963407)))) else some (ibits .and .i64 (ibits .xor .i64 (ishr .i64 (IntKind.i64.wrap ((IntKind.i64.wrap (p0.h_ * 6364136223846793005)) + 1442695040888963407)) 33) (ishr .i64 (IntKind.i64.wrap ((IntKind.i64.wrap (p0.h_ * 6364136223846793005)) + 1442695040888963407)) 45)) 255, (Tspec_l1Cur.mk p0.i_ (IntKind.i64.wrap ((IntKind.i64.wrap (p0.h_ * 6364136223846793005)) + 1442695040888963407))))


noncomputable def spec_l1Below (p0b : List Int) (p0 : Tspec_l1Cur) (p1 : Int) : Option (Int × Tspec_l1Cur) :=
  if decide (p1 ≤ 0) then some (0, p0) else if decide (p1 ≤ 256) then (spec_l1Byte p0b p0).bind fun y1 => (rem y1.1 p1).bind fun x6 => some (x6, y1.2) else (spec_l1Byte p0b p0).bind fun y8 => (spec_l1Byte p0b y8.2).bind fun y13 => (spec_l1Byte p0b y13.2).bind fun y18 => (spec_l1Byte p0b y18.2).bind fun y23 => (rem (IntKind.i64.wrap ((IntKind.i64.wrap ((IntKind.i64.wrap ((IntKind.i64.wrap (y8.1 * 16777216)) + (IntKind.i64.wrap (y13.1 * 65536)))) + (IntKind.i64.wrap (y18.1 * 256)))) + y23.1)) p1).bind fun x28 => some (x28, y23.2)


noncomputable def spec_l1PickInt (p0b : List Int) (p0 : Tspec_l1Cur) (p1 : List Int) : Option (Int × Tspec_l1Cur) :=
  (spec_l1Below p0b p0 (p1.length : Int)).bind fun y1 => (idx p1 y1.1).bind fun e6 => some (e6, y1.2)


noncomputable def spec_l27Int (p0b : List Int) (p0 : Tspec_l1Cur) : Option (Int × Tspec_l1Cur) :=
  (spec_l1Below p0b p0 5000).bind fun y1 => (spec_l1PickInt p0b y1.2 ([0, 1, (-1), 63, 64, (-64), (-65), 1000000000, (-1000000000), y1.1] : List Int)).bind fun y7 => some (y7.1, y7.2)


noncomputable def spec_DrawPutInt (p0 : List Int) : Option (Int) :=
  (spec_l1New p0).bind fun y1 => (spec_l27Int p0 y1).bind fun y7 => (spec_l27Int p0 y7.2).bind fun y12 => (spec_l1PickInt p0 y12.2 ([y7.1, y12.1, 1000000001, (-1000000001), 9223372036854775807, (-9223372036854775808)] : List Int)).bind fun y18 => some y18.1


noncomputable def spec_l27Ints_L1 (y2 : Int × Tspec_l1Cur) (p0b : List Int) : Nat → Int → Int → (List Int) → Int → Option ((List Int) × Tspec_l1Cur)
  | 0, _, _, _, _ => none
  | k1 + 1, i26, i27, l28, i32 =>
    if decide (i32 < y2.1) then (spec_l27Int p0b (Tspec_l1Cur.mk i26 i27)).bind fun y52 => (app l28 ([y52.1] : List Int)).bind fun l58 => (spec_l27Ints_L1 y2 p0b k1) y52.2.i_ y52.2.h_ l58 (IntKind.i64.wrap (i32 + 1)) else some (l28, (Tspec_l1Cur.mk i26 i27))

theorem spec_l27Ints_L1_ind (y2 : Int × Tspec_l1Cur) (p0b : List Int) {P : Int → Int → (List Int) → Int → Option ((List Int) × Tspec_l1Cur) → Prop} (μ : Int → Int → (List Int) → Int → Nat) (h : ∀ (i26 : Int) (i27 : Int) (l28 : List Int) (i32 : Int) (R : Int → Int → (List Int) → Int → Option ((List Int) × Tspec_l1Cur)), (∀ i26' i27' l28' i32', μ i26' i27' l28' i32' < μ i26 i27 l28 i32 → P i26' i27' l28' i32' (R i26' i27' l28' i32')) → P i26 i27 l28 i32 (if decide (i32 < y2.1) then (spec_l27Int p0b (Tspec_l1Cur.mk i26 i27)).bind fun y52 => (app l28 ([y52.1] : List Int)).bind fun l58 => (R) y52.2.i_ y52.2.h_ l58 (IntKind.i64.wrap (i32 + 1)) else some (l28, (Tspec_l1Cur.mk i26 i27)))) : ∀ k i26 i27 l28 i32, μ i26 i27 l28 i32 < k → P i26 i27 l28 i32 (spec_l27Ints_L1 y2 p0b k i26 i27 l28 i32) := by
  intro k
  induction k with
  | zero => intro i26 i27 l28 i32 hk; exact absurd hk (Nat.not_lt_zero _)
  | succ k ih => intro i26 i27 l28 i32 hk; unfold spec_l27Ints_L1; exact h i26 i27 l28 i32 (spec_l27Ints_L1 y2 p0b k) (fun i26' i27' l28' i32' hs => ih i26' i27' l28' i32' (Nat.lt_of_lt_of_le hs (Nat.le_of_lt_succ hk)))

noncomputable def spec_l27Ints (p0b : List Int) (p0 : Tspec_l1Cur) : Option ((List Int) × Tspec_l1Cur) :=
  (spec_l1Below p0b p0 5).bind fun y2 => spec_l27Ints_L1 y2 p0b Fuel y2.2.i_ y2.2.h_ ([] : List Int) 0


noncomputable def spec_l1Once (p0b : List Int) (p0 : Tspec_l1Cur) (p1 : Int) : Option (Bool × Tspec_l1Cur) :=
  (spec_l1Below p0b p0 p1).bind fun y1 => some ((y1.1 == 0), y1.2)


noncomputable def spec_DrawPutInts (p0 : List Int) : Option (List Int) :=
  (spec_l1New p0).bind fun y1 => (spec_l27Ints p0 y1).bind fun y7 => (spec_l1Once p0 y7.2 6).bind fun y16 => if y16.1 then (spec_l1PickInt p0 y16.2 ([1000000001, (-9223372036854775808)] : List Int)).bind fun y22 => (app y7.1 ([y22.1] : List Int)).bind fun l28 => some l28 else some y7.1


noncomputable def impl_PutInts (p0 : List Int) : Option (List Int) :=
  (impl_writer_list (Timpl_writer.mk ([] : List Int) false) p0).bind fun y2 => (impl_writer_done y2).bind fun y11 => some y11


noncomputable def impl_GetNum_L1 (p1 : Int) (p0 : List Int) : Nat → Int → Int → Option (Int × Int × Bool)
  | 0, _, _ => none
  | k1 + 1, i15, i16 =>
    if (((decide (i16 < 5)) && (decide ((IntKind.i64.wrap (p1 + i16)) ≥ 0))) && (decide ((IntKind.i64.wrap (p1 + i16)) < (p0.length : Int)))) then (idx p0 (IntKind.i64.wrap (p1 + i16))).bind fun e35 => (shl .i64 (ibits .and .i64 (IntKind.i64.wrap e35) 127) (IntKind.i64.wrap (7 * i16))).bind fun x37 => if decide ((IntKind.i64.wrap e35) ≥ 128) then (impl_GetNum_L1 p1 p0 k1) (ibits .or .i64 i15 x37) (IntKind.i64.wrap (i16 + 1)) else if ((((IntKind.i64.wrap e35) == 0) && (decide (i16 > 0))) || (decide ((ibits .or .i64 i15 x37) > 2147483647))) then some (0, 0, false) else some (ibits .or .i64 i15 x37, IntKind.i64.wrap ((IntKind.i64.wrap (p1 + i16)) + 1), true) else some (0, 0, false)

theorem impl_GetNum_L1_ind (p1 : Int) (p0 : List Int) {P : Int → Int → Option (Int × Int × Bool) → Prop} (μ : Int → Int → Nat) (h : ∀ (i15 : Int) (i16 : Int) (R : Int → Int → Option (Int × Int × Bool)), (∀ i15' i16', μ i15' i16' < μ i15 i16 → P i15' i16' (R i15' i16')) → P i15 i16 (if (((decide (i16 < 5)) && (decide ((IntKind.i64.wrap (p1 + i16)) ≥ 0))) && (decide ((IntKind.i64.wrap (p1 + i16)) < (p0.length : Int)))) then (idx p0 (IntKind.i64.wrap (p1 + i16))).bind fun e35 => (shl .i64 (ibits .and .i64 (IntKind.i64.wrap e35) 127) (IntKind.i64.wrap (7 * i16))).bind fun x37 => if decide ((IntKind.i64.wrap e35) ≥ 128) then (R) (ibits .or .i64 i15 x37) (IntKind.i64.wrap (i16 + 1)) else if ((((IntKind.i64.wrap e35) == 0) && (decide (i16 > 0))) || (decide ((ibits .or .i64 i15 x37) > 2147483647))) then some (0, 0, false) else some (ibits .or .i64 i15 x37, IntKind.i64.wrap ((IntKind.i64.wrap (p1 + i16)) + 1), true) else some (0, 0, false))) : ∀ k i15 i16, μ i15 i16 < k → P i15 i16 (impl_GetNum_L1 p1 p0 k i15 i16) := by
  intro k
  induction k with
  | zero => intro i15 i16 hk; exact absurd hk (Nat.not_lt_zero _)
  | succ k ih => intro i15 i16 hk; unfold impl_GetNum_L1; exact h i15 i16 (impl_GetNum_L1 p1 p0 k) (fun i15' i16' hs => ih i15' i16' (Nat.lt_of_lt_of_le hs (Nat.le_of_lt_succ hk)))

noncomputable def impl_GetNum (p0 : List Int) (p1 : Int) : Option (Int × Int × Bool) :=
  if decide (p1 < 0) then some (0, 0, false) else impl_GetNum_L1 p1 p0 Fuel 0 0


noncomputable def impl_GetInt_J1 (y1 : Int × Int × Bool) (i3 : Int) : Option (Int × Int × Bool) :=
  (if (!y1.2.2) then some true else (impl_within i3 (-1000000000) 1000000000).bind fun y5 => some (!y5)).bind fun u4 => if u4 then some (0, 0, false) else some (i3, y1.2.1, true)

noncomputable def impl_GetInt (p0 : List Int) (p1 : Int) : Option (Int × Int × Bool) :=
  (impl_GetNum p0 p1).bind fun y1 => if ((Int.tmod y1.1 2) == 1) then impl_GetInt_J1 y1 (IntKind.i64.wrap ((IntKind.i64.wrap (0 - (IntKind.i64.wrap (Int.tdiv y1.1 2)))) - 1)) else impl_GetInt_J1 y1 (IntKind.i64.wrap (Int.tdiv y1.1 2))


noncomputable def impl_reader_int (p0b : List Int) (p0 : Timpl_reader) : Option (Int × Timpl_reader) :=
  if p0.bad_ then some (0, p0) else (impl_GetInt p0b p0.at_).bind fun y1 => if (!y1.2.2) then some (0, (Timpl_reader.mk p0.at_ true)) else some (y1.1, (Timpl_reader.mk y1.2.1 p0.bad_))


noncomputable def impl_reader_count (p0b : List Int) (p0 : Timpl_reader) : Option (Int × Timpl_reader) :=
  (impl_reader_int p0b p0).bind fun y1 => if ((decide (y1.1 < 0)) || (decide (y1.1 > (IntKind.i64.wrap ((p0b.length : Int) - y1.2.at_))))) then some (0, (Timpl_reader.mk y1.2.at_ true)) else some (y1.1, y1.2)


noncomputable def impl_reader_list_L1 (p0b : List Int) : Nat → Int → Bool → (List Int) → Int → Option ((List Int) × Timpl_reader)
  | 0, _, _, _, _ => none
  | k1 + 1, i31, q32, l33, i37 =>
    if ((decide (i37 > 0)) && (!q32)) then (impl_reader_int p0b (Timpl_reader.mk i31 q32)).bind fun y61 => (app l33 ([y61.1] : List Int)).bind fun l67 => (impl_reader_list_L1 p0b k1) y61.2.at_ y61.2.bad_ l67 (IntKind.i64.wrap (i37 - 1)) else some (l33, (Timpl_reader.mk i31 q32))

theorem impl_reader_list_L1_ind (p0b : List Int) {P : Int → Bool → (List Int) → Int → Option ((List Int) × Timpl_reader) → Prop} (μ : Int → Bool → (List Int) → Int → Nat) (h : ∀ (i31 : Int) (q32 : Bool) (l33 : List Int) (i37 : Int) (R : Int → Bool → (List Int) → Int → Option ((List Int) × Timpl_reader)), (∀ i31' q32' l33' i37', μ i31' q32' l33' i37' < μ i31 q32 l33 i37 → P i31' q32' l33' i37' (R i31' q32' l33' i37')) → P i31 q32 l33 i37 (if ((decide (i37 > 0)) && (!q32)) then (impl_reader_int p0b (Timpl_reader.mk i31 q32)).bind fun y61 => (app l33 ([y61.1] : List Int)).bind fun l67 => (R) y61.2.at_ y61.2.bad_ l67 (IntKind.i64.wrap (i37 - 1)) else some (l33, (Timpl_reader.mk i31 q32)))) : ∀ k i31 q32 l33 i37, μ i31 q32 l33 i37 < k → P i31 q32 l33 i37 (impl_reader_list_L1 p0b k i31 q32 l33 i37) := by
  intro k
  induction k with
  | zero => intro i31 q32 l33 i37 hk; exact absurd hk (Nat.not_lt_zero _)
  | succ k ih => intro i31 q32 l33 i37 hk; unfold impl_reader_list_L1; exact h i31 q32 l33 i37 (impl_reader_list_L1 p0b k) (fun i31' q32' l33' i37' hs => ih i31' q32' l33' i37' (Nat.lt_of_lt_of_le hs (Nat.le_of_lt_succ hk)))

noncomputable def impl_reader_list (p0b : List Int) (p0 : Timpl_reader) : Option ((List Int) × Timpl_reader) :=
  (impl_reader_count p0b p0).bind fun y1 => impl_reader_list_L1 p0b Fuel y1.2.at_ y1.2.bad_ ([] : List Int) y1.1


noncomputable def impl_GetInts (p0 : List Int) (p1 : Int) : Option ((List Int) × Int × Bool) :=
  (impl_reader_list p0 (Timpl_reader.mk p1 false)).bind fun y2 => if y2.2.bad_ then some (([] : List Int), 0, false) else some (y2.1, y2.2.at_, true)


noncomputable def laws_sameInts_L1 (p0 : List Int) (p1 : List Int) : Nat → Int → Option (Bool)
  | 0, _ => none
  | k1 + 1, i6 =>
    if decide (i6 < (p0.length : Int)) then (idx p0 i6).bind fun e12 => (idx p1 i6).bind fun e14 => if (e12 != e14) then some false else (laws_sameInts_L1 p0 p1 k1) (IntKind.i64.wrap (i6 + 1)) else some true

theorem laws_sameInts_L1_ind (p0 : List Int) (p1 : List Int) {P : Int → Option (Bool) → Prop} (μ : Int → Nat) (h : ∀ (i6 : Int) (R : Int → Option (Bool)), (∀ i6', μ i6' < μ i6 → P i6' (R i6')) → P i6 (if decide (i6 < (p0.length : Int)) then (idx p0 i6).bind fun e12 => (idx p1 i6).bind fun e14 => if (e12 != e14) then some false else (R) (IntKind.i64.wrap (i6 + 1)) else some true)) : ∀ k i6, μ i6 < k → P i6 (laws_sameInts_L1 p0 p1 k i6) := by
  intro k
  induction k with
  | zero => intro i6 hk; exact absurd hk (Nat.not_lt_zero _)
  | succ k ih => intro i6 hk; unfold laws_sameInts_L1; exact h i6 (laws_sameInts_L1 p0 p1 k) (fun i6' hs => ih i6' (Nat.lt_of_lt_of_le hs (Nat.le_of_lt_succ hk)))

noncomputable def laws_sameInts (p0 : List Int) (p1 : List Int) : Option (Bool) :=
  if ((p0.length : Int) != (p1.length : Int)) then some false else laws_sameInts_L1 p0 p1 Fuel 0


noncomputable def laws_FnInts_L1 (y5 : List Int) (l45 : List Int) (y14 : (List Int) × Bool) (i59 : Int) : Nat → Int → Option (Bool)
  | 0, _ => none
  | k1 + 1, i68 =>
    if decide (i68 < (y5.length : Int)) then (idx y5 i68).bind fun e77 => (if decide (e77 > 1000000000) then some true else (idx y5 i68).bind fun e80 => some (decide (e80 < (-1000000000)))).bind fun u79 => if u79 then some ((l45.length : Int) == (IntKind.i64.wrap ((y14.1.length : Int) + 1))) else (laws_FnInts_L1 y5 l45 y14 i59 k1) (IntKind.i64.wrap (i68 + 1)) else (impl_GetInts l45 i59).bind fun y84 => (if y84.2.2 then (laws_sameInts y84.1 y5).bind fun y94 => some y94 else some false).bind fun u93 => some (u93 && (y84.2.1 == (IntKind.i64.wrap ((l45.length : Int) - 1))))

theorem laws_FnInts_L1_ind (y5 : List Int) (l45 : List Int) (y14 : (List Int) × Bool) (i59 : Int) {P : Int → Option (Bool) → Prop} (μ : Int → Nat) (h : ∀ (i68 : Int) (R : Int → Option (Bool)), (∀ i68', μ i68' < μ i68 → P i68' (R i68')) → P i68 (if decide (i68 < (y5.length : Int)) then (idx y5 i68).bind fun e77 => (if decide (e77 > 1000000000) then some true else (idx y5 i68).bind fun e80 => some (decide (e80 < (-1000000000)))).bind fun u79 => if u79 then some ((l45.length : Int) == (IntKind.i64.wrap ((y14.1.length : Int) + 1))) else (R) (IntKind.i64.wrap (i68 + 1)) else (impl_GetInts l45 i59).bind fun y84 => (if y84.2.2 then (laws_sameInts y84.1 y5).bind fun y94 => some y94 else some false).bind fun u93 => some (u93 && (y84.2.1 == (IntKind.i64.wrap ((l45.length : Int) - 1)))))) : ∀ k i68, μ i68 < k → P i68 (laws_FnInts_L1 y5 l45 y14 i59 k i68) := by
  intro k
  induction k with
  | zero => intro i68 hk; exact absurd hk (Nat.not_lt_zero _)
  | succ k ih => intro i68 hk; unfold laws_FnInts_L1; exact h i68 (laws_FnInts_L1 y5 l45 y14 i59 k) (fun i68' hs => ih i68' (Nat.lt_of_lt_of_le hs (Nat.le_of_lt_succ hk)))

noncomputable def laws_FnInts_J1 (y5 : List Int) (l45 : List Int) (y14 : (List Int) × Bool) (i59 : Int) : Option (Bool) :=
  laws_FnInts_L1 y5 l45 y14 i59 Fuel 0

noncomputable def laws_FnInts (p0 : List Int) : Option (Bool) :=
  (laws_big p0).bind fun y1 => if y1 then some true else (spec_DrawPutInt p0).bind fun y3 => (spec_DrawPutInts p0).bind fun y5 => (impl_PutInt y3).bind fun y14 => (app ([] : List Int) y14.1).bind fun l25 => (impl_PutInts y5).bind fun y30 => (app l25 y30).bind fun l39 => (app l39 ([9] : List Int)).bind fun l45 => if ((decide (y3 ≥ (-1000000000))) && (decide (y3 ≤ 1000000000))) then (impl_GetInt l45 0).bind fun y102 => if (((!y102.2.2) || (y102.1 != y3)) || (y102.2.1 != (y14.1.length : Int))) then some false else laws_FnInts_J1 y5 l45 y14 y102.2.1 else if ((y14.1.length : Int) != 0) then some false else laws_FnInts_J1 y5 l45 y14 0


noncomputable def laws_toByteS_L1 (p0 : List Int) : Nat → (List Int) → Int → Option (List Int)
  | 0, _, _ => none
  | k1 + 1, l10, i11 =>
    if decide (i11 < (p0.length : Int)) then (idx p0 i11).bind fun e18 => (idx l10 i11).bind fun _ => (laws_toByteS_L1 p0 k1) (l10.set i11.toNat e18) (IntKind.i64.wrap (i11 + 1)) else some l10

theorem laws_toByteS_L1_ind (p0 : List Int) {P : (List Int) → Int → Option (List Int) → Prop} (μ : (List Int) → Int → Nat) (h : ∀ (l10 : List Int) (i11 : Int) (R : (List Int) → Int → Option (List Int)), (∀ l10' i11', μ l10' i11' < μ l10 i11 → P l10' i11' (R l10' i11')) → P l10 i11 (if decide (i11 < (p0.length : Int)) then (idx p0 i11).bind fun e18 => (idx l10 i11).bind fun _ => (R) (l10.set i11.toNat e18) (IntKind.i64.wrap (i11 + 1)) else some l10)) : ∀ k l10 i11, μ l10 i11 < k → P l10 i11 (laws_toByteS_L1 p0 k l10 i11) := by
  intro k
  induction k with
  | zero => intro l10 i11 hk; exact absurd hk (Nat.not_lt_zero _)
  | succ k ih => intro l10 i11 hk; unfold laws_toByteS_L1; exact h l10 i11 (laws_toByteS_L1 p0 k) (fun l10' i11' hs => ih l10' i11' (Nat.lt_of_lt_of_le hs (Nat.le_of_lt_succ hk)))

noncomputable def laws_toByteS (p0 : List Int) : Option (List Int) :=
  (mk (0 : Int) (p0.length : Int)).bind fun l1 => laws_toByteS_L1 p0 Fuel l1 0


noncomputable def spec_GetNum_L1 (p1 : Int) (p0 : List Int) : Nat → Int → Int → Option (Int × Int × Bool)
  | 0, _, _ => none
  | k1 + 1, i13, i14 =>
    if decide (i14 < 5) then if ((decide (p1 < 0)) || (decide (p1 ≥ (IntKind.i64.wrap ((p0.length : Int) - i14))))) then some (0, 0, false) else (idx p0 (IntKind.i64.wrap (p1 + i14))).bind fun e29 => (shl .i64 (Int.tmod (IntKind.i64.wrap e29) 128) (IntKind.i64.wrap (7 * i14))).bind fun x31 => if decide ((IntKind.i64.wrap e29) < 128) then if (((decide (i14 > 0)) && ((IntKind.i64.wrap e29) == 0)) || (decide ((ibits .or .i64 i13 x31) > 2147483647))) then some (0, 0, false) else some (ibits .or .i64 i13 x31, IntKind.i64.wrap ((IntKind.i64.wrap (p1 + i14)) + 1), true) else (spec_GetNum_L1 p1 p0 k1) (ibits .or .i64 i13 x31) (IntKind.i64.wrap (i14 + 1)) else some (0, 0, false)

theorem spec_GetNum_L1_ind (p1 : Int) (p0 : List Int) {P : Int → Int → Option (Int × Int × Bool) → Prop} (μ : Int → Int → Nat) (h : ∀ (i13 : Int) (i14 : Int) (R : Int → Int → Option (Int × Int × Bool)), (∀ i13' i14', μ i13' i14' < μ i13 i14 → P i13' i14' (R i13' i14')) → P i13 i14 (if decide (i14 < 5) then if ((decide (p1 < 0)) || (decide (p1 ≥ (IntKind.i64.wrap ((p0.length : Int) - i14))))) then some (0, 0, false) else (idx p0 (IntKind.i64.wrap (p1 + i14))).bind fun e29 => (shl .i64 (Int.tmod (IntKind.i64.wrap e29) 128) (IntKind.i64.wrap (7 * i14))).bind fun x31 => if decide ((IntKind.i64.wrap e29) < 128) then if (((decide (i14 > 0)) && ((IntKind.i64.wrap e29) == 0)) || (decide ((ibits .or .i64 i13 x31) > 2147483647))) then some (0, 0, false) else some (ibits .or .i64 i13 x31, IntKind.i64.wrap ((IntKind.i64.wrap (p1 + i14)) + 1), true) else (R) (ibits .or .i64 i13 x31) (IntKind.i64.wrap (i14 + 1)) else some (0, 0, false))) : ∀ k i13 i14, μ i13 i14 < k → P i13 i14 (spec_GetNum_L1 p1 p0 k i13 i14) := by
  intro k
  induction k with
  | zero => intro i13 i14 hk; exact absurd hk (Nat.not_lt_zero _)
  | succ k ih => intro i13 i14 hk; unfold spec_GetNum_L1; exact h i13 i14 (spec_GetNum_L1 p1 p0 k) (fun i13' i14' hs => ih i13' i14' (Nat.lt_of_lt_of_le hs (Nat.le_of_lt_succ hk)))

noncomputable def spec_GetNum (p0 : List Int) (p1 : Int) : Option (Int × Int × Bool) :=
  spec_GetNum_L1 p1 p0 Fuel 0 0


noncomputable def spec_GetInt_J1 (y1 : Int × Int × Bool) (i3 : Int) : Option (Int × Int × Bool) :=
  (spec_l1In i3 (-1000000000) 1000000000).bind fun y4 => if (!y4) then some (0, 0, false) else some (i3, y1.2.1, true)

noncomputable def spec_GetInt (p0 : List Int) (p1 : Int) : Option (Int × Int × Bool) :=
  (spec_GetNum p0 p1).bind fun y1 => if (!y1.2.2) then some (0, 0, false) else if ((Int.tmod y1.1 2) == 1) then spec_GetInt_J1 y1 (IntKind.i64.wrap ((IntKind.i64.wrap (0 - (IntKind.i64.wrap (Int.tdiv y1.1 2)))) - 1)) else spec_GetInt_J1 y1 (IntKind.i64.wrap (Int.tdiv y1.1 2))


noncomputable def spec_l27Some_L1 (p2 : Int) (p0 : List Int) : Nat → Int → Int → (List Int) → Option ((List Int) × Int × Bool)
  | 0, _, _, _ => none
  | k1 + 1, i18, i19, l20 =>
    if decide (i19 < p2) then (spec_GetInt p0 i18).bind fun y40 => if (!y40.2.2) then some (([] : List Int), 0, false) else (app l20 ([y40.1] : List Int)).bind fun l44 => (spec_l27Some_L1 p2 p0 k1) y40.2.1 (IntKind.i64.wrap (i19 + 1)) l44 else some (l20, i18, true)

theorem spec_l27Some_L1_ind (p2 : Int) (p0 : List Int) {P : Int → Int → (List Int) → Option ((List Int) × Int × Bool) → Prop} (μ : Int → Int → (List Int) → Nat) (h : ∀ (i18 : Int) (i19 : Int) (l20 : List Int) (R : Int → Int → (List Int) → Option ((List Int) × Int × Bool)), (∀ i18' i19' l20', μ i18' i19' l20' < μ i18 i19 l20 → P i18' i19' l20' (R i18' i19' l20')) → P i18 i19 l20 (if decide (i19 < p2) then (spec_GetInt p0 i18).bind fun y40 => if (!y40.2.2) then some (([] : List Int), 0, false) else (app l20 ([y40.1] : List Int)).bind fun l44 => (R) y40.2.1 (IntKind.i64.wrap (i19 + 1)) l44 else some (l20, i18, true))) : ∀ k i18 i19 l20, μ i18 i19 l20 < k → P i18 i19 l20 (spec_l27Some_L1 p2 p0 k i18 i19 l20) := by
  intro k
  induction k with
  | zero => intro i18 i19 l20 hk; exact absurd hk (Nat.not_lt_zero _)
  | succ k ih => intro i18 i19 l20 hk; unfold spec_l27Some_L1; exact h i18 i19 l20 (spec_l27Some_L1 p2 p0 k) (fun i18' i19' l20' hs => ih i18' i19' l20' (Nat.lt_of_lt_of_le hs (Nat.le_of_lt_succ hk)))

noncomputable def spec_l27Some (p0 : List Int) (p1 : Int) (p2 : Int) : Option ((List Int) × Int × Bool) :=
  spec_l27Some_L1 p2 p0 Fuel p1 0 ([] : List Int)


noncomputable def spec_GetInts_L1 (y1 : Int × Int × Bool) (p0 : List Int) : Nat → (List Int) → Int → Int → Option ((List Int) × Int × Bool)
  | 0, _, _, _ => none
  | k1 + 1, l23, i27, i28 =>
    if decide (i27 < y1.1) then (spec_GetInt p0 i28).bind fun y45 => if (!y45.2.2) then some (([] : List Int), 0, false) else (app l23 ([y45.1] : List Int)).bind fun l49 => (spec_GetInts_L1 y1 p0 k1) l49 (IntKind.i64.wrap (i27 + 1)) y45.2.1 else some (l23, i28, true)

theorem spec_GetInts_L1_ind (y1 : Int × Int × Bool) (p0 : List Int) {P : (List Int) → Int → Int → Option ((List Int) × Int × Bool) → Prop} (μ : (List Int) → Int → Int → Nat) (h : ∀ (l23 : List Int) (i27 : Int) (i28 : Int) (R : (List Int) → Int → Int → Option ((List Int) × Int × Bool)), (∀ l23' i27' i28', μ l23' i27' i28' < μ l23 i27 i28 → P l23' i27' i28' (R l23' i27' i28')) → P l23 i27 i28 (if decide (i27 < y1.1) then (spec_GetInt p0 i28).bind fun y45 => if (!y45.2.2) then some (([] : List Int), 0, false) else (app l23 ([y45.1] : List Int)).bind fun l49 => (R) l49 (IntKind.i64.wrap (i27 + 1)) y45.2.1 else some (l23, i28, true))) : ∀ k l23 i27 i28, μ l23 i27 i28 < k → P l23 i27 i28 (spec_GetInts_L1 y1 p0 k l23 i27 i28) := by
  intro k
  induction k with
  | zero => intro l23 i27 i28 hk; exact absurd hk (Nat.not_lt_zero _)
  | succ k ih => intro l23 i27 i28 hk; unfold spec_GetInts_L1; exact h l23 i27 i28 (spec_GetInts_L1 y1 p0 k) (fun l23' i27' i28' hs => ih l23' i27' i28' (Nat.lt_of_lt_of_le hs (Nat.le_of_lt_succ hk)))

noncomputable def spec_GetInts (p0 : List Int) (p1 : Int) : Option ((List Int) × Int × Bool) :=
  (spec_GetInt p0 p1).bind fun y1 => if ((!y1.2.2) || (decide (y1.1 < 0))) then some (([] : List Int), 0, false) else spec_GetInts_L1 y1 p0 Fuel ([] : List Int) 0 y1.2.1


noncomputable def spec_l27GetLists_L1 (y1 : Int × Int × Bool) (p0 : List Int) : Nat → (List (List Int)) → Int → Int → Option ((List (List Int)) × Int × Bool)
  | 0, _, _, _ => none
  | k1 + 1, l29, i33, i34 =>
    if decide (i33 < y1.1) then (spec_GetInts p0 i34).bind fun y57 => if (!y57.2.2) then some (([] : List (List Int)), 0, false) else (app l29 [y57.1]).bind fun l68 => (spec_l27GetLists_L1 y1 p0 k1) l68 (IntKind.i64.wrap (i33 + 1)) y57.2.1 else some (l29, i34, true)

theorem spec_l27GetLists_L1_ind (y1 : Int × Int × Bool) (p0 : List Int) {P : (List (List Int)) → Int → Int → Option ((List (List Int)) × Int × Bool) → Prop} (μ : (List (List Int)) → Int → Int → Nat) (h : ∀ (l29 : List (List Int)) (i33 : Int) (i34 : Int) (R : (List (List Int)) → Int → Int → Option ((List (List Int)) × Int × Bool)), (∀ l29' i33' i34', μ l29' i33' i34' < μ l29 i33 i34 → P l29' i33' i34' (R l29' i33' i34')) → P l29 i33 i34 (if decide (i33 < y1.1) then (spec_GetInts p0 i34).bind fun y57 => if (!y57.2.2) then some (([] : List (List Int)), 0, false) else (app l29 [y57.1]).bind fun l68 => (R) l68 (IntKind.i64.wrap (i33 + 1)) y57.2.1 else some (l29, i34, true))) : ∀ k l29 i33 i34, μ l29 i33 i34 < k → P l29 i33 i34 (spec_l27GetLists_L1 y1 p0 k l29 i33 i34) := by
  intro k
  induction k with
  | zero => intro l29 i33 i34 hk; exact absurd hk (Nat.not_lt_zero _)
  | succ k ih => intro l29 i33 i34 hk; unfold spec_l27GetLists_L1; exact h l29 i33 i34 (spec_l27GetLists_L1 y1 p0 k) (fun l29' i33' i34' hs => ih l29' i33' i34' (Nat.lt_of_lt_of_le hs (Nat.le_of_lt_succ hk)))

noncomputable def spec_l27GetLists (p0 : List Int) (p1 : Int) : Option ((List (List Int)) × Int × Bool) :=
  (spec_GetInt p0 p1).bind fun y1 => if ((!y1.2.2) || (decide (y1.1 < 0))) then some (([] : List (List Int)), 0, false) else spec_l27GetLists_L1 y1 p0 Fuel ([] : List (List Int)) 0 y1.2.1


noncomputable def spec_l27GetNode (p0 : List Int) (p1 : Int) : Option (Timpl_Node × Int × Bool) :=
  (spec_l27Some p0 p1 3).bind fun y3 => (if (!y3.2.2) then some true else (idx y3.1 0).bind fun e13 => (spec_l1In e13 0 1).bind fun y15 => some (!y15)).bind fun u12 => if u12 then some ((Timpl_Node.mk false (Timpl_Fork.mk 0 0) ([] : List Int) 0 (Timpl_Stats.mk ([] : List Int) ([] : List (List Int))) 0 ([] : List Int) 0 0 0), 0, false) else (idx y3.1 0).bind fun e26 => (idx y3.1 1).bind fun e28 => (idx y3.1 2).bind fun e30 => (spec_GetInts p0 y3.2.1).bind fun y33 => if (!y33.2.2) then some ((Timpl_Node.mk false (Timpl_Fork.mk 0 0) ([] : List Int) 0 (Timpl_Stats.mk ([] : List Int) ([] : List (List Int))) 0 ([] : List Int) 0 0 0), 0, false) else (spec_GetInt p0 y33.2.1).bind fun y42 => if (!y42.2.2) then some ((Timpl_Node.mk false (Timpl_Fork.mk 0 0) ([] : List Int) 0 (Timpl_Stats.mk ([] : List Int) ([] : List (List Int))) 0 ([] : List Int) 0 0 0), 0, false) else (spec_GetInts p0 y42.2.1).bind fun y44 => if (!y44.2.2) then some ((Timpl_Node.mk false (Timpl_Fork.mk 0 0) ([] : List Int) 0 (Timpl_Stats.mk ([] : List Int) ([] : List (List Int))) 0 ([] : List Int) 0 0 0), 0, false) else (spec_l27GetLists p0 y44.2.1).bind fun y53 => if (!y53.2.2) then some ((Timpl_Node.mk false (Timpl_Fork.mk 0 0) ([] : List Int) 0 (Timpl_Stats.mk ([] : List Int) ([] : List (List Int))) 0 ([] : List Int) 0 0 0), 0, false) else (spec_GetInt p0 y53.2.1).bind fun y62 => if (!y62.2.2) then some ((Timpl_Node.mk false (Timpl_Fork.mk 0 0) ([] : List Int) 0 (Timpl_Stats.mk ([] : List Int) ([] : List (List Int))) 0 ([] : List Int) 0 0 0), 0, false) else (spec_GetInts p0 y62.2.1).bind fun y64 => if (!y64.2.2) then some ((Timpl_Node.mk false (Timpl_Fork.mk 0 0) ([] : List Int) 0 (Timpl_Stats.mk ([] : List Int) ([] : List (List Int))) 0 ([] : List Int) 0 0 0), 0, false) else (spec_l27Some p0 y64.2.1 3).bind fun y73 => if (!y73.2.2) then some ((Timpl_Node.mk false (Timpl_Fork.mk 0 0) ([] : List Int) 0 (Timpl_Stats.mk ([] : List Int) ([] : List (List Int))) 0 ([] : List Int) 0 0 0), 0, false) else (idx y73.1 0).bind fun e82 => (idx y73.1 1).bind fun e84 => (idx y73.1 2).bind fun e86 => some ((Timpl_Node.mk (e26 == 1) (Timpl_Fork.mk e28 e30) y33.1 y42.1 (Timpl_Stats.mk y44.1 y53.1) y62.1 y64.1 e82 e84 e86), y73.2.1, true)


noncomputable def spec_GetTree_L1 (y2 : (List Int) × Int × Bool) (p0 : List Int) (e16 : Int) : Nat → (List Timpl_Node) → Int → Int → Option (Timpl_Tree × Int × Bool)
  | 0, _, _, _ => none
  | k1 + 1, l56, i60, i61 =>
    (idx y2.1 1).bind fun e99 => if decide (i60 < e99) then (spec_l27GetNode p0 i61).bind fun y101 => if (!y101.2.2) then some ((Timpl_Tree.mk ([] : List Timpl_Node) 0), 0, false) else (app l56 [y101.1]).bind fun l125 => (spec_GetTree_L1 y2 p0 e16 k1) l125 (IntKind.i64.wrap (i60 + 1)) y101.2.1 else some ((Timpl_Tree.mk l56 e16), i61, true)

theorem spec_GetTree_L1_ind (y2 : (List Int) × Int × Bool) (p0 : List Int) (e16 : Int) {P : (List Timpl_Node) → Int → Int → Option (Timpl_Tree × Int × Bool) → Prop} (μ : (List Timpl_Node) → Int → Int → Nat) (h : ∀ (l56 : List Timpl_Node) (i60 : Int) (i61 : Int) (R : (List Timpl_Node) → Int → Int → Option (Timpl_Tree × Int × Bool)), (∀ l56' i60' i61', μ l56' i60' i61' < μ l56 i60 i61 → P l56' i60' i61' (R l56' i60' i61')) → P l56 i60 i61 ((idx y2.1 1).bind fun e99 => if decide (i60 < e99) then (spec_l27GetNode p0 i61).bind fun y101 => if (!y101.2.2) then some ((Timpl_Tree.mk ([] : List Timpl_Node) 0), 0, false) else (app l56 [y101.1]).bind fun l125 => (R) l125 (IntKind.i64.wrap (i60 + 1)) y101.2.1 else some ((Timpl_Tree.mk l56 e16), i61, true))) : ∀ k l56 i60 i61, μ l56 i60 i61 < k → P l56 i60 i61 (spec_GetTree_L1 y2 p0 e16 k l56 i60 i61) := by
  intro k
  induction k with
  | zero => intro l56 i60 i61 hk; exact absurd hk (Nat.not_lt_zero _)
  | succ k ih => intro l56 i60 i61 hk; unfold spec_GetTree_L1; exact h l56 i60 i61 (spec_GetTree_L1 y2 p0 e16 k) (fun l56' i60' i61' hs => ih l56' i60' i61' (Nat.lt_of_lt_of_le hs (Nat.le_of_lt_succ hk)))

noncomputable def spec_GetTree (p0 : List Int) (p1 : Int) : Option (Timpl_Tree × Int × Bool) :=
  (spec_l27Some p0 p1 2).bind fun y2 => (if (!y2.2.2) then some true else (idx y2.1 1).bind fun e12 => some (decide (e12 < 0))).bind fun u11 => if u11 then some ((Timpl_Tree.mk ([] : List Timpl_Node) 0), 0, false) else (idx y2.1 0).bind fun e16 => spec_GetTree_L1 y2 p0 e16 Fuel ([] : List Timpl_Node) 0 y2.2.1


noncomputable def impl_reader_flag (p0b : List Int) (p0 : Timpl_reader) : Option (Bool × Timpl_reader) :=
  (impl_reader_int p0b p0).bind fun y1 => some ((y1.1 == 1), (Timpl_reader.mk y1.2.at_ (y1.2.bad_ || ((y1.1 != 0) && (y1.1 != 1)))))


noncomputable def impl_reader_tree_L2 (p0b : List Int) (l214 : List Timpl_Node) (y416 : Bool × Timpl_reader) (y422 : Int × Timpl_reader) (y427 : Int × Timpl_reader) (y432 : (List Int) × Timpl_reader) (y441 : Int × Timpl_reader) (y446 : (List Int) × Timpl_reader) (R1 : Int → Bool → (List Timpl_Node) → Int → Option (Timpl_Tree × Timpl_reader)) (i218 : Int) : Nat → Int → Bool → (List (List Int)) → Int → Option (Timpl_Tree × Timpl_reader)
  | 0, _, _, _, _ => none
  | k2 + 1, i498, q499, l500, i504 =>
    if ((decide (i504 > 0)) && (!q499)) then (impl_reader_list p0b (Timpl_reader.mk i498 q499)).bind fun y551 => (app l500 [y551.1]).bind fun l561 => (impl_reader_tree_L2 p0b l214 y416 y422 y427 y432 y441 y446 R1 i218 k2) y551.2.at_ y551.2.bad_ l561 (IntKind.i64.wrap (i504 - 1)) else (impl_reader_int p0b (Timpl_reader.mk i498 q499)).bind fun y566 => (impl_reader_list p0b y566.2).bind fun y571 => (impl_reader_int p0b y571.2).bind fun y580 => (impl_reader_int p0b y580.2).bind fun y585 => (impl_reader_int p0b y585.2).bind fun y590 => (app l214 [(Timpl_Node.mk y416.1 (Timpl_Fork.mk y422.1 y427.1) y432.1 y441.1 (Timpl_Stats.mk y446.1 l500) y566.1 y571.1 y580.1 y585.1 y590.1)]).bind fun l597 => R1 y590.2.at_ y590.2.bad_ l597 (IntKind.i64.wrap (i218 - 1))

theorem impl_reader_tree_L2_ind (p0b : List Int) (l214 : List Timpl_Node) (y416 : Bool × Timpl_reader) (y422 : Int × Timpl_reader) (y427 : Int × Timpl_reader) (y432 : (List Int) × Timpl_reader) (y441 : Int × Timpl_reader) (y446 : (List Int) × Timpl_reader) (R1 : Int → Bool → (List Timpl_Node) → Int → Option (Timpl_Tree × Timpl_reader)) (i218 : Int) {P : Int → Bool → (List (List Int)) → Int → Option (Timpl_Tree × Timpl_reader) → Prop} (μ : Int → Bool → (List (List Int)) → Int → Nat) (h : ∀ (i498 : Int) (q499 : Bool) (l500 : List (List Int)) (i504 : Int) (R : Int → Bool → (List (List Int)) → Int → Option (Timpl_Tree × Timpl_reader)), (∀ i498' q499' l500' i504', μ i498' q499' l500' i504' < μ i498 q499 l500 i504 → P i498' q499' l500' i504' (R i498' q499' l500' i504')) → P i498 q499 l500 i504 (if ((decide (i504 > 0)) && (!q499)) then (impl_reader_list p0b (Timpl_reader.mk i498 q499)).bind fun y551 => (app l500 [y551.1]).bind fun l561 => (R) y551.2.at_ y551.2.bad_ l561 (IntKind.i64.wrap (i504 - 1)) else (impl_reader_int p0b (Timpl_reader.mk i498 q499)).bind fun y566 => (impl_reader_list p0b y566.2).bind fun y571 => (impl_reader_int p0b y571.2).bind fun y580 => (impl_reader_int p0b y580.2).bind fun y585 => (impl_reader_int p0b y585.2).bind fun y590 => (app l214 [(Timpl_Node.mk y416.1 (Timpl_Fork.mk y422.1 y427.1) y432.1 y441.1 (Timpl_Stats.mk y446.1 l500) y566.1 y571.1 y580.1 y585.1 y590.1)]).bind fun l597 => R1 y590.2.at_ y590.2.bad_ l597 (IntKind.i64.wrap (i218 - 1)))) : ∀ k i498 q499 l500 i504, μ i498 q499 l500 i504 < k → P i498 q499 l500 i504 (impl_reader_tree_L2 p0b l214 y416 y422 y427 y432 y441 y446 R1 i218 k i498 q499 l500 i504) := by
  intro k
  induction k with
  | zero => intro i498 q499 l500 i504 hk; exact absurd hk (Nat.not_lt_zero _)
  | succ k ih => intro i498 q499 l500 i504 hk; unfold impl_reader_tree_L2; exact h i498 q499 l500 i504 (impl_reader_tree_L2 p0b l214 y416 y422 y427 y432 y441 y446 R1 i218 k) (fun i498' q499' l500' i504' hs => ih i498' q499' l500' i504' (Nat.lt_of_lt_of_le hs (Nat.le_of_lt_succ hk)))

noncomputable def impl_reader_tree_L1 (p0b : List Int) (y2 : Int × Timpl_reader) : Nat → Int → Bool → (List Timpl_Node) → Int → Option (Timpl_Tree × Timpl_reader)
  | 0, _, _, _, _ => none
  | k1 + 1, i212, q213, l214, i218 =>
    if ((decide (i218 > 0)) && (!q213)) then (impl_reader_flag p0b (Timpl_reader.mk i212 q213)).bind fun y416 => (impl_reader_int p0b y416.2).bind fun y422 => (impl_reader_int p0b y422.2).bind fun y427 => (impl_reader_list p0b y427.2).bind fun y432 => (impl_reader_int p0b y432.2).bind fun y441 => (impl_reader_list p0b y441.2).bind fun y446 => (impl_reader_count p0b y446.2).bind fun y455 => impl_reader_tree_L2 p0b l214 y416 y422 y427 y432 y441 y446 (impl_reader_tree_L1 p0b y2 k1) i218 Fuel y455.2.at_ y455.2.bad_ ([] : List (List Int)) y455.1 else some ((Timpl_Tree.mk l214 y2.1), (Timpl_reader.mk i212 q213))

theorem impl_reader_tree_L1_ind (p0b : List Int) (y2 : Int × Timpl_reader) {P : Int → Bool → (List Timpl_Node) → Int → Option (Timpl_Tree × Timpl_reader) → Prop} (μ : Int → Bool → (List Timpl_Node) → Int → Nat) (h : ∀ (i212 : Int) (q213 : Bool) (l214 : List Timpl_Node) (i218 : Int) (R : Int → Bool → (List Timpl_Node) → Int → Option (Timpl_Tree × Timpl_reader)), (∀ i212' q213' l214' i218', μ i212' q213' l214' i218' < μ i212 q213 l214 i218 → P i212' q213' l214' i218' (R i212' q213' l214' i218')) → P i212 q213 l214 i218 (if ((decide (i218 > 0)) && (!q213)) then (impl_reader_flag p0b (Timpl_reader.mk i212 q213)).bind fun y416 => (impl_reader_int p0b y416.2).bind fun y422 => (impl_reader_int p0b y422.2).bind fun y427 => (impl_reader_list p0b y427.2).bind fun y432 => (impl_reader_int p0b y432.2).bind fun y441 => (impl_reader_list p0b y441.2).bind fun y446 => (impl_reader_count p0b y446.2).bind fun y455 => impl_reader_tree_L2 p0b l214 y416 y422 y427 y432 y441 y446 (R) i218 Fuel y455.2.at_ y455.2.bad_ ([] : List (List Int)) y455.1 else some ((Timpl_Tree.mk l214 y2.1), (Timpl_reader.mk i212 q213)))) : ∀ k i212 q213 l214 i218, μ i212 q213 l214 i218 < k → P i212 q213 l214 i218 (impl_reader_tree_L1 p0b y2 k i212 q213 l214 i218) := by
  intro k
  induction k with
  | zero => intro i212 q213 l214 i218 hk; exact absurd hk (Nat.not_lt_zero _)
  | succ k ih => intro i212 q213 l214 i218 hk; unfold impl_reader_tree_L1; exact h i212 q213 l214 i218 (impl_reader_tree_L1 p0b y2 k) (fun i212' q213' l214' i218' hs => ih i212' q213' l214' i218' (Nat.lt_of_lt_of_le hs (Nat.le_of_lt_succ hk)))

noncomputable def impl_reader_tree (p0b : List Int) (p0 : Timpl_reader) : Option (Timpl_Tree × Timpl_reader) :=
  (impl_reader_int p0b p0).bind fun y2 => (impl_reader_count p0b y2.2).bind fun y8 => impl_reader_tree_L1 p0b y2 Fuel y8.2.at_ y8.2.bad_ ([] : List Timpl_Node) y8.1


noncomputable def impl_GetTree (p0 : List Int) (p1 : Int) : Option (Timpl_Tree × Int × Bool) :=
  (impl_reader_tree p0 (Timpl_reader.mk p1 false)).bind fun y3 => if y3.2.bad_ then some ((Timpl_Tree.mk ([] : List Timpl_Node) 0), 0, false) else some (y3.1, y3.2.at_, true)


noncomputable def laws_eqFork (p0 : Timpl_Fork) (p1 : Timpl_Fork) : Option (Bool) :=
  if (p0.Attr_ != p1.Attr_) then some false else if (p0.At_ != p1.At_) then some false else some true


noncomputable def laws_eqStats (p0 : Timpl_Stats) (p1 : Timpl_Stats) : Option (Bool) :=
  (laws_eqIntS p0.Totals_ p1.Totals_).bind fun y19 => if (!y19) then some false else (laws_eqIntSS p0.Cells_ p1.Cells_).bind fun y21 => if (!y21) then some false else some true


noncomputable def laws_eqNode (p0 : Timpl_Node) (p1 : Timpl_Node) : Option (Bool) :=
  if (p0.Leaf_ != p1.Leaf_) then some false else (laws_eqFork p0.Fork_ p1.Fork_).bind fun y67 => if (!y67) then some false else (laws_eqIntS p0.Kids_ p1.Kids_).bind fun y69 => if (!y69) then some false else if (p0.Miss_ != p1.Miss_) then some false else (laws_eqStats p0.Stats_ p1.Stats_).bind fun y71 => if (!y71) then some false else if (p0.Since_ != p1.Since_) then some false else (laws_eqIntS p0.Attrs_ p1.Attrs_).bind fun y73 => if (!y73) then some false else if (p0.Depth_ != p1.Depth_) then some false else if (p0.Up_ != p1.Up_) then some false else if (p0.Born_ != p1.Born_) then some false else some true


noncomputable def laws_eqNodeS_L1 (p0 : List Timpl_Node) (p1 : List Timpl_Node) : Nat → Int → Option (Bool)
  | 0, _ => none
  | k1 + 1, i80 =>
    if decide (i80 < (p0.length : Int)) then (idx p0 i80).bind fun e160 => (idx p1 i80).bind fun e198 => (laws_eqNode e160 e198).bind fun y236 => if (!y236) then some false else (laws_eqNodeS_L1 p0 p1 k1) (IntKind.i64.wrap (i80 + 1)) else some true

theorem laws_eqNodeS_L1_ind (p0 : List Timpl_Node) (p1 : List Timpl_Node) {P : Int → Option (Bool) → Prop} (μ : Int → Nat) (h : ∀ (i80 : Int) (R : Int → Option (Bool)), (∀ i80', μ i80' < μ i80 → P i80' (R i80')) → P i80 (if decide (i80 < (p0.length : Int)) then (idx p0 i80).bind fun e160 => (idx p1 i80).bind fun e198 => (laws_eqNode e160 e198).bind fun y236 => if (!y236) then some false else (R) (IntKind.i64.wrap (i80 + 1)) else some true)) : ∀ k i80, μ i80 < k → P i80 (laws_eqNodeS_L1 p0 p1 k i80) := by
  intro k
  induction k with
  | zero => intro i80 hk; exact absurd hk (Nat.not_lt_zero _)
  | succ k ih => intro i80 hk; unfold laws_eqNodeS_L1; exact h i80 (laws_eqNodeS_L1 p0 p1 k) (fun i80' hs => ih i80' (Nat.lt_of_lt_of_le hs (Nat.le_of_lt_succ hk)))

noncomputable def laws_eqNodeS (p0 : List Timpl_Node) (p1 : List Timpl_Node) : Option (Bool) :=
  if ((p0.length : Int) != (p1.length : Int)) then some false else laws_eqNodeS_L1 p0 p1 Fuel 0


noncomputable def laws_eqTree (p0 : Timpl_Tree) (p1 : Timpl_Tree) : Option (Bool) :=
  (laws_eqNodeS p0.Nodes_ p1.Nodes_).bind fun y15 => if (!y15) then some false else if (p0.Seen_ != p1.Seen_) then some false else some true


noncomputable def laws_markNodeS_L1 (p0 : List Timpl_Node) : Nat → (List Timpl_Node) → Int → Int → Option (Int × (List Timpl_Node))
  | 0, _, _, _ => none
  | k1 + 1, l53, i55, i56 =>
    if decide (i56 < (p0.length : Int)) then (idx l53 i56).bind fun e109 => (laws_markIntS e109.Kids_ (IntKind.i64.wrap ((IntKind.i64.wrap ((IntKind.i64.wrap (i55 + 1)) + 1)) + 1))).bind fun y131 => (laws_markIntS e109.Stats_.Totals_ (IntKind.i64.wrap (y131.1 + 1))).bind fun y137 => (laws_markIntSS e109.Stats_.Cells_ y137.1).bind fun y143 => (laws_markIntS e109.Attrs_ (IntKind.i64.wrap (y143.1 + 1))).bind fun y149 => (laws_markNodeS_L1 p0 k1) (l53.set i56.toNat (Timpl_Node.mk ((Int.tmod i55 3) == 0) (Timpl_Fork.mk (IntKind.i64.wrap (i55 + 1)) (IntKind.i64.wrap ((IntKind.i64.wrap (i55 + 1)) + 1))) y131.2 y131.1 (Timpl_Stats.mk y137.2 y143.2) y143.1 y149.2 y149.1 (IntKind.i64.wrap (y149.1 + 1)) (IntKind.i64.wrap ((IntKind.i64.wrap (y149.1 + 1)) + 1)))) (IntKind.i64.wrap ((IntKind.i64.wrap ((IntKind.i64.wrap (y149.1 + 1)) + 1)) + 1)) (IntKind.i64.wrap (i56 + 1)) else some (i55, l53)

theorem laws_markNodeS_L1_ind (p0 : List Timpl_Node) {P : (List Timpl_Node) → Int → Int → Option (Int × (List Timpl_Node)) → Prop} (μ : (List Timpl_Node) → Int → Int → Nat) (h : ∀ (l53 : List Timpl_Node) (i55 : Int) (i56 : Int) (R : (List Timpl_Node) → Int → Int → Option (Int × (List Timpl_Node))), (∀ l53' i55' i56', μ l53' i55' i56' < μ l53 i55 i56 → P l53' i55' i56' (R l53' i55' i56')) → P l53 i55 i56 (if decide (i56 < (p0.length : Int)) then (idx l53 i56).bind fun e109 => (laws_markIntS e109.Kids_ (IntKind.i64.wrap ((IntKind.i64.wrap ((IntKind.i64.wrap (i55 + 1)) + 1)) + 1))).bind fun y131 => (laws_markIntS e109.Stats_.Totals_ (IntKind.i64.wrap (y131.1 + 1))).bind fun y137 => (laws_markIntSS e109.Stats_.Cells_ y137.1).bind fun y143 => (laws_markIntS e109.Attrs_ (IntKind.i64.wrap (y143.1 + 1))).bind fun y149 => (R) (l53.set i56.toNat (Timpl_Node.mk ((Int.tmod i55 3) == 0) (Timpl_Fork.mk (IntKind.i64.wrap (i55 + 1)) (IntKind.i64.wrap ((IntKind.i64.wrap (i55 + 1)) + 1))) y131.2 y131.1 (Timpl_Stats.mk y137.2 y143.2) y143.1 y149.2 y149.1 (IntKind.i64.wrap (y149.1 + 1)) (IntKind.i64.wrap ((IntKind.i64.wrap (y149.1 + 1)) + 1)))) (IntKind.i64.wrap ((IntKind.i64.wrap ((IntKind.i64.wrap (y149.1 + 1)) + 1)) + 1)) (IntKind.i64.wrap (i56 + 1)) else some (i55, l53))) : ∀ k l53 i55 i56, μ l53 i55 i56 < k → P l53 i55 i56 (laws_markNodeS_L1 p0 k l53 i55 i56) := by
  intro k
  induction k with
  | zero => intro l53 i55 i56 hk; exact absurd hk (Nat.not_lt_zero _)
  | succ k ih => intro l53 i55 i56 hk; unfold laws_markNodeS_L1; exact h l53 i55 i56 (laws_markNodeS_L1 p0 k) (fun l53' i55' i56' hs => ih l53' i55' i56' (Nat.lt_of_lt_of_le hs (Nat.le_of_lt_succ hk)))

noncomputable def laws_markNodeS (p0 : List Timpl_Node) (p1 : Int) : Option (Int × (List Timpl_Node)) :=
  laws_markNodeS_L1 p0 Fuel p0 p1 0


noncomputable def laws_markTree (p0 : Timpl_Tree) (p1 : Int) : Option (Int × Timpl_Tree) :=
  (laws_markNodeS p0.Nodes_ p1).bind fun y2 => some (y2.1, (Timpl_Tree.mk y2.2 p0.Seen_))


noncomputable def laws_heldIntS_L1 (p0 : List Int) : Nat → Int → Int → Option (Int)
  | 0, _, _ => none
  | k1 + 1, i5, i6 =>
    if decide (i6 < (p0.length : Int)) then (idx p0 i6).bind fun e11 => if (e11 != i5) then some (-1) else (laws_heldIntS_L1 p0 k1) (IntKind.i64.wrap (i5 + 1)) (IntKind.i64.wrap (i6 + 1)) else some i5

theorem laws_heldIntS_L1_ind (p0 : List Int) {P : Int → Int → Option (Int) → Prop} (μ : Int → Int → Nat) (h : ∀ (i5 : Int) (i6 : Int) (R : Int → Int → Option (Int)), (∀ i5' i6', μ i5' i6' < μ i5 i6 → P i5' i6' (R i5' i6')) → P i5 i6 (if decide (i6 < (p0.length : Int)) then (idx p0 i6).bind fun e11 => if (e11 != i5) then some (-1) else (R) (IntKind.i64.wrap (i5 + 1)) (IntKind.i64.wrap (i6 + 1)) else some i5)) : ∀ k i5 i6, μ i5 i6 < k → P i5 i6 (laws_heldIntS_L1 p0 k i5 i6) := by
  intro k
  induction k with
  | zero => intro i5 i6 hk; exact absurd hk (Nat.not_lt_zero _)
  | succ k ih => intro i5 i6 hk; unfold laws_heldIntS_L1; exact h i5 i6 (laws_heldIntS_L1 p0 k) (fun i5' i6' hs => ih i5' i6' (Nat.lt_of_lt_of_le hs (Nat.le_of_lt_succ hk)))

noncomputable def laws_heldIntS (p0 : List Int) (p1 : Int) : Option (Int) :=
  laws_heldIntS_L1 p0 Fuel p1 0


noncomputable def laws_heldIntSS_L1 (p0 : List (List Int)) : Nat → Int → Int → Option (Int)
  | 0, _, _ => none
  | k1 + 1, i13, i14 =>
    if decide (i14 < (p0.length : Int)) then (idx p0 i14).bind fun e27 => (laws_heldIntS e27 i13).bind fun y35 => if decide (y35 < 0) then some (-1) else (laws_heldIntSS_L1 p0 k1) y35 (IntKind.i64.wrap (i14 + 1)) else some i13

theorem laws_heldIntSS_L1_ind (p0 : List (List Int)) {P : Int → Int → Option (Int) → Prop} (μ : Int → Int → Nat) (h : ∀ (i13 : Int) (i14 : Int) (R : Int → Int → Option (Int)), (∀ i13' i14', μ i13' i14' < μ i13 i14 → P i13' i14' (R i13' i14')) → P i13 i14 (if decide (i14 < (p0.length : Int)) then (idx p0 i14).bind fun e27 => (laws_heldIntS e27 i13).bind fun y35 => if decide (y35 < 0) then some (-1) else (R) y35 (IntKind.i64.wrap (i14 + 1)) else some i13)) : ∀ k i13 i14, μ i13 i14 < k → P i13 i14 (laws_heldIntSS_L1 p0 k i13 i14) := by
  intro k
  induction k with
  | zero => intro i13 i14 hk; exact absurd hk (Nat.not_lt_zero _)
  | succ k ih => intro i13 i14 hk; unfold laws_heldIntSS_L1; exact h i13 i14 (laws_heldIntSS_L1 p0 k) (fun i13' i14' hs => ih i13' i14' (Nat.lt_of_lt_of_le hs (Nat.le_of_lt_succ hk)))

noncomputable def laws_heldIntSS (p0 : List (List Int)) (p1 : Int) : Option (Int) :=
  laws_heldIntSS_L1 p0 Fuel p1 0


noncomputable def laws_heldNodeS_L1 (p0 : List Timpl_Node) : Nat → Int → Int → Option (Int)
  | 0, _, _ => none
  | k1 + 1, i467, i468 =>
    if decide (i468 < (p0.length : Int)) then (idx p0 i468).bind fun e935 => if (e935.Leaf_ != ((Int.tmod i467 3) == 0)) then some (-1) else (idx p0 i468).bind fun e973 => if (e973.Fork_.Attr_ != (IntKind.i64.wrap (i467 + 1))) then some (-1) else (idx p0 i468).bind fun e1011 => if (e1011.Fork_.At_ != (IntKind.i64.wrap ((IntKind.i64.wrap (i467 + 1)) + 1))) then some (-1) else (idx p0 i468).bind fun e1049 => (laws_heldIntS e1049.Kids_ (IntKind.i64.wrap ((IntKind.i64.wrap ((IntKind.i64.wrap (i467 + 1)) + 1)) + 1))).bind fun y1087 => if decide (y1087 < 0) then some (-1) else (idx p0 i468).bind fun e1089 => if (e1089.Miss_ != y1087) then some (-1) else (idx p0 i468).bind fun e1127 => (laws_heldIntS e1127.Stats_.Totals_ (IntKind.i64.wrap (y1087 + 1))).bind fun y1165 => if decide (y1165 < 0) then some (-1) else (idx p0 i468).bind fun e1167 => (laws_heldIntSS e1167.Stats_.Cells_ y1165).bind fun y1205 => if decide (y1205 < 0) then some (-1) else (idx p0 i468).bind fun e1207 => if (e1207.Since_ != y1205) then some (-1) else (idx p0 i468).bind fun e1245 => (laws_heldIntS e1245.Attrs_ (IntKind.i64.wrap (y1205 + 1))).bind fun y1283 => if decide (y1283 < 0) then some (-1) else (idx p0 i468).bind fun e1285 => if (e1285.Depth_ != y1283) then some (-1) else (idx p0 i468).bind fun e1323 => if (e1323.Up_ != (IntKind.i64.wrap (y1283 + 1))) then some (-1) else (idx p0 i468).bind fun e1361 => if (e1361.Born_ != (IntKind.i64.wrap ((IntKind.i64.wrap (y1283 + 1)) + 1))) then some (-1) else (laws_heldNodeS_L1 p0 k1) (IntKind.i64.wrap ((IntKind.i64.wrap ((IntKind.i64.wrap (y1283 + 1)) + 1)) + 1)) (IntKind.i64.wrap (i468 + 1)) else some i467

theorem laws_heldNodeS_L1_ind (p0 : List Timpl_Node) {P : Int → Int → Option (Int) → Prop} (μ : Int → Int → Nat) (h : ∀ (i467 : Int) (i468 : Int) (R : Int → Int → Option (Int)), (∀ i467' i468', μ i467' i468' < μ i467 i468 → P i467' i468' (R i467' i468')) → P i467 i468 (if decide (i468 < (p0.length : Int)) then (idx p0 i468).bind fun e935 => if (e935.Leaf_ != ((Int.tmod i467 3) == 0)) then some (-1) else (idx p0 i468).bind fun e973 => if (e973.Fork_.Attr_ != (IntKind.i64.wrap (i467 + 1))) then some (-1) else (idx p0 i468).bind fun e1011 => if (e1011.Fork_.At_ != (IntKind.i64.wrap ((IntKind.i64.wrap (i467 + 1)) + 1))) then some (-1) else (idx p0 i468).bind fun e1049 => (laws_heldIntS e1049.Kids_ (IntKind.i64.wrap ((IntKind.i64.wrap ((IntKind.i64.wrap (i467 + 1)) + 1)) + 1))).bind fun y1087 => if decide (y1087 < 0) then some (-1) else (idx p0 i468).bind fun e1089 => if (e1089.Miss_ != y1087) then some (-1) else (idx p0 i468).bind fun e1127 => (laws_heldIntS e1127.Stats_.Totals_ (IntKind.i64.wrap (y1087 + 1))).bind fun y1165 => if decide (y1165 < 0) then some (-1) else (idx p0 i468).bind fun e1167 => (laws_heldIntSS e1167.Stats_.Cells_ y1165).bind fun y1205 => if decide (y1205 < 0) then some (-1) else (idx p0 i468).bind fun e1207 => if (e1207.Since_ != y1205) then some (-1) else (idx p0 i468).bind fun e1245 => (laws_heldIntS e1245.Attrs_ (IntKind.i64.wrap (y1205 + 1))).bind fun y1283 => if decide (y1283 < 0) then some (-1) else (idx p0 i468).bind fun e1285 => if (e1285.Depth_ != y1283) then some (-1) else (idx p0 i468).bind fun e1323 => if (e1323.Up_ != (IntKind.i64.wrap (y1283 + 1))) then some (-1) else (idx p0 i468).bind fun e1361 => if (e1361.Born_ != (IntKind.i64.wrap ((IntKind.i64.wrap (y1283 + 1)) + 1))) then some (-1) else (R) (IntKind.i64.wrap ((IntKind.i64.wrap ((IntKind.i64.wrap (y1283 + 1)) + 1)) + 1)) (IntKind.i64.wrap (i468 + 1)) else some i467)) : ∀ k i467 i468, μ i467 i468 < k → P i467 i468 (laws_heldNodeS_L1 p0 k i467 i468) := by
  intro k
  induction k with
  | zero => intro i467 i468 hk; exact absurd hk (Nat.not_lt_zero _)
  | succ k ih => intro i467 i468 hk; unfold laws_heldNodeS_L1; exact h i467 i468 (laws_heldNodeS_L1 p0 k) (fun i467' i468' hs => ih i467' i468' (Nat.lt_of_lt_of_le hs (Nat.le_of_lt_succ hk)))

noncomputable def laws_heldNodeS (p0 : List Timpl_Node) (p1 : Int) : Option (Int) :=
  laws_heldNodeS_L1 p0 Fuel p1 0


noncomputable def laws_heldTree (p0 : Timpl_Tree) (p1 : Int) : Option (Int) :=
  (laws_heldNodeS p0.Nodes_ p1).bind fun y8 => if decide (y8 < 0) then some (-1) else some y8


noncomputable def laws_FnExactGetTree (p0 : List Int) (p1 : Int) : Option (Bool) :=
  if decide ((p0.length : Int) > 1048576) then some true else (laws_toByteS p0).bind fun y1 => (spec_GetTree y1 p1).bind fun y10 => (laws_toByteS p0).bind fun y20 => (impl_GetTree y20 p1).bind fun y29 => (laws_eqTree y29.1 y10.1).bind fun y39 => if (((!y39) || (y29.2.1 != y10.2.1)) || (y29.2.2 != y10.2.2)) then some false else (laws_toByteS p0).bind fun y45 => (laws_eqByteS y20 y45).bind fun y54 => if (!y54) then some false else (laws_markByteS y20 1).bind fun y56 => (if decide (y56.1 < 0) then some true else (laws_eqTree y29.1 y10.1).bind fun y63 => some (!y63)).bind fun u62 => if ((u62 || (y29.2.1 != y10.2.1)) || (y29.2.2 != y10.2.2)) then some false else (laws_markTree y29.1 1).bind fun y71 => (laws_heldTree (Timpl_Tree.mk y71.2.Nodes_ y29.1.Seen_) 1).bind fun y77 => if decide (y77 < 0) then some false else if (y77 != y71.1) then some false else (laws_toByteS p0).bind fun y79 => (impl_GetTree y79 p1).bind fun y88 => (laws_eqTree y88.1 y10.1).bind fun y98 => if (((!y98) || (y88.2.1 != y10.2.1)) || (y88.2.2 != y10.2.2)) then some false else (laws_heldTree (Timpl_Tree.mk y71.2.Nodes_ y29.1.Seen_) 1).bind fun y104 => if decide (y104 < 0) then some false else if (y104 != y71.1) then some false else some true


noncomputable def laws_FnExactGetInts (p0 : List Int) (p1 : Int) : Option (Bool) :=
  if decide ((p0.length : Int) > 1048576) then some true else (laws_toByteS p0).bind fun y1 => (spec_GetInts y1 p1).bind fun y10 => (laws_toByteS p0).bind fun y19 => (impl_GetInts y19 p1).bind fun y28 => (laws_eqIntS y28.1 y10.1).bind fun y37 => if (((!y37) || (y28.2.1 != y10.2.1)) || (y28.2.2 != y10.2.2)) then some false else (laws_toByteS p0).bind fun y43 => (laws_eqByteS y19 y43).bind fun y52 => if (!y52) then some false else (laws_markByteS y19 1).bind fun y54 => (if decide (y54.1 < 0) then some true else (laws_eqIntS y28.1 y10.1).bind fun y61 => some (!y61)).bind fun u60 => if ((u60 || (y28.2.1 != y10.2.1)) || (y28.2.2 != y10.2.2)) then some false else (laws_markIntS y28.1 1).bind fun y69 => (laws_heldIntS y69.2 1).bind fun y75 => if decide (y75 < 0) then some false else if (y75 != y69.1) then some false else (laws_toByteS p0).bind fun y77 => (impl_GetInts y77 p1).bind fun y86 => (laws_eqIntS y86.1 y10.1).bind fun y95 => if (((!y95) || (y86.2.1 != y10.2.1)) || (y86.2.2 != y10.2.2)) then some false else (laws_heldIntS y69.2 1).bind fun y101 => if decide (y101 < 0) then some false else if (y101 != y69.1) then some false else some true


noncomputable def spec_GetWindow (p0 : List Int) (p1 : Int) : Option (Timpl_Window × Int × Bool) :=
  (spec_l27GetLists p0 p1).bind fun y2 => if (!y2.2.2) then some ((Timpl_Window.mk ([] : List (List Int))), 0, false) else some ((Timpl_Window.mk y2.1), y2.2.1, true)


noncomputable def impl_reader_window_L1 (p0b : List Int) : Nat → Int → Bool → (List (List Int)) → Int → Option (Timpl_Window × Timpl_reader)
  | 0, _, _, _, _ => none
  | k1 + 1, i46, q47, l48, i52 =>
    if ((decide (i52 > 0)) && (!q47)) then (impl_reader_list p0b (Timpl_reader.mk i46 q47)).bind fun y99 => (app l48 [y99.1]).bind fun l109 => (impl_reader_window_L1 p0b k1) y99.2.at_ y99.2.bad_ l109 (IntKind.i64.wrap (i52 - 1)) else some ((Timpl_Window.mk l48), (Timpl_reader.mk i46 q47))

theorem impl_reader_window_L1_ind (p0b : List Int) {P : Int → Bool → (List (List Int)) → Int → Option (Timpl_Window × Timpl_reader) → Prop} (μ : Int → Bool → (List (List Int)) → Int → Nat) (h : ∀ (i46 : Int) (q47 : Bool) (l48 : List (List Int)) (i52 : Int) (R : Int → Bool → (List (List Int)) → Int → Option (Timpl_Window × Timpl_reader)), (∀ i46' q47' l48' i52', μ i46' q47' l48' i52' < μ i46 q47 l48 i52 → P i46' q47' l48' i52' (R i46' q47' l48' i52')) → P i46 q47 l48 i52 (if ((decide (i52 > 0)) && (!q47)) then (impl_reader_list p0b (Timpl_reader.mk i46 q47)).bind fun y99 => (app l48 [y99.1]).bind fun l109 => (R) y99.2.at_ y99.2.bad_ l109 (IntKind.i64.wrap (i52 - 1)) else some ((Timpl_Window.mk l48), (Timpl_reader.mk i46 q47)))) : ∀ k i46 q47 l48 i52, μ i46 q47 l48 i52 < k → P i46 q47 l48 i52 (impl_reader_window_L1 p0b k i46 q47 l48 i52) := by
  intro k
  induction k with
  | zero => intro i46 q47 l48 i52 hk; exact absurd hk (Nat.not_lt_zero _)
  | succ k ih => intro i46 q47 l48 i52 hk; unfold impl_reader_window_L1; exact h i46 q47 l48 i52 (impl_reader_window_L1 p0b k) (fun i46' q47' l48' i52' hs => ih i46' q47' l48' i52' (Nat.lt_of_lt_of_le hs (Nat.le_of_lt_succ hk)))

noncomputable def impl_reader_window (p0b : List Int) (p0 : Timpl_reader) : Option (Timpl_Window × Timpl_reader) :=
  (impl_reader_count p0b p0).bind fun y3 => impl_reader_window_L1 p0b Fuel y3.2.at_ y3.2.bad_ ([] : List (List Int)) y3.1


noncomputable def impl_GetWindow (p0 : List Int) (p1 : Int) : Option (Timpl_Window × Int × Bool) :=
  (impl_reader_window p0 (Timpl_reader.mk p1 false)).bind fun y3 => if y3.2.bad_ then some ((Timpl_Window.mk ([] : List (List Int))), 0, false) else some (y3.1, y3.2.at_, true)


noncomputable def laws_heldWindow (p0 : Timpl_Window) (p1 : Int) : Option (Int) :=
  (laws_heldIntSS p0.Rows_ p1).bind fun y6 => if decide (y6 < 0) then some (-1) else some y6


noncomputable def laws_FnExactGetWindow (p0 : List Int) (p1 : Int) : Option (Bool) :=
  if decide ((p0.length : Int) > 1048576) then some true else (laws_toByteS p0).bind fun y1 => (spec_GetWindow y1 p1).bind fun y10 => (laws_toByteS p0).bind fun y20 => (impl_GetWindow y20 p1).bind fun y29 => (laws_eqWindow y29.1 y10.1).bind fun y39 => if (((!y39) || (y29.2.1 != y10.2.1)) || (y29.2.2 != y10.2.2)) then some false else (laws_toByteS p0).bind fun y45 => (laws_eqByteS y20 y45).bind fun y54 => if (!y54) then some false else (laws_markByteS y20 1).bind fun y56 => (if decide (y56.1 < 0) then some true else (laws_eqWindow y29.1 y10.1).bind fun y63 => some (!y63)).bind fun u62 => if ((u62 || (y29.2.1 != y10.2.1)) || (y29.2.2 != y10.2.2)) then some false else (laws_markWindow y29.1 1).bind fun y71 => (laws_heldWindow y71.2 1).bind fun y77 => if decide (y77 < 0) then some false else if (y77 != y71.1) then some false else (laws_toByteS p0).bind fun y79 => (impl_GetWindow y79 p1).bind fun y88 => (laws_eqWindow y88.1 y10.1).bind fun y98 => if (((!y98) || (y88.2.1 != y10.2.1)) || (y88.2.2 != y10.2.2)) then some false else (laws_heldWindow y71.2 1).bind fun y104 => if decide (y104 < 0) then some false else if (y104 != y71.1) then some false else some true


noncomputable def laws_szStats (p0 : Tlaws_Stats) (p1 : Int) : Option (Int) :=
  (laws_szIntS p0.Totals_ p1).bind fun y10 => if decide (y10 < 0) then some (-1) else (laws_szIntSS p0.Cells_ y10).bind fun y12 => if decide (y12 < 0) then some (-1) else some y12


noncomputable def laws_szNode (p0 : Tlaws_Node) (p1 : Int) : Option (Int) :=
  (laws_szIntS p0.Kids_ p1).bind fun y34 => if decide (y34 < 0) then some (-1) else (laws_szStats p0.Stats_ y34).bind fun y36 => if decide (y36 < 0) then some (-1) else (laws_szIntS p0.Attrs_ y36).bind fun y38 => if decide (y38 < 0) then some (-1) else some y38


noncomputable def laws_szNodeS_L1 (p0 : List Tlaws_Node) : Nat → Int → Int → Option (Int)
  | 0, _, _ => none
  | k1 + 1, i43, i44 =>
    if decide (i44 < (p0.length : Int)) then (idx p0 i44).bind fun e87 => (laws_szNode e87 i43).bind fun y125 => if decide (y125 < 0) then some (-1) else (laws_szNodeS_L1 p0 k1) y125 (IntKind.i64.wrap (i44 + 1)) else some i43

theorem laws_szNodeS_L1_ind (p0 : List Tlaws_Node) {P : Int → Int → Option (Int) → Prop} (μ : Int → Int → Nat) (h : ∀ (i43 : Int) (i44 : Int) (R : Int → Int → Option (Int)), (∀ i43' i44', μ i43' i44' < μ i43 i44 → P i43' i44' (R i43' i44')) → P i43 i44 (if decide (i44 < (p0.length : Int)) then (idx p0 i44).bind fun e87 => (laws_szNode e87 i43).bind fun y125 => if decide (y125 < 0) then some (-1) else (R) y125 (IntKind.i64.wrap (i44 + 1)) else some i43)) : ∀ k i43 i44, μ i43 i44 < k → P i43 i44 (laws_szNodeS_L1 p0 k i43 i44) := by
  intro k
  induction k with
  | zero => intro i43 i44 hk; exact absurd hk (Nat.not_lt_zero _)
  | succ k ih => intro i43 i44 hk; unfold laws_szNodeS_L1; exact h i43 i44 (laws_szNodeS_L1 p0 k) (fun i43' i44' hs => ih i43' i44' (Nat.lt_of_lt_of_le hs (Nat.le_of_lt_succ hk)))

noncomputable def laws_szNodeS (p0 : List Tlaws_Node) (p1 : Int) : Option (Int) :=
  if decide ((IntKind.i64.wrap (p1 - (p0.length : Int))) < 0) then some (-1) else laws_szNodeS_L1 p0 Fuel (IntKind.i64.wrap (p1 - (p0.length : Int))) 0


noncomputable def laws_szTree (p0 : Tlaws_Tree) (p1 : Int) : Option (Int) :=
  (laws_szNodeS p0.Nodes_ p1).bind fun y8 => if decide (y8 < 0) then some (-1) else some y8


noncomputable def laws_toFork (p0 : Tlaws_Fork) : Option (Timpl_Fork) :=
  some (Timpl_Fork.mk p0.Attr_ p0.At_)


noncomputable def laws_toStats (p0 : Tlaws_Stats) : Option (Timpl_Stats) :=
  (laws_toIntS p0.Totals_).bind fun y12 => (laws_toIntSS p0.Cells_).bind fun y21 => some (Timpl_Stats.mk y12 y21)


noncomputable def laws_toNode (p0 : Tlaws_Node) : Option (Timpl_Node) :=
  (laws_toFork p0.Fork_).bind fun y36 => (laws_toIntS p0.Kids_).bind fun y38 => (laws_toStats p0.Stats_).bind fun y47 => (laws_toIntS p0.Attrs_).bind fun y60 => some (Timpl_Node.mk p0.Leaf_ y36 y38 p0.Miss_ y47 p0.Since_ y60 p0.Depth_ p0.Up_ p0.Born_)


noncomputable def laws_toNodeS_L1 (p0 : List Tlaws_Node) : Nat → (List Timpl_Node) → Int → Option (List Timpl_Node)
  | 0, _, _ => none
  | k1 + 1, l90, i92 =>
    if decide (i92 < (p0.length : Int)) then (idx p0 i92).bind fun e179 => (laws_toNode e179).bind fun y217 => (idx l90 i92).bind fun _ => (laws_toNodeS_L1 p0 k1) (l90.set i92.toNat y217) (IntKind.i64.wrap (i92 + 1)) else some l90

theorem laws_toNodeS_L1_ind (p0 : List Tlaws_Node) {P : (List Timpl_Node) → Int → Option (List Timpl_Node) → Prop} (μ : (List Timpl_Node) → Int → Nat) (h : ∀ (l90 : List Timpl_Node) (i92 : Int) (R : (List Timpl_Node) → Int → Option (List Timpl_Node)), (∀ l90' i92', μ l90' i92' < μ l90 i92 → P l90' i92' (R l90' i92')) → P l90 i92 (if decide (i92 < (p0.length : Int)) then (idx p0 i92).bind fun e179 => (laws_toNode e179).bind fun y217 => (idx l90 i92).bind fun _ => (R) (l90.set i92.toNat y217) (IntKind.i64.wrap (i92 + 1)) else some l90)) : ∀ k l90 i92, μ l90 i92 < k → P l90 i92 (laws_toNodeS_L1 p0 k l90 i92) := by
  intro k
  induction k with
  | zero => intro l90 i92 hk; exact absurd hk (Nat.not_lt_zero _)
  | succ k ih => intro l90 i92 hk; unfold laws_toNodeS_L1; exact h l90 i92 (laws_toNodeS_L1 p0 k) (fun l90' i92' hs => ih l90' i92' (Nat.lt_of_lt_of_le hs (Nat.le_of_lt_succ hk)))

noncomputable def laws_toNodeS (p0 : List Tlaws_Node) : Option (List Timpl_Node) :=
  (mk ((Timpl_Node.mk false (Timpl_Fork.mk 0 0) [] 0 (Timpl_Stats.mk [] []) 0 [] 0 0 0) : Timpl_Node) (p0.length : Int)).bind fun l1 => laws_toNodeS_L1 p0 Fuel l1 0


noncomputable def laws_toTree (p0 : Tlaws_Tree) : Option (Timpl_Tree) :=
  (laws_toNodeS p0.Nodes_).bind fun y10 => some (Timpl_Tree.mk y10 p0.Seen_)


noncomputable def spec_l27NodeFits_L1 (p0 : Timpl_Node) : Nat → Int → Option (Bool)
  | 0, _ => none
  | k1 + 1, i63 =>
    if decide (i63 < (p0.Stats_.Cells_.length : Int)) then (idx p0.Stats_.Cells_ i63).bind fun e75 => (spec_l27Fits e75).bind fun y83 => if (!y83) then some false else (spec_l27NodeFits_L1 p0 k1) (IntKind.i64.wrap (i63 + 1)) else some true

theorem spec_l27NodeFits_L1_ind (p0 : Timpl_Node) {P : Int → Option (Bool) → Prop} (μ : Int → Nat) (h : ∀ (i63 : Int) (R : Int → Option (Bool)), (∀ i63', μ i63' < μ i63 → P i63' (R i63')) → P i63 (if decide (i63 < (p0.Stats_.Cells_.length : Int)) then (idx p0.Stats_.Cells_ i63).bind fun e75 => (spec_l27Fits e75).bind fun y83 => if (!y83) then some false else (R) (IntKind.i64.wrap (i63 + 1)) else some true)) : ∀ k i63, μ i63 < k → P i63 (spec_l27NodeFits_L1 p0 k i63) := by
  intro k
  induction k with
  | zero => intro i63 hk; exact absurd hk (Nat.not_lt_zero _)
  | succ k ih => intro i63 hk; unfold spec_l27NodeFits_L1; exact h i63 (spec_l27NodeFits_L1 p0 k) (fun i63' hs => ih i63' (Nat.lt_of_lt_of_le hs (Nat.le_of_lt_succ hk)))

noncomputable def spec_l27NodeFits (p0 : Timpl_Node) : Option (Bool) :=
  (spec_l27Fits ([p0.Fork_.Attr_, p0.Fork_.At_, p0.Miss_, p0.Since_, p0.Depth_, p0.Up_, p0.Born_] : List Int)).bind fun y35 => (if (!y35) then some true else (spec_l27Fits p0.Kids_).bind fun y38 => some (!y38)).bind fun u37 => (if u37 then some true else (spec_l27Fits p0.Attrs_).bind fun y43 => some (!y43)).bind fun u42 => (if u42 then some true else (spec_l27Fits p0.Stats_.Totals_).bind fun y48 => some (!y48)).bind fun u47 => if u47 then some false else spec_l27NodeFits_L1 p0 Fuel 0


noncomputable def spec_l1Bit (p0 : Bool) : Option (Int) :=
  if p0 then some 1 else some 0


noncomputable def spec_l27PutNode (p0 : Timpl_Node) : Option (List Int) :=
  (spec_l1Bit p0.Leaf_).bind fun y34 => (spec_PutInt y34).bind fun y36 => (spec_PutInt p0.Fork_.Attr_).bind fun y45 => (app y36 y45).bind fun l54 => (spec_PutInt p0.Fork_.At_).bind fun y59 => (app l54 y59).bind fun l68 => (spec_PutInts p0.Kids_).bind fun y73 => (app l68 y73).bind fun l82 => (spec_PutInt p0.Miss_).bind fun y87 => (app l82 y87).bind fun l96 => (spec_PutInts p0.Stats_.Totals_).bind fun y101 => (app l96 y101).bind fun l110 => (spec_l27PutLists p0.Stats_.Cells_).bind fun y115 => (app l110 y115).bind fun l124 => (spec_PutInt p0.Since_).bind fun y129 => (app l124 y129).bind fun l138 => (spec_PutInts p0.Attrs_).bind fun y143 => (app l138 y143).bind fun l152 => (spec_PutInt p0.Depth_).bind fun y157 => (app l152 y157).bind fun l166 => (spec_PutInt p0.Up_).bind fun y171 => (app l166 y171).bind fun l180 => (spec_PutInt p0.Born_).bind fun y185 => (app l180 y185).bind fun l194 => some l194


noncomputable def spec_PutTree_L1 (p0 : Timpl_Tree) : Nat → (List Int) → Int → Option (List Int)
  | 0, _, _ => none
  | k1 + 1, l142, i146 =>
    if decide (i146 < (p0.Nodes_.length : Int)) then (idx p0.Nodes_ i146).bind fun e245 => (spec_l27NodeFits e245).bind fun y283 => if (!y283) then some ([] : List Int) else (idx p0.Nodes_ i146).bind fun e286 => (spec_l27PutNode e286).bind fun y324 => (app l142 y324).bind fun l333 => (spec_PutTree_L1 p0 k1) l333 (IntKind.i64.wrap (i146 + 1)) else some l142

theorem spec_PutTree_L1_ind (p0 : Timpl_Tree) {P : (List Int) → Int → Option (List Int) → Prop} (μ : (List Int) → Int → Nat) (h : ∀ (l142 : List Int) (i146 : Int) (R : (List Int) → Int → Option (List Int)), (∀ l142' i146', μ l142' i146' < μ l142 i146 → P l142' i146' (R l142' i146')) → P l142 i146 (if decide (i146 < (p0.Nodes_.length : Int)) then (idx p0.Nodes_ i146).bind fun e245 => (spec_l27NodeFits e245).bind fun y283 => if (!y283) then some ([] : List Int) else (idx p0.Nodes_ i146).bind fun e286 => (spec_l27PutNode e286).bind fun y324 => (app l142 y324).bind fun l333 => (R) l333 (IntKind.i64.wrap (i146 + 1)) else some l142)) : ∀ k l142 i146, μ l142 i146 < k → P l142 i146 (spec_PutTree_L1 p0 k l142 i146) := by
  intro k
  induction k with
  | zero => intro l142 i146 hk; exact absurd hk (Nat.not_lt_zero _)
  | succ k ih => intro l142 i146 hk; unfold spec_PutTree_L1; exact h l142 i146 (spec_PutTree_L1 p0 k) (fun l142' i146' hs => ih l142' i146' (Nat.lt_of_lt_of_le hs (Nat.le_of_lt_succ hk)))

noncomputable def spec_PutTree (p0 : Timpl_Tree) : Option (List Int) :=
  (spec_l27Fits ([p0.Seen_] : List Int)).bind fun y9 => if (!y9) then some ([] : List Int) else (spec_PutInt p0.Seen_).bind fun y21 => (spec_PutInt (p0.Nodes_.length : Int)).bind fun y30 => (app y21 y30).bind fun l39 => spec_PutTree_L1 p0 Fuel l39 0


noncomputable def impl_flag (p0 : Bool) : Option (Int) :=
  if p0 then some 1 else some 0


noncomputable def impl_writer_tree_L2 (e416 : Timpl_Node) (R1 : (List Int) → Bool → Int → Option (Timpl_writer)) (i219 : Int) : Nat → (List Int) → Bool → Int → Option (Timpl_writer)
  | 0, _, _, _ => none
  | k2 + 1, l531, q535, i536 =>
    if decide (i536 < (e416.Stats_.Cells_.length : Int)) then (idx e416.Stats_.Cells_ i536).bind fun e560 => (impl_writer_list (Timpl_writer.mk l531 q535) e560).bind fun y568 => (impl_writer_tree_L2 e416 R1 i219 k2) y568.out_ y568.bad_ (IntKind.i64.wrap (i536 + 1)) else (impl_writer_ints (Timpl_writer.mk l531 q535) ([e416.Since_] : List Int)).bind fun y578 => (impl_writer_list y578 e416.Attrs_).bind fun y587 => (impl_writer_ints y587 ([e416.Depth_, e416.Up_, e416.Born_] : List Int)).bind fun y597 => R1 y597.out_ y597.bad_ (IntKind.i64.wrap (i219 + 1))

theorem impl_writer_tree_L2_ind (e416 : Timpl_Node) (R1 : (List Int) → Bool → Int → Option (Timpl_writer)) (i219 : Int) {P : (List Int) → Bool → Int → Option (Timpl_writer) → Prop} (μ : (List Int) → Bool → Int → Nat) (h : ∀ (l531 : List Int) (q535 : Bool) (i536 : Int) (R : (List Int) → Bool → Int → Option (Timpl_writer)), (∀ l531' q535' i536', μ l531' q535' i536' < μ l531 q535 i536 → P l531' q535' i536' (R l531' q535' i536')) → P l531 q535 i536 (if decide (i536 < (e416.Stats_.Cells_.length : Int)) then (idx e416.Stats_.Cells_ i536).bind fun e560 => (impl_writer_list (Timpl_writer.mk l531 q535) e560).bind fun y568 => (R) y568.out_ y568.bad_ (IntKind.i64.wrap (i536 + 1)) else (impl_writer_ints (Timpl_writer.mk l531 q535) ([e416.Since_] : List Int)).bind fun y578 => (impl_writer_list y578 e416.Attrs_).bind fun y587 => (impl_writer_ints y587 ([e416.Depth_, e416.Up_, e416.Born_] : List Int)).bind fun y597 => R1 y597.out_ y597.bad_ (IntKind.i64.wrap (i219 + 1)))) : ∀ k l531 q535 i536, μ l531 q535 i536 < k → P l531 q535 i536 (impl_writer_tree_L2 e416 R1 i219 k l531 q535 i536) := by
  intro k
  induction k with
  | zero => intro l531 q535 i536 hk; exact absurd hk (Nat.not_lt_zero _)
  | succ k ih => intro l531 q535 i536 hk; unfold impl_writer_tree_L2; exact h l531 q535 i536 (impl_writer_tree_L2 e416 R1 i219 k) (fun l531' q535' i536' hs => ih l531' q535' i536' (Nat.lt_of_lt_of_le hs (Nat.le_of_lt_succ hk)))

noncomputable def impl_writer_tree_L1 (p1 : Timpl_Tree) : Nat → (List Int) → Bool → Int → Option (Timpl_writer)
  | 0, _, _, _ => none
  | k1 + 1, l214, q218, i219 =>
    if decide (i219 < (p1.Nodes_.length : Int)) then (idx p1.Nodes_ i219).bind fun e416 => (impl_flag e416.Leaf_).bind fun y458 => (impl_writer_ints (Timpl_writer.mk l214 q218) ([y458, e416.Fork_.Attr_, e416.Fork_.At_] : List Int)).bind fun y461 => (impl_writer_list y461 e416.Kids_).bind fun y470 => (impl_writer_ints y470 ([e416.Miss_] : List Int)).bind fun y480 => (impl_writer_list y480 e416.Stats_.Totals_).bind fun y489 => (impl_writer_ints y489 ([(e416.Stats_.Cells_.length : Int)] : List Int)).bind fun y499 => impl_writer_tree_L2 e416 (impl_writer_tree_L1 p1 k1) i219 Fuel y499.out_ y499.bad_ 0 else some (Timpl_writer.mk l214 q218)

theorem impl_writer_tree_L1_ind (p1 : Timpl_Tree) {P : (List Int) → Bool → Int → Option (Timpl_writer) → Prop} (μ : (List Int) → Bool → Int → Nat) (h : ∀ (l214 : List Int) (q218 : Bool) (i219 : Int) (R : (List Int) → Bool → Int → Option (Timpl_writer)), (∀ l214' q218' i219', μ l214' q218' i219' < μ l214 q218 i219 → P l214' q218' i219' (R l214' q218' i219')) → P l214 q218 i219 (if decide (i219 < (p1.Nodes_.length : Int)) then (idx p1.Nodes_ i219).bind fun e416 => (impl_flag e416.Leaf_).bind fun y458 => (impl_writer_ints (Timpl_writer.mk l214 q218) ([y458, e416.Fork_.Attr_, e416.Fork_.At_] : List Int)).bind fun y461 => (impl_writer_list y461 e416.Kids_).bind fun y470 => (impl_writer_ints y470 ([e416.Miss_] : List Int)).bind fun y480 => (impl_writer_list y480 e416.Stats_.Totals_).bind fun y489 => (impl_writer_ints y489 ([(e416.Stats_.Cells_.length : Int)] : List Int)).bind fun y499 => impl_writer_tree_L2 e416 (R) i219 Fuel y499.out_ y499.bad_ 0 else some (Timpl_writer.mk l214 q218))) : ∀ k l214 q218 i219, μ l214 q218 i219 < k → P l214 q218 i219 (impl_writer_tree_L1 p1 k l214 q218 i219) := by
  intro k
  induction k with
  | zero => intro l214 q218 i219 hk; exact absurd hk (Nat.not_lt_zero _)
  | succ k ih => intro l214 q218 i219 hk; unfold impl_writer_tree_L1; exact h l214 q218 i219 (impl_writer_tree_L1 p1 k) (fun l214' q218' i219' hs => ih l214' q218' i219' (Nat.lt_of_lt_of_le hs (Nat.le_of_lt_succ hk)))

noncomputable def impl_writer_tree (p0 : Timpl_writer) (p1 : Timpl_Tree) : Option (Timpl_writer) :=
  (impl_writer_ints p0 ([p1.Seen_, (p1.Nodes_.length : Int)] : List Int)).bind fun y9 => impl_writer_tree_L1 p1 Fuel y9.out_ y9.bad_ 0


noncomputable def impl_PutTree (p0 : Timpl_Tree) : Option (List Int) :=
  (impl_writer_tree (Timpl_writer.mk ([] : List Int) false) p0).bind fun y9 => (impl_writer_done y9).bind fun y18 => some y18


noncomputable def laws_FnExactPutTree (p0 : Tlaws_Tree) : Option (Bool) :=
  (laws_szTree p0 1048576).bind fun y8 => if decide (y8 < 0) then some true else (laws_toTree p0).bind fun y10 => (spec_PutTree y10).bind fun y19 => (laws_toTree p0).bind fun y28 => (impl_PutTree y28).bind fun y38 => (laws_eqByteS y38 y19).bind fun y47 => if (!y47) then some false else (laws_toTree p0).bind fun y58 => (laws_eqTree y28 y58).bind fun y67 => if (!y67) then some false else (laws_markTree y28 1).bind fun y69 => (if decide (y69.1 < 0) then some true else (laws_eqByteS y38 y19).bind fun y76 => some (!y76)).bind fun u75 => if u75 then some false else (laws_markByteS y38 1).bind fun y80 => (laws_heldByteS y80.2 1).bind fun y86 => if decide (y86 < 0) then some false else if (y86 != y80.1) then some false else (laws_toTree p0).bind fun y88 => (impl_PutTree y88).bind fun y97 => (laws_eqByteS y97 y19).bind fun y106 => if (!y106) then some false else (laws_heldByteS y80.2 1).bind fun y108 => if decide (y108 < 0) then some false else if (y108 != y80.1) then some false else some true


noncomputable def laws_FnExactPutInts (p0 : List Int) : Option (Bool) :=
  if decide ((p0.length : Int) > 1048576) then some true else (laws_toIntS p0).bind fun y1 => (spec_PutInts y1).bind fun y10 => (laws_toIntS p0).bind fun y19 => (impl_PutInts y19).bind fun y28 => (laws_eqByteS y28 y10).bind fun y37 => if (!y37) then some false else (laws_toIntS p0).bind fun y39 => (laws_eqIntS y19 y39).bind fun y48 => if (!y48) then some false else (laws_markIntS y19 1).bind fun y50 => (if decide (y50.1 < 0) then some true else (laws_eqByteS y28 y10).bind fun y57 => some (!y57)).bind fun u56 => if u56 then some false else (laws_markByteS y28 1).bind fun y61 => (laws_heldByteS y61.2 1).bind fun y67 => if decide (y67 < 0) then some false else if (y67 != y61.1) then some false else (laws_toIntS p0).bind fun y69 => (impl_PutInts y69).bind fun y78 => (laws_eqByteS y78 y10).bind fun y87 => if (!y87) then some false else (laws_heldByteS y61.2 1).bind fun y89 => if decide (y89 < 0) then some false else if (y89 != y61.1) then some false else some true


end Go.Vk
