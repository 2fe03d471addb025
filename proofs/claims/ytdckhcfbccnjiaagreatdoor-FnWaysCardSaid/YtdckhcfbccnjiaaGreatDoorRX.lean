/- Functions of data of other seats, to lean on. -/
import Derived.Test.YtdckhcfbccnjiaaGreatDoorRF
import Derived.Test.YtdckhcfbccnjiaaGreatDoorVkQ
namespace Go.Vk
noncomputable def fK (p0 : List Int) : Option (List Int) :=
  (app ([] : List Int) p0).bind fun a => some a
noncomputable def iN (p0 : List (List Int)) : Nat → (List (List Int)) → Int → Option (List (List Int))
  | 0, _, _ => none
  | k1 + 1, c, a =>
    if decide (a < (p0.length : Int)) then (idx p0 a).bind fun d => (fK d).bind fun e => (app c [e]).bind fun f => (iN p0 k1) f (IntKind.i64.wrap (a + 1)) else some c
noncomputable def pG (p0 : List (List Int)) : Option (List (List Int)) :=
  iN p0 be ([] : List (List Int)) 0
noncomputable def nw (p0 : av) : Option (av) :=
  (fK p0.e_).bind fun a => (pG p0.d_).bind fun c => some (av.mk a c)
noncomputable def iI (e : av) (p2 : aY) (p0 : ab) (p3 : Int) (g : Int) : Nat → (List (List Int)) → Int → Option (av × Bool)
  | 0, _, _ => none
  | k1 + 1, f, a =>
    if decide (a < (e.d_.length : Int)) then (idx f a).bind fun c => (idx p2.o_ a).bind fun h => if decide (h ≥ 0) then (idx p2.o_ a).bind fun d => (idx c (IntKind.i64.wrap ((IntKind.i64.wrap (d * (p0.l_.length : Int))) + p2.v_))).bind fun i => (idx c (IntKind.i64.wrap ((IntKind.i64.wrap (d * (p0.l_.length : Int))) + p2.v_))).bind fun _ => (iI e p2 p0 p3 g k1) (f.set a.toNat (c.set (IntKind.i64.wrap ((IntKind.i64.wrap (d * (p0.l_.length : Int))) + p2.v_)).toNat (IntKind.i64.wrap (i + p3)))) (IntKind.i64.wrap (a + 1)) else (iI e p2 p0 p3 g k1) f (IntKind.i64.wrap (a + 1)) else some ((av.mk (e.e_.set p2.v_.toNat (IntKind.i64.wrap (g + p3))) f), true)
noncomputable def qU (p0 : ab) (p1 : av) (p2 : aY) (p3 : Int) : Option (av × Bool) :=
  (nw p1).bind fun a => (kR p0 p1).bind fun c => (if (!c) then some true else (mJ p0 p2).bind fun d => some (!d)).bind fun e => (if (e || (p2.v_ == (-1))) then some true else (bN p3 1 7).bind fun f => some (!f)).bind fun g => (if g then some true else (lH p1.e_).bind fun h => some (decide ((IntKind.i64.wrap (h + p3)) > 999))).bind fun i => if i then some (a, false) else (idx a.e_ p2.v_).bind fun j => (idx a.e_ p2.v_).bind fun _ => iI a p2 p0 p3 j be a.d_ 0
noncomputable def fQ (p0 : ah) : Nat → (List Int) → Int → Option (List Int)
  | 0, _, _ => none
  | k1 + 1, c, a =>
    if decide (a < (p0.a_.length : Int)) then (idx p0.a_ a).bind fun d => if d.q_ then (app c ([a] : List Int)).bind fun e => (fQ p0 k1) e (IntKind.i64.wrap (a + 1)) else (fQ p0 k1) c (IntKind.i64.wrap (a + 1)) else some c
noncomputable def qf (p0 : ah) : Option (List Int) :=
  fQ p0 be ([] : List Int) 0
noncomputable def jC (p0 : Int) : Nat → Int → Int → Option (Int)
  | 0, _, _ => none
  | k1 + 1, a, c =>
    if decide (c < p0) then (jC p0 k1) (IntKind.i64.wrap (a * 2)) (IntKind.i64.wrap (c + 1)) else some a
noncomputable def lk (p0 : Int) : Option (Int) :=
  jC p0 be 1 0
noncomputable def fP (p0 : bc) : Option (Int) :=
  (jQ p0).bind fun a => if (!a) then some 0 else (dV p0).bind fun c => (lk c).bind fun d => some (IntKind.i64.wrap ((IntKind.i64.wrap (d - 1)) + 16))
noncomputable def eJ (p0 : ab) (p1 : aT) (p2 : Int) : Nat → Int → Int → Option (Int)
  | 0, _, _ => none
  | k1 + 1, c, a =>
    (idx p0.b_ p1.g_.j_).bind fun d => (dV d).bind fun e => if decide (a < e) then (js p0 p1.g_ a).bind fun f => if (f == p2) then (lk a).bind fun g => (eJ p0 p1 p2 k1) (IntKind.i64.wrap (c + g)) (IntKind.i64.wrap (a + 1)) else (eJ p0 p1 p2 k1) c (IntKind.i64.wrap (a + 1)) else if (p1.w_ == p2) then some (IntKind.i64.wrap (c + 16)) else some c
noncomputable def ot (p0 : ab) (p1 : aT) (p2 : Int) : Option (Int) :=
  eJ p0 p1 p2 be 0 0
noncomputable def fw (a : aT) (e : Int) (p0 : ab) (p1 : ah) (R3 : Int → (List Int) → Option (List bf)) : Nat → Int → (List Int) → Option (List bf)
  | 0, _, _ => none
  | k4 + 1, c, d =>
    if decide (c < (a.r_.length : Int)) then (idx a.r_ c).bind fun f => if (f == e) then (idx d a.g_.j_).bind fun g => (ot p0 a c).bind fun h => (idx d a.g_.j_).bind fun _ => (fw a e p0 p1 R3 k4) (IntKind.i64.wrap (c + 1)) (d.set a.g_.j_.toNat (bi .and .i64 g h)) else (fw a e p0 p1 R3 k4) (IntKind.i64.wrap (c + 1)) d else (idx p1.a_ e).bind fun i => R3 i.p_ d
noncomputable def kI (p1 : ah) (p0 : ab) (e : List bf) (c : Int) (R1 : (List bf) → Int → Option (List bf)) (f : Int) : Nat → Int → (List Int) → Option (List bf)
  | 0, _, _ => none
  | k3 + 1, a, d =>
    (idx p1.a_ a).bind fun g => if decide (g.p_ ≥ 0) then (idx p1.a_ a).bind fun h => (idx p1.a_ h.p_).bind fun i => fw i a p0 p1 (kI p1 p0 e c R1 f k3) be 0 d else (app e [(bf.mk c d)]).bind fun j => R1 j (IntKind.i64.wrap (f + 1))
noncomputable def fZ (p0 : ab) (k : List Int) (c : Int) (p1 : ah) (f : List bf) (d : Int) (R1 : (List bf) → Int → Option (List bf)) : Nat → (List Int) → Int → Option (List bf)
  | 0, _, _ => none
  | k2 + 1, e, a =>
    if decide (a < (p0.b_.length : Int)) then (idx p0.b_ a).bind fun g => (fP g).bind fun h => (app e ([h] : List Int)).bind fun i => (fZ p0 k c p1 f d R1 k2) i (IntKind.i64.wrap (a + 1)) else (idx k c).bind fun j => kI p1 p0 f d R1 c be j e
noncomputable def dz (c : List Int) (p0 : ab) (p1 : ah) : Nat → (List bf) → Int → Option (List bf)
  | 0, _, _ => none
  | k1 + 1, d, a =>
    if decide (a < (c.length : Int)) then (idx c a).bind fun e => fZ p0 c a p1 d e (dz c p0 p1 k1) be ([] : List Int) 0 else some d
noncomputable def sZ (p0 : ab) (p1 : ah) : Option (List bf) :=
  (gV p0 p1).bind fun a => if (!a) then some ([] : List bf) else (qf p1).bind fun c => dz c p0 p1 be ([] : List bf) 0
noncomputable def fJ (p1 : Int) (p0 : Int) : Nat → Int → Int → Option (Int)
  | 0, _, _ => none
  | k1 + 1, a, c =>
    if decide (a < p1) then (quo .i64 (IntKind.i64.wrap (c * (IntKind.i64.wrap (p0 - a)))) (IntKind.i64.wrap (a + 1))).bind fun d => (fJ p1 p0 k1) (IntKind.i64.wrap (a + 1)) d else some c
noncomputable def mT (p0 : Int) (p1 : Int) : Option (Int) :=
  (bN p0 0 20).bind fun a => (if (!a) then some true else (bN p1 0 p0).bind fun c => some (!c)).bind fun d => if d then some 0 else fJ p1 p0 be 0 1
noncomputable def iD (p1 : Int) (p0 : Int) : Nat → Int → (List Int) → Int → Option (List Int)
  | 0, _, _, _ => none
  | k1 + 1, d, a, c =>
    if decide ((a.length : Int) < p1) then (mT (IntKind.i64.wrap ((IntKind.i64.wrap (p0 - c)) - 1)) (IntKind.i64.wrap ((IntKind.i64.wrap (p1 - (a.length : Int))) - 1))).bind fun e => if decide (d < e) then (app a ([c] : List Int)).bind fun f => (iD p1 p0 k1) d f (IntKind.i64.wrap (c + 1)) else (iD p1 p0 k1) (IntKind.i64.wrap (d - e)) a (IntKind.i64.wrap (c + 1)) else some a
noncomputable def rb (p0 : Int) (p1 : Int) (p2 : Int) : Option (List Int) :=
  (mT p0 p1).bind fun a => (bN p2 0 (IntKind.i64.wrap (a - 1))).bind fun c => if (!c) then some ([] : List Int) else iD p1 p0 be p2 ([] : List Int) 0
noncomputable def kK (a : List UInt8) (R1 : Int → (List UInt8) → Option (List UInt8)) (c : Int) (d : Int) : Option (List UInt8) :=
  (qP (wC ([IntKind.u8.wrap (IntKind.i64.wrap (48 + d))] : List Int)) a).bind fun e => R1 (IntKind.i64.wrap (Int.tdiv c 10)) e
noncomputable def ft (p0 : Int) : Nat → Int → (List UInt8) → Option (List UInt8)
  | 0, _, _ => none
  | k1 + 1, a, c =>
    if (a != 0) then if decide ((Int.tmod a 10) < 0) then kK c (ft p0 k1) a (IntKind.i64.wrap (0 - (Int.tmod a 10))) else kK c (ft p0 k1) a (Int.tmod a 10) else if decide (p0 < 0) then (qP ([45] : List UInt8) c).bind fun d => some d else some c
noncomputable def oD (p0 : Int) : Option (List UInt8) :=
  if (p0 == 0) then some ([48] : List UInt8) else ft p0 be p0 ([] : List UInt8)
noncomputable def mo (p0 : List (List UInt8)) (a : Int) (R1 : (List UInt8) → Int → Option (List UInt8)) (c : List UInt8) : Option (List UInt8) :=
  (idx p0 a).bind fun d => (qP c d).bind fun e => R1 e (IntKind.i64.wrap (a + 1))
noncomputable def fv (p0 : List (List UInt8)) (p1 : List UInt8) : Nat → (List UInt8) → Int → Option (List UInt8)
  | 0, _, _ => none
  | k1 + 1, c, a =>
    if decide (a < (p0.length : Int)) then if decide (a > 0) then (qP c p1).bind fun d => mo p0 a (fv p0 p1 k1) d else mo p0 a (fv p0 p1 k1) c else some c
noncomputable def oL (p0 : List (List UInt8)) (p1 : List UInt8) : Option (List UInt8) :=
  fv p0 p1 be ([] : List UInt8) 0
noncomputable def lq (p1 : bf) (p0 : ab) : Nat → Int → Option (Bool)
  | 0, _ => none
  | k1 + 1, a =>
    if decide (a < (p1.y_.length : Int)) then (idx p1.y_ a).bind fun e => (if decide (e < 0) then some true else (idx p1.y_ a).bind fun f => (idx p0.b_ a).bind fun g => (fP g).bind fun c => (idx p1.y_ a).bind fun d => some ((bi .and .i64 f c) != d)).bind fun h => if h then some false else (lq p1 p0 k1) (IntKind.i64.wrap (a + 1)) else some true
noncomputable def rg (p0 : ab) (p1 : bf) : Option (Bool) :=
  (eS p0).bind fun a => (if (!a) then some true else (bm p1.q_ 0 30).bind fun c => some (!c)).bind fun d => if (d || ((p1.y_.length : Int) != (p0.b_.length : Int))) then some false else lq p1 p0 be 0
noncomputable def oV (p0 : bc) (p1 : Int) : Option (List UInt8) :=
  (jQ p0).bind fun a => (if (!a) then some true else (dV p0).bind fun c => (bm p1 (-1) (IntKind.i64.wrap (c - 1))).bind fun d => some (!d)).bind fun e => if e then some ([] : List UInt8) else if (p1 == (-1)) then some ([63] : List UInt8) else if decide ((p0.A_.length : Int) > 0) then (idx p0.A_ p1).bind fun f => some f else if decide (p1 < (p0.u_.length : Int)) then (idx p0.u_ p1).bind fun g => (oD g).bind fun h => some h else (idx p0.u_ (IntKind.i64.wrap ((p0.u_.length : Int) - 1))).bind fun i => (oD (IntKind.i64.wrap (i + 1))).bind fun j => some j
noncomputable def kf (p0 : ab) (a : Int) (c : List (List UInt8)) (R1 : (List (List UInt8)) → Int → Option (List UInt8)) (d : List (List UInt8)) : Option (List UInt8) :=
  (idx p0.b_ a).bind fun e => (qP e.B_ ([123] : List UInt8)).bind fun f => (oL d ([44] : List UInt8)).bind fun g => (qP f g).bind fun h => (qP h ([125] : List UInt8)).bind fun i => (app c ([i] : List (List UInt8))).bind fun j => R1 j (IntKind.i64.wrap (a + 1))
noncomputable def gh (p0 : ab) (a : Int) (p1 : bf) (d : List (List UInt8)) (R1 : (List (List UInt8)) → Int → Option (List UInt8)) : Nat → (List (List UInt8)) → Int → Option (List UInt8)
  | 0, _, _ => none
  | k2 + 1, e, c =>
    (idx p0.b_ a).bind fun f => (dV f).bind fun g => if decide (c < g) then (idx p1.y_ a).bind fun h => (lk c).bind fun i => if ((bi .and .i64 h i) != 0) then (idx p0.b_ a).bind fun j => (oV j c).bind fun k => (app e ([k] : List (List UInt8))).bind fun l => (gh p0 a p1 d R1 k2) l (IntKind.i64.wrap (c + 1)) else (gh p0 a p1 d R1 k2) e (IntKind.i64.wrap (c + 1)) else (idx p1.y_ a).bind fun m => if ((bi .and .i64 m 16) != 0) then (app e ([([63] : List UInt8)] : List (List UInt8))).bind fun o => kf p0 a d R1 o else kf p0 a d R1 e
noncomputable def eV (p1 : bf) (p0 : ab) : Nat → (List (List UInt8)) → Int → Option (List UInt8)
  | 0, _, _ => none
  | k1 + 1, c, a =>
    if decide (a < (p1.y_.length : Int)) then (idx p1.y_ a).bind fun d => (idx p0.b_ a).bind fun e => (fP e).bind fun f => if (d == f) then (eV p1 p0 k1) c (IntKind.i64.wrap (a + 1)) else gh p0 a p1 c (eV p1 p0 k1) be ([] : List (List UInt8)) 0 else if ((c.length : Int) == 0) then some ([97, 110, 121] : List UInt8) else (oL c ([38] : List UInt8)).bind fun g => some g
noncomputable def rI (p0 : ab) (p1 : bf) : Option (List UInt8) :=
  (rg p0 p1).bind fun a => if (!a) then some ([] : List UInt8) else eV p1 p0 be ([] : List (List UInt8)) 0
end Go.Vk
/- The laws' types: weighed, copied, compared; the rows' frames. Printed by program. -/
namespace Go.Vk
def nZ (x : List Int) : Prop := x.length ≤ 1048576 ∧ ∀ y ∈ x, (-9223372036854775808 ≤ y ∧ y ≤ 9223372036854775807)
def sY (x : List (List UInt8)) : Prop := x.length ≤ 1048576 ∧ ∀ y ∈ x, y.length ≤ 1048576
def ln (x : bc) : Prop := x.B_.length ≤ 1048576 ∧ nZ x.u_ ∧ sY x.A_
def zj (x : List bc) : Prop := x.length ≤ 1048576 ∧ ∀ y ∈ x, ln y
def aU (x : ab) : Prop := zj x.b_ ∧ sY x.l_
def AH (x : aq) : Prop := (-9223372036854775808 ≤ x.j_ ∧ x.j_ ≤ 9223372036854775807) ∧ (-9223372036854775808 ≤ x.c_ ∧ x.c_ ≤ 9223372036854775807)
def Aa (x : List (List Int)) : Prop := x.length ≤ 1048576 ∧ ∀ y ∈ x, nZ y
def fk (x : av) : Prop := nZ x.e_ ∧ Aa x.d_
def pc (x : aT) : Prop := True ∧ AH x.g_ ∧ nZ x.r_ ∧ (-9223372036854775808 ≤ x.w_ ∧ x.w_ ≤ 9223372036854775807) ∧ fk x.n_ ∧ (-9223372036854775808 ≤ x.x_ ∧ x.x_ ≤ 9223372036854775807) ∧ nZ x.b_ ∧ (-9223372036854775808 ≤ x.m_ ∧ x.m_ ≤ 9223372036854775807) ∧ (-9223372036854775808 ≤ x.p_ ∧ x.p_ ≤ 9223372036854775807) ∧ (-9223372036854775808 ≤ x.s_ ∧ x.s_ ≤ 9223372036854775807)
def zw (x : List aT) : Prop := x.length ≤ 1048576 ∧ ∀ y ∈ x, pc y
def gp (x : ah) : Prop := zw x.a_ ∧ (-9223372036854775808 ≤ x.k_ ∧ x.k_ ≤ 9223372036854775807)
end Go.Vk
/- Words, cuts, attributes: tested alike. -/
namespace Go.Vk
def tf (w : List UInt8) : Prop := (1 ≤ (w.length : Int) ∧ (w.length : Int) ≤ 8) ∧ ∀ i, 0 ≤ i → (h : i < w.length) → 97 ≤ (w[i]).toNat ∧ (w[i]).toNat ≤ 122
theorem xy {w : List UInt8} (hw : w.length < 1000000000000) : Dec (lL w) (tf w) := by
  unfold lL bm tf
  simp only [bS]
  by_cases h : 1 ≤ (w.length : Int) ∧ (w.length : Int) ≤ 8
  · rw [oO h]
    simp only [Bool.not_true, Bool.false_eq_true, if_false]
    refine (kv (Lp := iJ w) (n := w.length) (Q := fun i => ∀ h : i < w.length, 97 ≤ (w[i]).toNat ∧ (w[i]).toNat ≤ 122) 0 (fun k i hi => ?_) (fun k i _ hi => ?_) hw).of_iff ⟨fun g => ⟨h, fun i h0 h1 => g i h0 h1 h1⟩, fun g i h0 h1 _ => g.2 i h0 h1⟩
    · show (if _ then _ else _) = _
      rw [if_neg (by simp; omega)]
    · rw [iJ]
      rw [if_pos (by simp; omega), aV hi, aG (by omega)]
      simp only [bS]
      by_cases h1 : ((w[i]).toNat : Int) < 97
      · rw [if_pos (by simpa using h1)]
        exact .inr ⟨fun g => by have := g hi; omega, rfl⟩
      · rw [if_neg (by simpa using h1)]
        simp only [bS]
        by_cases h2 : ((w[i]).toNat : Int) > 122
        · rw [if_pos (by simpa using h2)]
          exact .inr ⟨fun g => by have := g hi; omega, rfl⟩
        · rw [if_neg (by simpa using h2)]
          exact .inl ⟨fun _ => ⟨by omega, by omega⟩, rfl⟩
  · rw [oU h]
    exact cw fun g => h g.1
theorem wP {w : List UInt8} (hw : w.length < 1000000000000) : Dec (lR w) (tf w) := by
  unfold lR bN tf
  simp only [bS]
  by_cases h : 1 ≤ (w.length : Int) ∧ (w.length : Int) ≤ 8
  · rw [oO h]
    simp only [Bool.not_true, Bool.false_eq_true, if_false]
    refine (kv (Lp := iL w) (n := w.length) (Q := fun i => ∀ h : i < w.length, 97 ≤ (w[i]).toNat ∧ (w[i]).toNat ≤ 122) 0 (fun k i hi => ?_) (fun k i _ hi => ?_) hw).of_iff ⟨fun g => ⟨h, fun i h0 h1 => g i h0 h1 h1⟩, fun g i h0 h1 _ => g.2 i h0 h1⟩
    · show (if _ then _ else _) = _
      rw [if_neg (by simp; omega)]
    · rw [iL]
      rw [if_pos (by simp; omega), aV hi, aG (by omega)]
      simp only [bS]
      by_cases h1 : ((w[i]).toNat : Int) < 97
      · rw [if_pos (by simpa using h1)]
        exact .inr ⟨fun g => by have := g hi; omega, rfl⟩
      · rw [if_neg (by simpa using h1)]
        simp only [bS]
        by_cases h2 : ((w[i]).toNat : Int) > 122
        · rw [if_pos (by simpa using h2)]
          exact .inr ⟨fun g => by have := g hi; omega, rfl⟩
        · rw [if_neg (by simpa using h2)]
          exact .inl ⟨fun _ => ⟨by omega, by omega⟩, rfl⟩
  · rw [oU h]
    exact cw fun g => h g.1
def rn (ws : List (List UInt8)) : Prop := ∀ i, 0 ≤ i → i < ws.length → ∀ h : i < ws.length, tf ws[i] ∧ ∀ j, (hj : j < i) → ws[i] ≠ ws[j]
theorem vu {ws : List (List UInt8)} (hn : ws.length < 1000000000000) (hl : ∀ w ∈ ws, w.length < 1000000000000) : Dec (lf ws) (rn ws) := by
  unfold lf
  refine kv (Lp := eh ws) (n := ws.length) (Q := fun i => ∀ h : i < ws.length, tf ws[i] ∧ ∀ j, (hj : j < i) → ws[i] ≠ ws[j]) 0 (fun k i hi => ?_) (fun k i _ hi => ?_) hn
  · show (if _ then _ else _) = _
    rw [if_neg (by simp; omega)]
  · rw [eh]
    rw [if_pos (by simp; omega), aV hi]
    simp only [bS]
    rcases (xy (hl _ (List.getElem_mem hi))).cases with ⟨e, hw⟩ | ⟨e, hw⟩
    · rw [e]
      simp only [Option.bind_some, Bool.not_true, Bool.false_eq_true, if_false]
      have key : ∀ (d q j : Nat), i - j = d → d < q → (hj : j ≤ i) → (∀ m, (hm : m < j) → ws[i] ≠ ws[m]'(by omega)) →
          ((∀ m, (hm : m < i) → ws[i] ≠ ws[m]) ∧ fC i ws (eh ws k) q (j : Int) = eh ws k ((i + 1 : Nat) : Int)) ∨ ((¬ ∀ m, (hm : m < i) → ws[i] ≠ ws[m]) ∧ fC i ws (eh ws k) q (j : Int) = some false) := by
        intro d
        induction d with
        | zero =>
          intro q j hd hq hj hm
          obtain ⟨q, rfl⟩ : ∃ r, q = r + 1 := ⟨q - 1, by omega⟩
          rw [fC]
          rw [if_neg (by simp; omega), aG (by omega)]
          exact .inl ⟨fun m hm' => hm m (by omega), rfl⟩
        | succ d ih =>
          intro q j hd hq hj hm
          obtain ⟨q, rfl⟩ : ∃ r, q = r + 1 := ⟨q - 1, by omega⟩
          rw [fC]
          rw [if_pos (by simp; omega), aV hi, aV (show j < ws.length by omega)]
          simp only [bS]
          by_cases hc : ws[i] = ws[j]
          · rw [if_pos (by simpa using hc)]
            exact .inr ⟨fun g => g j (by omega) hc, rfl⟩
          · rw [if_neg (by simpa using hc), aG (by omega)]
            exact ih q (j + 1) (by omega) (by omega) (by omega) (fun m hm' => by
              by_cases h : m = j
              · subst h; exact hc
              · exact hm m (by omega))
      rcases key i be 0 (by omega) (dE (by omega)) (by omega) (fun m hm => by omega) with ⟨h1, h2⟩ | ⟨h1, h2⟩
      · exact .inl ⟨fun _ => ⟨hw, h1⟩, h2⟩
      · exact .inr ⟨fun g => h1 (g hi).2, h2⟩
    · rw [e]
      exact .inr ⟨fun g => hw (g hi).1, rfl⟩
theorem sF {ws : List (List UInt8)} (hn : ws.length < 1000000000000) (hl : ∀ w ∈ ws, w.length < 1000000000000) : Dec (eL ws) (rn ws) := by
  unfold eL
  refine kv (Lp := eD ws) (n := ws.length) (Q := fun i => ∀ h : i < ws.length, tf ws[i] ∧ ∀ j, (hj : j < i) → ws[i] ≠ ws[j]) 0 (fun k i hi => ?_) (fun k i _ hi => ?_) hn
  · show (if _ then _ else _) = _
    rw [if_neg (by simp; omega)]
  · rw [eD]
    rw [if_pos (by simp; omega), aV hi, aG (by omega)]
    simp only [bS]
    rcases (wP (hl _ (List.getElem_mem hi))).cases with ⟨e, hw⟩ | ⟨e, hw⟩
    · rw [e]
      simp only [Option.bind_some, Bool.not_true, Bool.false_eq_true, if_false]
      have hs : sub ws 0 (i : Int) = some (ws.take i) := by
        unfold sub
        rw [if_pos (by omega)]
        simp
      rw [hs]
      simp only [bS]
      unfold dC ek
      have hf := qb (Lp := cr (ws.take i) ws[i]) (n := i) (Q := fun j => ∀ hj : j < i, ws[i] = ws[j]) (fun k j hj => by
        show (if _ then _ else _) = _
        rw [if_neg (by simp; omega)]) (fun k j hj => by
        rw [cr]
        rw [if_pos (by simp; omega), aV (show j < (ws.take i).length by simp; omega), aG (by omega)]
        simp only [Option.bind_some, List.getElem_take]
        by_cases hc : ws[i] = ws[j]
        · rw [if_pos (by simpa using hc)]
          exact .inl ⟨fun _ => hc, rfl⟩
        · rw [if_neg (by simpa using hc)]
          exact .inr ⟨fun g => hc (g hj), rfl⟩) (by omega)
      rcases hf.cases with ⟨e2, j, hj, hQ⟩ | ⟨e2, hQ⟩
      · rw [e2]
        exact .inr ⟨fun g => (g hi).2 j hj (hQ hj), rfl⟩
      · rw [e2]
        exact .inl ⟨fun _ => ⟨hw, fun j hj hc => hQ ⟨j, hj, fun _ => hc⟩⟩, rfl⟩
    · rw [e]
      exact .inr ⟨fun g => hw (g hi).1, rfl⟩
def AX (l : List Int) : Prop := ∀ i, 0 ≤ i → i < l.length → ∀ h : i < l.length, (-9999 ≤ l[i] ∧ l[i] ≤ 9998) ∧ ∀ h0 : 0 < i, l[i - 1] < l[i]
theorem AW {l : List Int} (hn : l.length < 1000000000000) : Dec (nh l) ((1 ≤ (l.length : Int) ∧ (l.length : Int) ≤ 3) ∧ AX l) := by
  unfold nh bN
  simp only [bS]
  by_cases h : 1 ≤ (l.length : Int) ∧ (l.length : Int) ≤ 3
  · rw [oO h]
    simp only [if_true]
    have ha : Dec (fR l) (∀ i, 1 ≤ i → i < l.length → ∀ (h : i < l.length), l[i - 1] < l[i]) := by
      unfold fR
      refine kv (Lp := eF l) (n := l.length) (Q := fun i => ∀ (h : i < l.length), l[i - 1] < l[i]) 1 (fun k i hi => ?_) (fun k i h1 hi => ?_) hn
      · show (if _ then _ else _) = _
        rw [if_neg (by simp; omega)]
      · rw [eF]
        rw [if_pos (by simp; omega), aV hi, aG (by omega), bp (by omega) (by omega), show (i : Int) - 1 = ((i - 1 : Nat) : Int) by omega, aV (show i - 1 < l.length by omega)]
        simp only [bS]
        by_cases hc : l[i] ≤ l[i - 1]
        · rw [if_pos (by simpa using hc)]
          exact .inr ⟨fun g => by have := g hi; omega, rfl⟩
        · rw [if_neg (by simpa using hc)]
          exact .inl ⟨fun _ => by omega, rfl⟩
    rcases ha.cases with ⟨e, hA⟩ | ⟨e, hA⟩
    · rw [e]
      simp only [Option.bind_some, if_true]
      unfold cH cQ
      have hf := qb (Lp := bK l) (n := l.length) (Q := fun j => ∀ hj : j < l.length, ¬ (-9999 ≤ l[j] ∧ l[j] ≤ 9998)) (fun k j hj => by
        show (if _ then _ else _) = _
        rw [if_neg (by simp; omega)]) (fun k j hj => by
        rw [bK]
        rw [if_pos (by simp; omega), aV hj, aG (by omega)]
        unfold mW pq bN
        simp only [bS]
        by_cases hc : -9999 ≤ l[j] ∧ l[j] ≤ 9998
        · rw [oO hc]
          exact .inr ⟨fun g => g hj hc, rfl⟩
        · rw [oU hc]
          exact .inl ⟨fun _ => hc, rfl⟩) hn
      rcases hf.cases with ⟨e2, j, hj, hQ⟩ | ⟨e2, hQ⟩
      · rw [e2]
        exact cw fun g => hQ hj (g.2 j (Nat.zero_le _) hj hj).1
      · rw [e2]
        exact oh ⟨h, fun i _ hi _ => ⟨Classical.byContradiction fun c => hQ ⟨i, hi, fun _ => c⟩, fun h0 => hA i h0 hi hi⟩⟩
    · rw [e]
      exact cw fun g => hA fun i h1 hi h2 => (g.2 i (Nat.zero_le _) hi h2).2 h1
  · rw [oU h]
    exact cw fun g => h g.1
end Go.Vk
/- Attributes: weighed, copied, compared; FullMask. -/
namespace Go.Vk
def lB (x : bc) : Prop := tf x.B_ ∧ ((x.u_.length = 0 ∧ (2 ≤ (x.A_.length : Int) ∧ (x.A_.length : Int) ≤ 4) ∧ rn x.A_) ∨ (x.A_.length = 0 ∧ (1 ≤ (x.u_.length : Int) ∧ (x.u_.length : Int) ≤ 3) ∧ AX x.u_))
def OkM (x : bc) : Prop := x.B_.length < 1000000000000 ∧ x.u_.length < 1000000000000 ∧ x.A_.length < 1000000000000 ∧ ∀ y ∈ x.A_, y.length < 1000000000000
theorem pl {x : bc} (hx : OkM x) : Dec (jQ x) (lB x) := by
  obtain ⟨h1, h2, h3, h4⟩ := hx
  unfold jQ lB
  rcases (xy h1).cases with ⟨e, hw⟩ | ⟨e, hw⟩
  · rw [e]
    simp only [Option.bind_some, Bool.not_true, Bool.false_eq_true, if_false]
    by_cases hc : x.u_.length = 0
    · rw [if_pos (by rw [beq_iff_eq]; omega)]
      unfold bm
      simp only [bS]
      by_cases hv : 2 ≤ (x.A_.length : Int) ∧ (x.A_.length : Int) ≤ 4
      · rw [oO hv]
        simp only [if_true]
        rcases (vu h3 h4).cases with ⟨e2, hW⟩ | ⟨e2, hW⟩
        · rw [e2]; exact oh ⟨hw, .inl ⟨hc, hv, hW⟩⟩
        · rw [e2]; exact cw fun g => by rcases g.2 with ⟨_, _, g⟩ | ⟨_, g, _⟩ <;> first | exact hW g | omega
      · rw [oU hv]
        exact cw fun g => by rcases g.2 with ⟨_, g, _⟩ | ⟨_, g, _⟩ <;> omega
    · rw [if_neg (by rw [beq_iff_eq]; omega)]
      by_cases hb : 0 < x.A_.length ∨ 3 < x.u_.length
      · rw [if_pos (by simp; omega)]
        exact cw fun g => by rcases g.2 with ⟨g, _, _⟩ | ⟨_, g, _⟩ <;> omega
      · rw [if_neg (by rw [Bool.or_eq_true, decide_eq_true_eq, decide_eq_true_eq]; omega)]
        have ha : Dec (gY x be 0) (AX x.u_) := by
          refine kv (Lp := gY x) (n := x.u_.length) (Q := fun i => ∀ h : i < x.u_.length, (-9999 ≤ x.u_[i] ∧ x.u_[i] ≤ 9998) ∧ ∀ h0 : 0 < i, x.u_[i - 1] < x.u_[i]) 0 (fun k i hi => ?_) (fun k i _ hi => ?_) h2
          · show (if _ then _ else _) = _
            rw [if_neg (by simp; omega)]
          · rw [gY]
            rw [if_pos (by simp; omega), aV hi, aG (by omega)]
            unfold bm
            simp only [bS]
            by_cases hr : -9999 ≤ x.u_[i] ∧ x.u_[i] ≤ 9998
            · rw [oO hr]
              simp only [Bool.not_true, Bool.false_eq_true, if_false]
              by_cases h0 : 0 < i
              · rw [if_pos (by simp; omega), bp (by omega) (by omega), show (i : Int) - 1 = ((i - 1 : Nat) : Int) by omega, aV (show i - 1 < x.u_.length by omega)]
                simp only [bS]
                by_cases hle : x.u_[i] ≤ x.u_[i - 1]
                · rw [if_pos (by simpa using hle)]
                  exact .inr ⟨fun g => by have := (g hi).2 h0; omega, rfl⟩
                · rw [if_neg (by simpa using hle)]
                  exact .inl ⟨fun _ => ⟨hr, fun _ => by omega⟩, rfl⟩
              · rw [if_neg (by simp; omega)]
                exact .inl ⟨fun _ => ⟨hr, fun h => absurd h h0⟩, rfl⟩
            · rw [oU hr]
              exact .inr ⟨fun g => hr (g hi).1, rfl⟩
        exact ha.of_iff ⟨fun g => ⟨hw, .inr ⟨by omega, by omega, g⟩⟩, fun g => by rcases g.2 with ⟨g, _, _⟩ | ⟨_, _, g⟩; exact absurd g hc; exact g⟩
  · rw [e]
    exact cw fun g => hw g.1
theorem qr {x : bc} (hx : OkM x) : Dec (ky x) (lB x) := by
  obtain ⟨h1, h2, h3, h4⟩ := hx
  unfold ky lB
  rcases (wP h1).cases with ⟨e, hw⟩ | ⟨e, hw⟩
  · rw [e]
    simp only [Option.bind_some, Bool.not_true, Bool.false_eq_true, if_false]
    by_cases hc : x.u_.length = 0
    · rw [if_pos (by rw [beq_iff_eq]; omega)]
      unfold bN
      simp only [bS]
      by_cases hv : 2 ≤ (x.A_.length : Int) ∧ (x.A_.length : Int) ≤ 4
      · rw [oO hv]
        simp only [if_true]
        rcases (sF h3 h4).cases with ⟨e2, hW⟩ | ⟨e2, hW⟩
        · rw [e2]; exact oh ⟨hw, .inl ⟨hc, hv, hW⟩⟩
        · rw [e2]; exact cw fun g => by rcases g.2 with ⟨_, _, g⟩ | ⟨_, g, _⟩ <;> first | exact hW g | omega
      · rw [oU hv]
        exact cw fun g => by rcases g.2 with ⟨_, g, _⟩ | ⟨_, g, _⟩ <;> omega
    · rw [if_neg (by rw [beq_iff_eq]; omega)]
      by_cases hb : x.A_.length = 0
      · rw [if_pos (by rw [beq_iff_eq]; omega)]
        rcases (AW h2).cases with ⟨e2, hC⟩ | ⟨e2, hC⟩
        · rw [e2]; exact oh ⟨hw, .inr ⟨hb, hC.1, hC.2⟩⟩
        · rw [e2]; exact cw fun g => by
            rcases g.2 with ⟨g, _, _⟩ | ⟨_, g, g'⟩
            · exact hc g
            · exact hC ⟨g, g'⟩
      · rw [if_neg (by rw [beq_iff_eq]; omega)]
        exact cw fun g => by rcases g.2 with ⟨g, _, _⟩ | ⟨g, _, _⟩ <;> omega
  · rw [e]
    exact cw fun g => hw g.1
end Go.Vk
/- FullMask answers alike. -/
namespace Go.Vk
theorem rz {n : Nat} (hn : n ≤ 40) : lk (n : Int) = some ((2 ^ n : Nat) : Int) := by
  unfold lk
  have key : ∀ (d k i : Nat), i + d = n → d < k → jC (n : Int) k ((2 ^ i : Nat) : Int) (i : Int) = some ((2 ^ n : Nat) : Int) := by
    intro d
    induction d with
    | zero =>
      intro k i hd hk
      obtain ⟨k, rfl⟩ : ∃ q, k = q + 1 := ⟨k - 1, by omega⟩
      rw [jC]
      rw [if_neg (by simp; omega), show i = n by omega]
    | succ d ih =>
      intro k i hd hk
      obtain ⟨k, rfl⟩ : ∃ q, k = q + 1 := ⟨k - 1, by omega⟩
      rw [jC]
      have hp : (2 : Nat) ^ i ≤ 2 ^ 40 := Nat.pow_le_pow_right (by omega) (by omega)
      have e : IntKind.i64.wrap (((2 ^ i : Nat) : Int) * 2) = ((2 ^ (i + 1) : Nat) : Int) := by
        rw [Nat.pow_succ]
        generalize (2 : Nat) ^ i = q at hp
        rw [bp (by omega) (by omega)]; omega
      rw [if_pos (decide_eq_true (by omega)), e, aG (by omega)]
      exact ih k (i + 1) (by omega) (by omega)
  exact key n be 0 (by omega) (dE (by omega))
theorem qL {x : bc} (hx : OkM x) (h : lB x) : ∃ n : Nat, dV x = some (n : Int) ∧ el x = some (n : Int) ∧ 2 ≤ n ∧ n ≤ 4 := by
  unfold dV el
  rcases (pl hx).cases with ⟨e, _⟩ | ⟨_, g⟩
  · rw [e]
    simp only [Option.bind_some, Bool.not_true, Bool.false_eq_true, if_false]
    rcases h.2 with ⟨h1, h2, _⟩ | ⟨h1, h2, _⟩
    · rw [if_neg (fun g => by have := of_decide_eq_true g; omega)]
      exact ⟨_, rfl, rfl, by omega, by omega⟩
    · rw [if_pos (decide_eq_true (by omega)), aG (by omega)]
      exact ⟨_, rfl, rfl, by omega, by omega⟩
  · exact absurd h g
end Go.Vk
/- Schemas: tested, weighed, copied, compared; AllRoom. -/
namespace Go.Vk
def xO (l : List bc) : Prop := ∀ i, 0 ≤ i → i < l.length → ∀ h : i < l.length, lB l[i] ∧ ∀ j, (hj : j < i) → l[i].B_ ≠ l[j].B_
def dv (x : ab) : Prop := (1 ≤ (x.b_.length : Int) ∧ (x.b_.length : Int) ≤ 5) ∧ (2 ≤ (x.l_.length : Int) ∧ (x.l_.length : Int) ≤ 3) ∧ rn x.l_ ∧ xO x.b_
def OkS (x : ab) : Prop := x.b_.length < 1000000000 ∧ (∀ a ∈ x.b_, OkM a) ∧ x.l_.length < 1000000000000 ∧ ∀ y ∈ x.l_, y.length < 1000000000000
theorem zR {x : ab} (hx : OkS x) : Dec (dq x be 0) (xO x.b_) := by
  obtain ⟨h1, h2, _, _⟩ := hx
  refine kv (Lp := dq x) (n := x.b_.length) (Q := fun i => ∀ h : i < x.b_.length, lB x.b_[i] ∧ ∀ j, (hj : j < i) → x.b_[i].B_ ≠ x.b_[j].B_) 0 (fun k i hi => ?_) (fun k i _ hi => ?_) (by omega)
  · show (if _ then _ else _) = _
    rw [if_neg (by simp; omega)]
  · rw [dq]
    rw [if_pos (by simp; omega), aV hi]
    simp only [bS]
    rcases (pl (h2 _ (List.getElem_mem hi))).cases with ⟨e, hw⟩ | ⟨e, hw⟩
    · rw [e]
      simp only [Option.bind_some, Bool.not_true, Bool.false_eq_true, if_false]
      have key : ∀ (d q j : Nat), i - j = d → d < q → (hj : j ≤ i) → (∀ m, (hm : m < j) → x.b_[i].B_ ≠ (x.b_[m]'(by omega)).B_) →
          ((∀ m, (hm : m < i) → x.b_[i].B_ ≠ x.b_[m].B_) ∧ fc i x (dq x k) q (j : Int) = dq x k ((i + 1 : Nat) : Int)) ∨ ((¬ ∀ m, (hm : m < i) → x.b_[i].B_ ≠ x.b_[m].B_) ∧ fc i x (dq x k) q (j : Int) = some false) := by
        intro d
        induction d with
        | zero =>
          intro q j hd hq hj hm
          obtain ⟨q, rfl⟩ : ∃ r, q = r + 1 := ⟨q - 1, by omega⟩
          rw [fc]
          rw [if_neg (by simp; omega), aG (by omega)]
          exact .inl ⟨fun m hm' => hm m (by omega), rfl⟩
        | succ d ih =>
          intro q j hd hq hj hm
          obtain ⟨q, rfl⟩ : ∃ r, q = r + 1 := ⟨q - 1, by omega⟩
          rw [fc]
          rw [if_pos (by simp; omega), aV hi, aV (show j < x.b_.length by omega)]
          simp only [bS]
          by_cases hc : x.b_[i].B_ = x.b_[j].B_
          · rw [if_pos (by simpa using hc)]
            exact .inr ⟨fun g => g j (by omega) hc, rfl⟩
          · rw [if_neg (by simpa using hc), aG (by omega)]
            exact ih q (j + 1) (by omega) (by omega) (by omega) (fun m hm' => by
              by_cases h : m = j
              · subst h; exact hc
              · exact hm m (by omega))
      rcases key i be 0 (by omega) (dE (by omega)) (by omega) (fun m hm => by omega) with ⟨h1, h2⟩ | ⟨h1, h2⟩
      · exact .inl ⟨fun _ => ⟨hw, h1⟩, h2⟩
      · exact .inr ⟨fun g => h1 (g hi).2, h2⟩
    · rw [e]
      exact .inr ⟨fun g => hw (g hi).1, rfl⟩
theorem zE {x : ab} (hx : OkS x) : Dec (er x be 0 []) (xO x.b_) := by
  obtain ⟨h1, h2, _, _⟩ := hx
  have hW : Dec (eL (x.b_.map bc.B_)) (rn (x.b_.map bc.B_)) := sF (by simp; omega) (fun w hw => by
    obtain ⟨a, ha, rfl⟩ := List.mem_map.1 hw
    exact (h2 a ha).1)
  have key : ∀ (d k i : Nat), x.b_.length - i = d → d < k → i ≤ x.b_.length → Dec (er x k (i : Int) ((x.b_.take i).map bc.B_)) ((∀ j, i ≤ j → ∀ hj : j < x.b_.length, lB x.b_[j]) ∧ rn (x.b_.map bc.B_)) := by
    intro d
    induction d with
    | zero =>
      intro k i hd hk hi
      obtain ⟨k, rfl⟩ : ∃ q, k = q + 1 := ⟨k - 1, by omega⟩
      rw [er]
      rw [if_neg (by simp; omega), List.take_of_length_le (by omega)]
      have : ∀ o : Option Bool, (o.bind fun y => some y) = o := fun o => by cases o <;> rfl
      rw [this]
      exact hW.of_iff ⟨fun g => ⟨fun j h3 h4 => by omega, g⟩, fun g => g.2⟩
    | succ d ih =>
      intro k i hd hk hi
      obtain ⟨k, rfl⟩ : ∃ q, k = q + 1 := ⟨k - 1, by omega⟩
      have hlt : i < x.b_.length := by omega
      rw [er]
      rw [if_pos (by simp; omega), aV hlt]
      simp only [bS]
      rcases (qr (h2 _ (List.getElem_mem hlt))).cases with ⟨e, hw⟩ | ⟨e, hw⟩
      · rw [e]
        simp only [Option.bind_some, Bool.not_true, Bool.false_eq_true, if_false]
        rw [de (by simp; omega)]
        simp only [bS]
        rw [aG (by omega), show (x.b_.take i).map bc.B_ ++ [x.b_[i].B_] = (x.b_.take (i + 1)).map bc.B_ by rw [List.take_succ_eq_append_getElem hlt, List.map_append]; rfl]
        refine (ih k (i + 1) (by omega) (by omega) (by omega)).of_iff ⟨fun g => ⟨fun j h3 h4 => ?_, g.2⟩, fun g => ⟨fun j h3 h4 => g.1 j (by omega) h4, g.2⟩⟩
        by_cases hj : j = i
        · subst hj; exact hw
        · exact g.1 j (by omega) h4
      · rw [e]
        exact cw fun g => hw (g.1 i (Nat.le_refl _) hlt)
  have := key x.b_.length be 0 (by omega) (dE (by omega)) (by omega)
  have h0 : Dec (er x be 0 []) ((∀ j, 0 ≤ j → ∀ hj : j < x.b_.length, lB x.b_[j]) ∧ rn (x.b_.map bc.B_)) := this
  refine h0.of_iff ⟨fun g i _ _ h => ⟨g.1 i (Nat.zero_le _) h, fun j hj hc => ?_⟩, fun g => ⟨fun j _ hj => (g j (Nat.zero_le _) hj hj).1, fun i _ _ h => ?_⟩⟩
  · have := (g.2 i (Nat.zero_le _) (by simpa using h) (by simpa using h)).2 j hj
    simp at this
    exact this hc
  · have hi : i < x.b_.length := by simpa using h
    obtain ⟨g1, g2⟩ := g i (Nat.zero_le _) hi hi
    exact ⟨by simpa using g1.1, fun j hj => by simpa using g2 j hj⟩
theorem ka {x : ab} (hx : OkS x) : Dec (eS x) (dv x) := by
  have hN := zR hx
  obtain ⟨h1, h2, h3, h4⟩ := hx
  unfold eS bm dv
  simp only [bS]
  by_cases ha : 1 ≤ (x.b_.length : Int) ∧ (x.b_.length : Int) ≤ 5
  · rw [oO ha]
    simp only [Bool.not_true, Bool.false_eq_true, if_false]
    by_cases hc : 2 ≤ (x.l_.length : Int) ∧ (x.l_.length : Int) ≤ 3
    · rw [oO hc]
      simp only [Option.bind_some, Bool.not_true, Bool.false_eq_true, if_false]
      rcases (vu h3 h4).cases with ⟨e, hW⟩ | ⟨e, hW⟩
      · rw [e]
        simp only [Option.bind_some, Bool.not_true, Bool.false_eq_true, if_false]
        exact hN.of_iff ⟨fun g => ⟨ha, hc, hW, g⟩, fun g => g.2.2.2⟩
      · rw [e]
        exact cw fun g => hW g.2.2.1
    · rw [oU hc]
      exact cw fun g => hc g.2.1
  · rw [oU ha]
    exact cw fun g => ha g.1
theorem lG {x : ab} (hx : OkS x) : Dec (fy x) (dv x) := by
  have hN := zE hx
  obtain ⟨h1, h2, h3, h4⟩ := hx
  unfold fy bN dv
  simp only [bS]
  by_cases ha : 1 ≤ (x.b_.length : Int) ∧ (x.b_.length : Int) ≤ 5
  · rw [oO ha]
    simp only [Bool.not_true, Bool.false_eq_true, if_false]
    by_cases hc : 2 ≤ (x.l_.length : Int) ∧ (x.l_.length : Int) ≤ 3
    · rw [oO hc]
      simp only [Option.bind_some, Bool.not_true, Bool.false_eq_true, if_false]
      rcases (sF h3 h4).cases with ⟨e, hW⟩ | ⟨e, hW⟩
      · rw [e]
        simp only [Option.bind_some, Bool.not_true, Bool.false_eq_true, if_false]
        exact hN.of_iff ⟨fun g => ⟨ha, hc, hW, g⟩, fun g => g.2.2.2⟩
      · rw [e]
        exact cw fun g => hW g.2.2.1
    · rw [oU hc]
      exact cw fun g => hc g.2.1
  · rw [oU ha]
    exact cw fun g => ha g.1
end Go.Vk
/- Masks. -/
namespace Go.Vk
theorem Ec (x f : BitVec 64) : x &&& ~~~f = 0#64 ↔ x &&& f = x := by
  constructor
  · intro h
    ext i hi
    have := congrArg (fun b => b.getLsbD i) h
    simp [hi] at this
    simp
    exact this
  · intro h
    ext i hi
    have := congrArg (fun b => b.getLsbD i) h
    simp [hi] at this
    simp
    exact this
theorem xo {e : Int} {F : Nat} (hF : F ≤ 31) : bi .and .i64 e F = (((BitVec.ofInt 64 e &&& BitVec.ofInt 64 F).toNat : Nat) : Int) ∧ (BitVec.ofInt 64 e &&& BitVec.ofInt 64 F).toNat ≤ 31 := by
  have h : (BitVec.ofInt 64 e &&& BitVec.ofInt 64 (F : Int)).toNat ≤ 31 := by
    rw [BitVec.toNat_and, rf F (by omega)]
    exact Nat.le_trans Nat.and_le_right hF
  refine ⟨?_, h⟩
  show IntKind.i64.wrap _ = _
  exact gM (by show (BitVec.ofInt 64 e &&& BitVec.ofInt 64 (F : Int)).toNat < _; omega)
theorem Bs {e : Int} {F : Nat} : bi .andNot .i64 e F = 0 ↔ BitVec.ofInt 64 e &&& BitVec.ofInt 64 F = BitVec.ofInt 64 e := by
  rw [← Ec]
  show IntKind.i64.wrap (((BitVec.ofInt 64 e &&& ~~~(BitVec.ofInt 64 (F : Int))).toNat : Nat) : Int) = 0 ↔ _
  generalize BitVec.ofInt 64 e &&& ~~~(BitVec.ofInt 64 (F : Int)) = x
  have hx := x.isLt
  rw [IntKind.wrap_i64]
  constructor
  · intro h
    apply BitVec.eq_of_toNat_eq
    show x.toNat = 0
    omega
  · intro h
    rw [h]
    simp
theorem zd {e : Int} {F : Nat} (he : -9223372036854775808 ≤ e ∧ e ≤ 9223372036854775807) (hF : F ≤ 31) : bi .andNot .i64 e F = 0 ↔ (0 ≤ e ∧ bi .and .i64 e F = e) := by
  obtain ⟨h1, h2⟩ := xo (e := e) hF
  rw [Bs, h1]
  constructor
  · intro h
    rw [h] at h2 ⊢
    have : (BitVec.ofInt 64 e).toNat = (e % 18446744073709551616).toNat := BitVec.toNat_ofInt ..
    omega
  · rintro ⟨h0, h⟩
    apply BitVec.eq_of_toNat_eq
    have : (BitVec.ofInt 64 e).toNat = (e % 18446744073709551616).toNat := BitVec.toNat_ofInt ..
    omega
end Go.Vk
/- Two texts of data, walked side by side. -/
namespace Go.Vk
def kN {ρ : Type} (a b : Option ρ) (Q : ρ → Prop) : Prop := ∃ m, a = some m ∧ b = some m ∧ Q m
theorem jc {ρ : Type} {m : ρ} {Q : ρ → Prop} (h : Q m) : kN (some m) (some m) Q := ⟨m, rfl, rfl, h⟩
theorem kN.mono {ρ : Type} {a b : Option ρ} {Q R : ρ → Prop} (h : kN a b Q) (f : ∀ m, Q m → R m) : kN a b R := by
  obtain ⟨m, h1, h2, h3⟩ := h
  exact ⟨m, h1, h2, f m h3⟩
theorem kN.bind {α ρ : Type} {a b : Option α} {Q : α → Prop} {f g : α → Option ρ} {R : ρ → Prop} (h : kN a b Q) (k : ∀ m, Q m → kN (f m) (g m) R) : kN (a.bind f) (b.bind g) R := by
  obtain ⟨m, h1, h2, h3⟩ := h
  rw [h1, h2]
  exact k m h3
theorem mZ {ρ : Type} {c d : Prop} [Decidable c] [Decidable d] {a b a' b' : Option ρ} {Q : ρ → Prop} (e : c ↔ d) (h : c → kN a b Q) (h' : ¬ c → kN a' b' Q) : kN (if c then a else a') (if d then b else b') Q := by
  by_cases hc : c
  · rw [if_pos hc, if_pos (e.1 hc)]; exact h hc
  · rw [if_neg hc, if_neg (fun hd => hc (e.2 hd))]; exact h' hc
theorem rM {ρ : Type} {a b : Option Bool} {P : Prop} {f g : Bool → Option ρ} {R : ρ → Prop} (h : Dec a P) (h' : Dec b P) (ht : P → kN (f true) (g true) R) (hf : ¬ P → kN (f false) (g false) R) : kN (a.bind f) (b.bind g) R := by
  rw [← h.eq h']
  rcases h.cases with ⟨e, hp⟩ | ⟨e, hp⟩
  · rw [e]; exact ht hp
  · rw [e]; exact hf hp
theorem tY {σ τ ρ : Type} (Lp : Nat → σ → Int → Option ρ) (Lq : Nat → τ → Int → Option ρ) (n : Nat) (I : Nat → σ → τ → Prop) {Q : ρ → Prop}
    (hz : ∀ k s t, I n s t → kN (Lp (k + 1) s (n : Int)) (Lq (k + 1) t (n : Int)) Q)
    (hs : ∀ k s t i, i < n → I i s t → (∀ s' t', I (i + 1) s' t' → kN (Lp k s' ((i + 1 : Nat) : Int)) (Lq k t' ((i + 1 : Nat) : Int)) Q) → kN (Lp (k + 1) s (i : Int)) (Lq (k + 1) t (i : Int)) Q)
    (hn : n < 1000000000000) {s : σ} {t : τ} (h0 : I 0 s t) : kN (Lp be s 0) (Lq be t 0) Q := by
  have key : ∀ (d k i : Nat) (s : σ) (t : τ), n - i = d → d < k → i ≤ n → I i s t → kN (Lp k s (i : Int)) (Lq k t (i : Int)) Q := by
    intro d
    induction d with
    | zero =>
      intro k i s t hd hk hi h
      obtain ⟨k, rfl⟩ : ∃ q, k = q + 1 := ⟨k - 1, by omega⟩
      have : i = n := by omega
      subst this
      exact hz k s t h
    | succ d ih =>
      intro k i s t hd hk hi h
      obtain ⟨k, rfl⟩ : ∃ q, k = q + 1 := ⟨k - 1, by omega⟩
      exact hs k s t i (by omega) h (fun s' t' h' => ih k (i + 1) s' t' (by omega) (by omega) (by omega) h')
  exact key n be 0 s t (by omega) (dE hn) (Nat.zero_le _) h0
end Go.Vk
/- Statistics: tested alike; the greatest of a list. -/
namespace Go.Vk
theorem uH {a : bc} (h : ln a) : OkM a := by
  obtain ⟨h1, h2, h3⟩ := h
  exact ⟨by omega, by have := h2.1; omega, by have := h3.1; omega, fun y hy => by have := h3.2 y hy; omega⟩
theorem iO {s : ab} (h : aU s) : OkS s := by
  obtain ⟨h1, h2⟩ := h
  exact ⟨by have := h1.1; omega, fun a ha => uH (h1.2 a ha), by have := h2.1; omega, fun y hy => by have := h2.2 y hy; omega⟩
theorem pf {o : Option Bool} {P R : Prop} {f : Bool → Option Bool} (h : Dec o P) (ht : P → Dec (f true) R) (hf : ¬ P → Dec (f false) R) : Dec (o.bind f) R := by
  rcases h.cases with ⟨e, hp⟩ | ⟨e, hp⟩
  · rw [e]; exact ht hp
  · rw [e]; exact hf hp
theorem BU {c : Prop} [Decidable c] {P R : Prop} {a b : Option Bool} (e : c ↔ P) (ht : P → Dec a R) (hf : ¬ P → Dec b R) : Dec (if c then a else b) R := by
  by_cases hc : c
  · rw [if_pos hc]; exact ht (e.1 hc)
  · rw [if_neg hc]; exact hf (fun hp => hc (e.2 hp))
theorem fg {x a b : Int} : Dec (bN x a b) (a ≤ x ∧ x ≤ b) := BG
theorem da {x a b : Int} : Dec (bm x a b) (a ≤ x ∧ x ≤ b) := BG
def nb (a : bc) : Nat := if 0 < a.u_.length then a.u_.length + 1 else a.A_.length
theorem kj {a : bc} (hx : ln a) : el a = some (nb a : Int) := by
  have h1 := hx.2.1.1
  unfold el nb
  by_cases h0 : 0 < a.u_.length
  · rw [if_pos (by simpa using h0), if_pos h0, aG (by omega)]
  · rw [if_neg (by simpa using h0), if_neg h0]
theorem nG {a : bc} (h : lB a) : 2 ≤ nb a ∧ nb a ≤ 4 := by
  unfold nb
  rcases h.2 with ⟨h1, h2, _⟩ | ⟨h1, h2, _⟩
  · rw [if_neg (by omega)]; omega
  · rw [if_pos (by omega)]; omega
theorem kB {a : bc} (hx : ln a) (h : lB a) : dV a = some (nb a : Int) := by
  obtain ⟨n, b1, b2, _⟩ := qL (uH hx) h
  rw [b1, ← b2, kj hx]
theorem dv.attr {s : ab} (h : dv s) {i : Nat} (hi : i < s.b_.length) : lB s.b_[i] := (h.2.2.2 i (Nat.zero_le _) hi hi).1
def ko (l : List Int) (c k : Nat) : Nat → Int
  | 0 => 0
  | b + 1 => ko l c k b + l.getD (b * c + k) 0
def uW (c n : Nat) (tot l : List Int) : Prop := l.length = n * c ∧ (∀ x ∈ l, 0 ≤ x ∧ x ≤ 999) ∧ ∀ k, k < c → ko l c k n ≤ tot.getD k 0
def pz (s : ab) (t : av) : Prop := dv s ∧ t.e_.length = s.l_.length ∧ (∀ x ∈ t.e_, 0 ≤ x ∧ x ≤ 999) ∧ t.e_.sum ≤ 999 ∧
  (t.d_.length = 0 ∨ (t.d_.length = s.b_.length ∧ ∀ i (h : i < t.d_.length) (h2 : i < s.b_.length), uW s.l_.length (nb s.b_[i]) t.e_ t.d_[i]))
theorem Bw {l : List Int} (h : ∀ x ∈ l, 0 ≤ x ∧ x ≤ 999) (i : Nat) : 0 ≤ l.getD i 0 ∧ l.getD i 0 ≤ 999 := by
  rw [List.getD_eq_getElem?_getD]
  by_cases hi : i < l.length
  · rw [List.getElem?_eq_getElem hi]; exact h _ (List.getElem_mem hi)
  · rw [List.getElem?_eq_none (by omega)]; simp
theorem lY {l : List Int} {i : Nat} (h : i < l.length) : l.getD i 0 = l[i] := by simp [h]
theorem Aw {l : List Int} {c k : Nat} (h : ∀ x ∈ l, 0 ≤ x ∧ x ≤ 999) : ∀ n : Nat, 0 ≤ ko l c k n ∧ ko l c k n ≤ 999 * n
  | 0 => by simp [ko]
  | n + 1 => by
    have := Aw (c := c) (k := k) h n
    have := Bw h (n * c + k)
    simp only [ko]
    omega
theorem zN {l : List Int} {c k : Nat} (h : ∀ x ∈ l, 0 ≤ x ∧ x ≤ 999) {n m : Nat} (hm : n ≤ m) : ko l c k n ≤ ko l c k m := by
  induction m with
  | zero => rw [show n = 0 by omega]; exact Int.le_refl _
  | succ m ih =>
    by_cases e : n = m + 1
    · rw [e]; exact Int.le_refl _
    · have := ih (by omega)
      have := Bw h (m * c + k)
      simp only [ko]
      omega
theorem uv {l : List Int} (hl : l.length ≤ 1048576) (n : Int) : Dec (kP l n) ((l.length : Int) = n ∧ ∀ x ∈ l, 0 ≤ x ∧ x ≤ 999) := by
  unfold kP
  by_cases hn : (l.length : Int) = n
  · rw [if_pos (by simpa using hn)]
    have hf : Dec (cl l) (∃ i, i < l.length ∧ ∀ h : i < l.length, ¬ (0 ≤ l[i] ∧ l[i] ≤ 999)) := by
      unfold cl cK
      refine qb (Lp := bI l) (n := l.length) (fun k i hi => ?_) (fun k i hi => ?_) (by omega)
      · show (if _ then _ else _) = _
        rw [if_neg (by simp; omega)]
      · rw [bI, if_pos (by simp; omega), aV hi, aG (by omega)]
        unfold mc bN
        simp only [bS]
        by_cases h : 0 ≤ l[i] ∧ l[i] ≤ 999
        · rw [oO h]; exact .inr ⟨fun g => g hi h, rfl⟩
        · rw [oU h]; exact .inl ⟨fun _ => h, rfl⟩
    rcases hf.cases with ⟨e, i, hi, h⟩ | ⟨e, h⟩
    · rw [e]; exact cw fun g => h hi (g.2 _ (List.getElem_mem hi))
    · rw [e]; exact oh ⟨hn, fun x hx => by
        obtain ⟨i, hi, rfl⟩ := List.getElem_of_mem hx
        exact Classical.byContradiction fun c => h ⟨i, hi, fun _ => c⟩⟩
  · rw [if_neg (by simpa using hn)]
    exact cw fun g => hn g.1
theorem uF {p : List Int} (hb : ∀ x ∈ p, 0 ≤ x ∧ x ≤ 1000000000) (hl : p.length ≤ 1048576) : lH p = some p.sum := by
  unfold lH
  have h := xp (p := p) (fun x => x) (jq p) some (fun k s => by
    show (if _ then _ else _) = _
    rw [if_neg (by simp)]) (fun k s i hi => by
    rw [jq, if_pos (by simp; omega), aV hi, aG (by omega)]
    rfl) hb (by omega)
  simpa using h
theorem wI {s : ab} (hS : dv s) {l : List Int} (h1 : l.length = s.l_.length) (h2 : ∀ x ∈ l, 0 ≤ x ∧ x ≤ 999) : 0 ≤ l.sum ∧ l.sum ≤ 2997 := by
  have h := sd h2
  have := hS.2.1
  omega
def lI (l : List Int) (c i : Nat) : List Int := (List.range c).map fun k => ko l c k (i / c + if k < i % c then 1 else 0)
theorem pw (l : List Int) (c i : Nat) : (lI l c i).length = c := by simp [lI]
theorem nS {l : List Int} {c i k : Nat} (h : k < c) : (lI l c i)[k]'(by simpa [lI] using h) = ko l c k (i / c + if k < i % c then 1 else 0) := by simp [lI]
theorem th {l : List Int} {c i : Nat} (hc : 0 < c) : lI l c (i + 1) = (lI l c i).set (i % c) (ko l c (i % c) (i / c + 1)) := by
  have hm := Nat.mod_lt i hc
  have hd := Nat.div_add_mod i c
  apply List.ext_getElem (by simp [lI])
  intro k h1 h2
  have hk : k < c := by simpa [lI] using h1
  rw [nS hk, List.getElem_set]
  by_cases hlast : i % c + 1 = c
  · have e1 : (i + 1) / c = i / c + 1 := by
      have : i + 1 = c * (i / c + 1) := by rw [Nat.mul_add, Nat.mul_one]; omega
      rw [this, Nat.mul_div_cancel_left _ hc]
    have e2 : (i + 1) % c = 0 := by
      have : i + 1 = c * (i / c + 1) := by rw [Nat.mul_add, Nat.mul_one]; omega
      rw [this, Nat.mul_mod_right]
    rw [e1, e2, if_neg (by omega)]
    by_cases he : i % c = k
    · rw [if_pos he, he]
    · rw [if_neg he, nS hk, if_pos (by omega)]
  · have e1 : (i + 1) / c = i / c := by
      have : i + 1 = (i % c + 1) + c * (i / c) := by omega
      rw [this, Nat.add_mul_div_left _ _ hc, Nat.div_eq_of_lt (by omega), Nat.zero_add]
    have e2 : (i + 1) % c = i % c + 1 := by
      have : i + 1 = (i % c + 1) + c * (i / c) := by omega
      rw [this, Nat.add_mul_mod_self_left, Nat.mod_eq_of_lt (by omega)]
    rw [e1, e2]
    by_cases he : i % c = k
    · rw [if_pos he, if_pos (by omega), he]
    · rw [if_neg he, nS hk]
      by_cases hlt : k < i % c
      · rw [if_pos (by omega), if_pos hlt]
      · rw [if_neg (by omega), if_neg hlt]
theorem wV (l : List Int) (c : Nat) : lI l c 0 = List.replicate c 0 := by
  apply List.ext_getElem (by simp [lI])
  intro k h1 h2
  have hk : k < c := by simpa [lI] using h1
  rw [nS hk]
  simp [ko]
theorem xW {s : ab} {t : av} {l : List Int} {n : Nat} (hS : dv s) (hT : t.e_.length = s.l_.length) (hn : n ≤ 4) (h1 : l.length = n * s.l_.length) (h2 : ∀ x ∈ l, 0 ≤ x ∧ x ≤ 999) (R : Int → Option Bool) (i : Nat) (hi : i ≤ 1048576) :
    ((∀ k, k < s.l_.length → ko l s.l_.length k n ≤ t.e_.getD k 0 ∨ n = 0) ∧ dt l s t R (i : Int) be 0 (List.replicate s.l_.length 0) = R ((i + 1 : Nat) : Int)) ∨
    ((¬ ∀ k, k < s.l_.length → ko l s.l_.length k n ≤ t.e_.getD k 0 ∨ n = 0) ∧ dt l s t R (i : Int) be 0 (List.replicate s.l_.length 0) = some false) := by
  have hcb : 2 ≤ s.l_.length ∧ s.l_.length ≤ 3 := by have := hS.2.1; omega
  generalize hc : s.l_.length = c at *
  have hc0 : 0 < c := by omega
  have hlen : l.length ≤ 12 := by
    have : n * c ≤ 4 * 3 := Nat.mul_le_mul hn hcb.2
    omega
  rw [← wV l c]
  rcases tX (Lp := fun k j => dt l s t R (i : Int) k (j : Int) (lI l c j)) (n := l.length) (Q := fun j => ko l c (j % c) (j / c + 1) ≤ t.e_.getD (j % c) 0) (fin := R ((i + 1 : Nat) : Int)) (bad := some false) (fun k _ => by
      show dt l s t R (i : Int) (k + 1) _ _ = _
      rw [dt, if_neg (by simp), aG (by omega)]) (fun k j hj _ => by
      show (_ ∧ dt l s t R (i : Int) (k + 1) _ _ = _) ∨ (_ ∧ dt l s t R (i : Int) (k + 1) _ _ = _)
      have hm := Nat.mod_lt j hc0
      have hrem : rem (j : Int) (c : Int) = some ((j % c : Nat) : Int) := by
        unfold rem
        rw [if_neg (by omega), um]
      have hjd : j / c * c + j % c = j := by rw [Nat.mul_comm]; exact Nat.div_add_mod j c
      have hval : ko l c (j % c) (j / c + 1) = ko l c (j % c) (j / c) + l[j] := by
        simp only [ko]
        rw [hjd, lY hj]
      have hb := Aw (c := c) (k := j % c) h2 (j / c)
      have hdv : j / c ≤ 12 := Nat.le_trans (Nat.div_le_self _ _) (by omega)
      have hlj := h2 _ (List.getElem_mem hj)
      have hg : (lI l c j)[j % c]'(by rw [pw]; exact hm) = ko l c (j % c) (j / c) := by
        rw [nS hm, if_neg (by omega)]; rfl
      have hw : IntKind.i64.wrap (ko l c (j % c) (j / c) + l[j]) = ko l c (j % c) (j / c + 1) := by
        rw [hval, bp (by omega) (by omega)]
      rw [dt, if_pos (by simp; omega), aV hj, hc, hrem]
      simp only [bS]
      rw [aV (by rw [pw]; exact hm), hg]
      simp only [Option.bind_some, Int.toNat_natCast]
      rw [hw, ← th hc0, aV (by rw [pw]; exact hm), aV (by omega : j % c < t.e_.length)]
      simp only [bS]
      have hg2 : (lI l c (j + 1))[j % c]'(by rw [pw]; exact hm) = ko l c (j % c) (j / c + 1) := by
        simp only [th hc0, List.getElem_set_self]
      rw [hg2, lY (by omega : j % c < t.e_.length), aG (by omega)]
      by_cases hq : ko l c (j % c) (j / c + 1) ≤ t.e_[j % c]
      · rw [if_neg (by simpa using hq)]
        exact .inl ⟨hq, rfl⟩
      · rw [if_pos (by simpa using hq)]
        exact .inr ⟨hq, rfl⟩) (by omega) with ⟨h3, h4⟩ | ⟨h3, h4⟩
  · refine .inl ⟨fun k hk => ?_, h4⟩
    by_cases hn0 : n = 0
    · exact .inr hn0
    · left
      have hlt : (n - 1) * c + k < l.length := by
        rw [h1]
        obtain ⟨m, rfl⟩ : ∃ m, n = m + 1 := ⟨n - 1, by omega⟩
        rw [Nat.add_sub_cancel, Nat.add_mul]; omega
      have := h3 _ hlt
      rw [show ((n - 1) * c + k) % c = k by rw [Nat.mul_comm, Nat.mul_add_mod, Nat.mod_eq_of_lt hk], show ((n - 1) * c + k) / c + 1 = n by rw [Nat.mul_comm, Nat.mul_add_div hc0, Nat.div_eq_of_lt hk]; omega] at this
      exact this
  · refine .inr ⟨fun g => h3 fun j hj => ?_, h4⟩
    have hm := Nat.mod_lt j hc0
    rcases g _ hm with g | g
    · refine Int.le_trans (zN h2 ?_) g
      have : j / c < n := Nat.div_lt_of_lt_mul (by rw [Nat.mul_comm]; omega)
      omega
    · rw [h1, g, Nat.zero_mul] at hj
      omega
theorem vE {s : ab} {t : av} (hs : aU s) (ht : fk t) : Dec (kR s t) (pz s t) := by
  unfold kR pz
  refine pf (lG (iO hs)) (fun hS => ?_) (fun g => cw fun h => g h.1)
  simp only [Bool.not_true, Bool.false_eq_true, if_false]
  have hl := ht.1.1
  have hl2 := ht.2.1
  rcases (uv hl (s.l_.length : Int)).cases with ⟨e, hw⟩ | ⟨e, hw⟩
  · rw [e]
    simp only [Option.bind_some, Bool.not_true, Bool.false_eq_true, if_false]
    have hT : t.e_.length = s.l_.length := by omega
    rw [uF (fun x hx => by have := hw.2 x hx; omega) hl]
    simp only [bS]
    by_cases hsum : t.e_.sum ≤ 999
    · rw [if_neg (by simp; omega)]
      by_cases h0 : t.d_.length = 0
      · rw [if_pos (by simp; exact List.length_eq_zero_iff.1 h0)]
        exact oh ⟨hS, hT, hw.2, hsum, .inl h0⟩
      · rw [if_neg (by rw [beq_iff_eq]; omega)]
        by_cases hn : t.d_.length = s.b_.length
        · rw [if_neg (by simp [hn])]
          refine (rS (Lp := fun k i => dh t s k (i : Int)) (n := t.d_.length) (Q := fun i => ∀ (h : i < t.d_.length) (h2 : i < s.b_.length), uW s.l_.length (nb s.b_[i]) t.e_ t.d_[i]) (F := True) (fun k _ => ?_) (fun k i hi _ => ?_) (by omega)).of_iff
            ⟨fun g => ⟨hS, hT, hw.2, hsum, .inr ⟨hn, fun i h h2 => g.1 i h h h2⟩⟩, fun g => ⟨fun i _ h h2 => by
              rcases g.2.2.2.2 with g | g
              · exact absurd g h0
              · exact g.2 i h h2, trivial⟩⟩
          · show Dec (dh t s (k + 1) _) _
            rw [dh, if_neg (by simp)]
            exact oh trivial
          · show (_ ∧ dh t s (k + 1) _ = dh t s k _) ∨ (_ ∧ dh t s (k + 1) _ = _)
            have ha : i < s.b_.length := by omega
            have hA := hs.1.2 _ (List.getElem_mem ha)
            have hnb := nG (hS.attr ha)
            have hcl := ht.2.2 _ (List.getElem_mem hi)
            have hc := hS.2.1
            have hmul : nb s.b_[i] * s.l_.length ≤ 4 * 3 := Nat.mul_le_mul (by omega) (by omega)
            rw [dh, if_pos (by simp; omega), aV hi, aV ha]
            simp only [bS]
            rw [kj hA]
            simp only [bS]
            have hw2 : IntKind.i64.wrap ((nb s.b_[i] : Int) * (s.l_.length : Int)) = ((nb s.b_[i] * s.l_.length : Nat) : Int) := by
              rw [← Int.natCast_mul, gM (by omega)]
            rw [hw2]
            rcases (uv hcl.1 ((nb s.b_[i] * s.l_.length : Nat) : Int)).cases with ⟨e2, h2⟩ | ⟨e2, h2⟩
            · rw [e2]
              simp only [Option.bind_some, Bool.not_true, Bool.false_eq_true, if_false]
              unfold pD
              rw [AB _ (by omega)]
              simp only [bS]
              have hlen : t.d_[i].length = nb s.b_[i] * s.l_.length := by omega
              rcases xW (t := t) hS hT hnb.2 hlen h2.2 (dh t s k) i (by omega) with ⟨h3, h4⟩ | ⟨h3, h4⟩
              · exact .inl ⟨fun _ _ => ⟨hlen, h2.2, fun k hk => by
                  rcases h3 k hk with g | g
                  · exact g
                  · omega⟩, h4⟩
              · exact .inr ⟨fun g => h3 fun k hk => .inl ((g hi ha).2.2 k hk), h4⟩
            · rw [e2]
              exact .inr ⟨fun g => h2 ⟨by have := (g hi ha).1; omega, (g hi ha).2.1⟩, rfl⟩
        · rw [if_pos (by simp; omega)]
          exact cw fun g => by
            rcases g.2.2.2.2 with g | g
            · exact h0 g
            · exact hn g.1
    · rw [if_pos (by simp; omega)]
      exact cw fun g => hsum g.2.2.2.1
  · rw [e]
    exact cw fun g => hw ⟨by have := g.2.1; omega, g.2.2.1⟩
theorem xG {s : ab} {t : av} {l : List Int} {n i : Nat} (hS : dv s) (hT : t.e_.length = s.l_.length) (hn : n ≤ 4) (hi : i < t.d_.length) (hl : t.d_[i] = l) (h1 : l.length = n * s.l_.length) (R : Int → Option Bool) (hi2 : i ≤ 1048576) :
    (((∀ x ∈ l, 0 ≤ x ∧ x ≤ 999) ∧ ∀ k, k < s.l_.length → ko l s.l_.length k n ≤ t.e_.getD k 0) ∧ bY s (n : Int) t (i : Int) R be 0 = R ((i + 1 : Nat) : Int)) ∨
    ((¬ ((∀ x ∈ l, 0 ≤ x ∧ x ≤ 999) ∧ ∀ k, k < s.l_.length → ko l s.l_.length k n ≤ t.e_.getD k 0)) ∧ bY s (n : Int) t (i : Int) R be 0 = some false) := by
  have hcb : 2 ≤ s.l_.length ∧ s.l_.length ≤ 3 := by have := hS.2.1; omega
  generalize hc : s.l_.length = c at *
  have hc0 : 0 < c := by omega
  have hpos : ∀ k b, k < c → b < n → b * c + k < l.length := fun k b hk hb => by
    rw [h1]
    have : (b + 1) * c ≤ n * c := Nat.mul_le_mul_right _ hb
    rw [Nat.add_mul] at this; omega
  rcases tX (Lp := fun q k => bY s (n : Int) t (i : Int) R q (k : Int)) (n := c) (Q := fun k => (∀ b, b < n → 0 ≤ l.getD (b * c + k) 0 ∧ l.getD (b * c + k) 0 ≤ 999) ∧ ko l c k n ≤ t.e_.getD k 0) (fin := R ((i + 1 : Nat) : Int)) (bad := some false) (fun q _ => by
      show bY s (n : Int) t (i : Int) R (q + 1) _ = _
      rw [bY, hc, if_neg (by simp), aG (by omega)]) (fun q k hk _ => by
      show (_ ∧ bY s (n : Int) t (i : Int) R (q + 1) _ = bY s (n : Int) t (i : Int) R q _) ∨ (_ ∧ bY s (n : Int) t (i : Int) R (q + 1) _ = _)
      rw [bY, hc, if_pos (by simp; omega)]
      rcases tX (Lp := fun q2 b => dg (n : Int) t (i : Int) s (k : Int) (bY s (n : Int) t (i : Int) R q) q2 (ko l c k b) (b : Int)) (n := n) (Q := fun b => 0 ≤ l.getD (b * c + k) 0 ∧ l.getD (b * c + k) 0 ≤ 999)
          (fin := if ko l c k n ≤ t.e_.getD k 0 then bY s (n : Int) t (i : Int) R q ((k + 1 : Nat) : Int) else some false) (bad := some false) (fun q2 _ => by
          show dg (n : Int) t (i : Int) s (k : Int) (bY s (n : Int) t (i : Int) R q) (q2 + 1) _ _ = _
          rw [dg, if_neg (by simp), aV (by omega : k < t.e_.length), aG (by omega), lY (by omega : k < t.e_.length)]
          simp only [bS]
          by_cases g : ko l c k n ≤ t.e_[k]
          · rw [if_pos g, if_neg (by simpa using g)]
          · rw [if_neg g, if_pos (by simpa using g)]) (fun q2 b hb hQ => by
          show (_ ∧ dg (n : Int) t (i : Int) s (k : Int) (bY s (n : Int) t (i : Int) R q) (q2 + 1) _ _ = dg (n : Int) t (i : Int) s (k : Int) (bY s (n : Int) t (i : Int) R q) q2 _ _) ∨ (_ ∧ dg (n : Int) t (i : Int) s (k : Int) (bY s (n : Int) t (i : Int) R q) (q2 + 1) _ _ = _)
          have hlt := hpos k b hk hb
          have hbc : b * c ≤ 4 * 3 := Nat.mul_le_mul (by omega) (by omega)
          have hw : IntKind.i64.wrap (IntKind.i64.wrap ((b : Int) * (c : Int)) + (k : Int)) = ((b * c + k : Nat) : Int) := by
            rw [← Int.natCast_mul, gM (by omega), ← Int.natCast_add, gM (by omega)]
          have hcs : ∀ m, m ≤ b → 0 ≤ ko l c k m ∧ ko l c k m ≤ 999 * m := fun m => by
            induction m with
            | zero => intro _; simp [ko]
            | succ m ih =>
              intro hm
              have h3 := ih (by omega)
              have h4 := hQ m (by omega)
              simp only [ko]
              omega
          have hcb2 := hcs b (Nat.le_refl _)
          rw [dg, if_pos (by simp; omega), aV hi, hc, hw]
          simp only [bS]
          rw [hl, aV hlt]
          simp only [bS]
          unfold bm
          simp only [bS]
          have hgd := lY hlt
          by_cases g : 0 ≤ l[b * c + k] ∧ l[b * c + k] ≤ 999
          · rw [oO g, hgd]
            simp only [Bool.not_true, Bool.false_eq_true, if_false]
            rw [bp (n := ko l c k b + l[b * c + k]) (by omega) (by omega), aG (by omega)]
            refine .inl ⟨g, ?_⟩
            congr 1
            simp only [ko]
            rw [hgd]
          · rw [oU g, hgd]
            exact .inr ⟨g, rfl⟩) (by omega) with ⟨h3, h4⟩ | ⟨h3, h4⟩
      · have h4 : dg (n : Int) t (i : Int) s (k : Int) (bY s (n : Int) t (i : Int) R q) be 0 0 = _ := h4
        rw [h4]
        by_cases g : ko l c k n ≤ t.e_.getD k 0
        · rw [if_pos g]; exact .inl ⟨⟨h3, g⟩, rfl⟩
        · rw [if_neg g]; exact .inr ⟨fun x => g x.2, rfl⟩
      · have h4 : dg (n : Int) t (i : Int) s (k : Int) (bY s (n : Int) t (i : Int) R q) be 0 0 = _ := h4
        rw [h4]
        exact .inr ⟨fun x => h3 x.1, rfl⟩) (by omega) with ⟨h3, h4⟩ | ⟨h3, h4⟩
  · refine .inl ⟨⟨fun x hx => ?_, fun k hk => (h3 k hk).2⟩, h4⟩
    obtain ⟨j, hj, rfl⟩ := List.getElem_of_mem hx
    have hm := Nat.mod_lt j hc0
    have hjd : j / c * c + j % c = j := by rw [Nat.mul_comm]; exact Nat.div_add_mod j c
    have := (h3 _ hm).1 (j / c) (Nat.div_lt_of_lt_mul (by rw [Nat.mul_comm]; omega))
    rw [hjd, lY hj] at this
    exact this
  · refine .inr ⟨fun g => h3 fun k hk => ⟨fun b hb => ?_, g.2 k hk⟩, h4⟩
    rw [lY (hpos k b hk hb)]
    exact g.1 _ (List.getElem_mem _)
theorem jJ {s : ab} {t : av} (hs : aU s) (ht : fk t) : Dec (eZ s t) (pz s t) := by
  unfold eZ pz
  refine pf (ka (iO hs)) (fun hS => ?_) (fun g => cw fun h => g h.1)
  have hl := ht.1.1
  have hl2 := ht.2.1
  by_cases hT : t.e_.length = s.l_.length
  · rw [if_neg (by simp [hT])]
    have hcb : 2 ≤ s.l_.length ∧ s.l_.length ≤ 3 := by have := hS.2.1; omega
    have hD : (∀ i, i < t.e_.length → ∀ h : i < t.e_.length, 0 ≤ t.e_[i] ∧ t.e_[i] ≤ 999) → Dec (if decide (t.e_.sum > 999) then some false else if ((t.d_.length : Int) == 0) then some true else if ((t.d_.length : Int) != (s.b_.length : Int)) then some false else cN t s be 0) (t.e_.sum ≤ 999 ∧
        (t.d_.length = 0 ∨ (t.d_.length = s.b_.length ∧ ∀ i (h : i < t.d_.length) (h2 : i < s.b_.length), uW s.l_.length (nb s.b_[i]) t.e_ t.d_[i]))) := fun _ => by
      by_cases hsum : t.e_.sum ≤ 999
      · rw [if_neg (by simp; omega)]
        by_cases h0 : t.d_.length = 0
        · rw [if_pos (by simp; exact List.length_eq_zero_iff.1 h0)]
          exact oh ⟨hsum, .inl h0⟩
        · rw [if_neg (by rw [beq_iff_eq]; omega)]
          by_cases hn : t.d_.length = s.b_.length
          · rw [if_neg (by simp [hn])]
            refine (rS (Lp := fun k i => cN t s k (i : Int)) (n := t.d_.length) (Q := fun i => ∀ (h : i < t.d_.length) (h2 : i < s.b_.length), uW s.l_.length (nb s.b_[i]) t.e_ t.d_[i]) (F := True) (fun k _ => ?_) (fun k i hi _ => ?_) (by omega)).of_iff
              ⟨fun g => ⟨hsum, .inr ⟨hn, fun i h h2 => g.1 i h h h2⟩⟩, fun g => ⟨fun i _ h h2 => by
                rcases g.2 with g | g
                · exact absurd g h0
                · exact g.2 i h h2, trivial⟩⟩
            · show Dec (cN t s (k + 1) _) _
              rw [cN, if_neg (by simp)]
              exact oh trivial
            · show (_ ∧ cN t s (k + 1) _ = cN t s k _) ∨ (_ ∧ cN t s (k + 1) _ = _)
              have ha : i < s.b_.length := by omega
              have hA := hs.1.2 _ (List.getElem_mem ha)
              have hnb := nG (hS.attr ha)
              have hmul : nb s.b_[i] * s.l_.length ≤ 4 * 3 := Nat.mul_le_mul (by omega) (by omega)
              have hw2 : IntKind.i64.wrap ((nb s.b_[i] : Int) * (s.l_.length : Int)) = ((nb s.b_[i] * s.l_.length : Nat) : Int) := by
                rw [← Int.natCast_mul, gM (by omega)]
              rw [cN, if_pos (by simp; omega), aV hi, aV ha]
              simp only [bS]
              rw [kB hA (hS.attr ha)]
              simp only [bS]
              rw [hw2]
              by_cases hlen : t.d_[i].length = nb s.b_[i] * s.l_.length
              · rw [if_neg (by rw [bne_iff_ne]; omega)]
                rcases xG hS hT hnb.2 hi rfl hlen (cN t s k) (by omega) with ⟨h3, h4⟩ | ⟨h3, h4⟩
                · exact .inl ⟨fun _ _ => ⟨hlen, h3.1, h3.2⟩, h4⟩
                · exact .inr ⟨fun g => h3 ⟨(g hi ha).2.1, (g hi ha).2.2⟩, h4⟩
              · rw [if_pos (by rw [bne_iff_ne]; omega)]
                exact .inr ⟨fun g => hlen (g hi ha).1, rfl⟩
          · rw [if_pos (by simp; omega)]
            exact cw fun g => by
              rcases g.2 with g | g
              · exact h0 g
              · exact hn g.1
      · rw [if_pos (by simp; omega)]
        exact cw fun g => hsum g.1
    refine Dec.of_iff (P := (∀ i, i < t.e_.length → ∀ h : i < t.e_.length, 0 ≤ t.e_[i] ∧ t.e_[i] ≤ 999) ∧ (t.e_.sum ≤ 999 ∧
        (t.d_.length = 0 ∨ (t.d_.length = s.b_.length ∧ ∀ i (h : i < t.d_.length) (h2 : i < s.b_.length), uW s.l_.length (nb s.b_[i]) t.e_ t.d_[i])))) ?_ ⟨fun g => ⟨hS, hT, fun x hx => by
        obtain ⟨i, hi, rfl⟩ := List.getElem_of_mem hx
        exact g.1 i hi hi, g.2⟩, fun g => ⟨fun i hi _ => g.2.2.1 _ (List.getElem_mem hi), g.2.2.2⟩⟩
    have := rS (Lp := fun k i => dH t s k (t.e_.take i).sum (i : Int)) (n := t.e_.length) (Q := fun i => ∀ h : i < t.e_.length, 0 ≤ t.e_[i] ∧ t.e_[i] ≤ 999) (F := t.e_.sum ≤ 999 ∧
        (t.d_.length = 0 ∨ (t.d_.length = s.b_.length ∧ ∀ i (h : i < t.d_.length) (h2 : i < s.b_.length), uW s.l_.length (nb s.b_[i]) t.e_ t.d_[i]))) (fun k hQ => by
      show Dec (dH t s (k + 1) _ _) _
      rw [dH, if_neg (by simp), List.take_length]
      exact hD hQ) (fun k i hi hQ => by
      show (_ ∧ dH t s (k + 1) _ _ = dH t s k _ _) ∨ (_ ∧ dH t s (k + 1) _ _ = _)
      have hb := sd (p := t.e_.take i) (b := 999) (fun x hx => by
        obtain ⟨j, hj, rfl⟩ := List.getElem_of_mem hx
        have hj2 : j < i := by have : j < (t.e_.take i).length := hj; simp at this; omega
        rw [List.getElem_take]
        exact hQ j hj2 (by omega))
      have hlt : ((t.e_.take i).length : Int) ≤ 3 := by simp; omega
      rw [dH, if_pos (by simp; omega), aV hi]
      unfold bm
      simp only [bS]
      by_cases g : 0 ≤ t.e_[i] ∧ t.e_[i] ≤ 999
      · rw [oO g]
        simp only [Bool.not_true, Bool.false_eq_true, if_false]
        rw [bp (n := (t.e_.take i).sum + t.e_[i]) (by omega) (by omega), aG (by omega), wY hi]
        exact .inl ⟨fun _ => g, rfl⟩
      · rw [oU g]
        exact .inr ⟨fun x => g (x hi), rfl⟩) (by omega)
    simpa using this
  · rw [if_pos (by simp; omega)]
    exact cw fun g => hT g.2.1
end Go.Vk
/- Forks: tested alike. -/
namespace Go.Vk
def ru (a : bc) : Int := (nb a : Int) - (if 0 < a.u_.length then 2 else 1)
def atr (s : ab) (f : aq) : bc := s.b_.getD f.j_.toNat default
def kG (s : ab) (f : aq) : Prop := dv s ∧ (0 ≤ f.j_ ∧ f.j_ ≤ (s.b_.length : Int) - 1) ∧ (-1 ≤ f.c_ ∧ f.c_ ≤ ru (atr s f))
theorem po {s : ab} {f : aq} (h : 0 ≤ f.j_ ∧ f.j_ ≤ (s.b_.length : Int) - 1) : ∃ (i : Nat) (hi : i < s.b_.length), f.j_ = i ∧ atr s f = s.b_[i] := by
  refine ⟨f.j_.toNat, by omega, by omega, ?_⟩
  unfold atr
  simp [show f.j_.toNat < s.b_.length by omega]
theorem nJ {s : ab} {f : aq} (h : 0 ≤ f.j_ ∧ f.j_ ≤ (s.b_.length : Int) - 1) : idx s.b_ f.j_ = some (atr s f) := by
  obtain ⟨i, hi, e1, e2⟩ := po h
  rw [e1, e2, aV hi]
theorem oC {s : ab} {f : aq} (h : 0 ≤ f.j_ ∧ f.j_ ≤ (s.b_.length : Int) - 1) : atr s f ∈ s.b_ := by
  obtain ⟨i, hi, e1, e2⟩ := po h
  rw [e2]; exact List.getElem_mem hi
theorem om {s : ab} {f : aq} (hS : dv s) (h : 0 ≤ f.j_ ∧ f.j_ ≤ (s.b_.length : Int) - 1) : lB (atr s f) := by
  obtain ⟨i, hi, e1, e2⟩ := po h
  rw [e2]; exact hS.attr hi
theorem kE {s : ab} {f : aq} (hs : aU s) : Dec (ga s f) (kG s f) := by
  unfold ga kG
  refine pf (ka (iO hs)) (fun hS => ?_) (fun g => cw fun h => g h.1)
  have hn := hs.1.1
  simp only [Bool.not_true, Bool.false_eq_true, if_false]
  rw [bp (n := (s.b_.length : Int) - 1) (by omega) (by omega)]
  rcases (da (x := f.j_) (a := 0) (b := (s.b_.length : Int) - 1)).cases with ⟨e, hr⟩ | ⟨e, hr⟩
  · rw [e]
    simp only [Option.bind_some, Bool.not_true, Bool.false_eq_true, if_false]
    have hm := hs.1.2 _ (oC hr)
    have hA := om hS hr
    have hnb := nG hA
    rw [nJ hr]
    simp only [bS]
    rw [kB hm hA]
    simp only [bS]
    unfold ru
    refine BU (P := 0 < (atr s f).u_.length) (by simp) (fun h => ?_) (fun h => ?_)
    · rw [if_pos h, bp (by omega) (by omega)]
      have : ∀ o : Option Bool, (o.bind fun y => some y) = o := fun o => by cases o <;> rfl
      rw [this]
      exact da.of_iff ⟨fun g => ⟨hS, hr, g⟩, fun g => g.2.2⟩
    · rw [if_neg h, bp (by omega) (by omega)]
      have : ∀ o : Option Bool, (o.bind fun y => some y) = o := fun o => by cases o <;> rfl
      rw [this]
      exact da.of_iff ⟨fun g => ⟨hS, hr, g⟩, fun g => g.2.2⟩
  · rw [e]
    exact cw fun g => hr g.2.1
theorem uB {s : ab} {f : aq} (hs : aU s) : Dec (lK s f) (kG s f) := by
  unfold lK kG
  refine pf (lG (iO hs)) (fun hS => ?_) (fun g => cw fun h => g h.1)
  have hn := hs.1.1
  simp only [Bool.not_true, Bool.false_eq_true, if_false]
  rw [bp (n := (s.b_.length : Int) - 1) (by omega) (by omega)]
  rcases (fg (x := f.j_) (a := 0) (b := (s.b_.length : Int) - 1)).cases with ⟨e, hr⟩ | ⟨e, hr⟩
  · rw [e]
    simp only [Option.bind_some, Bool.not_true, Bool.false_eq_true, if_false]
    have hm := hs.1.2 _ (oC hr)
    have hA := om hS hr
    have hnb := nG hA
    rw [nJ hr]
    simp only [bS]
    rw [kj hm]
    simp only [bS]
    unfold ru
    have hid : ∀ o : Option Bool, (o.bind fun y => some y) = o := fun o => by cases o <;> rfl
    refine BU (P := 0 < (atr s f).u_.length) (by simp) (fun h => ?_) (fun h => ?_)
    · rw [if_pos h, bp (n := (nb (atr s f) : Int) - 1) (by omega) (by omega), bp (by omega) (by omega), hid, show (nb (atr s f) : Int) - 1 - 1 = (nb (atr s f) : Int) - 2 by omega]
      exact fg.of_iff ⟨fun g => ⟨hS, hr, g⟩, fun g => g.2.2⟩
    · rw [if_neg h, bp (by omega) (by omega), hid]
      exact fg.of_iff ⟨fun g => ⟨hS, hr, g⟩, fun g => g.2.2⟩
  · rw [e]
    exact cw fun g => hr g.2.1
end Go.Vk
