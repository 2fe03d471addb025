/- Functions of data of other seats, to lean on. -/
import Derived.Test.YtdckhcfbccnjiaaGreatRF
import Derived.Test.YtdckhcfbccnjiaaGreatVkQ
namespace Go.Vk
noncomputable def mp (p0 : List UInt8) : Nat → Int → Option (Bool)
  | 0, _ => none
  | k1 + 1, a =>
    if decide (a < (p0.length : Int)) then (idx p0 a).bind fun c => (if decide ((c.toNat : Int) < 97) then some true else (idx p0 a).bind fun d => some (decide ((d.toNat : Int) > 122))).bind fun e => if e then some false else (mp p0 k1) (IntKind.i64.wrap (a + 1)) else some true
noncomputable def oM (p0 : List UInt8) : Option (Bool) :=
  (bQ (p0.length : Int) 1 8).bind fun a => if (!a) then some false else mp p0 aY 0
noncomputable def dz (p0 : List (List UInt8)) (p1 : List UInt8) : Nat → Int → Option (Int)
  | 0, _ => none
  | k1 + 1, a =>
    if decide (a < (p0.length : Int)) then (idx p0 a).bind fun c => if (p1 == c) then some a else (dz p0 p1 k1) (IntKind.i64.wrap (a + 1)) else some (-1)
noncomputable def je (p0 : List (List UInt8)) (p1 : List UInt8) : Option (Int) :=
  dz p0 p1 aY 0
noncomputable def iq (p0 : List (List UInt8)) (p1 : List UInt8) : Option (Bool) :=
  (je p0 p1).bind fun a => some (decide (a ≥ 0))
noncomputable def jd (p0 : List (List UInt8)) : Nat → Int → Option (Bool)
  | 0, _ => none
  | k1 + 1, a =>
    if decide (a < (p0.length : Int)) then (idx p0 a).bind fun c => (oM c).bind fun d => (if (!d) then some true else (sub p0 0 a).bind fun e => (iq e c).bind fun f => some f).bind fun g => if g then some false else (jd p0 k1) (IntKind.i64.wrap (a + 1)) else some true
noncomputable def gE (p0 : List (List UInt8)) : Option (Bool) :=
  jd p0 aY 0
noncomputable def kt (p0 : List Int) : Nat → Int → Option (Bool)
  | 0, _ => none
  | k1 + 1, a =>
    if decide (a < (p0.length : Int)) then (idx p0 a).bind fun c => (idx p0 (IntKind.i64.wrap (a - 1))).bind fun d => if decide (c ≤ d) then some false else (kt p0 k1) (IntKind.i64.wrap (a + 1)) else some true
noncomputable def om (p0 : List Int) : Option (Bool) :=
  kt p0 aY 1
noncomputable def uY (p0 : Int) : Option (Bool) :=
  (bQ p0 (-9999) 9998).bind fun a => some a
noncomputable def rk (p0 : Int) : Option (Bool) :=
  (uY p0).bind fun a => some (!a)
noncomputable def cu (p0 : List Int) : Nat → Int → Option (Int)
  | 0, _ => none
  | k1 + 1, a =>
    if decide (a < (p0.length : Int)) then (idx p0 a).bind fun c => (rk c).bind fun d => if d then some a else (cu p0 k1) (IntKind.i64.wrap (a + 1)) else some (-1)
noncomputable def fu (p0 : List Int) : Option (Int) :=
  cu p0 aY 0
noncomputable def eQ (p0 : List Int) : Option (Bool) :=
  (fu p0).bind fun a => some (decide (a ≥ 0))
noncomputable def ql (p0 : List Int) : Option (Bool) :=
  (bQ (p0.length : Int) 1 3).bind fun a => (if a then (om p0).bind fun c => some c else some false).bind fun d => (if d then (eQ p0).bind fun e => some (!e) else some false).bind fun f => some f
noncomputable def qm (p0 : bz) : Option (Bool) :=
  (oM p0.D_).bind fun a => if (!a) then some false else if ((p0.A_.length : Int) == 0) then (bQ (p0.E_.length : Int) 2 4).bind fun c => (if c then (gE p0.E_).bind fun d => some d else some false).bind fun e => some e else (if ((p0.E_.length : Int) == 0) then (ql p0.A_).bind fun f => some f else some false).bind fun g => some g
noncomputable def gD (p0 : ae) : Nat → Int → (List (List UInt8)) → Option (Bool)
  | 0, _, _ => none
  | k1 + 1, a, d =>
    if decide (a < (p0.f_.length : Int)) then (idx p0.f_ a).bind fun c => (qm c).bind fun e => if (!e) then some false else (app d ([c.D_] : List (List UInt8))).bind fun f => (gD p0 k1) (IntKind.i64.wrap (a + 1)) f else (gE d).bind fun g => some g
noncomputable def ln (p0 : ae) : Option (Bool) :=
  (bQ (p0.f_.length : Int) 1 5).bind fun a => (if (!a) then some true else (bQ (p0.n_.length : Int) 2 3).bind fun c => some (!c)).bind fun d => (if d then some true else (gE p0.n_).bind fun e => some (!e)).bind fun f => if f then some false else gD p0 aY 0 ([] : List (List UInt8))
noncomputable def qD (p0 : Int) : Option (Bool) :=
  (bQ p0 0 999).bind fun a => some (!a)
noncomputable def cn (p0 : List Int) : Nat → Int → Option (Int)
  | 0, _ => none
  | k1 + 1, a =>
    if decide (a < (p0.length : Int)) then (idx p0 a).bind fun c => (qD c).bind fun d => if d then some a else (cn p0 k1) (IntKind.i64.wrap (a + 1)) else some (-1)
noncomputable def fk (p0 : List Int) : Option (Int) :=
  cn p0 aY 0
noncomputable def de (p0 : List Int) : Option (Bool) :=
  (fk p0).bind fun a => some (decide (a ≥ 0))
noncomputable def nS (p0 : List Int) (p1 : Int) : Option (Bool) :=
  (if ((p0.length : Int) == p1) then (de p0).bind fun a => some (!a) else some false).bind fun c => some c
noncomputable def nc (p0 : List Int) : Nat → Int → Int → Option (Int)
  | 0, _, _ => none
  | k1 + 1, c, a =>
    if decide (a < (p0.length : Int)) then (idx p0 a).bind fun d => (nc p0 k1) (IntKind.i64.wrap (c + d)) (IntKind.i64.wrap (a + 1)) else some c
noncomputable def pw (p0 : List Int) : Option (Int) :=
  nc p0 aY 0 0
noncomputable def jL (p0 : bz) : Option (Int) :=
  if decide ((p0.A_.length : Int) > 0) then some (IntKind.i64.wrap ((p0.A_.length : Int) + 1)) else some (p0.E_.length : Int)
noncomputable def uG (p0 : Int) : Option (List Int) :=
  (mk (0 : Int) p0).bind fun a => some a
noncomputable def eM (e : List Int) (p0 : ae) (p1 : ar) (R1 : Int → Option (Bool)) (f : Int) : Nat → Int → (List Int) → Option (Bool)
  | 0, _, _ => none
  | k2 + 1, a, c =>
    if decide (a < (e.length : Int)) then (idx e a).bind fun g => (rem a (p0.n_.length : Int)).bind fun d => (idx c d).bind fun h => (idx c d).bind fun _ => (rem a (p0.n_.length : Int)).bind fun i => (idx (c.set d.toNat (IntKind.i64.wrap (h + g))) i).bind fun j => (rem a (p0.n_.length : Int)).bind fun k => (idx p1.d_ k).bind fun l => if decide (j > l) then some false else (eM e p0 p1 R1 f k2) (IntKind.i64.wrap (a + 1)) (c.set d.toNat (IntKind.i64.wrap (h + g))) else R1 (IntKind.i64.wrap (f + 1))
noncomputable def eO (p1 : ar) (p0 : ae) : Nat → Int → Option (Bool)
  | 0, _ => none
  | k1 + 1, a =>
    if decide (a < (p1.b_.length : Int)) then (idx p1.b_ a).bind fun c => (idx p0.f_ a).bind fun d => (jL d).bind fun e => (nS c (IntKind.i64.wrap (e * (p0.n_.length : Int)))).bind fun f => if (!f) then some false else (uG (p0.n_.length : Int)).bind fun g => eM c p0 p1 (eO p1 p0 k1) a aY 0 g else some true
noncomputable def pD (p0 : ae) (p1 : ar) : Option (Bool) :=
  (ln p0).bind fun a => (if (!a) then some true else (nS p1.d_ (p0.n_.length : Int)).bind fun c => some (!c)).bind fun d => (if d then some true else (pw p1.d_).bind fun e => some (decide (e > 999))).bind fun f => if f then some false else if ((p1.b_.length : Int) == 0) then some true else if ((p1.b_.length : Int) != (p0.f_.length : Int)) then some false else eO p1 p0 aY 0
noncomputable def qN (p0 : ae) (p1 : au) : Option (Bool) :=
  (ln p0).bind fun d => (if (!d) then some true else (bQ p1.j_ 0 (IntKind.i64.wrap ((p0.f_.length : Int) - 1))).bind fun e => some (!e)).bind fun f => if f then some false else (idx p0.f_ p1.j_).bind fun a => (jL a).bind fun c => if decide ((a.A_.length : Int) > 0) then (bQ p1.c_ (-1) (IntKind.i64.wrap ((IntKind.i64.wrap (c - 1)) - 1))).bind fun g => some g else (bQ p1.c_ (-1) (IntKind.i64.wrap (c - 1))).bind fun h => some h
noncomputable def mG (p1 : bB) (p0 : ae) : Nat → Int → Option (Bool)
  | 0, _ => none
  | k1 + 1, a =>
    if decide (a < (p1.w_.length : Int)) then (idx p1.w_ a).bind fun e => (idx p0.f_ a).bind fun f => (jL f).bind fun c => (bQ e (-1) (IntKind.i64.wrap (c - 1))).bind fun d => if (!d) then some false else (mG p1 p0 k1) (IntKind.i64.wrap (a + 1)) else some true
noncomputable def sB (p0 : ae) (p1 : bB) : Option (Bool) :=
  (ln p0).bind fun a => (if ((!a) || ((p1.w_.length : Int) != (p0.f_.length : Int))) then some true else (bQ p1.y_ (-1) (IntKind.i64.wrap ((p0.n_.length : Int) - 1))).bind fun c => some (!c)).bind fun d => if d then some false else mG p1 p0 aY 0
noncomputable def oY (p0 : ae) (p1 : au) (p2 : Int) : Option (Int) :=
  (qN p0 p1).bind fun a => (if (!a) then some true else (idx p0.f_ p1.j_).bind fun c => (jL c).bind fun d => (bQ p2 0 (IntKind.i64.wrap (d - 1))).bind fun e => some (!e)).bind fun f => if f then some (-1) else if (p1.c_ == (-1)) then some p2 else (if (p2 == p1.c_) then some true else (idx p0.f_ p1.j_).bind fun g => some ((decide ((g.A_.length : Int) > 0)) && (decide (p2 < p1.c_)))).bind fun h => if h then some 0 else some 1
noncomputable def mg (a : aG) (c : List Int) (R1 : (List Int) → Option ((List Int) × Bool)) (d : Int) : Option ((List Int) × Bool) :=
  (idx a.t_ d).bind fun e => (app c ([e] : List Int)).bind fun f => R1 f
noncomputable def jQ (p1 : ai) (p2 : bB) (p0 : ae) : Nat → (List Int) → Option ((List Int) × Bool)
  | 0, _ => none
  | k1 + 1, c =>
    (idx c (IntKind.i64.wrap ((c.length : Int) - 1))).bind fun e => (idx p1.a_ e).bind fun a => if a.s_ then some (c, false) else (idx p2.w_ a.k_.j_).bind fun d => if decide (d ≥ 0) then (oY p0 a.k_ d).bind fun f => mg a c (jQ p1 p2 p0 k1) f else mg a c (jQ p1 p2 p0 k1) a.x_
noncomputable def ya (p0 : ae) (p1 : ai) (p2 : bB) : Option ((List Int) × Bool) :=
  jQ p1 p2 p0 aY ([0] : List Int)
noncomputable def fO (p0 : List Int) : Option (List Int) :=
  (app ([] : List Int) p0).bind fun a => some a
noncomputable def iW (p0 : List (List Int)) : Nat → (List (List Int)) → Int → Option (List (List Int))
  | 0, _, _ => none
  | k1 + 1, c, a =>
    if decide (a < (p0.length : Int)) then (idx p0 a).bind fun d => (fO d).bind fun e => (app c [e]).bind fun f => (iW p0 k1) f (IntKind.i64.wrap (a + 1)) else some c
noncomputable def pX (p0 : List (List Int)) : Option (List (List Int)) :=
  iW p0 aY ([] : List (List Int)) 0
noncomputable def ny (p0 : ar) : Option (ar) :=
  (fO p0.d_).bind fun a => (pX p0.b_).bind fun c => some (ar.mk a c)
noncomputable def iL (e : ar) (p2 : bB) (p0 : ae) (p3 : Int) (g : Int) : Nat → (List (List Int)) → Int → Option (ar × Bool)
  | 0, _, _ => none
  | k1 + 1, f, a =>
    if decide (a < (e.b_.length : Int)) then (idx f a).bind fun c => (idx p2.w_ a).bind fun h => if decide (h ≥ 0) then (idx p2.w_ a).bind fun d => (idx c (IntKind.i64.wrap ((IntKind.i64.wrap (d * (p0.n_.length : Int))) + p2.y_))).bind fun i => (idx c (IntKind.i64.wrap ((IntKind.i64.wrap (d * (p0.n_.length : Int))) + p2.y_))).bind fun _ => (iL e p2 p0 p3 g k1) (f.set a.toNat (c.set (IntKind.i64.wrap ((IntKind.i64.wrap (d * (p0.n_.length : Int))) + p2.y_)).toNat (IntKind.i64.wrap (i + p3)))) (IntKind.i64.wrap (a + 1)) else (iL e p2 p0 p3 g k1) f (IntKind.i64.wrap (a + 1)) else some ((ar.mk (e.d_.set p2.y_.toNat (IntKind.i64.wrap (g + p3))) f), true)
noncomputable def rg (p0 : ae) (p1 : ar) (p2 : bB) (p3 : Int) : Option (ar × Bool) :=
  (ny p1).bind fun a => (pD p0 p1).bind fun c => (if (!c) then some true else (sB p0 p2).bind fun d => some (!d)).bind fun e => (if (e || (p2.y_ == (-1))) then some true else (bQ p3 1 7).bind fun f => some (!f)).bind fun g => (if g then some true else (pw p1.d_).bind fun h => some (decide ((IntKind.i64.wrap (h + p3)) > 999))).bind fun i => if i then some (a, false) else (idx a.d_ p2.y_).bind fun j => (idx a.d_ p2.y_).bind fun _ => iL a p2 p0 p3 j aY a.b_ 0
noncomputable def fN (p1 : Int) (p0 : Int) : Nat → Int → Int → Option (Int)
  | 0, _, _ => none
  | k1 + 1, a, c =>
    if decide (a < p1) then (quo .i64 (IntKind.i64.wrap (c * (IntKind.i64.wrap (p0 - a)))) (IntKind.i64.wrap (a + 1))).bind fun d => (fN p1 p0 k1) (IntKind.i64.wrap (a + 1)) d else some c
noncomputable def mX (p0 : Int) (p1 : Int) : Option (Int) :=
  (bQ p0 0 20).bind fun a => (if (!a) then some true else (bQ p1 0 p0).bind fun c => some (!c)).bind fun d => if d then some 0 else fN p1 p0 aY 0 1
noncomputable def iM (p1 : Int) (p0 : Int) : Nat → Int → (List Int) → Int → Option (List Int)
  | 0, _, _, _ => none
  | k1 + 1, d, a, c =>
    if decide ((a.length : Int) < p1) then (mX (IntKind.i64.wrap ((IntKind.i64.wrap (p0 - c)) - 1)) (IntKind.i64.wrap ((IntKind.i64.wrap (p1 - (a.length : Int))) - 1))).bind fun e => if decide (d < e) then (app a ([c] : List Int)).bind fun f => (iM p1 p0 k1) d f (IntKind.i64.wrap (c + 1)) else (iM p1 p0 k1) (IntKind.i64.wrap (d - e)) a (IntKind.i64.wrap (c + 1)) else some a
noncomputable def rj (p0 : Int) (p1 : Int) (p2 : Int) : Option (List Int) :=
  (mX p0 p1).bind fun a => (bQ p2 0 (IntKind.i64.wrap (a - 1))).bind fun c => if (!c) then some ([] : List Int) else iM p1 p0 aY p2 ([] : List Int) 0
noncomputable def gT (p1 : Int) (p0 : List Int) : Nat → Int → Int → Option (Int × Int × Bool)
  | 0, _, _ => none
  | k1 + 1, c, a =>
    if decide (a < 5) then if ((decide (p1 < 0)) || (decide (p1 ≥ (IntKind.i64.wrap ((p0.length : Int) - a))))) then some (0, 0, false) else (idx p0 (IntKind.i64.wrap (p1 + a))).bind fun d => (shl .i64 (Int.tmod (IntKind.i64.wrap d) 128) (IntKind.i64.wrap (7 * a))).bind fun e => if decide ((IntKind.i64.wrap d) < 128) then if (((decide (a > 0)) && ((IntKind.i64.wrap d) == 0)) || (decide ((el .or .i64 c e) > 2147483647))) then some (0, 0, false) else some (el .or .i64 c e, IntKind.i64.wrap ((IntKind.i64.wrap (p1 + a)) + 1), true) else (gT p1 p0 k1) (el .or .i64 c e) (IntKind.i64.wrap (a + 1)) else some (0, 0, false)
noncomputable def oK (p0 : List Int) (p1 : Int) : Option (Int × Int × Bool) :=
  gT p1 p0 aY 0 0
noncomputable def kC (y1 : Int × Int × Bool) (i3 : Int) : Option (Int × Int × Bool) :=
  (bd i3 (-1000000000) 1000000000).bind fun y4 => if (!y4) then some (0, 0, false) else some (i3, y1.2.1, true)
noncomputable def kH (p0 : List Int) (p1 : Int) : Option (Int × Int × Bool) :=
  (oK p0 p1).bind fun y1 => if (!y1.2.2) then some (0, 0, false) else if ((Int.tmod y1.1 2) == 1) then kC y1 (IntKind.i64.wrap ((IntKind.i64.wrap (0 - (IntKind.i64.wrap (Int.tdiv y1.1 2)))) - 1)) else kC y1 (IntKind.i64.wrap (Int.tdiv y1.1 2))
end Go.Vk
/- The laws' types: weighed, copied, compared; the rows' frames. Printed by program. -/
namespace Go.Vk
def oA (x : List Int) : Prop := x.length ≤ 1048576 ∧ ∀ y ∈ x, (-9223372036854775808 ≤ y ∧ y ≤ 9223372036854775807)
def tA (x : List (List UInt8)) : Prop := x.length ≤ 1048576 ∧ ∀ y ∈ x, y.length ≤ 1048576
def oy (x : bz) : Prop := x.D_.length ≤ 1048576 ∧ oA x.A_ ∧ tA x.E_
def zE (x : List bz) : Prop := x.length ≤ 1048576 ∧ ∀ y ∈ x, oy y
def bK (x : ae) : Prop := zE x.f_ ∧ tA x.n_
def BZ (x : au) : Prop := (-9223372036854775808 ≤ x.j_ ∧ x.j_ ≤ 9223372036854775807) ∧ (-9223372036854775808 ≤ x.c_ ∧ x.c_ ≤ 9223372036854775807)
def zD (x : List (List Int)) : Prop := x.length ≤ 1048576 ∧ ∀ y ∈ x, oA y
def fo (x : ar) : Prop := oA x.d_ ∧ zD x.b_
def ot (x : aG) : Prop := True ∧ BZ x.k_ ∧ oA x.t_ ∧ (-9223372036854775808 ≤ x.x_ ∧ x.x_ ≤ 9223372036854775807) ∧ fo x.m_ ∧ (-9223372036854775808 ≤ x.v_ ∧ x.v_ ≤ 9223372036854775807) ∧ oA x.f_ ∧ (-9223372036854775808 ≤ x.l_ ∧ x.l_ ≤ 9223372036854775807) ∧ (-9223372036854775808 ≤ x.p_ ∧ x.p_ ≤ 9223372036854775807) ∧ (-9223372036854775808 ≤ x.q_ ∧ x.q_ ≤ 9223372036854775807)
def Am (x : List aG) : Prop := x.length ≤ 1048576 ∧ ∀ y ∈ x, ot y
def kv (x : ai) : Prop := Am x.a_ ∧ (-9223372036854775808 ≤ x.g_ ∧ x.g_ ≤ 9223372036854775807)
end Go.Vk
/- Words, cuts, attributes: tested alike. -/
namespace Go.Vk
def tv (w : List UInt8) : Prop := (1 ≤ (w.length : Int) ∧ (w.length : Int) ≤ 8) ∧ ∀ i, 0 ≤ i → (h : i < w.length) → 97 ≤ (w[i]).toNat ∧ (w[i]).toNat ≤ 122
theorem xy {w : List UInt8} (hw : w.length < 1000000000000) : Dec (lP w) (tv w) := by
  unfold lP bd tv
  simp only [bS]
  by_cases h : 1 ≤ (w.length : Int) ∧ (w.length : Int) ≤ 8
  · rw [nA h]
    simp only [Bool.not_true, Bool.false_eq_true, if_false]
    refine (mB (Lp := jb w) (n := w.length) (Q := fun i => ∀ h : i < w.length, 97 ≤ (w[i]).toNat ∧ (w[i]).toNat ≤ 122) 0 (fun k i hi => ?_) (fun k i _ hi => ?_) hw).of_iff ⟨fun g => ⟨h, fun i h0 h1 => g i h0 h1 h1⟩, fun g i h0 h1 _ => g.2 i h0 h1⟩
    · show (if _ then _ else _) = _
      rw [if_neg (by simp; omega)]
    · rw [jb]
      rw [if_pos (by simp; omega), bc hi, aI (by omega)]
      simp only [bS]
      by_cases h1 : ((w[i]).toNat : Int) < 97
      · rw [if_pos (by simpa using h1)]
        exact .inr ⟨fun g => by have := g hi; omega, rfl⟩
      · rw [if_neg (by simpa using h1)]
        simp only [bS]
        by_cases h2 : ((w[i]).toNat : Int) > 122
        · rw [if_pos (by simpa using h2)]
          exact .inr ⟨fun g => by have := g hi; omega, rfl⟩
        · rw [if_neg (by simpa using h2)]
          exact .inl ⟨fun _ => ⟨by omega, by omega⟩, rfl⟩
  · rw [oH h]
    exact dg fun g => h g.1
theorem xx {w : List UInt8} (hw : w.length < 1000000000000) : Dec (oM w) (tv w) := by
  unfold oM bQ tv
  simp only [bS]
  by_cases h : 1 ≤ (w.length : Int) ∧ (w.length : Int) ≤ 8
  · rw [nA h]
    simp only [Bool.not_true, Bool.false_eq_true, if_false]
    refine (mB (Lp := mp w) (n := w.length) (Q := fun i => ∀ h : i < w.length, 97 ≤ (w[i]).toNat ∧ (w[i]).toNat ≤ 122) 0 (fun k i hi => ?_) (fun k i _ hi => ?_) hw).of_iff ⟨fun g => ⟨h, fun i h0 h1 => g i h0 h1 h1⟩, fun g i h0 h1 _ => g.2 i h0 h1⟩
    · show (if _ then _ else _) = _
      rw [if_neg (by simp; omega)]
    · rw [mp]
      rw [if_pos (by simp; omega), bc hi, aI (by omega)]
      simp only [bS]
      by_cases h1 : ((w[i]).toNat : Int) < 97
      · rw [if_pos (by simpa using h1)]
        exact .inr ⟨fun g => by have := g hi; omega, rfl⟩
      · rw [if_neg (by simpa using h1)]
        simp only [bS]
        by_cases h2 : ((w[i]).toNat : Int) > 122
        · rw [if_pos (by simpa using h2)]
          exact .inr ⟨fun g => by have := g hi; omega, rfl⟩
        · rw [if_neg (by simpa using h2)]
          exact .inl ⟨fun _ => ⟨by omega, by omega⟩, rfl⟩
  · rw [oH h]
    exact dg fun g => h g.1
def rG (ws : List (List UInt8)) : Prop := ∀ i, 0 ≤ i → i < ws.length → ∀ h : i < ws.length, tv ws[i] ∧ ∀ j, (hj : j < i) → ws[i] ≠ ws[j]
theorem wc {ws : List (List UInt8)} (hn : ws.length < 1000000000000) (hl : ∀ w ∈ ws, w.length < 1000000000000) : Dec (kR ws) (rG ws) := by
  unfold kR
  refine mB (Lp := dX ws) (n := ws.length) (Q := fun i => ∀ h : i < ws.length, tv ws[i] ∧ ∀ j, (hj : j < i) → ws[i] ≠ ws[j]) 0 (fun k i hi => ?_) (fun k i _ hi => ?_) hn
  · show (if _ then _ else _) = _
    rw [if_neg (by simp; omega)]
  · rw [dX]
    rw [if_pos (by simp; omega), bc hi]
    simp only [bS]
    rcases (xy (hl _ (List.getElem_mem hi))).cases with ⟨e, hw⟩ | ⟨e, hw⟩
    · rw [e]
      simp only [Option.bind_some, Bool.not_true, Bool.false_eq_true, if_false]
      have key : ∀ (d q j : Nat), i - j = d → d < q → (hj : j ≤ i) → (∀ m, (hm : m < j) → ws[i] ≠ ws[m]'(by omega)) →
          ((∀ m, (hm : m < i) → ws[i] ≠ ws[m]) ∧ fv i ws (dX ws k) q (j : Int) = dX ws k ((i + 1 : Nat) : Int)) ∨ ((¬ ∀ m, (hm : m < i) → ws[i] ≠ ws[m]) ∧ fv i ws (dX ws k) q (j : Int) = some false) := by
        intro d
        induction d with
        | zero =>
          intro q j hd hq hj hm
          obtain ⟨q, rfl⟩ : ∃ r, q = r + 1 := ⟨q - 1, by omega⟩
          rw [fv]
          rw [if_neg (by simp; omega), aI (by omega)]
          exact .inl ⟨fun m hm' => hm m (by omega), rfl⟩
        | succ d ih =>
          intro q j hd hq hj hm
          obtain ⟨q, rfl⟩ : ∃ r, q = r + 1 := ⟨q - 1, by omega⟩
          rw [fv]
          rw [if_pos (by simp; omega), bc hi, bc (show j < ws.length by omega)]
          simp only [bS]
          by_cases hc : ws[i] = ws[j]
          · rw [if_pos (by simpa using hc)]
            exact .inr ⟨fun g => g j (by omega) hc, rfl⟩
          · rw [if_neg (by simpa using hc), aI (by omega)]
            exact ih q (j + 1) (by omega) (by omega) (by omega) (fun m hm' => by
              by_cases h : m = j
              · subst h; exact hc
              · exact hm m (by omega))
      rcases key i aY 0 (by omega) (dl (by omega)) (by omega) (fun m hm => by omega) with ⟨h1, h2⟩ | ⟨h1, h2⟩
      · exact .inl ⟨fun _ => ⟨hw, h1⟩, h2⟩
      · exact .inr ⟨fun g => h1 (g hi).2, h2⟩
    · rw [e]
      exact .inr ⟨fun g => hw (g hi).1, rfl⟩
theorem sZ {ws : List (List UInt8)} (hn : ws.length < 1000000000000) (hl : ∀ w ∈ ws, w.length < 1000000000000) : Dec (gE ws) (rG ws) := by
  unfold gE
  refine mB (Lp := jd ws) (n := ws.length) (Q := fun i => ∀ h : i < ws.length, tv ws[i] ∧ ∀ j, (hj : j < i) → ws[i] ≠ ws[j]) 0 (fun k i hi => ?_) (fun k i _ hi => ?_) hn
  · show (if _ then _ else _) = _
    rw [if_neg (by simp; omega)]
  · rw [jd]
    rw [if_pos (by simp; omega), bc hi, aI (by omega)]
    simp only [bS]
    rcases (xx (hl _ (List.getElem_mem hi))).cases with ⟨e, hw⟩ | ⟨e, hw⟩
    · rw [e]
      simp only [Option.bind_some, Bool.not_true, Bool.false_eq_true, if_false]
      have hs : sub ws 0 (i : Int) = some (ws.take i) := by
        unfold sub
        rw [if_pos (by omega)]
        simp
      rw [hs]
      simp only [bS]
      unfold iq je
      have hf := vo (Lp := dz (ws.take i) ws[i]) (n := i) (Q := fun j => ∀ hj : j < i, ws[i] = ws[j]) (fun k j hj => by
        show (if _ then _ else _) = _
        rw [if_neg (by simp; omega)]) (fun k j hj => by
        rw [dz]
        rw [if_pos (by simp; omega), bc (show j < (ws.take i).length by simp; omega), aI (by omega)]
        simp only [Option.bind_some, List.getElem_take]
        by_cases hc : ws[i] = ws[j]
        · rw [if_pos (by simpa using hc)]
          exact .inl ⟨fun _ => hc, rfl⟩
        · rw [if_neg (by simpa using hc)]
          exact .inr ⟨fun g => hc (g hj), rfl⟩) (by omega)
      rcases hf.cases with ⟨e2, j, hj, hQ⟩ | ⟨e2, hQ⟩
      · rw [e2]
        exact .inr ⟨fun g => (g hi).2 j hj (hQ hj), rfl⟩
      · rw [e2]
        exact .inl ⟨fun _ => ⟨hw, fun j hj hc => hQ ⟨j, hj, fun _ => hc⟩⟩, rfl⟩
    · rw [e]
      exact .inr ⟨fun g => hw (g hi).1, rfl⟩
def AB (l : List Int) : Prop := ∀ i, 0 ≤ i → i < l.length → ∀ h : i < l.length, (-9999 ≤ l[i] ∧ l[i] ≤ 9998) ∧ ∀ h0 : 0 < i, l[i - 1] < l[i]
theorem Bj {l : List Int} (hn : l.length < 1000000000000) : Dec (ql l) ((1 ≤ (l.length : Int) ∧ (l.length : Int) ≤ 3) ∧ AB l) := by
  unfold ql bQ
  simp only [bS]
  by_cases h : 1 ≤ (l.length : Int) ∧ (l.length : Int) ≤ 3
  · rw [nA h]
    simp only [if_true]
    have ha : Dec (om l) (∀ i, 1 ≤ i → i < l.length → ∀ (h : i < l.length), l[i - 1] < l[i]) := by
      unfold om
      refine mB (Lp := kt l) (n := l.length) (Q := fun i => ∀ (h : i < l.length), l[i - 1] < l[i]) 1 (fun k i hi => ?_) (fun k i h1 hi => ?_) hn
      · show (if _ then _ else _) = _
        rw [if_neg (by simp; omega)]
      · rw [kt]
        rw [if_pos (by simp; omega), bc hi, aI (by omega), bg (by omega) (by omega), show (i : Int) - 1 = ((i - 1 : Nat) : Int) by omega, bc (show i - 1 < l.length by omega)]
        simp only [bS]
        by_cases hc : l[i] ≤ l[i - 1]
        · rw [if_pos (by simpa using hc)]
          exact .inr ⟨fun g => by have := g hi; omega, rfl⟩
        · rw [if_neg (by simpa using hc)]
          exact .inl ⟨fun _ => by omega, rfl⟩
    rcases ha.cases with ⟨e, hA⟩ | ⟨e, hA⟩
    · rw [e]
      simp only [Option.bind_some, if_true]
      unfold eQ fu
      have hf := vo (Lp := cu l) (n := l.length) (Q := fun j => ∀ hj : j < l.length, ¬ (-9999 ≤ l[j] ∧ l[j] ≤ 9998)) (fun k j hj => by
        show (if _ then _ else _) = _
        rw [if_neg (by simp; omega)]) (fun k j hj => by
        rw [cu]
        rw [if_pos (by simp; omega), bc hj, aI (by omega)]
        unfold rk uY bQ
        simp only [bS]
        by_cases hc : -9999 ≤ l[j] ∧ l[j] ≤ 9998
        · rw [nA hc]
          exact .inr ⟨fun g => g hj hc, rfl⟩
        · rw [oH hc]
          exact .inl ⟨fun _ => hc, rfl⟩) hn
      rcases hf.cases with ⟨e2, j, hj, hQ⟩ | ⟨e2, hQ⟩
      · rw [e2]
        exact dg fun g => hQ hj (g.2 j (Nat.zero_le _) hj hj).1
      · rw [e2]
        exact pu ⟨h, fun i _ hi _ => ⟨Classical.byContradiction fun c => hQ ⟨i, hi, fun _ => c⟩, fun h0 => hA i h0 hi hi⟩⟩
    · rw [e]
      exact dg fun g => hA fun i h1 hi h2 => (g.2 i (Nat.zero_le _) hi h2).2 h1
  · rw [oH h]
    exact dg fun g => h g.1
end Go.Vk
/- Attributes: weighed, copied, compared; FullMask. -/
namespace Go.Vk
def pf (x : bz) : Prop := tv x.D_ ∧ ((x.A_.length = 0 ∧ (2 ≤ (x.E_.length : Int) ∧ (x.E_.length : Int) ≤ 4) ∧ rG x.E_) ∨ (x.E_.length = 0 ∧ (1 ≤ (x.A_.length : Int) ∧ (x.A_.length : Int) ≤ 3) ∧ AB x.A_))
def OkM (x : bz) : Prop := x.D_.length < 1000000000000 ∧ x.A_.length < 1000000000000 ∧ x.E_.length < 1000000000000 ∧ ∀ y ∈ x.E_, y.length < 1000000000000
theorem uW {x : bz} (hx : OkM x) : Dec (lO x) (pf x) := by
  obtain ⟨h1, h2, h3, h4⟩ := hx
  unfold lO pf
  rcases (xy h1).cases with ⟨e, hw⟩ | ⟨e, hw⟩
  · rw [e]
    simp only [Option.bind_some, Bool.not_true, Bool.false_eq_true, if_false]
    by_cases hc : x.A_.length = 0
    · rw [if_pos (by rw [beq_iff_eq]; omega)]
      unfold bd
      simp only [bS]
      by_cases hv : 2 ≤ (x.E_.length : Int) ∧ (x.E_.length : Int) ≤ 4
      · rw [nA hv]
        simp only [if_true]
        rcases (wc h3 h4).cases with ⟨e2, hW⟩ | ⟨e2, hW⟩
        · rw [e2]; exact pu ⟨hw, .inl ⟨hc, hv, hW⟩⟩
        · rw [e2]; exact dg fun g => by rcases g.2 with ⟨_, _, g⟩ | ⟨_, g, _⟩ <;> first | exact hW g | omega
      · rw [oH hv]
        exact dg fun g => by rcases g.2 with ⟨_, g, _⟩ | ⟨_, g, _⟩ <;> omega
    · rw [if_neg (by rw [beq_iff_eq]; omega)]
      by_cases hb : 0 < x.E_.length ∨ 3 < x.A_.length
      · rw [if_pos (by simp; omega)]
        exact dg fun g => by rcases g.2 with ⟨g, _, _⟩ | ⟨_, g, _⟩ <;> omega
      · rw [if_neg (by rw [Bool.or_eq_true, decide_eq_true_eq, decide_eq_true_eq]; omega)]
        have ha : Dec (gU x aY 0) (AB x.A_) := by
          refine mB (Lp := gU x) (n := x.A_.length) (Q := fun i => ∀ h : i < x.A_.length, (-9999 ≤ x.A_[i] ∧ x.A_[i] ≤ 9998) ∧ ∀ h0 : 0 < i, x.A_[i - 1] < x.A_[i]) 0 (fun k i hi => ?_) (fun k i _ hi => ?_) h2
          · show (if _ then _ else _) = _
            rw [if_neg (by simp; omega)]
          · rw [gU]
            rw [if_pos (by simp; omega), bc hi, aI (by omega)]
            unfold bd
            simp only [bS]
            by_cases hr : -9999 ≤ x.A_[i] ∧ x.A_[i] ≤ 9998
            · rw [nA hr]
              simp only [Bool.not_true, Bool.false_eq_true, if_false]
              by_cases h0 : 0 < i
              · rw [if_pos (by simp; omega), bg (by omega) (by omega), show (i : Int) - 1 = ((i - 1 : Nat) : Int) by omega, bc (show i - 1 < x.A_.length by omega)]
                simp only [bS]
                by_cases hle : x.A_[i] ≤ x.A_[i - 1]
                · rw [if_pos (by simpa using hle)]
                  exact .inr ⟨fun g => by have := (g hi).2 h0; omega, rfl⟩
                · rw [if_neg (by simpa using hle)]
                  exact .inl ⟨fun _ => ⟨hr, fun _ => by omega⟩, rfl⟩
              · rw [if_neg (by simp; omega)]
                exact .inl ⟨fun _ => ⟨hr, fun h => absurd h h0⟩, rfl⟩
            · rw [oH hr]
              exact .inr ⟨fun g => hr (g hi).1, rfl⟩
        exact ha.of_iff ⟨fun g => ⟨hw, .inr ⟨by omega, by omega, g⟩⟩, fun g => by rcases g.2 with ⟨g, _, _⟩ | ⟨_, _, g⟩; exact absurd g hc; exact g⟩
  · rw [e]
    exact dg fun g => hw g.1
theorem Bq {x : bz} (hx : OkM x) : Dec (qm x) (pf x) := by
  obtain ⟨h1, h2, h3, h4⟩ := hx
  unfold qm pf
  rcases (xx h1).cases with ⟨e, hw⟩ | ⟨e, hw⟩
  · rw [e]
    simp only [Option.bind_some, Bool.not_true, Bool.false_eq_true, if_false]
    by_cases hc : x.A_.length = 0
    · rw [if_pos (by rw [beq_iff_eq]; omega)]
      unfold bQ
      simp only [bS]
      by_cases hv : 2 ≤ (x.E_.length : Int) ∧ (x.E_.length : Int) ≤ 4
      · rw [nA hv]
        simp only [if_true]
        rcases (sZ h3 h4).cases with ⟨e2, hW⟩ | ⟨e2, hW⟩
        · rw [e2]; exact pu ⟨hw, .inl ⟨hc, hv, hW⟩⟩
        · rw [e2]; exact dg fun g => by rcases g.2 with ⟨_, _, g⟩ | ⟨_, g, _⟩ <;> first | exact hW g | omega
      · rw [oH hv]
        exact dg fun g => by rcases g.2 with ⟨_, g, _⟩ | ⟨_, g, _⟩ <;> omega
    · rw [if_neg (by rw [beq_iff_eq]; omega)]
      by_cases hb : x.E_.length = 0
      · rw [if_pos (by rw [beq_iff_eq]; omega)]
        rcases (Bj h2).cases with ⟨e2, hC⟩ | ⟨e2, hC⟩
        · rw [e2]; exact pu ⟨hw, .inr ⟨hb, hC.1, hC.2⟩⟩
        · rw [e2]; exact dg fun g => by
            rcases g.2 with ⟨g, _, _⟩ | ⟨_, g, g'⟩
            · exact hc g
            · exact hC ⟨g, g'⟩
      · rw [if_neg (by rw [beq_iff_eq]; omega)]
        exact dg fun g => by rcases g.2 with ⟨g, _, _⟩ | ⟨g, _, _⟩ <;> omega
  · rw [e]
    exact dg fun g => hw g.1
end Go.Vk
/- FullMask answers alike. -/
namespace Go.Vk
theorem ww {x : bz} (hx : OkM x) (h : pf x) : ∃ n : Nat, gj x = some (n : Int) ∧ jL x = some (n : Int) ∧ 2 ≤ n ∧ n ≤ 4 := by
  unfold gj jL
  rcases (uW hx).cases with ⟨e, _⟩ | ⟨_, g⟩
  · rw [e]
    simp only [Option.bind_some, Bool.not_true, Bool.false_eq_true, if_false]
    rcases h.2 with ⟨h1, h2, _⟩ | ⟨h1, h2, _⟩
    · rw [if_neg (fun g => by have := of_decide_eq_true g; omega)]
      exact ⟨_, rfl, rfl, by omega, by omega⟩
    · rw [if_pos (decide_eq_true (by omega)), aI (by omega)]
      exact ⟨_, rfl, rfl, by omega, by omega⟩
  · exact absurd h g
end Go.Vk
/- Schemas: tested, weighed, copied, compared; AllRoom. -/
namespace Go.Vk
def yy (l : List bz) : Prop := ∀ i, 0 ≤ i → i < l.length → ∀ h : i < l.length, pf l[i] ∧ ∀ j, (hj : j < i) → l[i].D_ ≠ l[j].D_
def fj (x : ae) : Prop := (1 ≤ (x.f_.length : Int) ∧ (x.f_.length : Int) ≤ 5) ∧ (2 ≤ (x.n_.length : Int) ∧ (x.n_.length : Int) ≤ 3) ∧ rG x.n_ ∧ yy x.f_
def OkS (x : ae) : Prop := x.f_.length < 1000000000 ∧ (∀ a ∈ x.f_, OkM a) ∧ x.n_.length < 1000000000000 ∧ ∀ y ∈ x.n_, y.length < 1000000000000
theorem zK {x : ae} (hx : OkS x) : Dec (dr x aY 0) (yy x.f_) := by
  obtain ⟨h1, h2, _, _⟩ := hx
  refine mB (Lp := dr x) (n := x.f_.length) (Q := fun i => ∀ h : i < x.f_.length, pf x.f_[i] ∧ ∀ j, (hj : j < i) → x.f_[i].D_ ≠ x.f_[j].D_) 0 (fun k i hi => ?_) (fun k i _ hi => ?_) (by omega)
  · show (if _ then _ else _) = _
    rw [if_neg (by simp; omega)]
  · rw [dr]
    rw [if_pos (by simp; omega), bc hi]
    simp only [bS]
    rcases (uW (h2 _ (List.getElem_mem hi))).cases with ⟨e, hw⟩ | ⟨e, hw⟩
    · rw [e]
      simp only [Option.bind_some, Bool.not_true, Bool.false_eq_true, if_false]
      have key : ∀ (d q j : Nat), i - j = d → d < q → (hj : j ≤ i) → (∀ m, (hm : m < j) → x.f_[i].D_ ≠ (x.f_[m]'(by omega)).D_) →
          ((∀ m, (hm : m < i) → x.f_[i].D_ ≠ x.f_[m].D_) ∧ eV i x (dr x k) q (j : Int) = dr x k ((i + 1 : Nat) : Int)) ∨ ((¬ ∀ m, (hm : m < i) → x.f_[i].D_ ≠ x.f_[m].D_) ∧ eV i x (dr x k) q (j : Int) = some false) := by
        intro d
        induction d with
        | zero =>
          intro q j hd hq hj hm
          obtain ⟨q, rfl⟩ : ∃ r, q = r + 1 := ⟨q - 1, by omega⟩
          rw [eV]
          rw [if_neg (by simp; omega), aI (by omega)]
          exact .inl ⟨fun m hm' => hm m (by omega), rfl⟩
        | succ d ih =>
          intro q j hd hq hj hm
          obtain ⟨q, rfl⟩ : ∃ r, q = r + 1 := ⟨q - 1, by omega⟩
          rw [eV]
          rw [if_pos (by simp; omega), bc hi, bc (show j < x.f_.length by omega)]
          simp only [bS]
          by_cases hc : x.f_[i].D_ = x.f_[j].D_
          · rw [if_pos (by simpa using hc)]
            exact .inr ⟨fun g => g j (by omega) hc, rfl⟩
          · rw [if_neg (by simpa using hc), aI (by omega)]
            exact ih q (j + 1) (by omega) (by omega) (by omega) (fun m hm' => by
              by_cases h : m = j
              · subst h; exact hc
              · exact hm m (by omega))
      rcases key i aY 0 (by omega) (dl (by omega)) (by omega) (fun m hm => by omega) with ⟨h1, h2⟩ | ⟨h1, h2⟩
      · exact .inl ⟨fun _ => ⟨hw, h1⟩, h2⟩
      · exact .inr ⟨fun g => h1 (g hi).2, h2⟩
    · rw [e]
      exact .inr ⟨fun g => hw (g hi).1, rfl⟩
theorem Ai {x : ae} (hx : OkS x) : Dec (gD x aY 0 []) (yy x.f_) := by
  obtain ⟨h1, h2, _, _⟩ := hx
  have hW : Dec (gE (x.f_.map bz.D_)) (rG (x.f_.map bz.D_)) := sZ (by simp; omega) (fun w hw => by
    obtain ⟨a, ha, rfl⟩ := List.mem_map.1 hw
    exact (h2 a ha).1)
  have key : ∀ (d k i : Nat), x.f_.length - i = d → d < k → i ≤ x.f_.length → Dec (gD x k (i : Int) ((x.f_.take i).map bz.D_)) ((∀ j, i ≤ j → ∀ hj : j < x.f_.length, pf x.f_[j]) ∧ rG (x.f_.map bz.D_)) := by
    intro d
    induction d with
    | zero =>
      intro k i hd hk hi
      obtain ⟨k, rfl⟩ : ∃ q, k = q + 1 := ⟨k - 1, by omega⟩
      rw [gD]
      rw [if_neg (by simp; omega), List.take_of_length_le (by omega)]
      have : ∀ o : Option Bool, (o.bind fun y => some y) = o := fun o => by cases o <;> rfl
      rw [this]
      exact hW.of_iff ⟨fun g => ⟨fun j h3 h4 => by omega, g⟩, fun g => g.2⟩
    | succ d ih =>
      intro k i hd hk hi
      obtain ⟨k, rfl⟩ : ∃ q, k = q + 1 := ⟨k - 1, by omega⟩
      have hlt : i < x.f_.length := by omega
      rw [gD]
      rw [if_pos (by simp; omega), bc hlt]
      simp only [bS]
      rcases (Bq (h2 _ (List.getElem_mem hlt))).cases with ⟨e, hw⟩ | ⟨e, hw⟩
      · rw [e]
        simp only [Option.bind_some, Bool.not_true, Bool.false_eq_true, if_false]
        rw [bL (by simp; omega)]
        simp only [bS]
        rw [aI (by omega), show (x.f_.take i).map bz.D_ ++ [x.f_[i].D_] = (x.f_.take (i + 1)).map bz.D_ by rw [List.take_succ_eq_append_getElem hlt, List.map_append]; rfl]
        refine (ih k (i + 1) (by omega) (by omega) (by omega)).of_iff ⟨fun g => ⟨fun j h3 h4 => ?_, g.2⟩, fun g => ⟨fun j h3 h4 => g.1 j (by omega) h4, g.2⟩⟩
        by_cases hj : j = i
        · subst hj; exact hw
        · exact g.1 j (by omega) h4
      · rw [e]
        exact dg fun g => hw (g.1 i (Nat.le_refl _) hlt)
  have := key x.f_.length aY 0 (by omega) (dl (by omega)) (by omega)
  have h0 : Dec (gD x aY 0 []) ((∀ j, 0 ≤ j → ∀ hj : j < x.f_.length, pf x.f_[j]) ∧ rG (x.f_.map bz.D_)) := this
  refine h0.of_iff ⟨fun g i _ _ h => ⟨g.1 i (Nat.zero_le _) h, fun j hj hc => ?_⟩, fun g => ⟨fun j _ hj => (g j (Nat.zero_le _) hj hj).1, fun i _ _ h => ?_⟩⟩
  · have := (g.2 i (Nat.zero_le _) (by simpa using h) (by simpa using h)).2 j hj
    simp at this
    exact this hc
  · have hi : i < x.f_.length := by simpa using h
    obtain ⟨g1, g2⟩ := g i (Nat.zero_le _) hi hi
    exact ⟨by simpa using g1.1, fun j hj => by simpa using g2 j hj⟩
theorem lG {x : ae} (hx : OkS x) : Dec (fT x) (fj x) := by
  have hN := zK hx
  obtain ⟨h1, h2, h3, h4⟩ := hx
  unfold fT bd fj
  simp only [bS]
  by_cases ha : 1 ≤ (x.f_.length : Int) ∧ (x.f_.length : Int) ≤ 5
  · rw [nA ha]
    simp only [Bool.not_true, Bool.false_eq_true, if_false]
    by_cases hc : 2 ≤ (x.n_.length : Int) ∧ (x.n_.length : Int) ≤ 3
    · rw [nA hc]
      simp only [Option.bind_some, Bool.not_true, Bool.false_eq_true, if_false]
      rcases (wc h3 h4).cases with ⟨e, hW⟩ | ⟨e, hW⟩
      · rw [e]
        simp only [Option.bind_some, Bool.not_true, Bool.false_eq_true, if_false]
        exact hN.of_iff ⟨fun g => ⟨ha, hc, hW, g⟩, fun g => g.2.2.2⟩
      · rw [e]
        exact dg fun g => hW g.2.2.1
    · rw [oH hc]
      exact dg fun g => hc g.2.1
  · rw [oH ha]
    exact dg fun g => ha g.1
theorem rK {x : ae} (hx : OkS x) : Dec (ln x) (fj x) := by
  have hN := Ai hx
  obtain ⟨h1, h2, h3, h4⟩ := hx
  unfold ln bQ fj
  simp only [bS]
  by_cases ha : 1 ≤ (x.f_.length : Int) ∧ (x.f_.length : Int) ≤ 5
  · rw [nA ha]
    simp only [Bool.not_true, Bool.false_eq_true, if_false]
    by_cases hc : 2 ≤ (x.n_.length : Int) ∧ (x.n_.length : Int) ≤ 3
    · rw [nA hc]
      simp only [Option.bind_some, Bool.not_true, Bool.false_eq_true, if_false]
      rcases (sZ h3 h4).cases with ⟨e, hW⟩ | ⟨e, hW⟩
      · rw [e]
        simp only [Option.bind_some, Bool.not_true, Bool.false_eq_true, if_false]
        exact hN.of_iff ⟨fun g => ⟨ha, hc, hW, g⟩, fun g => g.2.2.2⟩
      · rw [e]
        exact dg fun g => hW g.2.2.1
    · rw [oH hc]
      exact dg fun g => hc g.2.1
  · rw [oH ha]
    exact dg fun g => ha g.1
end Go.Vk
/- Masks. -/
namespace Go.Vk
end Go.Vk
/- Two texts of data, walked side by side. -/
namespace Go.Vk
def ox {ρ : Type} (a b : Option ρ) (Q : ρ → Prop) : Prop := ∃ m, a = some m ∧ b = some m ∧ Q m
theorem pd {ρ : Type} {m : ρ} {Q : ρ → Prop} (h : Q m) : ox (some m) (some m) Q := ⟨m, rfl, rfl, h⟩
theorem ox.mono {ρ : Type} {a b : Option ρ} {Q R : ρ → Prop} (h : ox a b Q) (f : ∀ m, Q m → R m) : ox a b R := by
  obtain ⟨m, h1, h2, h3⟩ := h
  exact ⟨m, h1, h2, f m h3⟩
theorem ox.bind {α ρ : Type} {a b : Option α} {Q : α → Prop} {f g : α → Option ρ} {R : ρ → Prop} (h : ox a b Q) (k : ∀ m, Q m → ox (f m) (g m) R) : ox (a.bind f) (b.bind g) R := by
  obtain ⟨m, h1, h2, h3⟩ := h
  rw [h1, h2]
  exact k m h3
theorem wv {ρ : Type} {c d : Prop} [Decidable c] [Decidable d] {a b a' b' : Option ρ} {Q : ρ → Prop} (e : c ↔ d) (h : c → ox a b Q) (h' : ¬ c → ox a' b' Q) : ox (if c then a else a') (if d then b else b') Q := by
  by_cases hc : c
  · rw [if_pos hc, if_pos (e.1 hc)]; exact h hc
  · rw [if_neg hc, if_neg (fun hd => hc (e.2 hd))]; exact h' hc
theorem yi {ρ : Type} {a b : Option Bool} {P : Prop} {f g : Bool → Option ρ} {R : ρ → Prop} (h : Dec a P) (h' : Dec b P) (ht : P → ox (f true) (g true) R) (hf : ¬ P → ox (f false) (g false) R) : ox (a.bind f) (b.bind g) R := by
  rw [← h.eq h']
  rcases h.cases with ⟨e, hp⟩ | ⟨e, hp⟩
  · rw [e]; exact ht hp
  · rw [e]; exact hf hp
theorem Bs {σ τ ρ : Type} (Lp : Nat → σ → Int → Option ρ) (Lq : Nat → τ → Int → Option ρ) (n : Nat) (I : Nat → σ → τ → Prop) {Q : ρ → Prop}
    (hz : ∀ k s t, I n s t → ox (Lp (k + 1) s (n : Int)) (Lq (k + 1) t (n : Int)) Q)
    (hs : ∀ k s t i, i < n → I i s t → (∀ s' t', I (i + 1) s' t' → ox (Lp k s' ((i + 1 : Nat) : Int)) (Lq k t' ((i + 1 : Nat) : Int)) Q) → ox (Lp (k + 1) s (i : Int)) (Lq (k + 1) t (i : Int)) Q)
    (hn : n < 1000000000000) {s : σ} {t : τ} (h0 : I 0 s t) : ox (Lp aY s 0) (Lq aY t 0) Q := by
  have key : ∀ (d k i : Nat) (s : σ) (t : τ), n - i = d → d < k → i ≤ n → I i s t → ox (Lp k s (i : Int)) (Lq k t (i : Int)) Q := by
    intro d
    induction d with
    | zero =>
      intro k i s t hd hk hi h
      obtain ⟨k, rfl⟩ : ∃ q, k = q + 1 := ⟨k - 1, by omega⟩
      have : i = n := by omega
      subst this
      exact hz k s t h
    | succ d ih =>
      intro k i s t hd hk hi h
      obtain ⟨k, rfl⟩ : ∃ q, k = q + 1 := ⟨k - 1, by omega⟩
      exact hs k s t i (by omega) h (fun s' t' h' => ih k (i + 1) s' t' (by omega) (by omega) (by omega) h')
  exact key n aY 0 s t (by omega) (dl hn) (Nat.zero_le _) h0
end Go.Vk
/- Statistics: tested alike; the greatest of a list. -/
namespace Go.Vk
theorem yI {a : bz} (h : oy a) : OkM a := by
  obtain ⟨h1, h2, h3⟩ := h
  exact ⟨by omega, by have := h2.1; omega, by have := h3.1; omega, fun y hy => by have := h3.2 y hy; omega⟩
theorem mL {s : ae} (h : bK s) : OkS s := by
  obtain ⟨h1, h2⟩ := h
  exact ⟨by have := h1.1; omega, fun a ha => yI (h1.2 a ha), by have := h2.1; omega, fun y hy => by have := h2.2 y hy; omega⟩
theorem qh {o : Option Bool} {P R : Prop} {f : Bool → Option Bool} (h : Dec o P) (ht : P → Dec (f true) R) (hf : ¬ P → Dec (f false) R) : Dec (o.bind f) R := by
  rcases h.cases with ⟨e, hp⟩ | ⟨e, hp⟩
  · rw [e]; exact ht hp
  · rw [e]; exact hf hp
theorem Bi {c : Prop} [Decidable c] {P R : Prop} {a b : Option Bool} (e : c ↔ P) (ht : P → Dec a R) (hf : ¬ P → Dec b R) : Dec (if c then a else b) R := by
  by_cases hc : c
  · rw [if_pos hc]; exact ht (e.1 hc)
  · rw [if_neg hc]; exact hf (fun hp => hc (e.2 hp))
theorem kF {x a b : Int} : Dec (bQ x a b) (a ≤ x ∧ x ≤ b) := Bk
theorem cR {x a b : Int} : Dec (bd x a b) (a ≤ x ∧ x ≤ b) := Bk
def nb (a : bz) : Nat := if 0 < a.A_.length then a.A_.length + 1 else a.E_.length
theorem pr {a : bz} (hx : oy a) : jL a = some (nb a : Int) := by
  have h1 := hx.2.1.1
  unfold jL nb
  by_cases h0 : 0 < a.A_.length
  · rw [if_pos (by simpa using h0), if_pos h0, aI (by omega)]
  · rw [if_neg (by simpa using h0), if_neg h0]
theorem tX {a : bz} (h : pf a) : 2 ≤ nb a ∧ nb a ≤ 4 := by
  unfold nb
  rcases h.2 with ⟨h1, h2, _⟩ | ⟨h1, h2, _⟩
  · rw [if_neg (by omega)]; omega
  · rw [if_pos (by omega)]; omega
theorem nh {a : bz} (hx : oy a) (h : pf a) : gj a = some (nb a : Int) := by
  obtain ⟨n, b1, b2, _⟩ := ww (yI hx) h
  rw [b1, ← b2, pr hx]
theorem fj.attr {s : ae} (h : fj s) {i : Nat} (hi : i < s.f_.length) : pf s.f_[i] := (h.2.2.2 i (Nat.zero_le _) hi hi).1
def kr (l : List Int) (c k : Nat) : Nat → Int
  | 0 => 0
  | b + 1 => kr l c k b + l.getD (b * c + k) 0
def ve (c n : Nat) (tot l : List Int) : Prop := l.length = n * c ∧ (∀ x ∈ l, 0 ≤ x ∧ x ≤ 999) ∧ ∀ k, k < c → kr l c k n ≤ tot.getD k 0
def pI (s : ae) (t : ar) : Prop := fj s ∧ t.d_.length = s.n_.length ∧ (∀ x ∈ t.d_, 0 ≤ x ∧ x ≤ 999) ∧ t.d_.sum ≤ 999 ∧
  (t.b_.length = 0 ∨ (t.b_.length = s.f_.length ∧ ∀ i (h : i < t.b_.length) (h2 : i < s.f_.length), ve s.n_.length (nb s.f_[i]) t.d_ t.b_[i]))
theorem AW {l : List Int} (h : ∀ x ∈ l, 0 ≤ x ∧ x ≤ 999) (i : Nat) : 0 ≤ l.getD i 0 ∧ l.getD i 0 ≤ 999 := by
  rw [List.getD_eq_getElem?_getD]
  by_cases hi : i < l.length
  · rw [List.getElem?_eq_getElem hi]; exact h _ (List.getElem_mem hi)
  · rw [List.getElem?_eq_none (by omega)]; simp
theorem oS {l : List Int} {i : Nat} (h : i < l.length) : l.getD i 0 = l[i] := by simp [h]
theorem AP {l : List Int} {c k : Nat} (h : ∀ x ∈ l, 0 ≤ x ∧ x ≤ 999) : ∀ n : Nat, 0 ≤ kr l c k n ∧ kr l c k n ≤ 999 * n
  | 0 => by simp [kr]
  | n + 1 => by
    have := AP (c := c) (k := k) h n
    have := AW h (n * c + k)
    simp only [kr]
    omega
theorem zM {l : List Int} {c k : Nat} (h : ∀ x ∈ l, 0 ≤ x ∧ x ≤ 999) {n m : Nat} (hm : n ≤ m) : kr l c k n ≤ kr l c k m := by
  induction m with
  | zero => rw [show n = 0 by omega]; exact Int.le_refl _
  | succ m ih =>
    by_cases e : n = m + 1
    · rw [e]; exact Int.le_refl _
    · have := ih (by omega)
      have := AW h (m * c + k)
      simp only [kr]
      omega
theorem uO {l : List Int} (hl : l.length ≤ 1048576) (n : Int) : Dec (nS l n) ((l.length : Int) = n ∧ ∀ x ∈ l, 0 ≤ x ∧ x ≤ 999) := by
  unfold nS
  by_cases hn : (l.length : Int) = n
  · rw [if_pos (by simpa using hn)]
    have hf : Dec (de l) (∃ i, i < l.length ∧ ∀ h : i < l.length, ¬ (0 ≤ l[i] ∧ l[i] ≤ 999)) := by
      unfold de fk
      refine vo (Lp := cn l) (n := l.length) (fun k i hi => ?_) (fun k i hi => ?_) (by omega)
      · show (if _ then _ else _) = _
        rw [if_neg (by simp; omega)]
      · rw [cn, if_pos (by simp; omega), bc hi, aI (by omega)]
        unfold qD bQ
        simp only [bS]
        by_cases h : 0 ≤ l[i] ∧ l[i] ≤ 999
        · rw [nA h]; exact .inr ⟨fun g => g hi h, rfl⟩
        · rw [oH h]; exact .inl ⟨fun _ => h, rfl⟩
    rcases hf.cases with ⟨e, i, hi, h⟩ | ⟨e, h⟩
    · rw [e]; exact dg fun g => h hi (g.2 _ (List.getElem_mem hi))
    · rw [e]; exact pu ⟨hn, fun x hx => by
        obtain ⟨i, hi, rfl⟩ := List.getElem_of_mem hx
        exact Classical.byContradiction fun c => h ⟨i, hi, fun _ => c⟩⟩
  · rw [if_neg (by simpa using hn)]
    exact dg fun g => hn g.1
theorem xY {p : List Int} (hb : ∀ x ∈ p, 0 ≤ x ∧ x ≤ 1000000000) (hl : p.length ≤ 1048576) : pw p = some p.sum := by
  unfold pw
  have h := xm (p := p) (fun x => x) (nc p) some (fun k s => by
    show (if _ then _ else _) = _
    rw [if_neg (by simp)]) (fun k s i hi => by
    rw [nc, if_pos (by simp; omega), bc hi, aI (by omega)]
    rfl) hb (by omega)
  simpa using h
theorem wC {s : ae} (hS : fj s) {l : List Int} (h1 : l.length = s.n_.length) (h2 : ∀ x ∈ l, 0 ≤ x ∧ x ≤ 999) : 0 ≤ l.sum ∧ l.sum ≤ 2997 := by
  have h := sM h2
  have := hS.2.1
  omega
def lJ (l : List Int) (c i : Nat) : List Int := (List.range c).map fun k => kr l c k (i / c + if k < i % c then 1 else 0)
theorem pF (l : List Int) (c i : Nat) : (lJ l c i).length = c := by simp [lJ]
theorem oF {l : List Int} {c i k : Nat} (h : k < c) : (lJ l c i)[k]'(by simpa [lJ] using h) = kr l c k (i / c + if k < i % c then 1 else 0) := by simp [lJ]
theorem tB {l : List Int} {c i : Nat} (hc : 0 < c) : lJ l c (i + 1) = (lJ l c i).set (i % c) (kr l c (i % c) (i / c + 1)) := by
  have hm := Nat.mod_lt i hc
  have hd := Nat.div_add_mod i c
  apply List.ext_getElem (by simp [lJ])
  intro k h1 h2
  have hk : k < c := by simpa [lJ] using h1
  rw [oF hk, List.getElem_set]
  by_cases hlast : i % c + 1 = c
  · have e1 : (i + 1) / c = i / c + 1 := by
      have : i + 1 = c * (i / c + 1) := by rw [Nat.mul_add, Nat.mul_one]; omega
      rw [this, Nat.mul_div_cancel_left _ hc]
    have e2 : (i + 1) % c = 0 := by
      have : i + 1 = c * (i / c + 1) := by rw [Nat.mul_add, Nat.mul_one]; omega
      rw [this, Nat.mul_mod_right]
    rw [e1, e2, if_neg (by omega)]
    by_cases he : i % c = k
    · rw [if_pos he, he]
    · rw [if_neg he, oF hk, if_pos (by omega)]
  · have e1 : (i + 1) / c = i / c := by
      have : i + 1 = (i % c + 1) + c * (i / c) := by omega
      rw [this, Nat.add_mul_div_left _ _ hc, Nat.div_eq_of_lt (by omega), Nat.zero_add]
    have e2 : (i + 1) % c = i % c + 1 := by
      have : i + 1 = (i % c + 1) + c * (i / c) := by omega
      rw [this, Nat.add_mul_mod_self_left, Nat.mod_eq_of_lt (by omega)]
    rw [e1, e2]
    by_cases he : i % c = k
    · rw [if_pos he, if_pos (by omega), he]
    · rw [if_neg he, oF hk]
      by_cases hlt : k < i % c
      · rw [if_pos (by omega), if_pos hlt]
      · rw [if_neg (by omega), if_neg hlt]
theorem yh (l : List Int) (c : Nat) : lJ l c 0 = List.replicate c 0 := by
  apply List.ext_getElem (by simp [lJ])
  intro k h1 h2
  have hk : k < c := by simpa [lJ] using h1
  rw [oF hk]
  simp [kr]
theorem yw {s : ae} {t : ar} {l : List Int} {n : Nat} (hS : fj s) (hT : t.d_.length = s.n_.length) (hn : n ≤ 4) (h1 : l.length = n * s.n_.length) (h2 : ∀ x ∈ l, 0 ≤ x ∧ x ≤ 999) (R : Int → Option Bool) (i : Nat) (hi : i ≤ 1048576) :
    ((∀ k, k < s.n_.length → kr l s.n_.length k n ≤ t.d_.getD k 0 ∨ n = 0) ∧ eM l s t R (i : Int) aY 0 (List.replicate s.n_.length 0) = R ((i + 1 : Nat) : Int)) ∨
    ((¬ ∀ k, k < s.n_.length → kr l s.n_.length k n ≤ t.d_.getD k 0 ∨ n = 0) ∧ eM l s t R (i : Int) aY 0 (List.replicate s.n_.length 0) = some false) := by
  have hcb : 2 ≤ s.n_.length ∧ s.n_.length ≤ 3 := by have := hS.2.1; omega
  generalize hc : s.n_.length = c at *
  have hc0 : 0 < c := by omega
  have hlen : l.length ≤ 12 := by
    have : n * c ≤ 4 * 3 := Nat.mul_le_mul hn hcb.2
    omega
  rw [← yh l c]
  rcases th (Lp := fun k j => eM l s t R (i : Int) k (j : Int) (lJ l c j)) (n := l.length) (Q := fun j => kr l c (j % c) (j / c + 1) ≤ t.d_.getD (j % c) 0) (fin := R ((i + 1 : Nat) : Int)) (bad := some false) (fun k _ => by
      show eM l s t R (i : Int) (k + 1) _ _ = _
      rw [eM, if_neg (by simp), aI (by omega)]) (fun k j hj _ => by
      show (_ ∧ eM l s t R (i : Int) (k + 1) _ _ = _) ∨ (_ ∧ eM l s t R (i : Int) (k + 1) _ _ = _)
      have hm := Nat.mod_lt j hc0
      have hrem : rem (j : Int) (c : Int) = some ((j % c : Nat) : Int) := by
        unfold rem
        rw [if_neg (by omega), pi]
      have hjd : j / c * c + j % c = j := by rw [Nat.mul_comm]; exact Nat.div_add_mod j c
      have hval : kr l c (j % c) (j / c + 1) = kr l c (j % c) (j / c) + l[j] := by
        simp only [kr]
        rw [hjd, oS hj]
      have hb := AP (c := c) (k := j % c) h2 (j / c)
      have hdv : j / c ≤ 12 := Nat.le_trans (Nat.div_le_self _ _) (by omega)
      have hlj := h2 _ (List.getElem_mem hj)
      have hg : (lJ l c j)[j % c]'(by rw [pF]; exact hm) = kr l c (j % c) (j / c) := by
        rw [oF hm, if_neg (by omega)]; rfl
      have hw : IntKind.i64.wrap (kr l c (j % c) (j / c) + l[j]) = kr l c (j % c) (j / c + 1) := by
        rw [hval, bg (by omega) (by omega)]
      rw [eM, if_pos (by simp; omega), bc hj, hc, hrem]
      simp only [bS]
      rw [bc (by rw [pF]; exact hm), hg]
      simp only [Option.bind_some, Int.toNat_natCast]
      rw [hw, ← tB hc0, bc (by rw [pF]; exact hm), bc (by omega : j % c < t.d_.length)]
      simp only [bS]
      have hg2 : (lJ l c (j + 1))[j % c]'(by rw [pF]; exact hm) = kr l c (j % c) (j / c + 1) := by
        simp only [tB hc0, List.getElem_set_self]
      rw [hg2, oS (by omega : j % c < t.d_.length), aI (by omega)]
      by_cases hq : kr l c (j % c) (j / c + 1) ≤ t.d_[j % c]
      · rw [if_neg (by simpa using hq)]
        exact .inl ⟨hq, rfl⟩
      · rw [if_pos (by simpa using hq)]
        exact .inr ⟨hq, rfl⟩) (by omega) with ⟨h3, h4⟩ | ⟨h3, h4⟩
  · refine .inl ⟨fun k hk => ?_, h4⟩
    by_cases hn0 : n = 0
    · exact .inr hn0
    · left
      have hlt : (n - 1) * c + k < l.length := by
        rw [h1]
        obtain ⟨m, rfl⟩ : ∃ m, n = m + 1 := ⟨n - 1, by omega⟩
        rw [Nat.add_sub_cancel, Nat.add_mul]; omega
      have := h3 _ hlt
      rw [show ((n - 1) * c + k) % c = k by rw [Nat.mul_comm, Nat.mul_add_mod, Nat.mod_eq_of_lt hk], show ((n - 1) * c + k) / c + 1 = n by rw [Nat.mul_comm, Nat.mul_add_div hc0, Nat.div_eq_of_lt hk]; omega] at this
      exact this
  · refine .inr ⟨fun g => h3 fun j hj => ?_, h4⟩
    have hm := Nat.mod_lt j hc0
    rcases g _ hm with g | g
    · refine Int.le_trans (zM h2 ?_) g
      have : j / c < n := Nat.div_lt_of_lt_mul (by rw [Nat.mul_comm]; omega)
      omega
    · rw [h1, g, Nat.zero_mul] at hj
      omega
theorem Ar {s : ae} {t : ar} (hs : bK s) (ht : fo t) : Dec (pD s t) (pI s t) := by
  unfold pD pI
  refine qh (rK (mL hs)) (fun hS => ?_) (fun g => dg fun h => g h.1)
  simp only [Bool.not_true, Bool.false_eq_true, if_false]
  have hl := ht.1.1
  have hl2 := ht.2.1
  rcases (uO hl (s.n_.length : Int)).cases with ⟨e, hw⟩ | ⟨e, hw⟩
  · rw [e]
    simp only [Option.bind_some, Bool.not_true, Bool.false_eq_true, if_false]
    have hT : t.d_.length = s.n_.length := by omega
    rw [xY (fun x hx => by have := hw.2 x hx; omega) hl]
    simp only [bS]
    by_cases hsum : t.d_.sum ≤ 999
    · rw [if_neg (by simp; omega)]
      by_cases h0 : t.b_.length = 0
      · rw [if_pos (by simp; exact List.length_eq_zero_iff.1 h0)]
        exact pu ⟨hS, hT, hw.2, hsum, .inl h0⟩
      · rw [if_neg (by rw [beq_iff_eq]; omega)]
        by_cases hn : t.b_.length = s.f_.length
        · rw [if_neg (by simp [hn])]
          refine (rY (Lp := fun k i => eO t s k (i : Int)) (n := t.b_.length) (Q := fun i => ∀ (h : i < t.b_.length) (h2 : i < s.f_.length), ve s.n_.length (nb s.f_[i]) t.d_ t.b_[i]) (F := True) (fun k _ => ?_) (fun k i hi _ => ?_) (by omega)).of_iff
            ⟨fun g => ⟨hS, hT, hw.2, hsum, .inr ⟨hn, fun i h h2 => g.1 i h h h2⟩⟩, fun g => ⟨fun i _ h h2 => by
              rcases g.2.2.2.2 with g | g
              · exact absurd g h0
              · exact g.2 i h h2, trivial⟩⟩
          · show Dec (eO t s (k + 1) _) _
            rw [eO, if_neg (by simp)]
            exact pu trivial
          · show (_ ∧ eO t s (k + 1) _ = eO t s k _) ∨ (_ ∧ eO t s (k + 1) _ = _)
            have ha : i < s.f_.length := by omega
            have hA := hs.1.2 _ (List.getElem_mem ha)
            have hnb := tX (hS.attr ha)
            have hcl := ht.2.2 _ (List.getElem_mem hi)
            have hc := hS.2.1
            have hmul : nb s.f_[i] * s.n_.length ≤ 4 * 3 := Nat.mul_le_mul (by omega) (by omega)
            rw [eO, if_pos (by simp; omega), bc hi, bc ha]
            simp only [bS]
            rw [pr hA]
            simp only [bS]
            have hw2 : IntKind.i64.wrap ((nb s.f_[i] : Int) * (s.n_.length : Int)) = ((nb s.f_[i] * s.n_.length : Nat) : Int) := by
              rw [← Int.natCast_mul, fJ (by omega)]
            rw [hw2]
            rcases (uO hcl.1 ((nb s.f_[i] * s.n_.length : Nat) : Int)).cases with ⟨e2, h2⟩ | ⟨e2, h2⟩
            · rw [e2]
              simp only [Option.bind_some, Bool.not_true, Bool.false_eq_true, if_false]
              unfold uG
              rw [BN _ (by omega)]
              simp only [bS]
              have hlen : t.b_[i].length = nb s.f_[i] * s.n_.length := by omega
              rcases yw (t := t) hS hT hnb.2 hlen h2.2 (eO t s k) i (by omega) with ⟨h3, h4⟩ | ⟨h3, h4⟩
              · exact .inl ⟨fun _ _ => ⟨hlen, h2.2, fun k hk => by
                  rcases h3 k hk with g | g
                  · exact g
                  · omega⟩, h4⟩
              · exact .inr ⟨fun g => h3 fun k hk => .inl ((g hi ha).2.2 k hk), h4⟩
            · rw [e2]
              exact .inr ⟨fun g => h2 ⟨by have := (g hi ha).1; omega, (g hi ha).2.1⟩, rfl⟩
        · rw [if_pos (by simp; omega)]
          exact dg fun g => by
            rcases g.2.2.2.2 with g | g
            · exact h0 g
            · exact hn g.1
    · rw [if_pos (by simp; omega)]
      exact dg fun g => hsum g.2.2.2.1
  · rw [e]
    exact dg fun g => hw ⟨by have := g.2.1; omega, g.2.2.1⟩
theorem yM {s : ae} {t : ar} {l : List Int} {n i : Nat} (hS : fj s) (hT : t.d_.length = s.n_.length) (hn : n ≤ 4) (hi : i < t.b_.length) (hl : t.b_[i] = l) (h1 : l.length = n * s.n_.length) (R : Int → Option Bool) (hi2 : i ≤ 1048576) :
    (((∀ x ∈ l, 0 ≤ x ∧ x ≤ 999) ∧ ∀ k, k < s.n_.length → kr l s.n_.length k n ≤ t.d_.getD k 0) ∧ bT s (n : Int) t (i : Int) R aY 0 = R ((i + 1 : Nat) : Int)) ∨
    ((¬ ((∀ x ∈ l, 0 ≤ x ∧ x ≤ 999) ∧ ∀ k, k < s.n_.length → kr l s.n_.length k n ≤ t.d_.getD k 0)) ∧ bT s (n : Int) t (i : Int) R aY 0 = some false) := by
  have hcb : 2 ≤ s.n_.length ∧ s.n_.length ≤ 3 := by have := hS.2.1; omega
  generalize hc : s.n_.length = c at *
  have hc0 : 0 < c := by omega
  have hpos : ∀ k b, k < c → b < n → b * c + k < l.length := fun k b hk hb => by
    rw [h1]
    have : (b + 1) * c ≤ n * c := Nat.mul_le_mul_right _ hb
    rw [Nat.add_mul] at this; omega
  rcases th (Lp := fun q k => bT s (n : Int) t (i : Int) R q (k : Int)) (n := c) (Q := fun k => (∀ b, b < n → 0 ≤ l.getD (b * c + k) 0 ∧ l.getD (b * c + k) 0 ≤ 999) ∧ kr l c k n ≤ t.d_.getD k 0) (fin := R ((i + 1 : Nat) : Int)) (bad := some false) (fun q _ => by
      show bT s (n : Int) t (i : Int) R (q + 1) _ = _
      rw [bT, hc, if_neg (by simp), aI (by omega)]) (fun q k hk _ => by
      show (_ ∧ bT s (n : Int) t (i : Int) R (q + 1) _ = bT s (n : Int) t (i : Int) R q _) ∨ (_ ∧ bT s (n : Int) t (i : Int) R (q + 1) _ = _)
      rw [bT, hc, if_pos (by simp; omega)]
      rcases th (Lp := fun q2 b => cZ (n : Int) t (i : Int) s (k : Int) (bT s (n : Int) t (i : Int) R q) q2 (kr l c k b) (b : Int)) (n := n) (Q := fun b => 0 ≤ l.getD (b * c + k) 0 ∧ l.getD (b * c + k) 0 ≤ 999)
          (fin := if kr l c k n ≤ t.d_.getD k 0 then bT s (n : Int) t (i : Int) R q ((k + 1 : Nat) : Int) else some false) (bad := some false) (fun q2 _ => by
          show cZ (n : Int) t (i : Int) s (k : Int) (bT s (n : Int) t (i : Int) R q) (q2 + 1) _ _ = _
          rw [cZ, if_neg (by simp), bc (by omega : k < t.d_.length), aI (by omega), oS (by omega : k < t.d_.length)]
          simp only [bS]
          by_cases g : kr l c k n ≤ t.d_[k]
          · rw [if_pos g, if_neg (by simpa using g)]
          · rw [if_neg g, if_pos (by simpa using g)]) (fun q2 b hb hQ => by
          show (_ ∧ cZ (n : Int) t (i : Int) s (k : Int) (bT s (n : Int) t (i : Int) R q) (q2 + 1) _ _ = cZ (n : Int) t (i : Int) s (k : Int) (bT s (n : Int) t (i : Int) R q) q2 _ _) ∨ (_ ∧ cZ (n : Int) t (i : Int) s (k : Int) (bT s (n : Int) t (i : Int) R q) (q2 + 1) _ _ = _)
          have hlt := hpos k b hk hb
          have hbc : b * c ≤ 4 * 3 := Nat.mul_le_mul (by omega) (by omega)
          have hw : IntKind.i64.wrap (IntKind.i64.wrap ((b : Int) * (c : Int)) + (k : Int)) = ((b * c + k : Nat) : Int) := by
            rw [← Int.natCast_mul, fJ (by omega), ← Int.natCast_add, fJ (by omega)]
          have hcs : ∀ m, m ≤ b → 0 ≤ kr l c k m ∧ kr l c k m ≤ 999 * m := fun m => by
            induction m with
            | zero => intro _; simp [kr]
            | succ m ih =>
              intro hm
              have h3 := ih (by omega)
              have h4 := hQ m (by omega)
              simp only [kr]
              omega
          have hcb2 := hcs b (Nat.le_refl _)
          rw [cZ, if_pos (by simp; omega), bc hi, hc, hw]
          simp only [bS]
          rw [hl, bc hlt]
          simp only [bS]
          unfold bd
          simp only [bS]
          have hgd := oS hlt
          by_cases g : 0 ≤ l[b * c + k] ∧ l[b * c + k] ≤ 999
          · rw [nA g, hgd]
            simp only [Bool.not_true, Bool.false_eq_true, if_false]
            rw [bg (n := kr l c k b + l[b * c + k]) (by omega) (by omega), aI (by omega)]
            refine .inl ⟨g, ?_⟩
            congr 1
            simp only [kr]
            rw [hgd]
          · rw [oH g, hgd]
            exact .inr ⟨g, rfl⟩) (by omega) with ⟨h3, h4⟩ | ⟨h3, h4⟩
      · have h4 : cZ (n : Int) t (i : Int) s (k : Int) (bT s (n : Int) t (i : Int) R q) aY 0 0 = _ := h4
        rw [h4]
        by_cases g : kr l c k n ≤ t.d_.getD k 0
        · rw [if_pos g]; exact .inl ⟨⟨h3, g⟩, rfl⟩
        · rw [if_neg g]; exact .inr ⟨fun x => g x.2, rfl⟩
      · have h4 : cZ (n : Int) t (i : Int) s (k : Int) (bT s (n : Int) t (i : Int) R q) aY 0 0 = _ := h4
        rw [h4]
        exact .inr ⟨fun x => h3 x.1, rfl⟩) (by omega) with ⟨h3, h4⟩ | ⟨h3, h4⟩
  · refine .inl ⟨⟨fun x hx => ?_, fun k hk => (h3 k hk).2⟩, h4⟩
    obtain ⟨j, hj, rfl⟩ := List.getElem_of_mem hx
    have hm := Nat.mod_lt j hc0
    have hjd : j / c * c + j % c = j := by rw [Nat.mul_comm]; exact Nat.div_add_mod j c
    have := (h3 _ hm).1 (j / c) (Nat.div_lt_of_lt_mul (by rw [Nat.mul_comm]; omega))
    rw [hjd, oS hj] at this
    exact this
  · refine .inr ⟨fun g => h3 fun k hk => ⟨fun b hb => ?_, g.2 k hk⟩, h4⟩
    rw [oS (hpos k b hk hb)]
    exact g.1 _ (List.getElem_mem _)
theorem jY {s : ae} {t : ar} (hs : bK s) (ht : fo t) : Dec (fb s t) (pI s t) := by
  unfold fb pI
  refine qh (lG (mL hs)) (fun hS => ?_) (fun g => dg fun h => g h.1)
  have hl := ht.1.1
  have hl2 := ht.2.1
  by_cases hT : t.d_.length = s.n_.length
  · rw [if_neg (by simp [hT])]
    have hcb : 2 ≤ s.n_.length ∧ s.n_.length ≤ 3 := by have := hS.2.1; omega
    have hD : (∀ i, i < t.d_.length → ∀ h : i < t.d_.length, 0 ≤ t.d_[i] ∧ t.d_[i] ≤ 999) → Dec (if decide (t.d_.sum > 999) then some false else if ((t.b_.length : Int) == 0) then some true else if ((t.b_.length : Int) != (s.f_.length : Int)) then some false else cB t s aY 0) (t.d_.sum ≤ 999 ∧
        (t.b_.length = 0 ∨ (t.b_.length = s.f_.length ∧ ∀ i (h : i < t.b_.length) (h2 : i < s.f_.length), ve s.n_.length (nb s.f_[i]) t.d_ t.b_[i]))) := fun _ => by
      by_cases hsum : t.d_.sum ≤ 999
      · rw [if_neg (by simp; omega)]
        by_cases h0 : t.b_.length = 0
        · rw [if_pos (by simp; exact List.length_eq_zero_iff.1 h0)]
          exact pu ⟨hsum, .inl h0⟩
        · rw [if_neg (by rw [beq_iff_eq]; omega)]
          by_cases hn : t.b_.length = s.f_.length
          · rw [if_neg (by simp [hn])]
            refine (rY (Lp := fun k i => cB t s k (i : Int)) (n := t.b_.length) (Q := fun i => ∀ (h : i < t.b_.length) (h2 : i < s.f_.length), ve s.n_.length (nb s.f_[i]) t.d_ t.b_[i]) (F := True) (fun k _ => ?_) (fun k i hi _ => ?_) (by omega)).of_iff
              ⟨fun g => ⟨hsum, .inr ⟨hn, fun i h h2 => g.1 i h h h2⟩⟩, fun g => ⟨fun i _ h h2 => by
                rcases g.2 with g | g
                · exact absurd g h0
                · exact g.2 i h h2, trivial⟩⟩
            · show Dec (cB t s (k + 1) _) _
              rw [cB, if_neg (by simp)]
              exact pu trivial
            · show (_ ∧ cB t s (k + 1) _ = cB t s k _) ∨ (_ ∧ cB t s (k + 1) _ = _)
              have ha : i < s.f_.length := by omega
              have hA := hs.1.2 _ (List.getElem_mem ha)
              have hnb := tX (hS.attr ha)
              have hmul : nb s.f_[i] * s.n_.length ≤ 4 * 3 := Nat.mul_le_mul (by omega) (by omega)
              have hw2 : IntKind.i64.wrap ((nb s.f_[i] : Int) * (s.n_.length : Int)) = ((nb s.f_[i] * s.n_.length : Nat) : Int) := by
                rw [← Int.natCast_mul, fJ (by omega)]
              rw [cB, if_pos (by simp; omega), bc hi, bc ha]
              simp only [bS]
              rw [nh hA (hS.attr ha)]
              simp only [bS]
              rw [hw2]
              by_cases hlen : t.b_[i].length = nb s.f_[i] * s.n_.length
              · rw [if_neg (by rw [bne_iff_ne]; omega)]
                rcases yM hS hT hnb.2 hi rfl hlen (cB t s k) (by omega) with ⟨h3, h4⟩ | ⟨h3, h4⟩
                · exact .inl ⟨fun _ _ => ⟨hlen, h3.1, h3.2⟩, h4⟩
                · exact .inr ⟨fun g => h3 ⟨(g hi ha).2.1, (g hi ha).2.2⟩, h4⟩
              · rw [if_pos (by rw [bne_iff_ne]; omega)]
                exact .inr ⟨fun g => hlen (g hi ha).1, rfl⟩
          · rw [if_pos (by simp; omega)]
            exact dg fun g => by
              rcases g.2 with g | g
              · exact h0 g
              · exact hn g.1
      · rw [if_pos (by simp; omega)]
        exact dg fun g => hsum g.1
    refine Dec.of_iff (P := (∀ i, i < t.d_.length → ∀ h : i < t.d_.length, 0 ≤ t.d_[i] ∧ t.d_[i] ≤ 999) ∧ (t.d_.sum ≤ 999 ∧
        (t.b_.length = 0 ∨ (t.b_.length = s.f_.length ∧ ∀ i (h : i < t.b_.length) (h2 : i < s.f_.length), ve s.n_.length (nb s.f_[i]) t.d_ t.b_[i])))) ?_ ⟨fun g => ⟨hS, hT, fun x hx => by
        obtain ⟨i, hi, rfl⟩ := List.getElem_of_mem hx
        exact g.1 i hi hi, g.2⟩, fun g => ⟨fun i hi _ => g.2.2.1 _ (List.getElem_mem hi), g.2.2.2⟩⟩
    have := rY (Lp := fun k i => dB t s k (t.d_.take i).sum (i : Int)) (n := t.d_.length) (Q := fun i => ∀ h : i < t.d_.length, 0 ≤ t.d_[i] ∧ t.d_[i] ≤ 999) (F := t.d_.sum ≤ 999 ∧
        (t.b_.length = 0 ∨ (t.b_.length = s.f_.length ∧ ∀ i (h : i < t.b_.length) (h2 : i < s.f_.length), ve s.n_.length (nb s.f_[i]) t.d_ t.b_[i]))) (fun k hQ => by
      show Dec (dB t s (k + 1) _ _) _
      rw [dB, if_neg (by simp), List.take_length]
      exact hD hQ) (fun k i hi hQ => by
      show (_ ∧ dB t s (k + 1) _ _ = dB t s k _ _) ∨ (_ ∧ dB t s (k + 1) _ _ = _)
      have hb := sM (p := t.d_.take i) (b := 999) (fun x hx => by
        obtain ⟨j, hj, rfl⟩ := List.getElem_of_mem hx
        have hj2 : j < i := by have : j < (t.d_.take i).length := hj; simp at this; omega
        rw [List.getElem_take]
        exact hQ j hj2 (by omega))
      have hlt : ((t.d_.take i).length : Int) ≤ 3 := by simp; omega
      rw [dB, if_pos (by simp; omega), bc hi]
      unfold bd
      simp only [bS]
      by_cases g : 0 ≤ t.d_[i] ∧ t.d_[i] ≤ 999
      · rw [nA g]
        simp only [Bool.not_true, Bool.false_eq_true, if_false]
        rw [bg (n := (t.d_.take i).sum + t.d_[i]) (by omega) (by omega), aI (by omega), xO hi]
        exact .inl ⟨fun _ => g, rfl⟩
      · rw [oH g]
        exact .inr ⟨fun x => g (x hi), rfl⟩) (by omega)
    simpa using this
  · rw [if_pos (by simp; omega)]
    exact dg fun g => hT g.2.1
end Go.Vk
/- Forks: tested alike. -/
namespace Go.Vk
def rD (a : bz) : Int := (nb a : Int) - (if 0 < a.A_.length then 2 else 1)
def atr (s : ae) (f : au) : bz := s.f_.getD f.j_.toNat default
def pe (s : ae) (f : au) : Prop := fj s ∧ (0 ≤ f.j_ ∧ f.j_ ≤ (s.f_.length : Int) - 1) ∧ (-1 ≤ f.c_ ∧ f.c_ ≤ rD (atr s f))
theorem sG {s : ae} {f : au} (h : 0 ≤ f.j_ ∧ f.j_ ≤ (s.f_.length : Int) - 1) : ∃ (i : Nat) (hi : i < s.f_.length), f.j_ = i ∧ atr s f = s.f_[i] := by
  refine ⟨f.j_.toNat, by omega, by omega, ?_⟩
  unfold atr
  simp [show f.j_.toNat < s.f_.length by omega]
theorem si {s : ae} {f : au} (h : 0 ≤ f.j_ ∧ f.j_ ≤ (s.f_.length : Int) - 1) : idx s.f_ f.j_ = some (atr s f) := by
  obtain ⟨i, hi, e1, e2⟩ := sG h
  rw [e1, e2, bc hi]
theorem sc {s : ae} {f : au} (h : 0 ≤ f.j_ ∧ f.j_ ≤ (s.f_.length : Int) - 1) : atr s f ∈ s.f_ := by
  obtain ⟨i, hi, e1, e2⟩ := sG h
  rw [e2]; exact List.getElem_mem hi
theorem rL {s : ae} {f : au} (hS : fj s) (h : 0 ≤ f.j_ ∧ f.j_ ≤ (s.f_.length : Int) - 1) : pf (atr s f) := by
  obtain ⟨i, hi, e1, e2⟩ := sG h
  rw [e2]; exact hS.attr hi
theorem kw {s : ae} {f : au} (hs : bK s) : Dec (gm s f) (pe s f) := by
  unfold gm pe
  refine qh (lG (mL hs)) (fun hS => ?_) (fun g => dg fun h => g h.1)
  have hn := hs.1.1
  simp only [Bool.not_true, Bool.false_eq_true, if_false]
  rw [bg (n := (s.f_.length : Int) - 1) (by omega) (by omega)]
  rcases (cR (x := f.j_) (a := 0) (b := (s.f_.length : Int) - 1)).cases with ⟨e, hr⟩ | ⟨e, hr⟩
  · rw [e]
    simp only [Option.bind_some, Bool.not_true, Bool.false_eq_true, if_false]
    have hm := hs.1.2 _ (sc hr)
    have hA := rL hS hr
    have hnb := tX hA
    rw [si hr]
    simp only [bS]
    rw [nh hm hA]
    simp only [bS]
    unfold rD
    refine Bi (P := 0 < (atr s f).A_.length) (by simp) (fun h => ?_) (fun h => ?_)
    · rw [if_pos h, bg (by omega) (by omega)]
      have : ∀ o : Option Bool, (o.bind fun y => some y) = o := fun o => by cases o <;> rfl
      rw [this]
      exact cR.of_iff ⟨fun g => ⟨hS, hr, g⟩, fun g => g.2.2⟩
    · rw [if_neg h, bg (by omega) (by omega)]
      have : ∀ o : Option Bool, (o.bind fun y => some y) = o := fun o => by cases o <;> rfl
      rw [this]
      exact cR.of_iff ⟨fun g => ⟨hS, hr, g⟩, fun g => g.2.2⟩
  · rw [e]
    exact dg fun g => hr g.2.1
theorem AF {s : ae} {f : au} (hs : bK s) : Dec (qN s f) (pe s f) := by
  unfold qN pe
  refine qh (rK (mL hs)) (fun hS => ?_) (fun g => dg fun h => g h.1)
  have hn := hs.1.1
  simp only [Bool.not_true, Bool.false_eq_true, if_false]
  rw [bg (n := (s.f_.length : Int) - 1) (by omega) (by omega)]
  rcases (kF (x := f.j_) (a := 0) (b := (s.f_.length : Int) - 1)).cases with ⟨e, hr⟩ | ⟨e, hr⟩
  · rw [e]
    simp only [Option.bind_some, Bool.not_true, Bool.false_eq_true, if_false]
    have hm := hs.1.2 _ (sc hr)
    have hA := rL hS hr
    have hnb := tX hA
    rw [si hr]
    simp only [bS]
    rw [pr hm]
    simp only [bS]
    unfold rD
    have hid : ∀ o : Option Bool, (o.bind fun y => some y) = o := fun o => by cases o <;> rfl
    refine Bi (P := 0 < (atr s f).A_.length) (by simp) (fun h => ?_) (fun h => ?_)
    · rw [if_pos h, bg (n := (nb (atr s f) : Int) - 1) (by omega) (by omega), bg (by omega) (by omega), hid, show (nb (atr s f) : Int) - 1 - 1 = (nb (atr s f) : Int) - 2 by omega]
      exact kF.of_iff ⟨fun g => ⟨hS, hr, g⟩, fun g => g.2.2⟩
    · rw [if_neg h, bg (by omega) (by omega), hid]
      exact kF.of_iff ⟨fun g => ⟨hS, hr, g⟩, fun g => g.2.2⟩
  · rw [e]
    exact dg fun g => hr g.2.1
end Go.Vk
/- Attributes' places, branches, nodes, trees: tested alike. -/
namespace Go.Vk
def Asc (l : List Int) : Prop := ∀ i, 1 ≤ i → i < l.length → ∀ h : i < l.length, l[i - 1] < l[i]
def sI (s : ae) (l : List Int) : Prop := fj s ∧ l.length ≠ 0 ∧ ∀ i, 0 ≤ i → i < l.length → ∀ h : i < l.length, (0 ≤ l[i] ∧ l[i] ≤ (s.f_.length : Int) - 1) ∧ (0 < i → l[i - 1] < l[i])
theorem nW {s : ae} {l : List Int} (hs : bK s) (hl : l.length ≤ 1048576) : Dec (gO s l) (sI s l) := by
  unfold gO sI
  refine qh (lG (mL hs)) (fun hS => ?_) (fun g => dg fun h => g h.1)
  have hn := hs.1.1
  by_cases h0 : l.length = 0
  · rw [if_pos (by simp; exact List.length_eq_zero_iff.1 h0)]
    exact dg fun g => g.2.1 h0
  · rw [if_neg (by simp; exact fun e => h0 (by rw [e]; rfl))]
    refine (mB (Lp := im l s) (n := l.length) (Q := fun i => ∀ h : i < l.length, (0 ≤ l[i] ∧ l[i] ≤ (s.f_.length : Int) - 1) ∧ (0 < i → l[i - 1] < l[i])) 0 (fun k i hi => ?_) (fun k i _ hi => ?_) (by omega)).of_iff ⟨fun g => ⟨hS, h0, g⟩, fun g => g.2.2⟩
    · show (if _ then _ else _) = _
      rw [if_neg (by simp; omega)]
    · rw [im, if_pos (by simp; omega), bc hi, aI (by omega), bg (n := (s.f_.length : Int) - 1) (by omega) (by omega)]
      unfold bd
      simp only [bS]
      by_cases hr : 0 ≤ l[i] ∧ l[i] ≤ (s.f_.length : Int) - 1
      · rw [nA hr]
        simp only [Bool.not_true, Bool.false_eq_true, if_false]
        by_cases h1 : 0 < i
        · rw [if_pos (by simp; omega), bg (n := (i : Int) - 1) (by omega) (by omega), show (i : Int) - 1 = ((i - 1 : Nat) : Int) by omega, bc (show i - 1 < l.length by omega)]
          simp only [bS]
          by_cases hc : l[i] ≤ l[i - 1]
          · rw [if_pos (by simpa using hc)]
            exact .inr ⟨fun g => by have := (g hi).2 h1; omega, rfl⟩
          · rw [if_neg (by simpa using hc)]
            exact .inl ⟨fun _ => ⟨hr, fun _ => by omega⟩, rfl⟩
        · rw [if_neg (by simp; omega)]
          exact .inl ⟨fun _ => ⟨hr, fun g => absurd g h1⟩, rfl⟩
      · rw [oH hr]
        exact .inr ⟨fun g => hr (g hi).1, rfl⟩
theorem sW {s : ae} {t : ar} (hs : bK s) (ht : fo t) (h : pI s t) : dZ s t = some t.d_.sum := by
  unfold dZ
  rcases (jY hs ht).cases with ⟨e, _⟩ | ⟨_, g⟩
  · rw [e]
    simp only [Option.bind_some, Bool.not_true, Bool.false_eq_true, if_false]
    have h1 := xm (p := t.d_) (fun x => x) (fF t) some (fun k s => by
      show (if _ then _ else _) = _
      rw [if_neg (by simp)]) (fun k s i hi => by
      have := ht.1.1
      rw [fF, if_pos (by simp; omega), bc hi, aI (by omega)]
      rfl) (fun x hx => by have := h.2.2.1 x hx; omega) (by have := ht.1.1; omega)
    simpa using h1
  · exact absurd h g
def brN (s : ae) (f : au) : Nat := if f.c_ = -1 then nb (atr s f) else 2
theorem AU {s : ae} {f : au} (h : pe s f) : 2 ≤ brN s f ∧ brN s f ≤ 4 := by
  have := tX (rL h.1 h.2.1)
  unfold brN
  split <;> omega
theorem la {s : ae} {f : au} (hs : bK s) (h : pe s f) : dO s f = some (brN s f : Int) := by
  unfold dO brN
  rcases (kw (f := f) hs).cases with ⟨e, _⟩ | ⟨_, g⟩
  · rw [e]
    simp only [Option.bind_some, Bool.not_true, Bool.false_eq_true, if_false]
    rw [si h.2.1]
    simp only [bS]
    rw [nh (hs.1.2 _ (sc h.2.1)) (rL h.1 h.2.1)]
    by_cases h1 : f.c_ = -1
    · rw [if_pos (by simpa using h1), if_pos h1]; rfl
    · rw [if_neg (by simpa using h1), if_neg h1]; rfl
  · exact absurd h g
theorem vD {s : ae} {f : au} (hs : bK s) (h : ¬ pe s f) : dO s f = some 0 := by
  unfold dO
  rcases (kw (f := f) hs).cases with ⟨_, g⟩ | ⟨e, _⟩
  · exact absurd g h
  · rw [e]; rfl
def EB (t : ai) (i : Nat) (x : Int) : Prop := ∃ m : Nat, ∃ hm : m < t.a_.length, x = m ∧ i < m ∧ t.a_[m].p_ = i
def DO (n : aG) : Prop := (n.k_.j_ = 0 ∧ n.k_.c_ = 0) ∧ n.t_.length = 0 ∧ n.x_ = 0 ∧ (0 ≤ n.v_ ∧ n.v_ ≤ if n.m_.b_.length = 0 then 0 else n.m_.d_.sum)
def EI (t : ai) (i : Nat) (l : List Int) : Prop := Asc l ∧ ∀ x ∈ l, EB t i x
def yu (s : ae) (t : ai) (i : Nat) (n : aG) : Prop := pe s n.k_ ∧ n.t_.length = brN s n.k_ ∧ (0 ≤ n.x_ ∧ n.x_ ≤ (n.t_.length : Int) - 1) ∧ n.m_.b_.length = 0 ∧ n.v_ = 0 ∧ EI t i n.t_
def BT (s : ae) (t : ai) (i : Nat) (n : aG) : Prop := (0 ≤ n.l_ ∧ n.l_ ≤ 6) ∧ (0 ≤ n.q_ ∧ n.q_ ≤ t.g_) ∧ pI s n.m_ ∧ sI s n.f_ ∧ (n.s_ = true → DO n) ∧ (n.s_ = false → yu s t i n)
def ET (t : ai) (i : Nat) (n : aG) : Prop := (i = 0 → n.p_ = -1 ∧ n.l_ = 0 ∧ n.q_ = 0) ∧
  (0 < i → ∃ u, ∃ _ : u < i, ∃ hu : u < t.a_.length, n.p_ = u ∧ t.a_[u].s_ = false ∧ (i : Int) ∈ t.a_[u].t_ ∧ t.a_[u].l_ + 1 = n.l_ ∧ t.a_[u].q_ ≤ n.q_)
def DL (s : ae) (t : ai) (i : Nat) : Prop := ∀ h : i < t.a_.length, BT s t i t.a_[i] ∧ ET t i t.a_[i]
def vf (s : ae) (t : ai) : Prop := fj s ∧ (1 ≤ (t.a_.length : Int) ∧ (t.a_.length : Int) ≤ 31) ∧ (0 ≤ t.g_ ∧ t.g_ ≤ 99999) ∧ ∀ i, i < t.a_.length → DL s t i
theorem AV {s : ae} {n : aG} (hs : bK s) (hn : ot n) : Dec (kb s n) (DO n ∧ pI s n.m_ ∧ sI s n.f_) := by
  unfold kb
  have hst : fo n.m_ := hn.2.2.2.2.1
  have hal : n.f_.length ≤ 1048576 := hn.2.2.2.2.2.2.1.1
  by_cases hc : (n.k_.j_ = 0 ∧ n.k_.c_ = 0) ∧ n.t_.length = 0 ∧ n.x_ = 0
  · rw [if_neg (by simp only [Bool.or_eq_true, Bool.not_eq_true', bne_iff_ne, decide_eq_true_eq, ne_eq, Bool.and_true, Bool.and_eq_false_iff, beq_eq_false_iff_ne]; omega)]
    rcases (jY hs hst).cases with ⟨e, hS⟩ | ⟨e, hS⟩
    · rw [e]
      simp only [Option.bind_some, Bool.not_true, Bool.false_eq_true, if_false]
      rcases (nW hs hal).cases with ⟨e, hA⟩ | ⟨e, hA⟩
      · rw [e]
        simp only [Option.bind_some, Bool.not_true, Bool.false_eq_true, if_false]
        by_cases h0 : n.m_.b_.length = 0
        · rw [if_pos (by simp only [beq_iff_eq]; omega)]
          refine ⟨_, rfl, ?_⟩
          rw [beq_iff_eq]
          exact ⟨fun g => ⟨⟨hc.1, hc.2.1, hc.2.2, by rw [if_pos h0]; omega⟩, hS, hA⟩, fun g => by have := g.1.2.2.2; rw [if_pos h0] at this; omega⟩
        · rw [if_neg (by simp only [beq_iff_eq]; omega), sW hs hst hS]
          simp only [bS]
          have hid : ∀ o : Option Bool, (o.bind fun y => some y) = o := fun o => by cases o <;> rfl
          rw [hid]
          exact cR.of_iff ⟨fun g => ⟨⟨hc.1, hc.2.1, hc.2.2, by rw [if_neg h0]; exact g⟩, hS, hA⟩, fun g => by have := g.1.2.2.2; rw [if_neg h0] at this; exact this⟩
      · rw [e]
        exact dg fun g => hA g.2.2
    · rw [e]
      exact dg fun g => hS g.2.1
  · rw [if_pos (by simp only [Bool.or_eq_true, Bool.not_eq_true', bne_iff_ne, decide_eq_true_eq, ne_eq, Bool.and_true, Bool.and_eq_false_iff, beq_eq_false_iff_ne]; omega)]
    exact dg fun g => hc ⟨g.1.1, g.1.2.1, g.1.2.2.1⟩
theorem zL {s : ae} {t : ai} (hs : bK s) (ht : kv t) {i : Nat} (hi : i < t.a_.length) : Dec (jC s t (i : Int)) (yu s t i t.a_[i] ∧ pI s t.a_[i].m_ ∧ sI s t.a_[i].f_) := by
  unfold jC
  have hl := ht.1.1
  rw [bc hi]
  simp only [bS]
  have hnd := ht.1.2 _ (List.getElem_mem hi)
  generalize t.a_[i] = n at *
  have hkl : n.t_.length ≤ 1048576 := hnd.2.2.1.1
  have hst : fo n.m_ := hnd.2.2.2.2.1
  have hal : n.f_.length ≤ 1048576 := hnd.2.2.2.2.2.2.1.1
  rcases (kw (f := n.k_) hs).cases with ⟨e, hF⟩ | ⟨e, hF⟩
  · rw [e]
    simp only [Option.bind_some, Bool.not_true, Bool.false_eq_true, if_false]
    have hbr := AU hF
    rw [la hs hF]
    simp only [bS]
    by_cases hk : n.t_.length = brN s n.k_
    · rw [if_neg (by simp only [bne_iff_ne, ne_eq]; omega), bg (n := (n.t_.length : Int) - 1) (by omega) (by omega)]
      rcases (cR (x := n.x_) (a := 0) (b := (n.t_.length : Int) - 1)).cases with ⟨e, hm⟩ | ⟨e, hm⟩
      · rw [e]
        simp only [Option.bind_some, Bool.not_true, Bool.false_eq_true, if_false]
        rcases (jY hs hst).cases with ⟨e, hS⟩ | ⟨e, hS⟩
        · rw [e]
          simp only [Option.bind_some, Bool.not_true, Bool.false_or]
          by_cases hc : n.m_.b_.length = 0 ∧ n.v_ = 0
          · rw [if_neg (by simp only [Bool.or_eq_true, bne_iff_ne, decide_eq_true_eq, ne_eq]; omega)]
            rcases (nW hs hal).cases with ⟨e, hA⟩ | ⟨e, hA⟩
            · rw [e]
              simp only [Option.bind_some, Bool.not_true, Bool.false_eq_true, if_false]
              refine (mB (Lp := gB n (i : Int) t) (n := n.t_.length) (Q := fun j => ∀ h : j < n.t_.length, EB t i n.t_[j] ∧ (0 < j → n.t_[j - 1] < n.t_[j])) 0 (fun k j hj => ?_) (fun k j _ hj => ?_) (by omega)).of_iff
                ⟨fun g => ⟨⟨hF, hk, hm, hc.1, hc.2, fun j h1 hj _ => (g j (Nat.zero_le _) hj hj).2 h1, fun x hx => by
                  obtain ⟨j, hj, rfl⟩ := List.getElem_of_mem hx
                  exact (g j (Nat.zero_le _) hj hj).1⟩, hS, hA⟩, fun g j _ hj _ => ⟨g.1.2.2.2.2.2.2 _ (List.getElem_mem hj), fun h1 => g.1.2.2.2.2.2.1 j h1 hj hj⟩⟩
              · show (if _ then _ else _) = _
                rw [if_neg (by simp; omega)]
              · rw [gB, if_pos (by simp; omega), bc hj]
                simp only [bS]
                rw [aI (i := i) (by omega), bg (n := (t.a_.length : Int) - 1) (by omega) (by omega), aI (i := j) (by omega)]
                generalize hx : n.t_[j] = x
                rcases (cR (x := x) (a := ((i + 1 : Nat) : Int)) (b := (t.a_.length : Int) - 1)).cases with ⟨e, hr⟩ | ⟨e, hr⟩
                · rw [e]
                  simp only [Option.bind_some, Bool.not_true, Bool.false_eq_true, if_false]
                  obtain ⟨m, rfl⟩ : ∃ m : Nat, x = m := ⟨x.toNat, by omega⟩
                  have hm : m < t.a_.length := by omega
                  rw [bc hm]
                  simp only [bS]
                  by_cases hu : t.a_[m].p_ = (i : Int)
                  · rw [if_neg (by simp only [bne_iff_ne, ne_eq]; omega)]
                    have hK : EB t i n.t_[j] := by rw [hx]; exact ⟨m, hm, rfl, by omega, hu⟩
                    by_cases h1 : 0 < j
                    · rw [if_pos (by simp; omega), bg (n := (j : Int) - 1) (by omega) (by omega), show (j : Int) - 1 = ((j - 1 : Nat) : Int) by omega, bc (show j - 1 < n.t_.length by omega)]
                      simp only [bS]
                      by_cases hlt : n.t_[j] ≤ n.t_[j - 1]
                      · rw [if_pos (by rw [← hx]; simpa using hlt)]
                        exact .inr ⟨fun g => by have := (g hj).2 h1; omega, rfl⟩
                      · rw [if_neg (by rw [← hx]; simpa using hlt)]
                        exact .inl ⟨fun _ => ⟨hK, fun _ => by omega⟩, rfl⟩
                    · rw [if_neg (by simp; omega)]
                      exact .inl ⟨fun _ => ⟨hK, fun g => absurd g h1⟩, rfl⟩
                  · rw [if_pos (by simp only [bne_iff_ne, ne_eq]; omega)]
                    exact .inr ⟨fun g => by
                      obtain ⟨m', hm', g1, _, g2⟩ := (g hj).1
                      rw [hx] at g1
                      obtain rfl : m = m' := by omega
                      exact hu g2, rfl⟩
                · rw [e]
                  exact .inr ⟨fun g => by
                      obtain ⟨m', hm', g1, g3, g2⟩ := (g hj).1
                      rw [hx] at g1
                      exact hr ⟨by omega, by omega⟩, rfl⟩
            · rw [e]
              exact dg fun g => hA g.2.2
          · rw [if_pos (by simp only [Bool.or_eq_true, bne_iff_ne, decide_eq_true_eq, ne_eq]; omega)]
            exact dg fun g => hc ⟨g.1.2.2.2.1, g.1.2.2.2.2.1⟩
        · rw [e]
          exact dg fun g => hS g.2.1
      · rw [e]
        exact dg fun g => hm g.1.2.2.1
    · rw [if_pos (by simp only [bne_iff_ne, ne_eq]; omega)]
      exact dg fun g => hk g.1.2.1
  · rw [e]
    exact dg fun g => hF g.1.1
theorem zR {l : List Int} (hl : l.length ≤ 1048576) (x : Int) : Dec (lu l x) (x ∈ l) := by
  unfold lu
  have h := th (Lp := fun k j => cM l x k (j : Int)) (n := l.length) (Q := fun j => ∀ h : j < l.length, l[j] ≠ x) (fin := some false) (bad := some true) (fun k _ => by
    show cM l x (k + 1) _ = _
    rw [cM, if_neg (by simp)]) (fun k j hj _ => by
    show (_ ∧ cM l x (k + 1) _ = cM l x k _) ∨ (_ ∧ cM l x (k + 1) _ = _)
    rw [cM, if_pos (by simp; omega), bc hj, aI (by omega)]
    simp only [bS]
    by_cases h : l[j] = x
    · rw [if_pos (by simpa using h)]; exact .inr ⟨fun g => g hj h, rfl⟩
    · rw [if_neg (by simpa using h)]; exact .inl ⟨fun _ => h, rfl⟩) (by omega)
  rcases h with ⟨h1, h2⟩ | ⟨h1, h2⟩
  · have h2 : cM l x aY 0 = some false := h2
    rw [h2]
    exact dg fun hx => by
      obtain ⟨j, hj, e⟩ := List.getElem_of_mem hx
      exact h1 j hj hj e
  · have h2 : cM l x aY 0 = some true := h2
    rw [h2]
    refine pu (Classical.byContradiction fun hx => h1 fun j hj _ e => hx ?_)
    rw [← e]; exact List.getElem_mem hj
theorem qK {s : ae} {t : ai} (hs : bK s) (ht : kv t) : Dec (jn s t) (vf s t) := by
  unfold jn
  have hl := ht.1.1
  rcases (lG (mL hs)).cases with ⟨e, hS⟩ | ⟨e, hS⟩
  · rw [e]
    simp only [Option.bind_some, Bool.not_true, Bool.false_eq_true, if_false]
    rcases (cR (x := (t.a_.length : Int)) (a := 1) (b := 31)).cases with ⟨e, hn⟩ | ⟨e, hn⟩
    · rw [e]
      simp only [Option.bind_some, Bool.not_true, Bool.false_eq_true, if_false]
      rcases (cR (x := t.g_) (a := 0) (b := 99999)).cases with ⟨e, hq⟩ | ⟨e, hq⟩
      · rw [e]
        simp only [Option.bind_some, Bool.not_true, Bool.false_eq_true, if_false]
        refine (rY (Lp := fun k i => dE t s k (i : Int)) (n := t.a_.length) (Q := DL s t) (F := True) (fun k _ => ?_) (fun k i hi hQ => ?_) (by omega)).of_iff ⟨fun g => ⟨hS, hn, hq, g.1⟩, fun g => ⟨g.2.2.2, trivial⟩⟩
        · show Dec (dE t s (k + 1) _) _
          rw [dE, if_neg (by simp)]
          exact pu trivial
        · show (_ ∧ dE t s (k + 1) _ = dE t s k _) ∨ (_ ∧ dE t s (k + 1) _ = _)
          rw [dE, if_pos (by simp; omega), bc hi, aI (by omega)]
          simp only [bS]
          have hnd := ht.1.2 _ (List.getElem_mem hi)
          rcases (cR (x := t.a_[i].l_) (a := 0) (b := 6)).cases with ⟨e, hdp⟩ | ⟨e, hdp⟩
          · rw [e]
            simp only [Option.bind_some, Bool.not_true, Bool.false_eq_true, if_false]
            rcases (cR (x := t.a_[i].q_) (a := 0) (b := t.g_)).cases with ⟨e, hbn⟩ | ⟨e, hbn⟩
            · rw [e]
              simp only [Option.bind_some, Bool.not_true, Bool.false_eq_true, if_false]
              have hself : ∀ b : Bool, t.a_[i].s_ = b → ∀ K : Bool → Option Bool, (BT s t i t.a_[i] ∧ (((if t.a_[i].s_ = true then (kb s ({ t.a_[i] with s_ := true })).bind fun c => some (!c) else some false).bind fun d => (if d = true then some true else (if (!t.a_[i].s_) = true then (jC s t (i : Int)).bind fun f => some (!f) else some false).bind fun j => some j).bind K) = K false)) ∨
                  (¬ BT s t i t.a_[i] ∧ (((if t.a_[i].s_ = true then (kb s ({ t.a_[i] with s_ := true })).bind fun c => some (!c) else some false).bind fun d => (if d = true then some true else (if (!t.a_[i].s_) = true then (jC s t (i : Int)).bind fun f => some (!f) else some false).bind fun j => some j).bind K) = K true)) := fun b hb K => by
                cases b
                · rw [hb]
                  simp only [Option.bind_some, Bool.not_false, Bool.false_eq_true, if_true, if_false]
                  rcases (zL hs ht hi).cases with ⟨e, h⟩ | ⟨e, h⟩
                  · rw [e]
                    exact .inl ⟨⟨hdp, hbn, h.2.1, h.2.2, fun g => (nomatch hb.symm.trans g), fun _ => h.1⟩, rfl⟩
                  · rw [e]
                    exact .inr ⟨fun g => h ⟨g.2.2.2.2.2 hb, g.2.2.1, g.2.2.2.1⟩, rfl⟩
                · have hE : ({ t.a_[i] with s_ := true } : aG) = t.a_[i] := by rw [← hb]
                  rw [hE, hb]
                  simp only [Option.bind_some, Bool.not_true, Bool.false_eq_true, if_true, if_false]
                  rcases (AV hs hnd).cases with ⟨e, h⟩ | ⟨e, h⟩
                  · rw [e]
                    exact .inl ⟨⟨hdp, hbn, h.2.1, h.2.2, fun _ => h.1, fun g => (nomatch hb.symm.trans g)⟩, rfl⟩
                  · rw [e]
                    exact .inr ⟨fun g => h ⟨g.2.2.2.2.1 hb, g.2.2.1, g.2.2.2.1⟩, rfl⟩
              rcases hself _ rfl _ with ⟨hN, e⟩ | ⟨hN, e⟩
              · rw [e]
                simp only [Bool.false_eq_true, if_false]
                by_cases h0 : i = 0
                · rw [if_pos (by simp only [beq_iff_eq]; omega)]
                  by_cases hL : t.a_[i].p_ = -1 ∧ t.a_[i].l_ = 0 ∧ t.a_[i].q_ = 0
                  · rw [if_neg (by simp only [Bool.or_eq_true, bne_iff_ne, ne_eq]; omega)]
                    exact .inl ⟨fun _ => ⟨hN, fun _ => hL, fun g => by omega⟩, rfl⟩
                  · rw [if_pos (by simp only [Bool.or_eq_true, bne_iff_ne, ne_eq]; omega)]
                    exact .inr ⟨fun g => hL ((g hi).2.1 h0), rfl⟩
                · rw [if_neg (by simp only [beq_iff_eq]; omega), bg (n := (i : Int) - 1) (by omega) (by omega)]
                  rcases (cR (x := t.a_[i].p_) (a := 0) (b := (i : Int) - 1)).cases with ⟨e, hr⟩ | ⟨e, hr⟩
                  · rw [e]
                    simp only [Option.bind_some, Bool.not_true, Bool.false_eq_true, if_false]
                    obtain ⟨u, hu⟩ : ∃ u : Nat, t.a_[i].p_ = u := ⟨t.a_[i].p_.toNat, by omega⟩
                    have hui : u < i := by omega
                    have hul : u < t.a_.length := by omega
                    rw [hu, bc hul]
                    simp only [bS]
                    have hNu := hQ u hui hul
                    have hdu := hNu.1.1
                    rw [bg (n := t.a_[u].l_ + 1) (by omega) (by omega)]
                    by_cases hlf : t.a_[u].s_ = true
                    · rw [if_pos hlf]
                      exact .inr ⟨fun g => by
                        obtain ⟨u', _, hu', h1, h2, _⟩ := (g hi).2.2 (by omega)
                        obtain rfl : u = u' := by omega
                        exact (nomatch h2.symm.trans hlf), rfl⟩
                    · rw [if_neg hlf]
                      have hlf' : t.a_[u].s_ = false := by simpa using hlf
                      rcases (zR (l := t.a_[u].t_) (ht.1.2 _ (List.getElem_mem hul)).2.2.1.1 (i : Int)).cases with ⟨e, hc⟩ | ⟨e, hc⟩
                      · rw [e]
                        simp only [Option.bind_some, Bool.not_true, Bool.false_or]
                        by_cases hd2 : t.a_[u].l_ + 1 = t.a_[i].l_ ∧ t.a_[u].q_ ≤ t.a_[i].q_
                        · rw [if_neg (by simp only [Bool.or_eq_true, bne_iff_ne, decide_eq_true_eq, ne_eq]; omega)]
                          exact .inl ⟨fun _ => ⟨hN, fun g => absurd g h0, fun _ => ⟨u, hui, hul, hu, hlf', hc, hd2.1, hd2.2⟩⟩, rfl⟩
                        · rw [if_pos (by simp only [Bool.or_eq_true, bne_iff_ne, decide_eq_true_eq, ne_eq]; omega)]
                          exact .inr ⟨fun g => by
                            obtain ⟨u', _, hu', h1, h2, h3, h4, h5⟩ := (g hi).2.2 (by omega)
                            obtain rfl : u = u' := by omega
                            exact hd2 ⟨h4, h5⟩, rfl⟩
                      · rw [e]
                        exact .inr ⟨fun g => by
                          obtain ⟨u', _, hu', h1, h2, h3, h4, h5⟩ := (g hi).2.2 (by omega)
                          obtain rfl : u = u' := by omega
                          exact hc h3, rfl⟩
                  · rw [e]
                    exact .inr ⟨fun g => by
                      obtain ⟨u', _, hu', h1, _⟩ := (g hi).2.2 (by omega)
                      exact hr ⟨by omega, by omega⟩, rfl⟩
              · rw [e]
                exact .inr ⟨fun g => hN (g hi).1, rfl⟩
            · rw [e]
              exact .inr ⟨fun g => hbn (g hi).1.2.1, rfl⟩
          · rw [e]
            exact .inr ⟨fun g => hdp (g hi).1.1, rfl⟩
      · rw [e]
        exact dg fun g => hq g.2.2.1
    · rw [e]
      exact dg fun g => hn g.2.1
  · rw [e]
    exact dg fun g => hS g.1
end Go.Vk
