/- The functions of the code, as functions of data. Printed by program. -/
import Derived.Test.YtdckhcfbccnjiaaGreatDoorVkP
namespace Go.Vk
open Value renaming int → I, slice → S, pointer → O, bool → B
open IntKind renaming i64 → J, u8 → K
open Bool renaming true → y, false → n
open Option renaming some → U, none → N
theorem z {α : Sort _} {a : α} : a = a := Eq.refl a
theorem Y : True := True.intro
structure ao where
  i_ : Int
  h_ : Int
  deriving DecidableEq, Inhabited
structure bi where
  x_ : List UInt8
  t_ : List Int
  y_ : List (List UInt8)
  deriving DecidableEq, Inhabited
structure ae where
  b_ : List bi
  k_ : List (List UInt8)
  deriving DecidableEq, Inhabited
structure cA where
  F_ : Int
  G_ : Int
  H_ : Int
  m_ : Int
  a_ : Int
  D_ : Int
  E_ : Bool
  deriving DecidableEq, Inhabited
structure av where
  e_ : List Int
  d_ : List (List Int)
  deriving DecidableEq, Inhabited
structure ar where
  g_ : Int
  c_ : Int
  deriving DecidableEq, Inhabited
structure aR where
  s_ : Bool
  l_ : ar
  r_ : List Int
  w_ : Int
  n_ : av
  v_ : Int
  b_ : List Int
  m_ : Int
  o_ : Int
  p_ : Int
  deriving DecidableEq, Inhabited
structure aj where
  a_ : List aR
  j_ : Int
  deriving DecidableEq, Inhabited
structure bw where
  u_ : List Int
  z_ : Int
  deriving DecidableEq, Inhabited
structure bd where
  q_ : List Int
  c_ : Int
  deriving DecidableEq, Inhabited
structure aZ where
  C_ : Int
  B_ : Int
  deriving DecidableEq, Inhabited
structure bt where
  l_ : ar
  A_ : aZ
  deriving DecidableEq, Inhabited
noncomputable def qp (p0 : List Int) : Option (Bool) :=
  U (decide ((p0.length : Int) > 1048576))
noncomputable def gB (p0 : List Int) : Nat → Int → Int → Option (ao)
  | 0, _, _ => N
  | k1 + 1, c, a =>
    if ((decide (a < (p0.length : Int))) && (decide (a < 4000))) then (idx p0 a).bind fun d => (gB p0 k1) (iI .and J (J.wrap ((J.wrap ((J.wrap (c * 131)) + (J.wrap d))) + 7)) 1073741823) (J.wrap (a + 1)) else U (ao.mk 0 c)
noncomputable def lH (p0 : List Int) : Option (ao) :=
  gB p0 bh (J.wrap (26583 + (p0.length : Int))) 0
noncomputable def gE (p0b : List Int) (p0 : ao) : Option (Int × ao) :=
  if decide (p0.i_ < (p0b.length : Int)) then (idx p0b p0.i_).bind fun a => U (iI .and J (J.wrap ((iI .and J (iI .xor J (qz J (J.wrap ((J.wrap (p0.h_ * 6364136223846793005)) + 1442695040888963407)) 33) (qz J (J.wrap ((J.wrap (p0.h_ * 6364136223846793005)) + 1442695040888963407)) 45)) 255) + (J.wrap a))) 255, (ao.mk (J.wrap (p0.i_ + 1)) (J.wrap ((J.wrap (p0.h_ * 6364136223846793005)) + 1442695040888963407)))) else U (iI .and J (iI .xor J (qz J (J.wrap ((J.wrap (p0.h_ * 6364136223846793005)) + 1442695040888963407)) 33) (qz J (J.wrap ((J.wrap (p0.h_ * 6364136223846793005)) + 1442695040888963407)) 45)) 255, (ao.mk p0.i_ (J.wrap ((J.wrap (p0.h_ * 6364136223846793005)) + 1442695040888963407))))
noncomputable def cu (p0b : List Int) (p0 : ao) (p1 : Int) : Option (Int × ao) :=
  if decide (p1 ≤ 0) then U (0, p0) else if decide (p1 ≤ 256) then (gE p0b p0).bind fun a => (rem a.1 p1).bind fun g => U (g, a.2) else (gE p0b p0).bind fun c => (gE p0b c.2).bind fun d => (gE p0b d.2).bind fun e => (gE p0b e.2).bind fun f => (rem (J.wrap ((J.wrap ((J.wrap ((J.wrap (c.1 * 16777216)) + (J.wrap (d.1 * 65536)))) + (J.wrap (e.1 * 256)))) + f.1)) p1).bind fun h => U (h, f.2)
noncomputable def fj (p0b : List Int) (p0 : ao) (p1 : Int) : Option (Bool × ao) :=
  (cu p0b p0 p1).bind fun a => U ((a.1 == 0), a.2)
noncomputable def bJ (p0b : List Int) (p0 : ao) (p1 : List Int) : Option (Int × ao) :=
  (cu p0b p0 (p1.length : Int)).bind fun a => (idx p1 a.1).bind fun c => U (c, a.2)
noncomputable def ck (c : Int × ao) (p0b : List Int) (d : List UInt8) : Nat → Int → Int → (List Int) → Int → Int → Option (bi × ao)
  | 0, _, _, _, _, _ => N
  | k1 + 1, e, f, g, h, i =>
    if decide (i < (J.wrap (1 + c.1))) then (app g ([h] : List Int)).bind fun j => (cu p0b (ao.mk e f) 6).bind fun a => (ck c p0b d k1) a.2.i_ a.2.h_ j (J.wrap ((J.wrap (h + 1)) + a.1)) (J.wrap (i + 1)) else U ((bi.mk d g ([] : List (List UInt8))), (ao.mk e f))
noncomputable def cl (c : Int × ao) (e : List UInt8) : Nat → Int → (List (List UInt8)) → Option (bi × ao)
  | 0, _, _ => N
  | k2 + 1, a, d =>
    if decide (a < (J.wrap (2 + c.1))) then (idx ([([114, 101, 100] : List UInt8), ([98, 108, 117, 101] : List UInt8), ([120] : List UInt8), ([103, 114, 101, 101, 110] : List UInt8)] : List (List UInt8)) a).bind fun f => (app d ([f] : List (List UInt8))).bind fun g => (cl c e k2) (J.wrap (a + 1)) g else U ((bi.mk e ([] : List Int) d), c.2)
noncomputable def fh (p0b : List Int) (p0 : ao) (p1 : Int) : Option (bi × ao) :=
  (idx ([([97, 103, 101] : List UInt8), ([115, 105, 122, 101] : List UInt8), ([99, 111, 108, 111, 117, 114] : List UInt8), ([107] : List UInt8), ([108, 111, 110, 103, 110, 97, 109, 101] : List UInt8)] : List (List UInt8)) (Int.tmod p1 5)).bind fun d => (fj p0b p0 2).bind fun a => if a.1 then (cu p0b a.2 3).bind fun e => (bJ p0b e.2 ([(-9999), (-7), 0, 3, 20] : List Int)).bind fun c => ck e p0b d bh c.2.i_ c.2.h_ ([] : List Int) c.1 0 else (cu p0b a.2 3).bind fun f => cl f d bh 0 ([] : List (List UInt8))
noncomputable def ep (d : Int × ao) (p0b : List Int) (e : List (List UInt8)) : Nat → Int → Int → (List bi) → Int → Option (ae × ao)
  | 0, _, _, _, _ => N
  | k1 + 1, f, g, h, c =>
    if decide (c < (J.wrap (1 + d.1))) then (fh p0b (ao.mk f g) c).bind fun a => (app h [a.1]).bind fun i => (ep d p0b e k1) a.2.i_ a.2.h_ i (J.wrap (c + 1)) else U ((ae.mk h e), (ao.mk f g))
noncomputable def ij (p0b : List Int) (c : Int) (d : Int) (e : List (List UInt8)) : Option (ae × ao) :=
  (cu p0b (ao.mk c d) 5).bind fun a => ep a p0b e bh a.2.i_ a.2.h_ ([] : List bi) 0
noncomputable def jV (p0b : List Int) (p0 : ao) : Option (ae × ao) :=
  (fj p0b p0 3).bind fun a => if a.1 then (app ([([110, 111] : List UInt8), ([121, 101, 115] : List UInt8)] : List (List UInt8)) ([([112, 101, 114, 104, 97, 112, 115] : List UInt8)] : List (List UInt8))).bind fun c => ij p0b a.2.i_ a.2.h_ c else ij p0b a.2.i_ a.2.h_ ([([110, 111] : List UInt8), ([121, 101, 115] : List UInt8)] : List (List UInt8))
noncomputable def jE (p0b : List Int) (p0 : ao) (p1 : List (List UInt8)) : Option ((List UInt8) × ao) :=
  (cu p0b p0 (p1.length : Int)).bind fun a => (idx p1 a.1).bind fun c => U (c, a.2)
noncomputable def jn (p0b : List Int) (p0 : ao) : Option (bi × ao) :=
  (cu p0b p0 5).bind fun d => (fh p0b d.2 d.1).bind fun c => (cu p0b c.2 14).bind fun a => if (a.1 == 0) then (jE p0b a.2 ([([] : List UInt8), ([85, 112, 112, 101, 114] : List UInt8), ([119, 97, 121, 116, 111, 111, 108, 111, 110, 103] : List UInt8), ([97, 32, 98] : List UInt8)] : List (List UInt8))).bind fun e => U (({ c.1 with x_ := e.1 }), e.2) else if (a.1 == 1) then (bJ p0b a.2 ([(-10000), 9999, 9998, 0] : List Int)).bind fun f => (app c.1.t_ ([f.1] : List Int)).bind fun h => U (({ c.1 with t_ := h }), f.2) else if (a.1 == 2) then (jE p0b a.2 ([([114, 101, 100] : List UInt8), ([102, 105, 102, 116, 104] : List UInt8), ([] : List UInt8)] : List (List UInt8))).bind fun g => (app c.1.y_ ([g.1] : List (List UInt8))).bind fun i => U (({ c.1 with y_ := i }), g.2) else if (a.1 == 3) then U (({ c.1 with t_ := ([] : List Int) }), a.2) else if (a.1 == 4) then U ((bi.mk c.1.x_ ([9998] : List Int) ([] : List (List UInt8))), a.2) else U (c.1, a.2)
noncomputable def mc (p0b : List Int) (p0 : ao) : Option (ae × ao) :=
  (jV p0b p0).bind fun a => (cu p0b a.2 12).bind fun c => if (c.1 == 0) then (jn p0b c.2).bind fun d => (app a.1.b_ [d.1]).bind fun f => U ((ae.mk f a.1.k_), d.2) else if (c.1 == 1) then (jE p0b c.2 ([([110, 111] : List UInt8), ([111, 116, 104, 101, 114] : List UInt8), ([] : List UInt8)] : List (List UInt8))).bind fun e => (app a.1.k_ ([e.1] : List (List UInt8))).bind fun g => U ((ae.mk a.1.b_ g), e.2) else if (c.1 == 2) then U ((ae.mk ([] : List bi) a.1.k_), c.2) else if (c.1 == 3) then (sub a.1.k_ 0 1).bind fun h => U ((ae.mk a.1.b_ h), c.2) else U (a.1, c.2)
noncomputable def kq (p0b : List Int) (p0 : ao) : Option (cA × ao) :=
  (bJ p0b p0 ([1, 1, 2, 3, 9] : List Int)).bind fun a => (bJ p0b a.2 ([0, 50, 200, 500, 999] : List Int)).bind fun c => (bJ p0b c.2 ([1, 4, 10, 25, 200] : List Int)).bind fun d => (bJ p0b d.2 ([0, 1, 2, 4, 6, 6] : List Int)).bind fun e => (bJ p0b e.2 ([1, 3, 7, 15, 31, 31] : List Int)).bind fun f => (bJ p0b f.2 ([62, 63, 80, 100, 150, 2000] : List Int)).bind fun g => (fj p0b g.2 2).bind fun h => U ((cA.mk a.1 c.1 d.1 e.1 f.1 g.1 h.1), h.2)
noncomputable def cO (p1 : ae) (p0b : List Int) : Nat → Int → Int → (List Int) → Int → Option ((List Int) × ao)
  | 0, _, _, _, _ => N
  | k1 + 1, e, f, c, d =>
    if decide (d < (p1.b_.length : Int)) then (fj p0b (ao.mk e f) 4).bind fun a => if (!a.1) then (app c ([d] : List Int)).bind fun g => (cO p1 p0b k1) a.2.i_ a.2.h_ g (J.wrap (d + 1)) else (cO p1 p0b k1) a.2.i_ a.2.h_ c (J.wrap (d + 1)) else if ((c.length : Int) == 0) then U (([0] : List Int), (ao.mk e f)) else U (c, (ao.mk e f))
noncomputable def gi (p0b : List Int) (p0 : ao) (p1 : ae) : Option ((List Int) × ao) :=
  cO p1 p0b bh p0.i_ p0.h_ ([] : List Int) 0
noncomputable def bj (p0 : Int) (p1 : Int) (p2 : Int) : Option (Bool) :=
  U ((decide (p0 ≥ p1)) && (decide (p0 ≤ p2)))
noncomputable def gY (p0 : List UInt8) : Nat → Int → Option (Bool)
  | 0, _ => N
  | k1 + 1, a =>
    if decide (a < (p0.length : Int)) then (idx p0 a).bind fun c => (if decide ((c.toNat : Int) < 97) then U y else (idx p0 a).bind fun d => U (decide ((d.toNat : Int) > 122))).bind fun e => if e then U n else (gY p0 k1) (J.wrap (a + 1)) else U y
noncomputable def kE (p0 : List UInt8) : Option (Bool) :=
  (bj (p0.length : Int) 1 8).bind fun a => if (!a) then U n else gY p0 bh 0
noncomputable def eZ (a : Int) (p0 : List (List UInt8)) (R1 : Int → Option (Bool)) : Nat → Int → Option (Bool)
  | 0, _ => N
  | k2 + 1, c =>
    if decide (c < a) then (idx p0 a).bind fun d => (idx p0 c).bind fun e => if (d == e) then U n else (eZ a p0 R1 k2) (J.wrap (c + 1)) else R1 (J.wrap (a + 1))
noncomputable def dN (p0 : List (List UInt8)) : Nat → Int → Option (Bool)
  | 0, _ => N
  | k1 + 1, a =>
    if decide (a < (p0.length : Int)) then (idx p0 a).bind fun c => (kE c).bind fun d => if (!d) then U n else eZ a p0 (dN p0 k1) bh 0 else U y
noncomputable def jP (p0 : List (List UInt8)) : Option (Bool) :=
  dN p0 bh 0
noncomputable def gd (p0 : bi) : Nat → Int → Option (Bool)
  | 0, _ => N
  | k1 + 1, a =>
    if decide (a < (p0.t_.length : Int)) then (idx p0.t_ a).bind fun c => (bj c (-9999) 9998).bind fun d => (if (!d) then U y else (if decide (a > 0) then (idx p0.t_ a).bind fun e => (idx p0.t_ (J.wrap (a - 1))).bind fun f => U (decide (e ≤ f)) else U n).bind fun g => U g).bind fun h => if h then U n else (gd p0 k1) (J.wrap (a + 1)) else U y
noncomputable def kM (p0 : bi) : Option (Bool) :=
  (kE p0.x_).bind fun a => if (!a) then U n else if ((p0.t_.length : Int) == 0) then (bj (p0.y_.length : Int) 2 4).bind fun c => (if c then (jP p0.y_).bind fun d => U d else U n).bind fun e => U e else if ((decide ((p0.y_.length : Int) > 0)) || (decide ((p0.t_.length : Int) > 3))) then U n else gd p0 bh 0
noncomputable def eH (a : Int) (p0 : ae) (R1 : Int → Option (Bool)) : Nat → Int → Option (Bool)
  | 0, _ => N
  | k2 + 1, c =>
    if decide (c < a) then (idx p0.b_ a).bind fun d => (idx p0.b_ c).bind fun e => if (d.x_ == e.x_) then U n else (eH a p0 R1 k2) (J.wrap (c + 1)) else R1 (J.wrap (a + 1))
noncomputable def dl (p0 : ae) : Nat → Int → Option (Bool)
  | 0, _ => N
  | k1 + 1, a =>
    if decide (a < (p0.b_.length : Int)) then (idx p0.b_ a).bind fun c => (kM c).bind fun d => if (!d) then U n else eH a p0 (dl p0 k1) bh 0 else U y
noncomputable def ft (p0 : ae) : Option (Bool) :=
  (bj (p0.b_.length : Int) 1 5).bind fun a => (if (!a) then U y else (bj (p0.k_.length : Int) 2 3).bind fun c => U (!c)).bind fun d => (if d then U y else (jP p0.k_).bind fun e => U (!e)).bind fun f => if f then U n else dl p0 bh 0
noncomputable def gj (p1 : List Int) (p0 : ae) : Nat → Int → Option (Bool)
  | 0, _ => N
  | k1 + 1, a =>
    if decide (a < (p1.length : Int)) then (idx p1 a).bind fun c => (bj c 0 (J.wrap ((p0.b_.length : Int) - 1))).bind fun d => (if (!d) then U y else (if decide (a > 0) then (idx p1 a).bind fun e => (idx p1 (J.wrap (a - 1))).bind fun f => U (decide (e ≤ f)) else U n).bind fun g => U g).bind fun h => if h then U n else (gj p1 p0 k1) (J.wrap (a + 1)) else U y
noncomputable def fV (p0 : ae) (p1 : List Int) : Option (Bool) :=
  (ft p0).bind fun a => if ((!a) || ((p1.length : Int) == 0)) then U n else gj p1 p0 bh 0
noncomputable def fE (p0 : bi) : Option (Int) :=
  (kM p0).bind fun a => if (!a) then U 0 else if decide ((p0.t_.length : Int) > 0) then U (J.wrap ((p0.t_.length : Int) + 1)) else U (p0.y_.length : Int)
noncomputable def fg (p0 : ae) (c : List Int) : Nat → (List (List Int)) → Int → Option (av)
  | 0, _, _ => N
  | k1 + 1, d, a =>
    if decide (a < (p0.b_.length : Int)) then (idx p0.b_ a).bind fun e => (fE e).bind fun f => (mk (0 : Int) (J.wrap (f * (p0.k_.length : Int)))).bind fun g => (app d [g]).bind fun h => (fg p0 c k1) h (J.wrap (a + 1)) else U (av.mk c d)
noncomputable def fT (p0 : ae) : Option (av) :=
  (ft p0).bind fun a => if (!a) then U (av.mk ([] : List Int) ([] : List (List Int))) else (mk (0 : Int) (p0.k_.length : Int)).bind fun c => fg p0 c bh ([] : List (List Int)) 0
noncomputable def kZ (p0 : ae) (p1 : List Int) : Option (aj) :=
  (fV p0 p1).bind fun a => if (!a) then U (aj.mk ([] : List aR) 0) else (fT p0).bind fun c => (app ([] : List Int) p1).bind fun d => U (aj.mk [(aR.mk y (ar.mk 0 0) ([] : List Int) 0 c 0 d 0 (-1) 0)] 0)
noncomputable def io (f : List Int) (R1 : Int → Int → (List Int) → Int → Option (bw × ao)) (g : Int) (a : Int) (c : Int) (d : Int) : Option (bw × ao) :=
  (app f ([d] : List Int)).bind fun e => R1 a c e (J.wrap (g + 1))
noncomputable def dn (p1 : ae) (p0b : List Int) : Nat → Int → Int → (List Int) → Int → Option (bw × ao)
  | 0, _, _, _, _ => N
  | k1 + 1, i, j, d, g =>
    if decide (g < (p1.b_.length : Int)) then (idx p1.b_ g).bind fun k => (fE k).bind fun l => (cu p0b (ao.mk i j) l).bind fun h => (fj p0b h.2 9).bind fun a => if a.1 then io d (dn p1 p0b k1) g a.2.i_ a.2.h_ (-1) else io d (dn p1 p0b k1) g a.2.i_ a.2.h_ h.1 else (cu p0b (ao.mk i j) (p1.k_.length : Int)).bind fun e => (if decide ((d.length : Int) > 0) then (fj p0b e.2 5).bind fun f => U ((!f.1), f.2.i_, f.2.h_) else U (n, e.2.i_, e.2.h_)).bind fun c => if (c.1 && (decide ((p1.k_.length : Int) > 0))) then (idx d 0).bind fun m => (rem (J.wrap (m + 1)) (p1.k_.length : Int)).bind fun o => U ((bw.mk d o), (ao.mk c.2.1 c.2.2)) else U ((bw.mk d e.1), (ao.mk c.2.1 c.2.2))
noncomputable def jJ (p0b : List Int) (p0 : ao) (p1 : ae) : Option (bw × ao) :=
  dn p1 p0b bh p0.i_ p0.h_ ([] : List Int) 0
noncomputable def dW (p1 : Int) (p0b : List Int) : Nat → Int → Int → (List Int) → Int → Option ((List Int) × ao)
  | 0, _, _, _, _ => N
  | k1 + 1, c, d, e, f =>
    if decide (f < p1) then (gE p0b (ao.mk c d)).bind fun a => (app e ([K.wrap a.1] : List Int)).bind fun g => (dW p1 p0b k1) a.2.i_ a.2.h_ g (J.wrap (f + 1)) else U (e, (ao.mk c d))
noncomputable def ju (p0b : List Int) (p0 : ao) (p1 : Int) : Option ((List Int) × ao) :=
  dW p1 p0b bh p0.i_ p0.h_ ([] : List Int) 0
noncomputable def db (d : Int) (p1 : av) (e : Int) (p0 : ae) (a : Int) (R3 : Int → Option (Bool)) : Nat → Int → Int → Option (Bool)
  | 0, _, _ => N
  | k4 + 1, f, c =>
    if decide (c < d) then (idx p1.d_ e).bind fun h => (idx h (J.wrap ((J.wrap (c * (p0.k_.length : Int))) + a))).bind fun g => (bj g 0 999).bind fun i => if (!i) then U n else (db d p1 e p0 a R3 k4) (J.wrap (f + g)) (J.wrap (c + 1)) else (idx p1.e_ a).bind fun j => if decide (f > j) then U n else R3 (J.wrap (a + 1))
noncomputable def bQ (p0 : ae) (c : Int) (p1 : av) (a : Int) (R2 : Int → Option (Bool)) : Nat → Int → Option (Bool)
  | 0, _ => N
  | k3 + 1, d =>
    if decide (d < (p0.k_.length : Int)) then db c p1 a p0 d (bQ p0 c p1 a R2 k3) bh 0 0 else R2 (J.wrap (a + 1))
noncomputable def cJ (p1 : av) (p0 : ae) : Nat → Int → Option (Bool)
  | 0, _ => N
  | k2 + 1, a =>
    if decide (a < (p1.d_.length : Int)) then (idx p0.b_ a).bind fun d => (fE d).bind fun c => (idx p1.d_ a).bind fun e => if ((e.length : Int) != (J.wrap (c * (p0.k_.length : Int)))) then U n else bQ p0 c p1 a (cJ p1 p0 k2) bh 0 else U y
noncomputable def dw (p1 : av) (p0 : ae) : Nat → Int → Int → Option (Bool)
  | 0, _, _ => N
  | k1 + 1, c, a =>
    if decide (a < (p1.e_.length : Int)) then (idx p1.e_ a).bind fun d => (bj d 0 999).bind fun e => if (!e) then U n else (idx p1.e_ a).bind fun f => (dw p1 p0 k1) (J.wrap (c + f)) (J.wrap (a + 1)) else if decide (c > 999) then U n else if ((p1.d_.length : Int) == 0) then U y else if ((p1.d_.length : Int) != (p0.b_.length : Int)) then U n else cJ p1 p0 bh 0
noncomputable def eE (p0 : ae) (p1 : av) : Option (Bool) :=
  (ft p0).bind fun a => if ((!a) || ((p1.e_.length : Int) != (p0.k_.length : Int))) then U n else dw p1 p0 bh 0 0
noncomputable def ff (p1 : av) : Nat → Int → Int → Option (Int)
  | 0, _, _ => N
  | k1 + 1, c, a =>
    if decide (a < (p1.e_.length : Int)) then (idx p1.e_ a).bind fun d => (ff p1 k1) (J.wrap (c + d)) (J.wrap (a + 1)) else U c
noncomputable def dO (p0 : ae) (p1 : av) : Option (Int) :=
  (eE p0 p1).bind fun a => if (!a) then U 0 else ff p1 bh 0 0
noncomputable def je (p0 : ae) (p1 : aR) : Option (Bool) :=
  (if (((!(p1.l_.g_ == 0 && (p1.l_.c_ == 0 && y))) || (decide ((p1.r_.length : Int) > 0))) || (p1.w_ != 0)) then U y else (eE p0 p1.n_).bind fun a => U (!a)).bind fun c => (if c then U y else (fV p0 p1.b_).bind fun d => U (!d)).bind fun e => if e then U n else if ((p1.n_.d_.length : Int) == 0) then U (p1.v_ == 0) else (dO p0 p1.n_).bind fun f => (bj p1.v_ 0 f).bind fun g => U g
noncomputable def fF (p0 : ae) (p1 : ar) : Option (Bool) :=
  (ft p0).bind fun a => (if (!a) then U y else (bj p1.g_ 0 (J.wrap ((p0.b_.length : Int) - 1))).bind fun c => U (!c)).bind fun d => if d then U n else (idx p0.b_ p1.g_).bind fun e => if decide ((e.t_.length : Int) > 0) then (idx p0.b_ p1.g_).bind fun f => (fE f).bind fun g => (bj p1.c_ (-1) (J.wrap (g - 2))).bind fun h => U h else (idx p0.b_ p1.g_).bind fun i => (fE i).bind fun j => (bj p1.c_ (-1) (J.wrap (j - 1))).bind fun k => U k
noncomputable def dF (p0 : ae) (p1 : ar) : Option (Int) :=
  (fF p0 p1).bind fun a => if (!a) then U 0 else if (p1.c_ == (-1)) then (idx p0.b_ p1.g_).bind fun c => (fE c).bind fun d => U d else U 2
noncomputable def fR (c : aR) (p2 : Int) (p1 : aj) : Nat → Int → Option (Bool)
  | 0, _ => N
  | k1 + 1, a =>
    if decide (a < (c.r_.length : Int)) then (idx c.r_ a).bind fun d => (bj d (J.wrap (p2 + 1)) (J.wrap ((p1.a_.length : Int) - 1))).bind fun e => (if (!e) then U y else (idx c.r_ a).bind fun f => (idx p1.a_ f).bind fun g => U (g.o_ != p2)).bind fun h => (if h then U y else (if decide (a > 0) then (idx c.r_ a).bind fun i => (idx c.r_ (J.wrap (a - 1))).bind fun j => U (decide (i ≤ j)) else U n).bind fun k => U k).bind fun l => if l then U n else (fR c p2 p1 k1) (J.wrap (a + 1)) else U y
noncomputable def iA (p0 : ae) (p1 : aj) (p2 : Int) : Option (Bool) :=
  (idx p1.a_ p2).bind fun a => (fF p0 a.l_).bind fun c => (if (!c) then U y else (dF p0 a.l_).bind fun d => U ((a.r_.length : Int) != d)).bind fun e => (if e then U y else (bj a.w_ 0 (J.wrap ((a.r_.length : Int) - 1))).bind fun f => U (!f)).bind fun g => (if g then U y else (eE p0 a.n_).bind fun h => U (!h)).bind fun i => (if ((i || (decide ((a.n_.d_.length : Int) > 0))) || (a.v_ != 0)) then U y else (fV p0 a.b_).bind fun j => U (!j)).bind fun k => if k then U n else fR a p2 p1 bh 0
noncomputable def cR (p0 : List Int) (p1 : Int) : Nat → Int → Option (Bool)
  | 0, _ => N
  | k1 + 1, a =>
    if decide (a < (p0.length : Int)) then (idx p0 a).bind fun c => if (c == p1) then U y else (cR p0 p1 k1) (J.wrap (a + 1)) else U n
noncomputable def ko (p0 : List Int) (p1 : Int) : Option (Bool) :=
  cR p0 p1 bh 0
noncomputable def dA (p1 : aj) (p0 : ae) : Nat → Int → Option (Bool)
  | 0, _ => N
  | k1 + 1, c =>
    if decide (c < (p1.a_.length : Int)) then (idx p1.a_ c).bind fun a => (bj a.m_ 0 6).bind fun e => (if (!e) then U y else (bj a.p_ 0 p1.j_).bind fun f => U (!f)).bind fun g => if g then U n else (if a.s_ then (je p0 ({ a with s_ := y })).bind fun h => U (!h) else U n).bind fun i => (if i then U y else (if (!a.s_) then (iA p0 p1 c).bind fun j => U (!j) else U n).bind fun k => U k).bind fun l => if l then U n else if (c == 0) then if (((a.o_ != (-1)) || (a.m_ != 0)) || (a.p_ != 0)) then U n else (dA p1 p0 k1) (J.wrap (c + 1)) else (bj a.o_ 0 (J.wrap (c - 1))).bind fun m => if (!m) then U n else (idx p1.a_ a.o_).bind fun d => (if d.s_ then U y else (ko d.r_ c).bind fun o => U (!o)).bind fun p => if ((p || ((J.wrap (d.m_ + 1)) != a.m_)) || (decide (d.p_ > a.p_))) then U n else (dA p1 p0 k1) (J.wrap (c + 1)) else U y
noncomputable def gA (p0 : ae) (p1 : aj) : Option (Bool) :=
  (ft p0).bind fun a => (if (!a) then U y else (bj (p1.a_.length : Int) 1 31).bind fun c => U (!c)).bind fun d => (if d then U y else (bj p1.j_ 0 99999).bind fun e => U (!e)).bind fun f => if f then U n else dA p1 p0 bh 0
noncomputable def jC (p0 : cA) : Option (Bool) :=
  (bj p0.F_ 1 9).bind fun a => (if a then (bj p0.G_ 0 999).bind fun c => U c else U n).bind fun d => (if d then (bj p0.H_ 1 200).bind fun e => U e else U n).bind fun f => (if f then (bj p0.m_ 0 6).bind fun g => U g else U n).bind fun h => (if h then (bj p0.a_ 1 31).bind fun i => U i else U n).bind fun j => (if j then (bj p0.D_ 62 2000).bind fun k => U k else U n).bind fun l => U l
noncomputable def fb (p0 : aj) : Nat → Int → Int → Option (Int)
  | 0, _, _ => N
  | k1 + 1, c, a =>
    if decide (a < (p0.a_.length : Int)) then (if (a == 0) then U y else (idx p0.a_ a).bind fun d => U (decide (d.m_ > c))).bind fun e => if e then (idx p0.a_ a).bind fun f => (fb p0 k1) f.m_ (J.wrap (a + 1)) else (fb p0 k1) c (J.wrap (a + 1)) else U c
noncomputable def kT (p0 : aj) : Option (Int) :=
  fb p0 bh 0 0
noncomputable def fG (p0 : aR) : Nat → Int → Int → Option (Int)
  | 0, _, _ => N
  | k1 + 1, c, a =>
    if decide (a < (p0.n_.d_.length : Int)) then (idx p0.n_.d_ a).bind fun d => (fG p0 k1) (J.wrap (c + (d.length : Int))) (J.wrap (a + 1)) else U c
noncomputable def kP (p0 : aR) : Option (Int) :=
  if (!p0.s_) then U 1 else fG p0 bh 2 0
noncomputable def eN (p0 : aj) : Nat → Int → Int → Option (Int)
  | 0, _, _ => N
  | k1 + 1, c, a =>
    if decide (a < (p0.a_.length : Int)) then (idx p0.a_ a).bind fun d => (kP d).bind fun e => (eN p0 k1) (J.wrap (c + e)) (J.wrap (a + 1)) else U c
noncomputable def iP (p0 : aj) : Option (Int) :=
  eN p0 bh 0 0
noncomputable def nE (p0 : ae) (p1 : cA) (p2 : aj) : Option (Bool) :=
  (gA p0 p2).bind fun a => (if a then (jC p1).bind fun c => U c else U n).bind fun d => (if (d && (decide ((p2.a_.length : Int) ≤ p1.a_))) then (kT p2).bind fun e => U (decide (e ≤ p1.m_)) else U n).bind fun f => (if f then (iP p2).bind fun g => U (decide (g ≤ p1.D_)) else U n).bind fun h => U h
noncomputable def iu (p1 : bw) (p0 : ae) : Nat → Int → Option (Bool)
  | 0, _ => N
  | k1 + 1, a =>
    if decide (a < (p1.u_.length : Int)) then (idx p1.u_ a).bind fun e => (idx p0.b_ a).bind fun f => (fE f).bind fun c => (bj e (-1) (J.wrap (c - 1))).bind fun d => if (!d) then U n else (iu p1 p0 k1) (J.wrap (a + 1)) else U y
noncomputable def lA (p0 : ae) (p1 : bw) : Option (Bool) :=
  (ft p0).bind fun a => (if ((!a) || ((p1.u_.length : Int) != (p0.b_.length : Int))) then U y else (bj p1.z_ (-1) (J.wrap ((p0.k_.length : Int) - 1))).bind fun c => U (!c)).bind fun d => if d then U n else iu p1 p0 bh 0
noncomputable def kI (p0 : bd) : Option (Bool) :=
  (if decide ((p0.q_.length : Int) ≤ 600) then (bj p0.c_ 0 (p0.q_.length : Int)).bind fun a => U a else U n).bind fun c => U c
noncomputable def gc (p0 : av) (c : List Int) : Nat → (List (List Int)) → Int → Option (av)
  | 0, _, _ => N
  | k1 + 1, d, a =>
    if decide (a < (p0.d_.length : Int)) then (idx p0.d_ a).bind fun e => (app ([] : List Int) e).bind fun f => (app d [f]).bind fun g => (gc p0 c k1) g (J.wrap (a + 1)) else U (av.mk c d)
noncomputable def kF (p0 : av) : Option (av) :=
  (app ([] : List Int) p0.e_).bind fun a => gc p0 a bh ([] : List (List Int)) 0
noncomputable def gR (p0 : aR) : Option (aR) :=
  (app ([] : List Int) p0.r_).bind fun a => (app ([] : List Int) p0.b_).bind fun c => (kF p0.n_).bind fun d => U ({ p0 with r_ := a, n_ := d, b_ := c })
noncomputable def fH (p0 : aj) : Nat → (List aR) → Int → Option (aj)
  | 0, _, _ => N
  | k1 + 1, c, a =>
    if decide (a < (p0.a_.length : Int)) then (idx p0.a_ a).bind fun d => (gR d).bind fun e => (app c [e]).bind fun f => (fH p0 k1) f (J.wrap (a + 1)) else U (aj.mk c p0.j_)
noncomputable def fU (p0 : aj) : Option (aj) :=
  fH p0 bh ([] : List aR) 0
noncomputable def eC (p0 : bd) : Option (bd) :=
  (app ([] : List Int) p0.q_).bind fun a => U (bd.mk a p0.c_)
noncomputable def nf (p0 : Bool) : Option (Int) :=
  if p0 then U 1 else U 0
noncomputable def js (p0 : ae) (p1 : ar) (p2 : Int) : Option (Int) :=
  (fF p0 p1).bind fun a => (if (!a) then U y else (idx p0.b_ p1.g_).bind fun c => (fE c).bind fun d => (bj p2 0 (J.wrap (d - 1))).bind fun e => U (!e)).bind fun f => if f then U (-1) else if (p1.c_ == (-1)) then U p2 else (idx p0.b_ p1.g_).bind fun g => if decide ((g.t_.length : Int) > 0) then (nf (decide (p2 > p1.c_))).bind fun h => U h else (nf (p2 != p1.c_)).bind fun i => U i
noncomputable def fI (p1 : aj) (p2 : bw) (p0 : ae) : Nat → (List Int) → Int → Option (List Int)
  | 0, _, _ => N
  | k1 + 1, d, c =>
    (idx p1.a_ c).bind fun f => if (!f.s_) then (app d ([c] : List Int)).bind fun e => (idx p1.a_ c).bind fun a => (idx p2.u_ a.l_.g_).bind fun g => if decide (g ≥ 0) then (idx p2.u_ a.l_.g_).bind fun h => (js p0 a.l_ h).bind fun i => (idx a.r_ i).bind fun j => (fI p1 p2 p0 k1) e j else (idx a.r_ a.w_).bind fun k => (fI p1 p2 p0 k1) e k else (app d ([c] : List Int)).bind fun l => U l
noncomputable def mA (p0 : ae) (p1 : aj) (p2 : bw) : Option (List Int) :=
  fI p1 p2 p0 bh ([] : List Int) 0
noncomputable def nt (p0 : ae) (p1 : aj) (p2 : bw) : Option (List Int) :=
  (gA p0 p1).bind fun a => (if (!a) then U y else (lA p0 p2).bind fun c => U (!c)).bind fun d => if d then U ([] : List Int) else (mA p0 p1 p2).bind fun e => U e
noncomputable def lw (p0 : ae) (p1 : aj) (p2 : bw) : Option (Int) :=
  (nt p0 p1 p2).bind fun a => if ((a.length : Int) == 0) then U (-1) else (idx a (J.wrap ((a.length : Int) - 1))).bind fun c => U c
noncomputable def ez (e : av) (p2 : bw) (p0 : ae) (p3 : Int) (g : Int) : Nat → (List (List Int)) → Int → Option (av × Bool)
  | 0, _, _ => N
  | k1 + 1, f, a =>
    if decide (a < (e.d_.length : Int)) then (idx p2.u_ a).bind fun h => if decide (h ≥ 0) then (idx p2.u_ a).bind fun c => (idx f a).bind fun d => (idx d (J.wrap ((J.wrap (c * (p0.k_.length : Int))) + p2.z_))).bind fun i => (idx d (J.wrap ((J.wrap (c * (p0.k_.length : Int))) + p2.z_))).bind fun _ => (ez e p2 p0 p3 g k1) (f.set a.toNat (d.set (J.wrap ((J.wrap (c * (p0.k_.length : Int))) + p2.z_)).toNat (J.wrap (i + p3)))) (J.wrap (a + 1)) else (ez e p2 p0 p3 g k1) f (J.wrap (a + 1)) else U ((av.mk (e.e_.set p2.z_.toNat (J.wrap (g + p3))) f), y)
noncomputable def gD (p0 : ae) (p1 : av) (p2 : bw) (p3 : Int) : Option (av × Bool) :=
  (kF p1).bind fun a => (eE p0 p1).bind fun c => (if (!c) then U y else (lA p0 p2).bind fun d => U (!d)).bind fun e => (if (e || (decide (p2.z_ < 0))) then U y else (bj p3 1 7).bind fun f => U (!f)).bind fun g => (if g then U y else (dO p0 p1).bind fun h => U (decide ((J.wrap (h + p3)) > 999))).bind fun i => if i then U (a, n) else (idx a.e_ p2.z_).bind fun j => (idx a.e_ p2.z_).bind fun _ => ez a p2 p0 p3 j bh a.d_ 0
noncomputable def dh (p1 : List Int) (c : Int) (p0 : ae) (R1 : (List ar) → Int → Option (List ar)) : Nat → (List ar) → Int → Option (List ar)
  | 0, _, _ => N
  | k2 + 1, d, a =>
    if decide (a < 4) then (idx p1 c).bind fun e => (fF p0 (ar.mk e a)).bind fun f => if f then (app d ([(ar.mk e a)] : List ar)).bind fun g => (dh p1 c p0 R1 k2) g (J.wrap (a + 1)) else (dh p1 c p0 R1 k2) d (J.wrap (a + 1)) else R1 d (J.wrap (c + 1))
noncomputable def de (p1 : List Int) (p0 : ae) (p2 : Bool) : Nat → (List ar) → Int → Option (List ar)
  | 0, _, _ => N
  | k1 + 1, c, a =>
    if decide (a < (p1.length : Int)) then (idx p1 a).bind fun d => (idx p0.b_ d).bind fun e => if (((e.t_.length : Int) == 0) && (!p2)) then (idx p1 a).bind fun f => (app c ([(ar.mk f (-1))] : List ar)).bind fun g => (de p1 p0 p2 k1) g (J.wrap (a + 1)) else dh p1 a p0 (de p1 p0 p2 k1) bh c 0 else U c
noncomputable def jl (p0 : ae) (p1 : List Int) (p2 : Bool) : Option (List ar) :=
  (fV p0 p1).bind fun a => if (!a) then U ([] : List ar) else de p1 p0 p2 bh ([] : List ar) 0
noncomputable def cZ (e : List Int) (p1 : av) (p2 : ar) (d : Int) (p0 : ae) (R1 : Int → (List Int) → Option (List Int)) : Nat → Int → (List Int) → Option (List Int)
  | 0, _, _ => N
  | k2 + 1, a, c =>
    if decide (a < (e.length : Int)) then (idx c a).bind fun f => (idx p1.d_ p2.g_).bind fun g => (idx g (J.wrap ((J.wrap (d * (p0.k_.length : Int))) + a))).bind fun h => (idx c a).bind fun _ => (cZ e p1 p2 d p0 R1 k2) (J.wrap (a + 1)) (c.set a.toNat (J.wrap (f + h))) else R1 (J.wrap (d + 1)) c
noncomputable def ct (p0 : ae) (p2 : ar) (p3 : Int) (d : List Int) (p1 : av) : Nat → Int → (List Int) → Option (List Int)
  | 0, _, _ => N
  | k1 + 1, a, c =>
    (idx p0.b_ p2.g_).bind fun e => (fE e).bind fun f => if decide (a < f) then (js p0 p2 a).bind fun g => if (g == p3) then cZ d p1 p2 a p0 (ct p0 p2 p3 d p1 k1) bh 0 c else (ct p0 p2 p3 d p1 k1) (J.wrap (a + 1)) c else U c
noncomputable def gh (p0 : ae) (p1 : av) (p2 : ar) (p3 : Int) : Option (List Int) :=
  (eE p0 p1).bind fun c => (if ((!c) || ((p1.d_.length : Int) == 0)) then U y else (fF p0 p2).bind fun d => U (!d)).bind fun e => (if e then U y else (dF p0 p2).bind fun f => (bj p3 0 (J.wrap (f - 1))).bind fun g => U (!g)).bind fun h => if h then U ([] : List Int) else (mk (0 : Int) (p0.k_.length : Int)).bind fun a => ct p0 p2 p3 a p1 bh 0 a
noncomputable def gb (p0 : List Int) : Nat → Int → Int → Option (Int)
  | 0, _, _ => N
  | k1 + 1, c, a =>
    if decide (a < (p0.length : Int)) then (idx p0 a).bind fun d => (gb p0 k1) (J.wrap (c + d)) (J.wrap (a + 1)) else U c
noncomputable def jd (p0 : List Int) : Option (Int) :=
  gb p0 bh 0 0
noncomputable def fJ (p0 : List Int) : Nat → Int → Int → Option (Int)
  | 0, _, _ => N
  | k1 + 1, c, a =>
    if decide (a < (p0.length : Int)) then (idx p0 a).bind fun d => (bj d 0 999).bind fun e => if (!e) then U (-1) else (idx p0 a).bind fun f => (idx p0 a).bind fun g => (fJ p0 k1) (J.wrap (c + (J.wrap (f * g)))) (J.wrap (a + 1)) else U c
noncomputable def jO (p0 : List Int) : Option (Int) :=
  if decide ((p0.length : Int) > 3) then U (-1) else fJ p0 bh 0 0
noncomputable def gy (p0 : aZ) : Option (Bool) :=
  (bj p0.C_ 0 4000000000000000).bind fun a => (if a then (bj p0.B_ 1 4000000000000000).bind fun c => U c else U n).bind fun d => U d
noncomputable def ir  : Nat → Int → Int → Option (Int)
  | 0, _, _ => N
  | k1 + 1, c, a =>
    if decide (a > 0) then (rem c a).bind fun d => (ir k1) a d else U c
noncomputable def pd (p0 : Int) (p1 : Int) : Option (Int) :=
  if ((decide (p0 < 0)) || (decide (p1 < 0))) then U (-1) else ir bh p0 p1
noncomputable def lx (p0 : aZ) : Option (aZ) :=
  (gy p0).bind fun c => if (!c) then U (aZ.mk 0 0) else (pd p0.C_ p0.B_).bind fun a => (quo J p0.C_ a).bind fun d => (quo J p0.B_ a).bind fun e => U (aZ.mk d e)
noncomputable def fv (a : List Int) (e : List Int) (f : List Int) (R1 : Int → (List Int) → (List Int) → (List Int) → Option (aZ)) (g : Int) : Nat → Int → (List Int) → Option (aZ)
  | 0, _, _ => N
  | k2 + 1, c, d =>
    if decide (c < (a.length : Int)) then (idx d c).bind fun h => (idx a c).bind fun i => (idx d c).bind fun _ => (fv a e f R1 g k2) (J.wrap (c + 1)) (d.set c.toNat (J.wrap (h + i))) else (jd a).bind fun j => if decide (j > 0) then (jd a).bind fun k => (app e ([k] : List Int)).bind fun l => (jO a).bind fun m => (app f ([m] : List Int)).bind fun o => R1 (J.wrap (g + 1)) d l o else R1 (J.wrap (g + 1)) d e f
noncomputable def gC (e : List Int) (f : List Int) (a : Int) (c : Int) (g : List Int) : Nat → Int → Int → Option (aZ)
  | 0, _, _ => N
  | k4 + 1, h, d =>
    if decide (d < (e.length : Int)) then (idx f d).bind fun i => (idx e d).bind fun j => (quo J a j).bind fun k => (gC e f a c g k4) (J.wrap (h + (J.wrap ((J.wrap (i * c)) * k)))) (J.wrap (d + 1)) else (jO g).bind fun l => (lx (aZ.mk (J.wrap (h - (J.wrap (l * a)))) (J.wrap ((J.wrap (c * c)) * a)))).bind fun m => U m
noncomputable def gz (a : List Int) (d : List Int) (e : Int) (f : List Int) : Nat → Int → Int → Option (aZ)
  | 0, _, _ => N
  | k3 + 1, g, c =>
    if decide (c < (a.length : Int)) then (idx a c).bind fun h => (gz a d e f k3) (J.wrap (g * h)) (J.wrap (c + 1)) else gC a d g e f bh 0 0
noncomputable def ew (p0 : ae) (p2 : ar) (p1 : av) : Nat → Int → (List Int) → (List Int) → (List Int) → Option (aZ)
  | 0, _, _, _, _ => N
  | k1 + 1, a, c, d, e =>
    (dF p0 p2).bind fun g => if decide (a < g) then (gh p0 p1 p2 a).bind fun h => fv h d e (ew p0 p2 p1 k1) a bh 0 c else (jd c).bind fun f => if (f == 0) then U (aZ.mk 0 1) else gz d e f c bh 1 0
noncomputable def lE (p0 : ae) (p1 : av) (p2 : ar) : Option (aZ) :=
  (eE p0 p1).bind fun a => (if ((!a) || ((p1.d_.length : Int) == 0)) then U y else (fF p0 p2).bind fun c => U (!c)).bind fun d => if d then U (aZ.mk 0 0) else (mk (0 : Int) (p0.k_.length : Int)).bind fun e => ew p0 p2 p1 bh 0 e ([] : List Int) ([] : List Int)
noncomputable def gF  : Nat → Int → (List Int) → Option ((List Int) × Bool)
  | 0, _, _ => N
  | k1 + 1, a, c =>
    if decide (a > 0) then (app c ([Int.tmod a 16777216] : List Int)).bind fun d => (gF k1) (J.wrap (Int.tdiv a 16777216)) d else U (c, y)
noncomputable def lD (p0 : Int) : Option ((List Int) × Bool) :=
  if decide (p0 < 0) then U (([] : List Int), n) else gF bh p0 ([] : List Int)
noncomputable def fu (p0 : List Int) : Nat → Int → Option (Bool)
  | 0, _ => N
  | k1 + 1, a =>
    if decide (a < (p0.length : Int)) then (idx p0 a).bind fun c => (bj c 0 16777215).bind fun d => if (!d) then U n else (fu p0 k1) (J.wrap (a + 1)) else (if ((p0.length : Int) == 0) then U y else (idx p0 (J.wrap ((p0.length : Int) - 1))).bind fun e => U (e != 0)).bind fun f => U f
noncomputable def iE (p0 : List Int) : Option (Bool) :=
  if decide ((p0.length : Int) > 16) then U n else fu p0 bh 0
noncomputable def fY (p0 : List Int) : Nat → Int → Option (List Int)
  | 0, _ => N
  | k1 + 1, a =>
    (if decide (a > 0) then (idx p0 (J.wrap (a - 1))).bind fun c => U (c == 0) else U n).bind fun d => if d then (fY p0 k1) (J.wrap (a - 1)) else (sub p0 0 a).bind fun e => (app ([] : List Int) e).bind fun f => U f
noncomputable def kL (p0 : List Int) : Option (List Int) :=
  fY p0 bh (p0.length : Int)
noncomputable def eV (p1 : List Int) (a : Int) (p0 : List Int) (R1 : (List Int) → Int → Option ((List Int) × Bool)) : Nat → (List Int) → Int → Int → Option ((List Int) × Bool)
  | 0, _, _, _ => N
  | k2 + 1, c, e, d =>
    if decide (d < (p1.length : Int)) then (idx c (J.wrap (a + d))).bind fun f => (idx p0 a).bind fun g => (idx p1 d).bind fun h => (idx c (J.wrap (a + d))).bind fun _ => (eV p1 a p0 R1 k2) (c.set (J.wrap (a + d)).toNat (Int.tmod (J.wrap ((J.wrap (f + (J.wrap (g * h)))) + e)) 16777216)) (J.wrap (Int.tdiv (J.wrap ((J.wrap (f + (J.wrap (g * h)))) + e)) 16777216)) (J.wrap (d + 1)) else (idx c (J.wrap (a + (p1.length : Int)))).bind fun i => (idx c (J.wrap (a + (p1.length : Int)))).bind fun _ => R1 (c.set (J.wrap (a + (p1.length : Int))).toNat (J.wrap (i + e))) (J.wrap (a + 1))
noncomputable def eS (p0 : List Int) (p1 : List Int) : Nat → (List Int) → Int → Option ((List Int) × Bool)
  | 0, _, _ => N
  | k1 + 1, c, d =>
    if decide (d < (p0.length : Int)) then eV p1 d p0 (eS p0 p1 k1) bh c 0 0 else (kL c).bind fun a => if decide ((a.length : Int) > 16) then U (([] : List Int), n) else U (a, y)
noncomputable def iy (p0 : List Int) (p1 : List Int) : Option ((List Int) × Bool) :=
  (iE p0).bind fun a => (if (!a) then U y else (iE p1).bind fun c => U (!c)).bind fun d => if d then U (([] : List Int), n) else (mk (0 : Int) (J.wrap ((J.wrap ((p0.length : Int) + (p1.length : Int))) + 1))).bind fun e => eS p0 p1 bh e 0
noncomputable def fC (p0 : Int) (p1 : Int) : Option (List Int) :=
  (lD p0).bind fun a => (lD p1).bind fun c => (iy a.1 c.1).bind fun d => U d.1
noncomputable def mV (p0 : Int) (p1 : Int) : Option (Int) :=
  if decide (p0 > p1) then U p0 else U p1
noncomputable def jB (p0 : List Int) (p1 : Int) : Option (Int) :=
  if decide (p1 < (p0.length : Int)) then (idx p0 p1).bind fun a => U a else U 0
noncomputable def fW (p0 : List Int) (p1 : List Int) : Nat → Int → Option (Int)
  | 0, _ => N
  | k1 + 1, a =>
    if decide (a ≥ 0) then (jB p0 a).bind fun c => (jB p1 a).bind fun d => if decide (c < d) then U (-1) else if decide (c > d) then U 1 else (fW p0 p1 k1) (J.wrap (a - 1)) else U 0
noncomputable def jG (p0 : List Int) (p1 : List Int) : Option (Int) :=
  (iE p0).bind fun a => (if (!a) then U y else (iE p1).bind fun c => U (!c)).bind fun d => if d then U (-2) else (mV (p0.length : Int) (p1.length : Int)).bind fun e => fW p0 p1 bh (J.wrap (e - 1))
noncomputable def gr (p0 : aZ) (p1 : aZ) : Option (Int) :=
  (gy p0).bind fun a => (if (!a) then U y else (gy p1).bind fun c => U (!c)).bind fun d => if d then U (-2) else (fC p0.C_ p1.B_).bind fun e => (fC p1.C_ p0.B_).bind fun f => (jG e f).bind fun g => U g
noncomputable def ll (f : Int) (g : Int) (i : List ar) (a : Int) (R1 : Int → Int → Int → Int → Int → Option (ar × aZ)) (j : Int) (k : Int) (c : Int) (d : Int) : Option (ar × aZ) :=
  (gr (aZ.mk c d) (aZ.mk f g)).bind fun h => if decide (h > 0) then (idx i a).bind fun e => R1 e.g_ e.c_ c d (J.wrap (a + 1)) else R1 j k f g (J.wrap (a + 1))
noncomputable def fx (a : List ar) (p0 : ae) (p1 : av) : Nat → Int → Int → Int → Int → Int → Option (ar × aZ)
  | 0, _, _, _, _, _ => N
  | k1 + 1, e, f, g, h, c =>
    if decide (c < (a.length : Int)) then (idx a c).bind fun i => (lE p0 p1 i).bind fun d => ll g h a c (fx a p0 p1 k1) e f d.C_ d.B_ else U ((ar.mk e f), (aZ.mk g h))
noncomputable def mb (p0 : ae) (p1 : av) (p2 : Int) (p3 : Bool) : Option (ar × aZ) :=
  (eE p0 p1).bind fun e => (if ((!e) || ((p1.d_.length : Int) == 0)) then U y else (bj p2 0 (J.wrap ((p0.b_.length : Int) - 1))).bind fun f => U (!f)).bind fun g => if g then U ((ar.mk 0 0), (aZ.mk 0 0)) else (jl p0 ([p2] : List Int) p3).bind fun c => (idx c 0).bind fun a => (lE p0 p1 a).bind fun d => fx c p0 p1 bh a.g_ a.c_ d.C_ d.B_ 1
noncomputable def oc (p0 : bt) (p1 : bt) : Option (Bool) :=
  (gr p0.A_ p1.A_).bind fun a => U (a == 1)
noncomputable def ip (a : List bt) (d : Int) (e : Int) (f : Int) (g : Int) (R1 : Int → (List bt) → Option (List bt)) (h : Int) : Nat → Int → Option (List bt)
  | 0, _ => N
  | k2 + 1, c =>
    (if decide (c > 0) then (idx a (J.wrap (c - 1))).bind fun i => (oc (bt.mk (ar.mk d e) (aZ.mk f g)) i).bind fun j => U j else U n).bind fun k => if k then (ip a d e f g R1 h k2) (J.wrap (c - 1)) else (sub a 0 c).bind fun l => (app ([] : List bt) l).bind fun m => (app m ([(bt.mk (ar.mk d e) (aZ.mk f g))] : List bt)).bind fun o => (sub a c (a.length : Int)).bind fun p => (app o p).bind fun q => R1 (J.wrap (h + 1)) q
noncomputable def mw (a : List bt) (R1 : Int → (List bt) → Option (List bt)) (c : Int) (d : Int) (e : Int) (f : Int) (g : Int) : Option (List bt) :=
  ip a d e f g R1 c bh (a.length : Int)
noncomputable def eb (p2 : List Int) (p0 : ae) (p1 : av) (p3 : Bool) : Nat → Int → (List bt) → Option (List bt)
  | 0, _, _ => N
  | k1 + 1, c, d =>
    if decide (c < (p2.length : Int)) then (idx p2 c).bind fun e => (mb p0 p1 e p3).bind fun a => mw d (eb p2 p0 p1 p3 k1) c a.1.g_ a.1.c_ a.2.C_ a.2.B_ else U d
noncomputable def nS (p0 : ae) (p1 : av) (p2 : List Int) (p3 : Bool) : Option (List bt) :=
  (eE p0 p1).bind fun a => (if ((!a) || ((p1.d_.length : Int) == 0)) then U y else (fV p0 p2).bind fun c => U (!c)).bind fun d => if d then U ([] : List bt) else eb p2 p0 p1 p3 bh 0 ([] : List bt)
noncomputable def iX (a : List bt) (c : Int) (d : Int) : Option (bt × aZ × Bool) :=
  (idx a 0).bind fun e => U (e, (aZ.mk c d), y)
noncomputable def km (p0 : ae) (p1 : av) (p2 : List Int) (p3 : Bool) : Option (bt × aZ × Bool) :=
  (nS p0 p1 p2 p3).bind fun a => if ((a.length : Int) == 0) then U ((bt.mk (ar.mk 0 0) (aZ.mk 0 0)), (aZ.mk 0 0), n) else if decide ((a.length : Int) > 1) then (idx a 1).bind fun c => iX a c.A_.C_ c.A_.B_ else iX a 0 1
noncomputable def gG (p0 : aZ) : Option (Bool) :=
  (gy p0).bind fun a => U (a && (decide (p0.C_ ≤ p0.B_)))
noncomputable def jD (a : List Int) (R1 : (List Int) → Int → Int → Option ((List Int) × Bool)) (c : Int) (d : Int) (e : Int) : Option ((List Int) × Bool) :=
  (app a ([e] : List Int)).bind fun f => R1 f d (J.wrap (c + 1))
noncomputable def dM (p0 : List Int) (p1 : List Int) : Nat → (List Int) → Int → Int → Option ((List Int) × Bool)
  | 0, _, _, _ => N
  | k1 + 1, c, d, a =>
    if decide (a < (p0.length : Int)) then (idx p0 a).bind fun e => (jB p1 a).bind fun f => if decide ((J.wrap ((J.wrap (e - f)) - d)) < 0) then jD c (dM p0 p1 k1) a 1 (J.wrap ((J.wrap ((J.wrap (e - f)) - d)) + 16777216)) else jD c (dM p0 p1 k1) a 0 (J.wrap ((J.wrap (e - f)) - d)) else (kL c).bind fun g => U (g, y)
noncomputable def mg (p0 : List Int) (p1 : List Int) : Option ((List Int) × Bool) :=
  (iE p0).bind fun a => (if (!a) then U y else (iE p1).bind fun c => U (!c)).bind fun d => (if d then U y else (jG p0 p1).bind fun e => U (decide (e < 0))).bind fun f => if f then U (([] : List Int), n) else dM p0 p1 bh ([] : List Int) 0 0
noncomputable def kV (p0 : aZ) (p1 : aZ) : Option ((List Int) × (List Int) × Bool) :=
  (gy p0).bind fun a => (if (!a) then U y else (gy p1).bind fun c => U (!c)).bind fun d => (if d then U y else (gr p0 p1).bind fun e => U (decide (e < 0))).bind fun f => if f then U (([] : List Int), ([] : List Int), n) else (fC p0.C_ p1.B_).bind fun g => (fC p1.C_ p0.B_).bind fun h => (mg g h).bind fun i => (fC p0.B_ p1.B_).bind fun j => U (i.1, j, y)
noncomputable def mD (p0 : Int) : Option (Int) :=
  (bj p0 1 9).bind fun a => if (!a) then U 0 else U (J.wrap (Int.tdiv (J.wrap ((J.wrap (p0 * 2302585)) + 999)) 1000))
noncomputable def lW (p0 : aZ) (p1 : aZ) (p2 : Int) (p3 : Int) : Option (Bool) :=
  (gG p0).bind fun d => (if (!d) then U y else (gG p1).bind fun e => U (!e)).bind fun f => (if f then U y else (gr p0 p1).bind fun g => U (decide (g < 0))).bind fun h => (if h then U y else (bj p2 1 999).bind fun i => U (!i)).bind fun j => (if j then U y else (bj p3 1 9).bind fun k => U (!k)).bind fun l => if l then U n else (kV p0 p1).bind fun a => (iy a.1 a.1).bind fun m => (fC 2000 p2).bind fun o => (iy m.1 o).bind fun p => (iy a.2.1 a.2.1).bind fun q => (mD p3).bind fun r => (fC r 1).bind fun s => (iy q.1 s).bind fun t => (jG p.1 t.1).bind fun c => U (decide (c > 0))
noncomputable def nH (p0 : cA) (p1 : Int) : Option (Bool) :=
  (jC p0).bind fun a => (if a then (bj p1 1 999).bind fun c => U c else U n).bind fun d => (if d then (mD p0.F_).bind fun e => U (decide ((J.wrap (1000 * e)) < (J.wrap ((J.wrap ((J.wrap (2 * p1)) * p0.G_)) * p0.G_)))) else U n).bind fun f => U f
noncomputable def kW (p0 : cA) (p1 : aZ) (p2 : aZ) (p3 : Int) : Option (Int) :=
  (jC p0).bind fun a => (if (!a) then U y else (bj p3 1 999).bind fun c => U (!c)).bind fun d => (if d then U y else (gG p1).bind fun e => U (!e)).bind fun f => (if f then U y else (gG p2).bind fun g => U (!g)).bind fun h => (if h then U y else (gr p1 p2).bind fun i => U (decide (i < 0))).bind fun j => if j then U 4 else if (p1.C_ == 0) then U 3 else (lW p1 p2 p3 p0.F_).bind fun k => if k then U 1 else (nH p0 p3).bind fun l => if l then U 2 else U 0
noncomputable def mM (p0 : ae) (p1 : cA) (p2 : aR) : Option (ar × Int) :=
  (km p0 p2.n_ p2.b_ p1.E_).bind fun a => if ((!p2.s_) || (!a.2.2)) then U ((ar.mk 0 0), 4) else (dO p0 p2.n_).bind fun d => (kW p1 a.1.A_ a.2.1 d).bind fun c => if ((c == 1) || (c == 2)) then U (a.1.l_, c) else U ((ar.mk 0 0), c)
noncomputable def fk (c : List Int) (R1 : (List Int) → Int → Option (Int)) (d : Int) : Nat → (List Int) → Int → Option (Int)
  | 0, _, _ => N
  | k2 + 1, e, a =>
    if decide (a < (c.length : Int)) then (idx c (J.wrap (a - 1))).bind fun f => (idx c a).bind fun g => (app e ([J.wrap (f + g)] : List Int)).bind fun h => (fk c R1 d k2) h (J.wrap (a + 1)) else (app e ([1] : List Int)).bind fun i => R1 i (J.wrap (d + 1))
noncomputable def cS (p0 : Int) (p1 : Int) : Nat → (List Int) → Int → Option (Int)
  | 0, _, _ => N
  | k1 + 1, c, a =>
    if decide (a < p0) then fk c (cS p0 p1 k1) a bh ([1] : List Int) 1 else (idx c p1).bind fun d => U d
noncomputable def iB (p0 : Int) (p1 : Int) : Option (Int) :=
  (bj p0 0 20).bind fun a => (if (!a) then U y else (bj p1 0 p0).bind fun c => U (!c)).bind fun d => if d then U 0 else cS p0 p1 bh ([1] : List Int) 0
noncomputable def lL (p0 : bd) : Option (Int) :=
  (kI p0).bind fun a => if (!a) then U 0 else U (J.wrap ((p0.q_.length : Int) - p0.c_))
noncomputable def nW (p0 : bd) : Option (bd × Int × Bool) :=
  (eC p0).bind fun a => (lL p0).bind fun c => if decide (c < 2) then U (a, 0, n) else (idx p0.q_ p0.c_).bind fun d => (idx p0.q_ (J.wrap (p0.c_ + 1))).bind fun e => U ((bd.mk a.q_ (J.wrap (p0.c_ + 2))), J.wrap ((J.wrap ((J.wrap d) * 256)) + (J.wrap e)), y)
noncomputable def kS (p0 : bd) (p1 : Int) : Option (bd × Int × Bool) :=
  (nW p0).bind fun a => (if (!a.2.2) then U y else (bj p1 1 65536).bind fun c => U (!c)).bind fun d => if d then (eC p0).bind fun e => U (e, 0, n) else (rem a.2.1 p1).bind fun f => U (a.1, f, y)
noncomputable def eF (p1 : Int) (p0 : Int) : Nat → Int → (List Int) → Int → Option (List Int)
  | 0, _, _, _ => N
  | k1 + 1, d, a, c =>
    if decide ((a.length : Int) < p1) then (iB (J.wrap ((J.wrap (p0 - c)) - 1)) (J.wrap ((J.wrap (p1 - (a.length : Int))) - 1))).bind fun e => if decide (d < e) then (app a ([c] : List Int)).bind fun f => (eF p1 p0 k1) d f (J.wrap (c + 1)) else (eF p1 p0 k1) (J.wrap (d - e)) a (J.wrap (c + 1)) else U a
noncomputable def iC (p0 : Int) (p1 : Int) (p2 : Int) : Option (List Int) :=
  (iB p0 p1).bind fun a => (bj p2 0 (J.wrap (a - 1))).bind fun c => if (!c) then U ([] : List Int) else eF p1 p0 bh p2 ([] : List Int) 0
noncomputable def hI (p0 : bd) (p1 : Int) (p2 : Int) (a : Int) (c : Bool) (d : List Int) (e : Int) : Option (bd × (List Int) × Bool) :=
  if (!c) then (eC p0).bind fun f => U (f, ([] : List Int), n) else (iC p1 p2 a).bind fun g => U ((bd.mk d e), g, y)
noncomputable def jp (p0 : bd) (p1 : Int) (p2 : Int) : Option (bd × (List Int) × Bool) :=
  (iB p1 p2).bind fun c => (kS p0 c).bind fun a => hI p0 p1 p2 a.2.1 a.2.2 a.1.q_ a.1.c_
noncomputable def eo (p0 : List Int) : Nat → Int → Int → Option (Int)
  | 0, _, _ => N
  | k1 + 1, c, a =>
    if decide (a < (p0.length : Int)) then (if decide (c < 0) then U y else (idx p0 a).bind fun d => (idx p0 c).bind fun e => U (decide (d > e))).bind fun f => if f then (eo p0 k1) a (J.wrap (a + 1)) else (eo p0 k1) c (J.wrap (a + 1)) else U c
noncomputable def jg (p0 : List Int) : Option (Int) :=
  eo p0 bh (-1) 0
noncomputable def dS (p0 : ae) (p2 : ar) (p1 : av) : Nat → (List Int) → Int → Option (Int)
  | 0, _, _ => N
  | k1 + 1, c, a =>
    (dF p0 p2).bind fun g => if decide (a < g) then (gh p0 p1 p2 a).bind fun d => if ((d.length : Int) == 0) then U (-1) else (jd d).bind fun h => (app c ([h] : List Int)).bind fun e => (dS p0 p2 p1 k1) e (J.wrap (a + 1)) else (jg c).bind fun f => U f
noncomputable def kh (p0 : ae) (p1 : av) (p2 : ar) : Option (Int) :=
  dS p0 p2 p1 bh ([] : List Int) 0
noncomputable def lG (p0 : av) : Option (av) :=
  (app ([] : List Int) p0.e_).bind fun a => U (av.mk a ([] : List (List Int)))
noncomputable def er (p4 : List (List Int)) (p0 : ae) (d : Int) (p2 : Int) (p1 : aj) (p3 : ar) (f : Int) (g : List Int) (h : List (List Int)) (i : List Int) (j : Int) (k : Int) (r : aj) : Nat → (List aR) → (List Int) → Int → Option (aj × Bool)
  | 0, _, _, _ => N
  | k2 + 1, a, e, c =>
    if decide (c < (p4.length : Int)) then (app e ([(a.length : Int)] : List Int)).bind fun l => (idx p4 c).bind fun m => (fT p0).bind fun o => (app ([] : List Int) m).bind fun p => (app a [(aR.mk y (ar.mk 0 0) ([] : List Int) 0 o 0 p (J.wrap (d + 1)) p2 p1.j_)]).bind fun q => (er p4 p0 d p2 p1 p3 f g h i j k r k2) q l (J.wrap (c + 1)) else (idx a p2).bind fun _ => U ((aj.mk (a.set p2.toNat (aR.mk n p3 e f (av.mk g h) 0 i d j k)) r.j_), y)
noncomputable def kt (p4 : List (List Int)) (p0 : ae) (p2 : Int) (p1 : aj) (p3 : ar) (a : aj) (c : Int) (d : List Int) (e : List (List Int)) (f : List Int) (g : Int) (h : Int) (i : Int) : Option (aj × Bool) :=
  er p4 p0 g p2 p1 p3 c d e f h i a bh a.a_ ([] : List Int) 0
noncomputable def ex (p4 : List (List Int)) (p0 : ae) (c : aj) (p1 : aj) (p2 : Int) (p3 : ar) : Nat → Int → Option (aj × Bool)
  | 0, _ => N
  | k1 + 1, a =>
    if decide (a < (p4.length : Int)) then (idx p4 a).bind fun m => (fV p0 m).bind fun o => if (!o) then U (c, n) else (ex p4 p0 c p1 p2 p3 k1) (J.wrap (a + 1)) else (idx p1.a_ p2).bind fun p => if ((p.m_ == 6) || (decide ((J.wrap ((p1.a_.length : Int) + (p4.length : Int))) > 31))) then U (c, n) else (idx p1.a_ p2).bind fun e => (idx p1.a_ p2).bind fun f => (idx p1.a_ p2).bind fun g => (idx p1.a_ p2).bind fun h => (idx p1.a_ p2).bind fun i => (idx p1.a_ p2).bind fun j => (kh p0 e.n_ p3).bind fun k => (lG f.n_).bind fun d => (app ([] : List Int) g.b_).bind fun l => kt p4 p0 p2 p1 p3 c k d.e_ d.d_ l h.m_ i.o_ j.p_
noncomputable def kU (p0 : ae) (p1 : aj) (p2 : Int) (p3 : ar) (p4 : List (List Int)) : Option (aj × Bool) :=
  (fU p1).bind fun a => (gA p0 p1).bind fun g => (if (!g) then U y else (bj p2 0 (J.wrap ((p1.a_.length : Int) - 1))).bind fun h => U (!h)).bind fun i => (if i then U y else (idx p1.a_ p2).bind fun j => U (!j.s_)).bind fun k => (if k then U y else (idx p1.a_ p2).bind fun l => U ((l.n_.d_.length : Int) == 0)).bind fun m => (if m then U y else (fF p0 p3).bind fun c => U (!c)).bind fun d => (if d then U y else (dF p0 p3).bind fun e => U ((p4.length : Int) != e)).bind fun f => if f then U (a, n) else ex p4 p0 a p1 p2 p3 bh 0
noncomputable def dp (p0 : aj) : Nat → (List Int) → Int → Option (List Int)
  | 0, _, _ => N
  | k1 + 1, c, a =>
    if decide (a < (p0.a_.length : Int)) then (idx p0.a_ a).bind fun d => (if d.s_ then (idx p0.a_ a).bind fun e => U (decide ((e.n_.d_.length : Int) > 0)) else U n).bind fun f => if f then (app c ([a] : List Int)).bind fun g => (dp p0 k1) g (J.wrap (a + 1)) else (dp p0 k1) c (J.wrap (a + 1)) else U c
noncomputable def ix (p0 : aj) : Option (List Int) :=
  dp p0 bh ([] : List Int) 0
noncomputable def kb (p0 : ae) (p1 : av) : Option (Int) :=
  (eE p0 p1).bind fun a => if (!a) then U 0 else (dO p0 p1).bind fun c => (jg p1.e_).bind fun d => (idx p1.e_ d).bind fun e => U (J.wrap (c - e))
noncomputable def eW (d : List Int) (p1 : aj) (p0 : ae) : Nat → Int → Int → Option (Int)
  | 0, _, _ => N
  | k1 + 1, c, a =>
    if decide (a < (d.length : Int)) then (if decide (c < 0) then U y else (idx d a).bind fun e => (idx p1.a_ e).bind fun f => (kb p0 f.n_).bind fun g => (idx p1.a_ c).bind fun h => (kb p0 h.n_).bind fun i => U (decide (g < i))).bind fun j => if j then (idx d a).bind fun k => (eW d p1 p0 k1) k (J.wrap (a + 1)) else (eW d p1 p0 k1) c (J.wrap (a + 1)) else U c
noncomputable def jW (p0 : ae) (p1 : aj) : Option (Int) :=
  (gA p0 p1).bind fun a => if (!a) then U (-1) else (ix p1).bind fun c => eW c p1 p0 bh (-1) 0
noncomputable def gl (c : aj) (p2 : Int) (p0 : ae) : Nat → (List aR) → (List Int) → Option (aj × (List Int))
  | 0, _, _ => N
  | k1 + 1, a, e =>
    (iP (aj.mk a c.j_)).bind fun g => (if decide (g > p2) then (jW p0 (aj.mk a c.j_)).bind fun h => U (decide (h ≥ 0)) else U n).bind fun i => if i then (jW p0 (aj.mk a c.j_)).bind fun d => (idx a d).bind fun f => (lG f.n_).bind fun j => (app e ([d] : List Int)).bind fun k => (gl c p2 p0 k1) (a.set d.toNat ({ f with n_ := j, v_ := 0 })) k else U ((aj.mk a c.j_), e)
noncomputable def ld (p0 : ae) (p1 : aj) (p2 : Int) : Option (aj × (List Int)) :=
  (fU p1).bind fun a => (gA p0 p1).bind fun c => if (!c) then U (a, ([] : List Int)) else gl a p2 p0 bh a.a_ ([] : List Int)
noncomputable def dE (p0 : ae) (c : ar × Int) (p6 : Int) (p2 : aj) (p5 : bd) (d : aj) (e : Int) (f : aR) (g : av × Bool) (h : Int) (p1 : cA) : Nat → (List (List Int)) → (List Int) → Int → Int → Option (aj × bd × Int)
  | 0, _, _, _, _ => N
  | k1 + 1, i, j, k, l =>
    (dF p0 c.1).bind fun m => if decide (l < m) then (jp (bd.mk j k) (p0.b_.length : Int) p6).bind fun a => if (!a.2.2) then (fU p2).bind fun o => (eC p5).bind fun p => U (o, p, 4) else (app i [a.2.1]).bind fun q => (dE p0 c p6 p2 p5 d e f g h p1 k1) q a.1.q_ a.1.c_ (J.wrap (l + 1)) else (kU p0 (aj.mk (d.a_.set e.toNat ({ f with n_ := g.1, v_ := h })) (J.wrap (p2.j_ + 1))) e c.1 i).bind fun r => (ld p0 r.1 p1.D_).bind fun s => U (s.1, (bd.mk j k), 1)
noncomputable def fy (a : aj) (g : Int) (p5 : bd) (c : aR) (d : av × Bool) (p2 : aj) (p0 : ae) (p1 : cA) (p6 : Int) (e : Int) (i : Bool) : Option (aj × bd × Int) :=
  (idx a.a_ g).bind fun _ => if (!i) then (eC p5).bind fun j => U ((aj.mk (a.a_.set g.toNat ({ c with n_ := d.1, v_ := e })) (J.wrap (p2.j_ + 1))), j, 0) else (mM p0 p1 ({ c with n_ := d.1, v_ := e })).bind fun f => (if (((f.2 != 1) && (f.2 != 2)) || (decide (c.m_ ≥ p1.m_))) then U y else (dF p0 f.1).bind fun k => U (decide ((J.wrap ((a.a_.length : Int) + k)) > p1.a_))).bind fun l => if l then (eC p5).bind fun m => U ((aj.mk (a.a_.set g.toNat ({ c with n_ := d.1, v_ := e })) (J.wrap (p2.j_ + 1))), m, 0) else (eC p5).bind fun h => dE p0 f p6 p2 p5 a g c d e p1 bh ([] : List (List Int)) h.q_ h.c_ 0
noncomputable def jF (p0 : ae) (p1 : cA) (p2 : aj) (p3 : bw) (p4 : Int) (p5 : bd) (p6 : Int) : Option (aj × bd × Int) :=
  (nE p0 p1 p2).bind fun j => (if (!j) then U y else (lA p0 p3).bind fun k => U (!k)).bind fun l => (if (l || (decide (p3.z_ < 0))) then U y else (bj p4 1 7).bind fun m => U (!m)).bind fun o => (if o then U y else (kI p5).bind fun p => U (!p)).bind fun q => (if q then U y else (bj p6 1 (p0.b_.length : Int)).bind fun r => U (!r)).bind fun s => if s then (fU p2).bind fun t => (eC p5).bind fun u => U (t, u, 2) else (lw p0 p2 p3).bind fun d => (if (p2.j_ == 99999) then U y else (idx p2.a_ d).bind fun v => (dO p0 v.n_).bind fun f => U (decide (f > (J.wrap (999 - p4))))).bind fun w => if w then (fU p2).bind fun g => (eC p5).bind fun h => U (g, h, 3) else (fU p2).bind fun e => (idx p2.a_ d).bind fun i => (gR i).bind fun a => (gD p0 a.n_ p3 p4).bind fun c => if decide ((c.1.d_.length : Int) > 0) then if decide ((J.wrap (a.v_ + p4)) ≥ p1.H_) then fy e d p5 a c p2 p0 p1 p6 0 y else fy e d p5 a c p2 p0 p1 p6 (J.wrap (a.v_ + p4)) n else fy e d p5 a c p2 p0 p1 p6 a.v_ n
noncomputable def jM (h : List bw) (a : bw × ao) (R1 : Int → Int → (List aR) → Int → (List bw) → Int → Option (aj × (List bw) × ao)) (i : Int) (c : Int) (d : Int) (e : List aR) (f : Int) : Option (aj × (List bw) × ao) :=
  (app h [a.1]).bind fun g => R1 c d e f g (J.wrap (i + 1))
noncomputable def dz (p3 : Int) (p0b : List Int) (p1 : ae) (p2 : cA) (l : Int × ao) : Nat → Int → Int → (List aR) → Int → (List bw) → Int → Option (aj × (List bw) × ao)
  | 0, _, _, _, _, _, _ => N
  | k1 + 1, f, g, h, i, j, k =>
    if decide (k < p3) then (jJ p0b (ao.mk f g) p1).bind fun a => (ju p0b a.2 8).bind fun d => (bJ p0b d.2 ([1, 3, 7, 7] : List Int)).bind fun c => (jF p1 p2 (aj.mk h i) a.1 c.1 (bd.mk d.1 0) (J.wrap (1 + l.1))).bind fun e => jM j a (dz p3 p0b p1 p2 l k1) k c.2.i_ c.2.h_ e.1.a_ e.1.j_ else U ((aj.mk h i), j, (ao.mk f g))
noncomputable def ks (p0b : List Int) (p0 : ao) (p1 : ae) (p2 : cA) (p3 : Int) : Option (aj × (List bw) × ao) :=
  (gi p0b p0 p1).bind fun c => (kZ p1 c.1).bind fun d => (cu p0b c.2 (p1.b_.length : Int)).bind fun a => dz p3 p0b p1 p2 a bh a.2.i_ a.2.h_ d.a_ d.j_ ([] : List bw) 0
noncomputable def gJ (p0b : List Int) (p1 : ae) (d : cA × ao) (e : Int) (f : Int) (g : Int) : Option (aj × ao) :=
  (bJ p0b (ao.mk e f) ([0, 2, 12, 40, 60] : List Int)).bind fun a => (ks p0b a.2 p1 ({ d.1 with D_ := g }) a.1).bind fun c => U (c.1, c.2.2)
noncomputable def kg (p0b : List Int) (p0 : ao) (p1 : ae) : Option (aj × ao) :=
  (kq p0b p0).bind fun d => (fj p0b d.2 3).bind fun a => if a.1 then (bJ p0b a.2 ([62, 80, 120] : List Int)).bind fun c => gJ p0b p1 d c.2.i_ c.2.h_ c.1 else gJ p0b p1 d a.2.i_ a.2.h_ 2000
noncomputable def dv (p1 : ae) (c : Int) (R1 : (List ar) → Int → Option (ar × ao)) : Nat → (List ar) → Int → Option (ar × ao)
  | 0, _, _ => N
  | k2 + 1, d, a =>
    if decide (a < 4) then (fF p1 (ar.mk c a)).bind fun e => if e then (app d ([(ar.mk c a)] : List ar)).bind fun f => (dv p1 c R1 k2) f (J.wrap (a + 1)) else (dv p1 c R1 k2) d (J.wrap (a + 1)) else R1 d (J.wrap (c + 1))
noncomputable def dk (p1 : ae) (p0 : ao) (p0b : List Int) : Nat → (List ar) → Int → Option (ar × ao)
  | 0, _, _ => N
  | k1 + 1, a, d =>
    if decide (d < (p1.b_.length : Int)) then dv p1 d (dk p1 p0 p0b k1) bh a (-1) else if ((a.length : Int) == 0) then U ((ar.mk 0 0), p0) else (cu p0b p0 (a.length : Int)).bind fun c => (idx a c.1).bind fun e => U (e, c.2)
noncomputable def lc (p0b : List Int) (p0 : ao) (p1 : ae) : Option (ar × ao) :=
  dk p1 p0 p0b bh ([] : List ar) 0
noncomputable def lV (p0b : List Int) (p0 : ao) (p1 : ae) : Option (ar × ao) :=
  (lc p0b p0 p1).bind fun c => (cu p0b c.2 10).bind fun a => if (a.1 == 0) then (bJ p0b a.2 ([(-2), 1, 2, 3, 4, 9223372036854775807] : List Int)).bind fun d => U ((ar.mk c.1.g_ d.1), d.2) else if (a.1 == 1) then (bJ p0b a.2 ([(-1), 5, 4, 9223372036854775807] : List Int)).bind fun e => U ((ar.mk e.1 c.1.c_), e.2) else U (c.1, a.2)
noncomputable def lb (p0b : List Int) (p0 : ao) (p1 : ae) : Option ((List Int) × ao) :=
  (gi p0b p0 p1).bind fun c => (cu p0b c.2 10).bind fun a => if (a.1 == 0) then (bJ p0b a.2 ([0, 5, 4, (-1)] : List Int)).bind fun d => (app c.1 ([d.1] : List Int)).bind fun e => U (e, d.2) else if (a.1 == 1) then U (([] : List Int), a.2) else U (c.1, a.2)
noncomputable def em (k : Int × ao) (p0b : List Int) (p1 : ae) : Nat → Int → Int → (List Int) → (List (List Int)) → Int → Option (av × ao)
  | 0, _, _, _, _, _ => N
  | k1 + 1, f, g, a, c, h =>
    if decide (h < k.1) then (jJ p0b (ao.mk f g) p1).bind fun i => (bJ p0b i.2 ([1, 2, 7] : List Int)).bind fun d => (gD p1 (av.mk a c) i.1 d.1).bind fun j => (em k p0b p1 k1) d.2.i_ d.2.h_ j.1.e_ j.1.d_ (J.wrap (h + 1)) else (fj p0b (ao.mk f g) 8).bind fun e => if e.1 then (lG (av.mk a c)).bind fun l => U (l, e.2) else U ((av.mk a c), e.2)
noncomputable def kQ (p0b : List Int) (p0 : ao) (p1 : ae) : Option (av × ao) :=
  (fT p1).bind fun c => (bJ p0b p0 ([0, 1, 3, 12, 30, 60] : List Int)).bind fun a => em a p0b p1 bh a.2.i_ a.2.h_ c.e_ c.d_ 0
noncomputable def lZ (p0b : List Int) (p0 : ao) (p1 : ae) : Option (av × ao) :=
  (kQ p0b p0 p1).bind fun a => (cu p0b a.2 14).bind fun c => if (c.1 == 0) then if decide ((a.1.e_.length : Int) > 0) then (bJ p0b c.2 ([(-1), 999, 998, 1000, 9223372036854775807] : List Int)).bind fun d => (idx a.1.e_ 0).bind fun _ => U ((av.mk (a.1.e_.set (0 : Int).toNat d.1) a.1.d_), d.2) else U (a.1, c.2) else if (c.1 == 1) then (app a.1.e_ ([0] : List Int)).bind fun h => U ((av.mk h a.1.d_), c.2) else if (c.1 == 2) then (if decide ((a.1.d_.length : Int) > 0) then (idx a.1.d_ 0).bind fun i => U (decide ((i.length : Int) > 0)) else U n).bind fun j => if j then (idx a.1.d_ 0).bind fun e => (bJ p0b c.2 ([(-1), 500, 1000] : List Int)).bind fun f => (idx e 0).bind fun _ => U ((av.mk a.1.e_ (a.1.d_.set (0 : Int).toNat (e.set (0 : Int).toNat f.1))), f.2) else U (a.1, c.2) else if (c.1 == 3) then if decide ((a.1.d_.length : Int) > 0) then (idx a.1.d_ 0).bind fun k => (app k ([0] : List Int)).bind fun g => U ((av.mk a.1.e_ (a.1.d_.set (0 : Int).toNat g)), c.2) else U (a.1, c.2) else U (a.1, c.2)
noncomputable def jU (p0b : List Int) (p0 : ao) (p1 : ae) : Option (aj × ao) :=
  (kg p0b p0 p1).bind fun a => if ((a.1.a_.length : Int) == 0) then U (a.1, a.2) else (cu p0b a.2 (a.1.a_.length : Int)).bind fun d => (cu p0b d.2 22).bind fun c => if (c.1 == 0) then (bJ p0b c.2 ([(-1), 0, 99999, 100000] : List Int)).bind fun o => U ((aj.mk a.1.a_ o.1), o.2) else if (c.1 == 1) then (cu p0b c.2 8).bind fun p => (idx a.1.a_ d.1).bind fun C => U ((aj.mk (a.1.a_.set d.1.toNat ({ C with m_ := p.1 })) a.1.j_), p.2) else if (c.1 == 2) then (bJ p0b c.2 ([(-1), 0, 1, d.1, 9223372036854775807] : List Int)).bind fun q => (idx a.1.a_ d.1).bind fun D => U ((aj.mk (a.1.a_.set d.1.toNat ({ D with o_ := q.1 })) a.1.j_), q.2) else if (c.1 == 3) then (idx a.1.a_ d.1).bind fun e => (bJ p0b c.2 ([(-1), d.1, J.wrap (d.1 + 1), 40] : List Int)).bind fun f => (app e.r_ ([f.1] : List Int)).bind fun r => U ((aj.mk (a.1.a_.set d.1.toNat ({ e with r_ := r })) a.1.j_), f.2) else if (c.1 == 4) then (bJ p0b c.2 ([(-1), 1, 2, 4] : List Int)).bind fun g => (idx a.1.a_ d.1).bind fun s => U ((aj.mk (a.1.a_.set d.1.toNat ({ s with w_ := g.1 })) a.1.j_), g.2) else if (c.1 == 5) then (bJ p0b c.2 ([(-1), 1, 900, 9223372036854775807] : List Int)).bind fun h => (idx a.1.a_ d.1).bind fun t => U ((aj.mk (a.1.a_.set d.1.toNat ({ t with v_ := h.1 })) a.1.j_), h.2) else if (c.1 == 6) then (bJ p0b c.2 ([(-1), 0, 1, a.1.j_, J.wrap (a.1.j_ + 1)] : List Int)).bind fun i => (idx a.1.a_ d.1).bind fun u => U ((aj.mk (a.1.a_.set d.1.toNat ({ u with p_ := i.1 })) a.1.j_), i.2) else if (c.1 == 7) then (idx a.1.a_ d.1).bind fun j => U ((aj.mk (a.1.a_.set d.1.toNat ({ j with s_ := (!j.s_) })) a.1.j_), c.2) else if (c.1 == 8) then (lV p0b c.2 p1).bind fun k => (idx a.1.a_ d.1).bind fun v => U ((aj.mk (a.1.a_.set d.1.toNat ({ v with l_ := k.1 })) a.1.j_), k.2) else if (c.1 == 9) then (lb p0b c.2 p1).bind fun l => (idx a.1.a_ d.1).bind fun w => U ((aj.mk (a.1.a_.set d.1.toNat ({ w with b_ := l.1 })) a.1.j_), l.2) else if (c.1 == 10) then (lZ p0b c.2 p1).bind fun m => (idx a.1.a_ d.1).bind fun x => U ((aj.mk (a.1.a_.set d.1.toNat ({ x with n_ := m.1 })) a.1.j_), m.2) else if (c.1 == 11) then (sub a.1.a_ 0 (J.wrap ((a.1.a_.length : Int) - 1))).bind fun A => U ((aj.mk A a.1.j_), c.2) else U (a.1, c.2)
noncomputable def kw (p0 : List Int) : Option (ae × aj) :=
  (lH p0).bind fun e => (jV p0 e).bind fun a => (fj p0 a.2 12).bind fun c => if c.1 then (mc p0 c.2).bind fun d => (jU p0 d.2 d.1).bind fun f => U (d.1, f.1) else (jU p0 c.2 a.1).bind fun g => U (a.1, g.1)
noncomputable def iv (p0 : List Int) : Option (ae × aj) :=
  (kw p0).bind fun a => U (a.1, a.2)
noncomputable def mv (p0 : List Int) : Option (List Int) :=
  (lH p0).bind fun c => (bJ p0 c ([0, 1, 4, 9, 40] : List Int)).bind fun a => (ju p0 a.2 a.1).bind fun d => U d.1
noncomputable def iZ (p0 : List Int) : Option (List Int) :=
  (mv p0).bind fun a => U a
noncomputable def bL (p0 : Int) (p1 : Int) (p2 : Int) : Option (Bool) :=
  U ((decide (p0 ≥ p1)) && (decide (p0 ≤ p2)))
noncomputable def gS (p0 : List UInt8) : Nat → Int → Option (Bool)
  | 0, _ => N
  | k1 + 1, a =>
    if decide (a < (p0.length : Int)) then (idx p0 a).bind fun c => (if decide ((c.toNat : Int) < 97) then U y else (idx p0 a).bind fun d => U (decide ((d.toNat : Int) > 122))).bind fun e => if e then U n else (gS p0 k1) (J.wrap (a + 1)) else U y
noncomputable def kN (p0 : List UInt8) : Option (Bool) :=
  (bL (p0.length : Int) 1 8).bind fun a => if (!a) then U n else gS p0 bh 0
noncomputable def cm (p0 : List (List UInt8)) (p1 : List UInt8) : Nat → Int → Option (Int)
  | 0, _ => N
  | k1 + 1, a =>
    if decide (a < (p0.length : Int)) then (idx p0 a).bind fun c => if (p1 == c) then U a else (cm p0 p1 k1) (J.wrap (a + 1)) else U (-1)
noncomputable def dR (p0 : List (List UInt8)) (p1 : List UInt8) : Option (Int) :=
  cm p0 p1 bh 0
noncomputable def du (p0 : List (List UInt8)) (p1 : List UInt8) : Option (Bool) :=
  (dR p0 p1).bind fun a => U (decide (a ≥ 0))
noncomputable def dY (p0 : List (List UInt8)) : Nat → Int → Option (Bool)
  | 0, _ => N
  | k1 + 1, a =>
    if decide (a < (p0.length : Int)) then (idx p0 a).bind fun c => (kN c).bind fun d => (if (!d) then U y else (sub p0 0 a).bind fun e => (du e c).bind fun f => U f).bind fun g => if g then U n else (dY p0 k1) (J.wrap (a + 1)) else U y
noncomputable def eh (p0 : List (List UInt8)) : Option (Bool) :=
  dY p0 bh 0
noncomputable def ec (p0 : List Int) : Nat → Int → Option (Bool)
  | 0, _ => N
  | k1 + 1, a =>
    if decide (a < (p0.length : Int)) then (idx p0 a).bind fun c => (idx p0 (J.wrap (a - 1))).bind fun d => if decide (c ≤ d) then U n else (ec p0 k1) (J.wrap (a + 1)) else U y
noncomputable def fz (p0 : List Int) : Option (Bool) :=
  ec p0 bh 1
noncomputable def ow (p0 : Int) : Option (Bool) :=
  (bL p0 (-9999) 9998).bind fun a => U a
noncomputable def lM (p0 : Int) : Option (Bool) :=
  (ow p0).bind fun a => U (!a)
noncomputable def bG (p0 : List Int) : Nat → Int → Option (Int)
  | 0, _ => N
  | k1 + 1, a =>
    if decide (a < (p0.length : Int)) then (idx p0 a).bind fun c => (lM c).bind fun d => if d then U a else (bG p0 k1) (J.wrap (a + 1)) else U (-1)
noncomputable def cL (p0 : List Int) : Option (Int) :=
  bG p0 bh 0
noncomputable def cC (p0 : List Int) : Option (Bool) :=
  (cL p0).bind fun a => U (decide (a ≥ 0))
noncomputable def ma (p0 : List Int) : Option (Bool) :=
  (bL (p0.length : Int) 1 3).bind fun a => (if a then (fz p0).bind fun c => U c else U n).bind fun d => (if d then (cC p0).bind fun e => U (!e) else U n).bind fun f => U f
noncomputable def lY (p0 : bi) : Option (Bool) :=
  (kN p0.x_).bind fun a => if (!a) then U n else if ((p0.t_.length : Int) == 0) then (bL (p0.y_.length : Int) 2 4).bind fun c => (if c then (eh p0.y_).bind fun d => U d else U n).bind fun e => U e else (if ((p0.y_.length : Int) == 0) then (ma p0.t_).bind fun f => U f else U n).bind fun g => U g
noncomputable def dU (p0 : ae) : Nat → Int → (List (List UInt8)) → Option (Bool)
  | 0, _, _ => N
  | k1 + 1, a, d =>
    if decide (a < (p0.b_.length : Int)) then (idx p0.b_ a).bind fun c => (lY c).bind fun e => if (!e) then U n else (app d ([c.x_] : List (List UInt8))).bind fun f => (dU p0 k1) (J.wrap (a + 1)) f else (eh d).bind fun g => U g
noncomputable def fS (p0 : ae) : Option (Bool) :=
  (bL (p0.b_.length : Int) 1 5).bind fun a => (if (!a) then U y else (bL (p0.k_.length : Int) 2 3).bind fun c => U (!c)).bind fun d => (if d then U y else (eh p0.k_).bind fun e => U (!e)).bind fun f => if f then U n else dU p0 bh 0 ([] : List (List UInt8))
noncomputable def lh (p0 : Int) : Option (Bool) :=
  (bL p0 0 999).bind fun a => U (!a)
noncomputable def bB (p0 : List Int) : Nat → Int → Option (Int)
  | 0, _ => N
  | k1 + 1, a =>
    if decide (a < (p0.length : Int)) then (idx p0 a).bind fun c => (lh c).bind fun d => if d then U a else (bB p0 k1) (J.wrap (a + 1)) else U (-1)
noncomputable def cF (p0 : List Int) : Option (Int) :=
  bB p0 bh 0
noncomputable def cd (p0 : List Int) : Option (Bool) :=
  (cF p0).bind fun a => U (decide (a ≥ 0))
noncomputable def jN (p0 : List Int) (p1 : Int) : Option (Bool) :=
  (if ((p0.length : Int) == p1) then (cd p0).bind fun a => U (!a) else U n).bind fun c => U c
noncomputable def iD (p0 : List Int) : Nat → Int → Int → Option (Int)
  | 0, _, _ => N
  | k1 + 1, c, a =>
    if decide (a < (p0.length : Int)) then (idx p0 a).bind fun d => (iD p0 k1) (J.wrap (c + d)) (J.wrap (a + 1)) else U c
noncomputable def kD (p0 : List Int) : Option (Int) :=
  iD p0 bh 0 0
noncomputable def gg (p0 : bi) : Option (Int) :=
  if decide ((p0.t_.length : Int) > 0) then U (J.wrap ((p0.t_.length : Int) + 1)) else U (p0.y_.length : Int)
noncomputable def og (p0 : Int) : Option (List Int) :=
  (mk (0 : Int) p0).bind fun a => U a
noncomputable def dm (e : List Int) (p0 : ae) (p1 : av) (R1 : Int → Option (Bool)) (f : Int) : Nat → Int → (List Int) → Option (Bool)
  | 0, _, _ => N
  | k2 + 1, a, c =>
    if decide (a < (e.length : Int)) then (idx e a).bind fun g => (rem a (p0.k_.length : Int)).bind fun d => (idx c d).bind fun h => (idx c d).bind fun _ => (rem a (p0.k_.length : Int)).bind fun i => (idx (c.set d.toNat (J.wrap (h + g))) i).bind fun j => (rem a (p0.k_.length : Int)).bind fun k => (idx p1.e_ k).bind fun l => if decide (j > l) then U n else (dm e p0 p1 R1 f k2) (J.wrap (a + 1)) (c.set d.toNat (J.wrap (h + g))) else R1 (J.wrap (f + 1))
noncomputable def dc (p1 : av) (p0 : ae) : Nat → Int → Option (Bool)
  | 0, _ => N
  | k1 + 1, a =>
    if decide (a < (p1.d_.length : Int)) then (idx p1.d_ a).bind fun c => (idx p0.b_ a).bind fun d => (gg d).bind fun e => (jN c (J.wrap (e * (p0.k_.length : Int)))).bind fun f => if (!f) then U n else (og (p0.k_.length : Int)).bind fun g => dm c p0 p1 (dc p1 p0 k1) a bh 0 g else U y
noncomputable def ji (p0 : ae) (p1 : av) : Option (Bool) :=
  (fS p0).bind fun a => (if (!a) then U y else (jN p1.e_ (p0.k_.length : Int)).bind fun c => U (!c)).bind fun d => (if d then U y else (kD p1.e_).bind fun e => U (decide (e > 999))).bind fun f => if f then U n else if ((p1.d_.length : Int) == 0) then U y else if ((p1.d_.length : Int) != (p0.b_.length : Int)) then U n else dc p1 p0 bh 0
noncomputable def lf (p0 : ae) (p1 : List Int) : Option (Bool) :=
  (fS p0).bind fun a => (if (a && (decide ((p1.length : Int) > 0))) then (fz p1).bind fun c => U c else U n).bind fun d => (if d then (idx p1 0).bind fun e => U (decide (e ≥ 0)) else U n).bind fun f => (if f then (idx p1 (J.wrap ((p1.length : Int) - 1))).bind fun g => U (decide (g < (p0.b_.length : Int))) else U n).bind fun h => U h
noncomputable def jb (p0 : ae) (p1 : ar) : Option (Bool) :=
  (fS p0).bind fun d => (if (!d) then U y else (bL p1.g_ 0 (J.wrap ((p0.b_.length : Int) - 1))).bind fun e => U (!e)).bind fun f => if f then U n else (idx p0.b_ p1.g_).bind fun a => (gg a).bind fun c => if decide ((a.t_.length : Int) > 0) then (bL p1.c_ (-1) (J.wrap ((J.wrap (c - 1)) - 1))).bind fun g => U g else (bL p1.c_ (-1) (J.wrap (c - 1))).bind fun h => U h
noncomputable def iG (p0 : ae) (p1 : ar) : Option (Int) :=
  (jb p0 p1).bind fun a => if (!a) then U 0 else if (p1.c_ == (-1)) then (idx p0.b_ p1.g_).bind fun c => (gg c).bind fun d => U d else U 2
noncomputable def ki (p0 : Int) (p1 : Int) (p2 : aj) : Option (Bool) :=
  (bL p0 (J.wrap (p1 + 1)) (J.wrap ((p2.a_.length : Int) - 1))).bind fun a => (if (!a) then U y else (idx p2.a_ p0).bind fun c => U (c.o_ != p1)).bind fun d => U d
noncomputable def bD (p0 : List Int) (p1_0 : Int) (p1_1 : aj) : Nat → Int → Option (Int)
  | 0, _ => N
  | k1 + 1, a =>
    if decide (a < (p0.length : Int)) then (idx p0 a).bind fun c => (ki c p1_0 p1_1).bind fun d => if d then U a else (bD p0 p1_0 p1_1 k1) (J.wrap (a + 1)) else U (-1)
noncomputable def cM (p0 : List Int) (p1_0 : Int) (p1_1 : aj) : Option (Int) :=
  bD p0 p1_0 p1_1 bh 0
noncomputable def ce (p0 : List Int) (p1_0 : Int) (p1_1 : aj) : Option (Bool) :=
  (cM p0 p1_0 p1_1).bind fun a => U (decide (a ≥ 0))
noncomputable def iW (a : aR) (c : Int) : Option (Bool) :=
  (if (((a.l_.g_ == 0 && (a.l_.c_ == 0 && y)) && ((a.r_.length : Int) == 0)) && (a.w_ == 0)) then (bL a.v_ 0 c).bind fun d => U d else U n).bind fun e => U e
noncomputable def lT (p0 : ae) (p1 : aj) (p2 : Int) : Option (Bool) :=
  (idx p1.a_ p2).bind fun a => (bL a.m_ 0 6).bind fun h => (if (!h) then U y else (bL a.p_ 0 p1.j_).bind fun i => U (!i)).bind fun j => (if j then U y else (ji p0 a.n_).bind fun k => U (!k)).bind fun l => (if l then U y else (lf p0 a.b_).bind fun m => U (!m)).bind fun o => if o then U n else if a.s_ then (kD a.n_.e_).bind fun p => if ((a.n_.d_.length : Int) == 0) then iW a 0 else iW a p else (iG p0 a.l_).bind fun c => (if ((c == 0) || ((a.r_.length : Int) != c)) then U y else (fz a.r_).bind fun d => U (!d)).bind fun q => (if q then U y else (bL a.w_ 0 (J.wrap (c - 1))).bind fun e => U (!e)).bind fun f => if ((f || ((a.n_.d_.length : Int) != 0)) || (a.v_ != 0)) then U n else (ce a.r_ p2 p1).bind fun g => U (!g)
noncomputable def bR (p0 : List Int) (p1 : Int) : Nat → Int → Option (Int)
  | 0, _ => N
  | k1 + 1, a =>
    if decide (a < (p0.length : Int)) then (idx p0 a).bind fun c => if (p1 == c) then U a else (bR p0 p1 k1) (J.wrap (a + 1)) else U (-1)
noncomputable def dt (p0 : List Int) (p1 : Int) : Option (Int) :=
  bR p0 p1 bh 0
noncomputable def dx (p0 : List Int) (p1 : Int) : Option (Bool) :=
  (dt p0 p1).bind fun a => U (decide (a ≥ 0))
noncomputable def dC (p1 : aj) (p0 : ae) : Nat → Int → Option (Bool)
  | 0, _ => N
  | k1 + 1, a =>
    if decide (a < (p1.a_.length : Int)) then (idx p1.a_ a).bind fun c => (lT p0 p1 a).bind fun e => if (!e) then U n else if (a == 0) then if (((c.o_ != (-1)) || (c.m_ != 0)) || (c.p_ != 0)) then U n else (dC p1 p0 k1) (J.wrap (a + 1)) else (bL c.o_ 0 (J.wrap (a - 1))).bind fun f => if (!f) then U n else (idx p1.a_ c.o_).bind fun d => (if d.s_ then U y else (dx d.r_ a).bind fun g => U (!g)).bind fun h => if ((h || (d.m_ != (J.wrap (c.m_ - 1)))) || (decide (d.p_ > c.p_))) then U n else (dC p1 p0 k1) (J.wrap (a + 1)) else U y
noncomputable def lR (p0 : ae) (p1 : aj) : Option (Bool) :=
  (fS p0).bind fun a => (if (!a) then U y else (bL (p1.a_.length : Int) 1 31).bind fun c => U (!c)).bind fun d => (if d then U y else (bL p1.j_ 0 99999).bind fun e => U (!e)).bind fun f => if f then U n else dC p1 p0 bh 0
noncomputable def gH (p0 : Int) : Option (List UInt8) :=
  (xb p0).bind fun a => U a
noncomputable def nj (p0 : aR) : Option (Bool) :=
  U (p0.s_ && (decide ((p0.n_.d_.length : Int) > 0)))
noncomputable def dj (p0 : List Int) (p1 : List UInt8) : Nat → Int → (List (List UInt8)) → Option (List UInt8)
  | 0, _, _ => N
  | k1 + 1, a, c =>
    if decide (a < (p0.length : Int)) then (idx p0 a).bind fun d => (gH d).bind fun e => (app c ([e] : List (List UInt8))).bind fun f => (dj p0 p1 k1) (J.wrap (a + 1)) f else (rI c p1).bind fun g => U g
noncomputable def iM (p0 : List Int) (p1 : List UInt8) : Option (List UInt8) :=
  dj p0 p1 bh 0 ([] : List (List UInt8))
noncomputable def kx (p0 : List Int) : Option (List UInt8) :=
  (iM p0 ([47] : List UInt8)).bind fun a => U a
noncomputable def cD (p0 : List Int) : Nat → Int → Int → Option (Int)
  | 0, _, _ => N
  | k1 + 1, a, c =>
    if decide (c < (p0.length : Int)) then (idx p0 c).bind fun d => (cD p0 k1) (if a < d then d else a) (J.wrap (c + 1)) else U a
noncomputable def eJ (p0 : List Int) : Option (Int) :=
  if decide ((p0.length : Int) < 1) then N else (idx p0 0).bind fun a => cD p0 bh a 1
noncomputable def lC (p0 : List Int) : Option (Int) :=
  if ((p0.length : Int) == 0) then U (-1) else (eJ p0).bind fun a => (dt p0 a).bind fun c => U c
noncomputable def dQ (p0 : List (List UInt8)) : Option (List (List UInt8)) :=
  (app ([] : List (List UInt8)) p0).bind fun a => U a
noncomputable def kj (p0 : ae) (p1 : ar) : Option (List UInt8) :=
  (jb p0 p1).bind fun c => if (!c) then U ([] : List UInt8) else (idx p0.b_ p1.g_).bind fun a => if (p1.c_ == (-1)) then (rn a.x_ ([42] : List UInt8)).bind fun d => U d else if decide ((a.t_.length : Int) > 0) then (rn a.x_ ([60, 61] : List UInt8)).bind fun e => (idx a.t_ p1.c_).bind fun f => (gH f).bind fun g => (rn e g).bind fun h => U h else (rn a.x_ ([61] : List UInt8)).bind fun i => (dQ a.y_).bind fun j => (idx j p1.c_).bind fun k => (rn i k).bind fun l => U l
noncomputable def gO (p1 : aR) (p0 : ae) (a : List UInt8) : Option (List UInt8) :=
  (kx p1.n_.e_).bind fun c => (lC p1.n_.e_).bind fun d => (idx p0.k_ d).bind fun e => (gH p1.v_).bind fun f => (rI ([a, c, e, ([115, 105, 110, 99, 101] : List UInt8), f] : List (List UInt8)) ([32] : List UInt8)).bind fun g => U g
noncomputable def dT (p1 : aR) : Nat → Int → (List (List UInt8)) → Option (List UInt8)
  | 0, _, _ => N
  | k1 + 1, a, c =>
    if decide (a < (p1.r_.length : Int)) then (idx p1.r_ a).bind fun d => (gH d).bind fun e => (app c ([e] : List (List UInt8))).bind fun f => (dT p1 k1) (J.wrap (a + 1)) f else (rI c ([32] : List UInt8)).bind fun g => U g
noncomputable def kl (p0 : ae) (p1 : aR) : Option (List UInt8) :=
  if p1.s_ then (ji p0 p1.n_).bind fun a => if (!a) then U ([] : List UInt8) else (nj p1).bind fun c => if c then gO p1 p0 ([108, 101, 97, 102] : List UInt8) else gO p1 p0 ([116, 104, 105, 110] : List UInt8) else (jb p0 p1.l_).bind fun d => if (!d) then U ([] : List UInt8) else (kj p0 p1.l_).bind fun e => (gH p1.w_).bind fun f => dT p1 bh 0 ([e, ([109, 105, 115, 115] : List UInt8), f] : List (List UInt8))
noncomputable def dV (p1 : aj) (p0 : ae) : Nat → Int → (List UInt8) → Option (List UInt8)
  | 0, _, _ => N
  | k1 + 1, a, d =>
    if decide (a < (p1.a_.length : Int)) then (idx p1.a_ a).bind fun c => (qr ([32, 32] : List UInt8) c.m_).bind fun e => (gH a).bind fun f => (rn e f).bind fun g => (rn g ([58, 32] : List UInt8)).bind fun h => (kl p0 c).bind fun i => (rn h i).bind fun j => (rn j ([10] : List UInt8)).bind fun k => (rn d k).bind fun l => (dV p1 p0 k1) (J.wrap (a + 1)) l else U d
noncomputable def iF (p0 : ae) (p1 : aj) : Option (List UInt8) :=
  (lR p0 p1).bind fun a => if (!a) then U ([] : List UInt8) else dV p1 p0 bh 0 ([] : List UInt8)
noncomputable def dK (p0 : List Int) : Nat → (List Int) → Int → Option (List UInt8)
  | 0, _, _ => N
  | k1 + 1, c, a =>
    if decide (a < (p0.length : Int)) then (idx p0 a).bind fun d => (idx ([48, 49, 50, 51, 52, 53, 54, 55, 56, 57, 97, 98, 99, 100, 101, 102] : List UInt8) (qz K d 4)).bind fun e => (idx ([48, 49, 50, 51, 52, 53, 54, 55, 56, 57, 97, 98, 99, 100, 101, 102] : List UInt8) (iI .and K d 15)).bind fun f => (app c ([(e.toNat : Int), (f.toNat : Int)] : List Int)).bind fun g => (dK p0 k1) g (J.wrap (a + 1)) else U (hZ c)
noncomputable def lg (p0 : List Int) : Option (List UInt8) :=
  dK p0 bh ([] : List Int) 0
noncomputable def ie (p0 : List UInt8) (p1 : Int) : Option (Int) :=
  U (Lib.indexByte p0 (Int.toNat p1).toUInt8)
noncomputable def fO (p0 : List UInt8) (p1 : Int) : Option (Int) :=
  (ie p0 p1).bind fun a => U a
noncomputable def eQ (p0 : List UInt8) : Nat → (List Int) → Int → Option ((List Int) × Bool)
  | 0, _, _ => N
  | k1 + 1, c, a =>
    if decide (a < (p0.length : Int)) then (idx p0 a).bind fun f => (fO ([48, 49, 50, 51, 52, 53, 54, 55, 56, 57, 97, 98, 99, 100, 101, 102] : List UInt8) (f.toNat : Int)).bind fun d => (idx p0 (J.wrap (a + 1))).bind fun g => (fO ([48, 49, 50, 51, 52, 53, 54, 55, 56, 57, 97, 98, 99, 100, 101, 102] : List UInt8) (g.toNat : Int)).bind fun e => if ((decide (d < 0)) || (decide (e < 0))) then U (([] : List Int), n) else (app c ([K.wrap (iI .or J (vn J d 4) e)] : List Int)).bind fun h => (eQ p0 k1) h (J.wrap (a + 2)) else U (c, y)
noncomputable def mN (p0 : List UInt8) : Option ((List Int) × Bool) :=
  if ((Int.tmod (p0.length : Int) 2) != 0) then U (([] : List Int), n) else eQ p0 bh ([] : List Int) 0
noncomputable def fq (p0 : List UInt8) (p1 : Int) : Nat → (List (List UInt8)) → Int → Int → Option (List (List UInt8))
  | 0, _, _, _ => N
  | k1 + 1, c, d, a =>
    if decide (a ≤ (p0.length : Int)) then (if (a == (p0.length : Int)) then U y else (idx p0 a).bind fun e => U ((e.toNat : Int) == p1)).bind fun f => if f then (sub p0 d a).bind fun g => (app c ([g] : List (List UInt8))).bind fun h => (fq p0 p1 k1) h (J.wrap (a + 1)) (J.wrap (a + 1)) else (fq p0 p1 k1) c d (J.wrap (a + 1)) else U c
noncomputable def mR (p0 : List UInt8) (p1 : Int) : Option (List (List UInt8)) :=
  fq p0 p1 bh ([] : List (List UInt8)) 0 0
noncomputable def jI (p0 : List Int) : Option (Bool) :=
  (qp p0).bind fun f => if f then U y else (iv p0).bind fun a => (iZ p0).bind fun d => (iF a.1 a.2).bind fun c => (lg d).bind fun g => (mN g).bind fun e => if ((!e.2) || (!((hZ e.1) == (hZ d)))) then U n else (gA a.1 a.2).bind fun h => if (!h) then U (c == ([] : List UInt8)) else (mR c 10).bind fun i => if (((i.length : Int) == (J.wrap ((a.2.a_.length : Int) + 1))) && (decide ((c.length : Int) > 0))) then (idx c (J.wrap ((c.length : Int) - 1))).bind fun j => U ((j.toNat : Int) == 10) else U n
noncomputable def nw (p0 : ae) (p1 : ar) (p2 : Int) : Option (Int) :=
  (jb p0 p1).bind fun a => (if (!a) then U y else (idx p0.b_ p1.g_).bind fun c => (gg c).bind fun d => (bL p2 0 (J.wrap (d - 1))).bind fun e => U (!e)).bind fun f => if f then U (-1) else if (p1.c_ == (-1)) then U p2 else (if (p2 == p1.c_) then U y else (idx p0.b_ p1.g_).bind fun g => U ((decide ((g.t_.length : Int) > 0)) && (decide (p2 < p1.c_)))).bind fun h => if h then U 0 else U 1
noncomputable def lm (p1 : bw) (p0 : ae) : Nat → Int → Option (Bool)
  | 0, _ => N
  | k1 + 1, a =>
    if decide (a < (p1.u_.length : Int)) then (idx p1.u_ a).bind fun e => (idx p0.b_ a).bind fun f => (gg f).bind fun c => (bL e (-1) (J.wrap (c - 1))).bind fun d => if (!d) then U n else (lm p1 p0 k1) (J.wrap (a + 1)) else U y
noncomputable def rt (p0 : ae) (p1 : bw) : Option (Bool) :=
  (fS p0).bind fun a => (if ((!a) || ((p1.u_.length : Int) != (p0.b_.length : Int))) then U y else (bL p1.z_ (-1) (J.wrap ((p0.k_.length : Int) - 1))).bind fun c => U (!c)).bind fun d => if d then U n else lm p1 p0 bh 0
noncomputable def la (a : aR) (c : List Int) (R1 : (List Int) → Option ((List Int) × Bool)) (d : Int) : Option ((List Int) × Bool) :=
  (idx a.r_ d).bind fun e => (app c ([e] : List Int)).bind fun f => R1 f
noncomputable def iR (p1 : aj) (p2 : bw) (p0 : ae) : Nat → (List Int) → Option ((List Int) × Bool)
  | 0, _ => N
  | k1 + 1, c =>
    (idx c (J.wrap ((c.length : Int) - 1))).bind fun e => (idx p1.a_ e).bind fun a => if a.s_ then U (c, n) else (idx p2.u_ a.l_.g_).bind fun d => if decide (d ≥ 0) then (nw p0 a.l_ d).bind fun f => la a c (iR p1 p2 p0 k1) f else la a c (iR p1 p2 p0 k1) a.w_
noncomputable def vN (p0 : ae) (p1 : aj) (p2 : bw) : Option ((List Int) × Bool) :=
  iR p1 p2 p0 bh ([0] : List Int)
end Go.Vk
