/- The functions of the code, as functions of data. Printed by program. -/
import Derived.Test.YtdckhcfbccnjiaaGreatDoorVkQ
namespace Go.Vk
open Value renaming int → I, slice → S, pointer → O, bool → B
open IntKind renaming i64 → J, u8 → K
open Bool renaming true → y, false → n
open Option renaming some → U, none → N
theorem z {α : Sort _} {a : α} : a = a := Eq.refl a
theorem Y : True := True.intro
structure ao where
  i_ : Int
  h_ : Int
  deriving DecidableEq, Inhabited
structure bc where
  B_ : List UInt8
  u_ : List Int
  A_ : List (List UInt8)
  deriving DecidableEq, Inhabited
structure ab where
  b_ : List bc
  l_ : List (List UInt8)
  deriving DecidableEq, Inhabited
structure cB where
  G_ : Int
  H_ : Int
  I_ : Int
  m_ : Int
  a_ : Int
  E_ : Int
  F_ : Bool
  deriving DecidableEq, Inhabited
structure av where
  e_ : List Int
  d_ : List (List Int)
  deriving DecidableEq, Inhabited
structure aq where
  j_ : Int
  c_ : Int
  deriving DecidableEq, Inhabited
structure aT where
  q_ : Bool
  g_ : aq
  r_ : List Int
  w_ : Int
  n_ : av
  x_ : Int
  b_ : List Int
  m_ : Int
  p_ : Int
  s_ : Int
  deriving DecidableEq, Inhabited
structure ah where
  a_ : List aT
  k_ : Int
  deriving DecidableEq, Inhabited
structure aY where
  o_ : List Int
  v_ : Int
  deriving DecidableEq, Inhabited
structure bh where
  t_ : List Int
  c_ : Int
  deriving DecidableEq, Inhabited
structure bd where
  D_ : Int
  C_ : Int
  deriving DecidableEq, Inhabited
structure bw where
  g_ : aq
  z_ : bd
  deriving DecidableEq, Inhabited
structure bf where
  q_ : Int
  y_ : List Int
  deriving DecidableEq, Inhabited
noncomputable def ry (p0 : List Int) : Option (Bool) :=
  U (decide ((p0.length : Int) > 1048576))
noncomputable def iC (p0 : List Int) : Nat → Int → Int → Option (ao)
  | 0, _, _ => N
  | k1 + 1, c, a =>
    if ((decide (a < (p0.length : Int))) && (decide (a < 4000))) then (idx p0 a).bind fun d => (iC p0 k1) (bi .and J (J.wrap ((J.wrap ((J.wrap (c * 131)) + (J.wrap d))) + 7)) 1073741823) (J.wrap (a + 1)) else U (ao.mk 0 c)
noncomputable def ox (p0 : List Int) : Option (ao) :=
  iC p0 be (J.wrap (26583 + (p0.length : Int))) 0
noncomputable def iw (p0b : List Int) (p0 : ao) : Option (Int × ao) :=
  if decide (p0.i_ < (p0b.length : Int)) then (idx p0b p0.i_).bind fun a => U (bi .and J (J.wrap ((bi .and J (bi .xor J (eA J (J.wrap ((J.wrap (p0.h_ * 6364136223846793005)) + 1442695040888963407)) 33) (eA J (J.wrap ((J.wrap (p0.h_ * 6364136223846793005)) + 1442695040888963407)) 45)) 255) + (J.wrap a))) 255, (ao.mk (J.wrap (p0.i_ + 1)) (J.wrap ((J.wrap (p0.h_ * 6364136223846793005)) + 1442695040888963407)))) else U (bi .and J (bi .xor J (eA J (J.wrap ((J.wrap (p0.h_ * 6364136223846793005)) + 1442695040888963407)) 33) (eA J (J.wrap ((J.wrap (p0.h_ * 6364136223846793005)) + 1442695040888963407)) 45)) 255, (ao.mk p0.i_ (J.wrap ((J.wrap (p0.h_ * 6364136223846793005)) + 1442695040888963407))))
noncomputable def cP (p0b : List Int) (p0 : ao) (p1 : Int) : Option (Int × ao) :=
  if decide (p1 ≤ 0) then U (0, p0) else if decide (p1 ≤ 256) then (iw p0b p0).bind fun a => (rem a.1 p1).bind fun g => U (g, a.2) else (iw p0b p0).bind fun c => (iw p0b c.2).bind fun d => (iw p0b d.2).bind fun e => (iw p0b e.2).bind fun f => (rem (J.wrap ((J.wrap ((J.wrap ((J.wrap (c.1 * 16777216)) + (J.wrap (d.1 * 65536)))) + (J.wrap (e.1 * 256)))) + f.1)) p1).bind fun h => U (h, f.2)
noncomputable def gi (p0b : List Int) (p0 : ao) (p1 : Int) : Option (Bool × ao) :=
  (cP p0b p0 p1).bind fun a => U ((a.1 == 0), a.2)
noncomputable def bP (p0b : List Int) (p0 : ao) (p1 : List Int) : Option (Int × ao) :=
  (cP p0b p0 (p1.length : Int)).bind fun a => (idx p1 a.1).bind fun c => U (c, a.2)
noncomputable def dn (c : Int × ao) (p0b : List Int) (d : List UInt8) : Nat → Int → Int → (List Int) → Int → Int → Option (bc × ao)
  | 0, _, _, _, _, _ => N
  | k1 + 1, e, f, g, h, i =>
    if decide (i < (J.wrap (1 + c.1))) then (app g ([h] : List Int)).bind fun j => (cP p0b (ao.mk e f) 6).bind fun a => (dn c p0b d k1) a.2.i_ a.2.h_ j (J.wrap ((J.wrap (h + 1)) + a.1)) (J.wrap (i + 1)) else U ((bc.mk d g ([] : List (List UInt8))), (ao.mk e f))
noncomputable def dp (c : Int × ao) (e : List UInt8) : Nat → Int → (List (List UInt8)) → Option (bc × ao)
  | 0, _, _ => N
  | k2 + 1, a, d =>
    if decide (a < (J.wrap (2 + c.1))) then (idx ([([114, 101, 100] : List UInt8), ([98, 108, 117, 101] : List UInt8), ([120] : List UInt8), ([103, 114, 101, 101, 110] : List UInt8)] : List (List UInt8)) a).bind fun f => (app d ([f] : List (List UInt8))).bind fun g => (dp c e k2) (J.wrap (a + 1)) g else U ((bc.mk e ([] : List Int) d), c.2)
noncomputable def jE (p0b : List Int) (p0 : ao) (p1 : Int) : Option (bc × ao) :=
  (idx ([([97, 103, 101] : List UInt8), ([115, 105, 122, 101] : List UInt8), ([99, 111, 108, 111, 117, 114] : List UInt8), ([107] : List UInt8), ([108, 111, 110, 103, 110, 97, 109, 101] : List UInt8)] : List (List UInt8)) (Int.tmod p1 5)).bind fun d => (gi p0b p0 2).bind fun a => if a.1 then (cP p0b a.2 3).bind fun e => (bP p0b e.2 ([(-9999), (-7), 0, 3, 20] : List Int)).bind fun c => dn e p0b d be c.2.i_ c.2.h_ ([] : List Int) c.1 0 else (cP p0b a.2 3).bind fun f => dp f d be 0 ([] : List (List UInt8))
noncomputable def eQ (d : Int × ao) (p0b : List Int) (e : List (List UInt8)) : Nat → Int → Int → (List bc) → Int → Option (ab × ao)
  | 0, _, _, _, _ => N
  | k1 + 1, f, g, h, c =>
    if decide (c < (J.wrap (1 + d.1))) then (jE p0b (ao.mk f g) c).bind fun a => (app h [a.1]).bind fun i => (eQ d p0b e k1) a.2.i_ a.2.h_ i (J.wrap (c + 1)) else U ((ab.mk h e), (ao.mk f g))
noncomputable def jd (p0b : List Int) (c : Int) (d : Int) (e : List (List UInt8)) : Option (ab × ao) :=
  (cP p0b (ao.mk c d) 5).bind fun a => eQ a p0b e be a.2.i_ a.2.h_ ([] : List bc) 0
noncomputable def mu (p0b : List Int) (p0 : ao) : Option (ab × ao) :=
  (gi p0b p0 3).bind fun a => if a.1 then (app ([([110, 111] : List UInt8), ([121, 101, 115] : List UInt8)] : List (List UInt8)) ([([112, 101, 114, 104, 97, 112, 115] : List UInt8)] : List (List UInt8))).bind fun c => jd p0b a.2.i_ a.2.h_ c else jd p0b a.2.i_ a.2.h_ ([([110, 111] : List UInt8), ([121, 101, 115] : List UInt8)] : List (List UInt8))
noncomputable def lx (p0b : List Int) (p0 : ao) : Option (cB × ao) :=
  (bP p0b p0 ([1, 1, 2, 3, 9] : List Int)).bind fun a => (bP p0b a.2 ([0, 50, 200, 500, 999] : List Int)).bind fun c => (bP p0b c.2 ([1, 4, 10, 25, 200] : List Int)).bind fun d => (bP p0b d.2 ([0, 1, 2, 4, 6, 6] : List Int)).bind fun e => (bP p0b e.2 ([1, 3, 7, 15, 31, 31] : List Int)).bind fun f => (bP p0b f.2 ([62, 63, 80, 100, 150, 2000] : List Int)).bind fun g => (gi p0b g.2 2).bind fun h => U ((cB.mk a.1 c.1 d.1 e.1 f.1 g.1 h.1), h.2)
noncomputable def cS (p1 : ab) (p0b : List Int) : Nat → Int → Int → (List Int) → Int → Option ((List Int) × ao)
  | 0, _, _, _, _ => N
  | k1 + 1, e, f, c, d =>
    if decide (d < (p1.b_.length : Int)) then (gi p0b (ao.mk e f) 4).bind fun a => if (!a.1) then (app c ([d] : List Int)).bind fun g => (cS p1 p0b k1) a.2.i_ a.2.h_ g (J.wrap (d + 1)) else (cS p1 p0b k1) a.2.i_ a.2.h_ c (J.wrap (d + 1)) else if ((c.length : Int) == 0) then U (([0] : List Int), (ao.mk e f)) else U (c, (ao.mk e f))
noncomputable def hH (p0b : List Int) (p0 : ao) (p1 : ab) : Option ((List Int) × ao) :=
  cS p1 p0b be p0.i_ p0.h_ ([] : List Int) 0
noncomputable def bm (p0 : Int) (p1 : Int) (p2 : Int) : Option (Bool) :=
  U ((decide (p0 ≥ p1)) && (decide (p0 ≤ p2)))
noncomputable def iJ (p0 : List UInt8) : Nat → Int → Option (Bool)
  | 0, _ => N
  | k1 + 1, a =>
    if decide (a < (p0.length : Int)) then (idx p0 a).bind fun c => (if decide ((c.toNat : Int) < 97) then U y else (idx p0 a).bind fun d => U (decide ((d.toNat : Int) > 122))).bind fun e => if e then U n else (iJ p0 k1) (J.wrap (a + 1)) else U y
noncomputable def lL (p0 : List UInt8) : Option (Bool) :=
  (bm (p0.length : Int) 1 8).bind fun a => if (!a) then U n else iJ p0 be 0
noncomputable def fC (a : Int) (p0 : List (List UInt8)) (R1 : Int → Option (Bool)) : Nat → Int → Option (Bool)
  | 0, _ => N
  | k2 + 1, c =>
    if decide (c < a) then (idx p0 a).bind fun d => (idx p0 c).bind fun e => if (d == e) then U n else (fC a p0 R1 k2) (J.wrap (c + 1)) else R1 (J.wrap (a + 1))
noncomputable def eh (p0 : List (List UInt8)) : Nat → Int → Option (Bool)
  | 0, _ => N
  | k1 + 1, a =>
    if decide (a < (p0.length : Int)) then (idx p0 a).bind fun c => (lL c).bind fun d => if (!d) then U n else fC a p0 (eh p0 k1) be 0 else U y
noncomputable def lf (p0 : List (List UInt8)) : Option (Bool) :=
  eh p0 be 0
noncomputable def gY (p0 : bc) : Nat → Int → Option (Bool)
  | 0, _ => N
  | k1 + 1, a =>
    if decide (a < (p0.u_.length : Int)) then (idx p0.u_ a).bind fun c => (bm c (-9999) 9998).bind fun d => (if (!d) then U y else (if decide (a > 0) then (idx p0.u_ a).bind fun e => (idx p0.u_ (J.wrap (a - 1))).bind fun f => U (decide (e ≤ f)) else U n).bind fun g => U g).bind fun h => if h then U n else (gY p0 k1) (J.wrap (a + 1)) else U y
noncomputable def jQ (p0 : bc) : Option (Bool) :=
  (lL p0.B_).bind fun a => if (!a) then U n else if ((p0.u_.length : Int) == 0) then (bm (p0.A_.length : Int) 2 4).bind fun c => (if c then (lf p0.A_).bind fun d => U d else U n).bind fun e => U e else if ((decide ((p0.A_.length : Int) > 0)) || (decide ((p0.u_.length : Int) > 3))) then U n else gY p0 be 0
noncomputable def fc (a : Int) (p0 : ab) (R1 : Int → Option (Bool)) : Nat → Int → Option (Bool)
  | 0, _ => N
  | k2 + 1, c =>
    if decide (c < a) then (idx p0.b_ a).bind fun d => (idx p0.b_ c).bind fun e => if (d.B_ == e.B_) then U n else (fc a p0 R1 k2) (J.wrap (c + 1)) else R1 (J.wrap (a + 1))
noncomputable def dq (p0 : ab) : Nat → Int → Option (Bool)
  | 0, _ => N
  | k1 + 1, a =>
    if decide (a < (p0.b_.length : Int)) then (idx p0.b_ a).bind fun c => (jQ c).bind fun d => if (!d) then U n else fc a p0 (dq p0 k1) be 0 else U y
noncomputable def eS (p0 : ab) : Option (Bool) :=
  (bm (p0.b_.length : Int) 1 5).bind fun a => (if (!a) then U y else (bm (p0.l_.length : Int) 2 3).bind fun c => U (!c)).bind fun d => (if d then U y else (lf p0.l_).bind fun e => U (!e)).bind fun f => if f then U n else dq p0 be 0
noncomputable def ib (p1 : List Int) (p0 : ab) : Nat → Int → Option (Bool)
  | 0, _ => N
  | k1 + 1, a =>
    if decide (a < (p1.length : Int)) then (idx p1 a).bind fun c => (bm c 0 (J.wrap ((p0.b_.length : Int) - 1))).bind fun d => (if (!d) then U y else (if decide (a > 0) then (idx p1 a).bind fun e => (idx p1 (J.wrap (a - 1))).bind fun f => U (decide (e ≤ f)) else U n).bind fun g => U g).bind fun h => if h then U n else (ib p1 p0 k1) (J.wrap (a + 1)) else U y
noncomputable def gH (p0 : ab) (p1 : List Int) : Option (Bool) :=
  (eS p0).bind fun a => if ((!a) || ((p1.length : Int) == 0)) then U n else ib p1 p0 be 0
noncomputable def dV (p0 : bc) : Option (Int) :=
  (jQ p0).bind fun a => if (!a) then U 0 else if decide ((p0.u_.length : Int) > 0) then U (J.wrap ((p0.u_.length : Int) + 1)) else U (p0.A_.length : Int)
noncomputable def fH (p0 : ab) (c : List Int) : Nat → (List (List Int)) → Int → Option (av)
  | 0, _, _ => N
  | k1 + 1, d, a =>
    if decide (a < (p0.b_.length : Int)) then (idx p0.b_ a).bind fun e => (dV e).bind fun f => (mk (0 : Int) (J.wrap (f * (p0.l_.length : Int)))).bind fun g => (app d [g]).bind fun h => (fH p0 c k1) h (J.wrap (a + 1)) else U (av.mk c d)
noncomputable def gG (p0 : ab) : Option (av) :=
  (eS p0).bind fun a => if (!a) then U (av.mk ([] : List Int) ([] : List (List Int))) else (mk (0 : Int) (p0.l_.length : Int)).bind fun c => fH p0 c be ([] : List (List Int)) 0
noncomputable def lX (p0 : ab) (p1 : List Int) : Option (ah) :=
  (gH p0 p1).bind fun a => if (!a) then U (ah.mk ([] : List aT) 0) else (gG p0).bind fun c => (app ([] : List Int) p1).bind fun d => U (ah.mk [(aT.mk y (aq.mk 0 0) ([] : List Int) 0 c 0 d 0 (-1) 0)] 0)
noncomputable def ja (f : List Int) (R1 : Int → Int → (List Int) → Int → Option (aY × ao)) (g : Int) (a : Int) (c : Int) (d : Int) : Option (aY × ao) :=
  (app f ([d] : List Int)).bind fun e => R1 a c e (J.wrap (g + 1))
noncomputable def dr (p1 : ab) (p0b : List Int) : Nat → Int → Int → (List Int) → Int → Option (aY × ao)
  | 0, _, _, _, _ => N
  | k1 + 1, i, j, d, g =>
    if decide (g < (p1.b_.length : Int)) then (idx p1.b_ g).bind fun k => (dV k).bind fun l => (cP p0b (ao.mk i j) l).bind fun h => (gi p0b h.2 9).bind fun a => if a.1 then ja d (dr p1 p0b k1) g a.2.i_ a.2.h_ (-1) else ja d (dr p1 p0b k1) g a.2.i_ a.2.h_ h.1 else (cP p0b (ao.mk i j) (p1.l_.length : Int)).bind fun e => (if decide ((d.length : Int) > 0) then (gi p0b e.2 5).bind fun f => U ((!f.1), f.2.i_, f.2.h_) else U (n, e.2.i_, e.2.h_)).bind fun c => if (c.1 && (decide ((p1.l_.length : Int) > 0))) then (idx d 0).bind fun m => (rem (J.wrap (m + 1)) (p1.l_.length : Int)).bind fun o => U ((aY.mk d o), (ao.mk c.2.1 c.2.2)) else U ((aY.mk d e.1), (ao.mk c.2.1 c.2.2))
noncomputable def jZ (p0b : List Int) (p0 : ao) (p1 : ab) : Option (aY × ao) :=
  dr p1 p0b be p0.i_ p0.h_ ([] : List Int) 0
noncomputable def eo (p1 : Int) (p0b : List Int) : Nat → Int → Int → (List Int) → Int → Option ((List Int) × ao)
  | 0, _, _, _, _ => N
  | k1 + 1, c, d, e, f =>
    if decide (f < p1) then (iw p0b (ao.mk c d)).bind fun a => (app e ([K.wrap a.1] : List Int)).bind fun g => (eo p1 p0b k1) a.2.i_ a.2.h_ g (J.wrap (f + 1)) else U (e, (ao.mk c d))
noncomputable def ly (p0b : List Int) (p0 : ao) (p1 : Int) : Option ((List Int) × ao) :=
  eo p1 p0b be p0.i_ p0.h_ ([] : List Int) 0
noncomputable def dg (d : Int) (p1 : av) (e : Int) (p0 : ab) (a : Int) (R3 : Int → Option (Bool)) : Nat → Int → Int → Option (Bool)
  | 0, _, _ => N
  | k4 + 1, f, c =>
    if decide (c < d) then (idx p1.d_ e).bind fun h => (idx h (J.wrap ((J.wrap (c * (p0.l_.length : Int))) + a))).bind fun g => (bm g 0 999).bind fun i => if (!i) then U n else (dg d p1 e p0 a R3 k4) (J.wrap (f + g)) (J.wrap (c + 1)) else (idx p1.e_ a).bind fun j => if decide (f > j) then U n else R3 (J.wrap (a + 1))
noncomputable def bY (p0 : ab) (c : Int) (p1 : av) (a : Int) (R2 : Int → Option (Bool)) : Nat → Int → Option (Bool)
  | 0, _ => N
  | k3 + 1, d =>
    if decide (d < (p0.l_.length : Int)) then dg c p1 a p0 d (bY p0 c p1 a R2 k3) be 0 0 else R2 (J.wrap (a + 1))
noncomputable def cN (p1 : av) (p0 : ab) : Nat → Int → Option (Bool)
  | 0, _ => N
  | k2 + 1, a =>
    if decide (a < (p1.d_.length : Int)) then (idx p0.b_ a).bind fun d => (dV d).bind fun c => (idx p1.d_ a).bind fun e => if ((e.length : Int) != (J.wrap (c * (p0.l_.length : Int)))) then U n else bY p0 c p1 a (cN p1 p0 k2) be 0 else U y
noncomputable def dH (p1 : av) (p0 : ab) : Nat → Int → Int → Option (Bool)
  | 0, _, _ => N
  | k1 + 1, c, a =>
    if decide (a < (p1.e_.length : Int)) then (idx p1.e_ a).bind fun d => (bm d 0 999).bind fun e => if (!e) then U n else (idx p1.e_ a).bind fun f => (dH p1 p0 k1) (J.wrap (c + f)) (J.wrap (a + 1)) else if decide (c > 999) then U n else if ((p1.d_.length : Int) == 0) then U y else if ((p1.d_.length : Int) != (p0.b_.length : Int)) then U n else cN p1 p0 be 0
noncomputable def eZ (p0 : ab) (p1 : av) : Option (Bool) :=
  (eS p0).bind fun a => if ((!a) || ((p1.e_.length : Int) != (p0.l_.length : Int))) then U n else dH p1 p0 be 0 0
noncomputable def fF (p1 : av) : Nat → Int → Int → Option (Int)
  | 0, _, _ => N
  | k1 + 1, c, a =>
    if decide (a < (p1.e_.length : Int)) then (idx p1.e_ a).bind fun d => (fF p1 k1) (J.wrap (c + d)) (J.wrap (a + 1)) else U c
noncomputable def dZ (p0 : ab) (p1 : av) : Option (Int) :=
  (eZ p0 p1).bind fun a => if (!a) then U 0 else fF p1 be 0 0
noncomputable def jV (p0 : ab) (p1 : aT) : Option (Bool) :=
  (if (((!(p1.g_.j_ == 0 && (p1.g_.c_ == 0 && y))) || (decide ((p1.r_.length : Int) > 0))) || (p1.w_ != 0)) then U y else (eZ p0 p1.n_).bind fun a => U (!a)).bind fun c => (if c then U y else (gH p0 p1.b_).bind fun d => U (!d)).bind fun e => if e then U n else if ((p1.n_.d_.length : Int) == 0) then U (p1.x_ == 0) else (dZ p0 p1.n_).bind fun f => (bm p1.x_ 0 f).bind fun g => U g
noncomputable def ga (p0 : ab) (p1 : aq) : Option (Bool) :=
  (eS p0).bind fun a => (if (!a) then U y else (bm p1.j_ 0 (J.wrap ((p0.b_.length : Int) - 1))).bind fun c => U (!c)).bind fun d => if d then U n else (idx p0.b_ p1.j_).bind fun e => if decide ((e.u_.length : Int) > 0) then (idx p0.b_ p1.j_).bind fun f => (dV f).bind fun g => (bm p1.c_ (-1) (J.wrap (g - 2))).bind fun h => U h else (idx p0.b_ p1.j_).bind fun i => (dV i).bind fun j => (bm p1.c_ (-1) (J.wrap (j - 1))).bind fun k => U k
noncomputable def dR (p0 : ab) (p1 : aq) : Option (Int) :=
  (ga p0 p1).bind fun a => if (!a) then U 0 else if (p1.c_ == (-1)) then (idx p0.b_ p1.j_).bind fun c => (dV c).bind fun d => U d else U 2
noncomputable def gA (c : aT) (p2 : Int) (p1 : ah) : Nat → Int → Option (Bool)
  | 0, _ => N
  | k1 + 1, a =>
    if decide (a < (c.r_.length : Int)) then (idx c.r_ a).bind fun d => (bm d (J.wrap (p2 + 1)) (J.wrap ((p1.a_.length : Int) - 1))).bind fun e => (if (!e) then U y else (idx c.r_ a).bind fun f => (idx p1.a_ f).bind fun g => U (g.p_ != p2)).bind fun h => (if h then U y else (if decide (a > 0) then (idx c.r_ a).bind fun i => (idx c.r_ (J.wrap (a - 1))).bind fun j => U (decide (i ≤ j)) else U n).bind fun k => U k).bind fun l => if l then U n else (gA c p2 p1 k1) (J.wrap (a + 1)) else U y
noncomputable def ju (p0 : ab) (p1 : ah) (p2 : Int) : Option (Bool) :=
  (idx p1.a_ p2).bind fun a => (ga p0 a.g_).bind fun c => (if (!c) then U y else (dR p0 a.g_).bind fun d => U ((a.r_.length : Int) != d)).bind fun e => (if e then U y else (bm a.w_ 0 (J.wrap ((a.r_.length : Int) - 1))).bind fun f => U (!f)).bind fun g => (if g then U y else (eZ p0 a.n_).bind fun h => U (!h)).bind fun i => (if ((i || (decide ((a.n_.d_.length : Int) > 0))) || (a.x_ != 0)) then U y else (gH p0 a.b_).bind fun j => U (!j)).bind fun k => if k then U n else gA a p2 p1 be 0
noncomputable def cU (p0 : List Int) (p1 : Int) : Nat → Int → Option (Bool)
  | 0, _ => N
  | k1 + 1, a =>
    if decide (a < (p0.length : Int)) then (idx p0 a).bind fun c => if (c == p1) then U y else (cU p0 p1 k1) (J.wrap (a + 1)) else U n
noncomputable def ls (p0 : List Int) (p1 : Int) : Option (Bool) :=
  cU p0 p1 be 0
noncomputable def dQ (p1 : ah) (p0 : ab) : Nat → Int → Option (Bool)
  | 0, _ => N
  | k1 + 1, c =>
    if decide (c < (p1.a_.length : Int)) then (idx p1.a_ c).bind fun a => (bm a.m_ 0 6).bind fun e => (if (!e) then U y else (bm a.s_ 0 p1.k_).bind fun f => U (!f)).bind fun g => if g then U n else (if a.q_ then (jV p0 ({ a with q_ := y })).bind fun h => U (!h) else U n).bind fun i => (if i then U y else (if (!a.q_) then (ju p0 p1 c).bind fun j => U (!j) else U n).bind fun k => U k).bind fun l => if l then U n else if (c == 0) then if (((a.p_ != (-1)) || (a.m_ != 0)) || (a.s_ != 0)) then U n else (dQ p1 p0 k1) (J.wrap (c + 1)) else (bm a.p_ 0 (J.wrap (c - 1))).bind fun m => if (!m) then U n else (idx p1.a_ a.p_).bind fun d => (if d.q_ then U y else (ls d.r_ c).bind fun o => U (!o)).bind fun p => if ((p || ((J.wrap (d.m_ + 1)) != a.m_)) || (decide (d.s_ > a.s_))) then U n else (dQ p1 p0 k1) (J.wrap (c + 1)) else U y
noncomputable def gV (p0 : ab) (p1 : ah) : Option (Bool) :=
  (eS p0).bind fun a => (if (!a) then U y else (bm (p1.a_.length : Int) 1 31).bind fun c => U (!c)).bind fun d => (if d then U y else (bm p1.k_ 0 99999).bind fun e => U (!e)).bind fun f => if f then U n else dQ p1 p0 be 0
noncomputable def kF (p0 : cB) : Option (Bool) :=
  (bm p0.G_ 1 9).bind fun a => (if a then (bm p0.H_ 0 999).bind fun c => U c else U n).bind fun d => (if d then (bm p0.I_ 1 200).bind fun e => U e else U n).bind fun f => (if f then (bm p0.m_ 0 6).bind fun g => U g else U n).bind fun h => (if h then (bm p0.a_ 1 31).bind fun i => U i else U n).bind fun j => (if j then (bm p0.E_ 62 2000).bind fun k => U k else U n).bind fun l => U l
noncomputable def fA (p0 : ah) : Nat → Int → Int → Option (Int)
  | 0, _, _ => N
  | k1 + 1, c, a =>
    if decide (a < (p0.a_.length : Int)) then (if (a == 0) then U y else (idx p0.a_ a).bind fun d => U (decide (d.m_ > c))).bind fun e => if e then (idx p0.a_ a).bind fun f => (fA p0 k1) f.m_ (J.wrap (a + 1)) else (fA p0 k1) c (J.wrap (a + 1)) else U c
noncomputable def ml (p0 : ah) : Option (Int) :=
  fA p0 be 0 0
noncomputable def gc (p0 : aT) : Nat → Int → Int → Option (Int)
  | 0, _, _ => N
  | k1 + 1, c, a =>
    if decide (a < (p0.n_.d_.length : Int)) then (idx p0.n_.d_ a).bind fun d => (gc p0 k1) (J.wrap (c + (d.length : Int))) (J.wrap (a + 1)) else U c
noncomputable def mA (p0 : aT) : Option (Int) :=
  if (!p0.q_) then U 1 else gc p0 be 2 0
noncomputable def fj (p0 : ah) : Nat → Int → Int → Option (Int)
  | 0, _, _ => N
  | k1 + 1, c, a =>
    if decide (a < (p0.a_.length : Int)) then (idx p0.a_ a).bind fun d => (mA d).bind fun e => (fj p0 k1) (J.wrap (c + e)) (J.wrap (a + 1)) else U c
noncomputable def jM (p0 : ah) : Option (Int) :=
  fj p0 be 0 0
noncomputable def pm (p0 : ab) (p1 : cB) (p2 : ah) : Option (Bool) :=
  (gV p0 p2).bind fun a => (if a then (kF p1).bind fun c => U c else U n).bind fun d => (if (d && (decide ((p2.a_.length : Int) ≤ p1.a_))) then (ml p2).bind fun e => U (decide (e ≤ p1.m_)) else U n).bind fun f => (if f then (jM p2).bind fun g => U (decide (g ≤ p1.E_)) else U n).bind fun h => U h
noncomputable def jl (p1 : aY) (p0 : ab) : Nat → Int → Option (Bool)
  | 0, _ => N
  | k1 + 1, a =>
    if decide (a < (p1.o_.length : Int)) then (idx p1.o_ a).bind fun e => (idx p0.b_ a).bind fun f => (dV f).bind fun c => (bm e (-1) (J.wrap (c - 1))).bind fun d => if (!d) then U n else (jl p1 p0 k1) (J.wrap (a + 1)) else U y
noncomputable def kY (p0 : ab) (p1 : aY) : Option (Bool) :=
  (eS p0).bind fun a => (if ((!a) || ((p1.o_.length : Int) != (p0.b_.length : Int))) then U y else (bm p1.v_ (-1) (J.wrap ((p0.l_.length : Int) - 1))).bind fun c => U (!c)).bind fun d => if d then U n else jl p1 p0 be 0
noncomputable def lT (p0 : bh) : Option (Bool) :=
  (if decide ((p0.t_.length : Int) ≤ 600) then (bm p0.c_ 0 (p0.t_.length : Int)).bind fun a => U a else U n).bind fun c => U c
noncomputable def gQ (p0 : av) (c : List Int) : Nat → (List (List Int)) → Int → Option (av)
  | 0, _, _ => N
  | k1 + 1, d, a =>
    if decide (a < (p0.d_.length : Int)) then (idx p0.d_ a).bind fun e => (app ([] : List Int) e).bind fun f => (app d [f]).bind fun g => (gQ p0 c k1) g (J.wrap (a + 1)) else U (av.mk c d)
noncomputable def lS (p0 : av) : Option (av) :=
  (app ([] : List Int) p0.e_).bind fun a => gQ p0 a be ([] : List (List Int)) 0
noncomputable def iE (p0 : aT) : Option (aT) :=
  (app ([] : List Int) p0.r_).bind fun a => (app ([] : List Int) p0.b_).bind fun c => (lS p0.n_).bind fun d => U ({ p0 with r_ := a, n_ := d, b_ := c })
noncomputable def gg (p0 : ah) : Nat → (List aT) → Int → Option (ah)
  | 0, _, _ => N
  | k1 + 1, c, a =>
    if decide (a < (p0.a_.length : Int)) then (idx p0.a_ a).bind fun d => (iE d).bind fun e => (app c [e]).bind fun f => (gg p0 k1) f (J.wrap (a + 1)) else U (ah.mk c p0.k_)
noncomputable def gJ (p0 : ah) : Option (ah) :=
  gg p0 be ([] : List aT) 0
noncomputable def eY (p0 : bh) : Option (bh) :=
  (app ([] : List Int) p0.t_).bind fun a => U (bh.mk a p0.c_)
noncomputable def nY (p0 : Bool) : Option (Int) :=
  if p0 then U 1 else U 0
noncomputable def js (p0 : ab) (p1 : aq) (p2 : Int) : Option (Int) :=
  (ga p0 p1).bind fun a => (if (!a) then U y else (idx p0.b_ p1.j_).bind fun c => (dV c).bind fun d => (bm p2 0 (J.wrap (d - 1))).bind fun e => U (!e)).bind fun f => if f then U (-1) else if (p1.c_ == (-1)) then U p2 else (idx p0.b_ p1.j_).bind fun g => if decide ((g.u_.length : Int) > 0) then (nY (decide (p2 > p1.c_))).bind fun h => U h else (nY (p2 != p1.c_)).bind fun i => U i
noncomputable def gd (p1 : ah) (p2 : aY) (p0 : ab) : Nat → (List Int) → Int → Option (List Int)
  | 0, _, _ => N
  | k1 + 1, d, c =>
    (idx p1.a_ c).bind fun f => if (!f.q_) then (app d ([c] : List Int)).bind fun e => (idx p1.a_ c).bind fun a => (idx p2.o_ a.g_.j_).bind fun g => if decide (g ≥ 0) then (idx p2.o_ a.g_.j_).bind fun h => (js p0 a.g_ h).bind fun i => (idx a.r_ i).bind fun j => (gd p1 p2 p0 k1) e j else (idx a.r_ a.w_).bind fun k => (gd p1 p2 p0 k1) e k else (app d ([c] : List Int)).bind fun l => U l
noncomputable def nI (p0 : ab) (p1 : ah) (p2 : aY) : Option (List Int) :=
  gd p1 p2 p0 be ([] : List Int) 0
noncomputable def oI (p0 : ab) (p1 : ah) (p2 : aY) : Option (List Int) :=
  (gV p0 p1).bind fun a => (if (!a) then U y else (kY p0 p2).bind fun c => U (!c)).bind fun d => if d then U ([] : List Int) else (nI p0 p1 p2).bind fun e => U e
noncomputable def mn (p0 : ab) (p1 : ah) (p2 : aY) : Option (Int) :=
  (oI p0 p1 p2).bind fun a => if ((a.length : Int) == 0) then U (-1) else (idx a (J.wrap ((a.length : Int) - 1))).bind fun c => U c
noncomputable def eX (e : av) (p2 : aY) (p0 : ab) (p3 : Int) (g : Int) : Nat → (List (List Int)) → Int → Option (av × Bool)
  | 0, _, _ => N
  | k1 + 1, f, a =>
    if decide (a < (e.d_.length : Int)) then (idx p2.o_ a).bind fun h => if decide (h ≥ 0) then (idx p2.o_ a).bind fun c => (idx f a).bind fun d => (idx d (J.wrap ((J.wrap (c * (p0.l_.length : Int))) + p2.v_))).bind fun i => (idx d (J.wrap ((J.wrap (c * (p0.l_.length : Int))) + p2.v_))).bind fun _ => (eX e p2 p0 p3 g k1) (f.set a.toNat (d.set (J.wrap ((J.wrap (c * (p0.l_.length : Int))) + p2.v_)).toNat (J.wrap (i + p3)))) (J.wrap (a + 1)) else (eX e p2 p0 p3 g k1) f (J.wrap (a + 1)) else U ((av.mk (e.e_.set p2.v_.toNat (J.wrap (g + p3))) f), y)
noncomputable def iz (p0 : ab) (p1 : av) (p2 : aY) (p3 : Int) : Option (av × Bool) :=
  (lS p1).bind fun a => (eZ p0 p1).bind fun c => (if (!c) then U y else (kY p0 p2).bind fun d => U (!d)).bind fun e => (if (e || (decide (p2.v_ < 0))) then U y else (bm p3 1 7).bind fun f => U (!f)).bind fun g => (if g then U y else (dZ p0 p1).bind fun h => U (decide ((J.wrap (h + p3)) > 999))).bind fun i => if i then U (a, n) else (idx a.e_ p2.v_).bind fun j => (idx a.e_ p2.v_).bind fun _ => eX a p2 p0 p3 j be a.d_ 0
noncomputable def dk (p1 : List Int) (c : Int) (p0 : ab) (R1 : (List aq) → Int → Option (List aq)) : Nat → (List aq) → Int → Option (List aq)
  | 0, _, _ => N
  | k2 + 1, d, a =>
    if decide (a < 4) then (idx p1 c).bind fun e => (ga p0 (aq.mk e a)).bind fun f => if f then (app d ([(aq.mk e a)] : List aq)).bind fun g => (dk p1 c p0 R1 k2) g (J.wrap (a + 1)) else (dk p1 c p0 R1 k2) d (J.wrap (a + 1)) else R1 d (J.wrap (c + 1))
noncomputable def dl (p1 : List Int) (p0 : ab) (p2 : Bool) : Nat → (List aq) → Int → Option (List aq)
  | 0, _, _ => N
  | k1 + 1, c, a =>
    if decide (a < (p1.length : Int)) then (idx p1 a).bind fun d => (idx p0.b_ d).bind fun e => if (((e.u_.length : Int) == 0) && (!p2)) then (idx p1 a).bind fun f => (app c ([(aq.mk f (-1))] : List aq)).bind fun g => (dl p1 p0 p2 k1) g (J.wrap (a + 1)) else dk p1 a p0 (dl p1 p0 p2 k1) be c 0 else U c
noncomputable def ke (p0 : ab) (p1 : List Int) (p2 : Bool) : Option (List aq) :=
  (gH p0 p1).bind fun a => if (!a) then U ([] : List aq) else dl p1 p0 p2 be ([] : List aq) 0
noncomputable def dc (e : List Int) (p1 : av) (p2 : aq) (d : Int) (p0 : ab) (R1 : Int → (List Int) → Option (List Int)) : Nat → Int → (List Int) → Option (List Int)
  | 0, _, _ => N
  | k2 + 1, a, c =>
    if decide (a < (e.length : Int)) then (idx c a).bind fun f => (idx p1.d_ p2.j_).bind fun g => (idx g (J.wrap ((J.wrap (d * (p0.l_.length : Int))) + a))).bind fun h => (idx c a).bind fun _ => (dc e p1 p2 d p0 R1 k2) (J.wrap (a + 1)) (c.set a.toNat (J.wrap (f + h))) else R1 (J.wrap (d + 1)) c
noncomputable def cy (p0 : ab) (p2 : aq) (p3 : Int) (d : List Int) (p1 : av) : Nat → Int → (List Int) → Option (List Int)
  | 0, _, _ => N
  | k1 + 1, a, c =>
    (idx p0.b_ p2.j_).bind fun e => (dV e).bind fun f => if decide (a < f) then (js p0 p2 a).bind fun g => if (g == p3) then dc d p1 p2 a p0 (cy p0 p2 p3 d p1 k1) be 0 c else (cy p0 p2 p3 d p1 k1) (J.wrap (a + 1)) c else U c
noncomputable def gZ (p0 : ab) (p1 : av) (p2 : aq) (p3 : Int) : Option (List Int) :=
  (eZ p0 p1).bind fun c => (if ((!c) || ((p1.d_.length : Int) == 0)) then U y else (ga p0 p2).bind fun d => U (!d)).bind fun e => (if e then U y else (dR p0 p2).bind fun f => (bm p3 0 (J.wrap (f - 1))).bind fun g => U (!g)).bind fun h => if h then U ([] : List Int) else (mk (0 : Int) (p0.l_.length : Int)).bind fun a => cy p0 p2 p3 a p1 be 0 a
noncomputable def gS (p0 : List Int) : Nat → Int → Int → Option (Int)
  | 0, _, _ => N
  | k1 + 1, c, a =>
    if decide (a < (p0.length : Int)) then (idx p0 a).bind fun d => (gS p0 k1) (J.wrap (c + d)) (J.wrap (a + 1)) else U c
noncomputable def jS (p0 : List Int) : Option (Int) :=
  gS p0 be 0 0
noncomputable def gj (p0 : List Int) : Nat → Int → Int → Option (Int)
  | 0, _, _ => N
  | k1 + 1, c, a =>
    if decide (a < (p0.length : Int)) then (idx p0 a).bind fun d => (bm d 0 999).bind fun e => if (!e) then U (-1) else (idx p0 a).bind fun f => (idx p0 a).bind fun g => (gj p0 k1) (J.wrap (c + (J.wrap (f * g)))) (J.wrap (a + 1)) else U c
noncomputable def lc (p0 : List Int) : Option (Int) :=
  if decide ((p0.length : Int) > 3) then U (-1) else gj p0 be 0 0
noncomputable def io (p0 : bd) : Option (Bool) :=
  (bm p0.D_ 0 4000000000000000).bind fun a => (if a then (bm p0.C_ 1 4000000000000000).bind fun c => U c else U n).bind fun d => U d
noncomputable def jk  : Nat → Int → Int → Option (Int)
  | 0, _, _ => N
  | k1 + 1, c, a =>
    if decide (a > 0) then (rem c a).bind fun d => (jk k1) a d else U c
noncomputable def qm (p0 : Int) (p1 : Int) : Option (Int) :=
  if ((decide (p0 < 0)) || (decide (p1 < 0))) then U (-1) else jk be p0 p1
noncomputable def mH (p0 : bd) : Option (bd) :=
  (io p0).bind fun c => if (!c) then U (bd.mk 0 0) else (qm p0.D_ p0.C_).bind fun a => (quo J p0.D_ a).bind fun d => (quo J p0.C_ a).bind fun e => U (bd.mk d e)
noncomputable def fN (a : List Int) (e : List Int) (f : List Int) (R1 : Int → (List Int) → (List Int) → (List Int) → Option (bd)) (g : Int) : Nat → Int → (List Int) → Option (bd)
  | 0, _, _ => N
  | k2 + 1, c, d =>
    if decide (c < (a.length : Int)) then (idx d c).bind fun h => (idx a c).bind fun i => (idx d c).bind fun _ => (fN a e f R1 g k2) (J.wrap (c + 1)) (d.set c.toNat (J.wrap (h + i))) else (jS a).bind fun j => if decide (j > 0) then (jS a).bind fun k => (app e ([k] : List Int)).bind fun l => (lc a).bind fun m => (app f ([m] : List Int)).bind fun o => R1 (J.wrap (g + 1)) d l o else R1 (J.wrap (g + 1)) d e f
noncomputable def iv (e : List Int) (f : List Int) (a : Int) (c : Int) (g : List Int) : Nat → Int → Int → Option (bd)
  | 0, _, _ => N
  | k4 + 1, h, d =>
    if decide (d < (e.length : Int)) then (idx f d).bind fun i => (idx e d).bind fun j => (quo J a j).bind fun k => (iv e f a c g k4) (J.wrap (h + (J.wrap ((J.wrap (i * c)) * k)))) (J.wrap (d + 1)) else (lc g).bind fun l => (mH (bd.mk (J.wrap (h - (J.wrap (l * a)))) (J.wrap ((J.wrap (c * c)) * a)))).bind fun m => U m
noncomputable def iu (a : List Int) (d : List Int) (e : Int) (f : List Int) : Nat → Int → Int → Option (bd)
  | 0, _, _ => N
  | k3 + 1, g, c =>
    if decide (c < (a.length : Int)) then (idx a c).bind fun h => (iu a d e f k3) (J.wrap (g * h)) (J.wrap (c + 1)) else iv a d g e f be 0 0
noncomputable def eU (p0 : ab) (p2 : aq) (p1 : av) : Nat → Int → (List Int) → (List Int) → (List Int) → Option (bd)
  | 0, _, _, _, _ => N
  | k1 + 1, a, c, d, e =>
    (dR p0 p2).bind fun g => if decide (a < g) then (gZ p0 p1 p2 a).bind fun h => fN h d e (eU p0 p2 p1 k1) a be 0 c else (jS c).bind fun f => if (f == 0) then U (bd.mk 0 1) else iu d e f c be 1 0
noncomputable def mP (p0 : ab) (p1 : av) (p2 : aq) : Option (bd) :=
  (eZ p0 p1).bind fun a => (if ((!a) || ((p1.d_.length : Int) == 0)) then U y else (ga p0 p2).bind fun c => U (!c)).bind fun d => if d then U (bd.mk 0 0) else (mk (0 : Int) (p0.l_.length : Int)).bind fun e => eU p0 p2 p1 be 0 e ([] : List Int) ([] : List Int)
noncomputable def iB  : Nat → Int → (List Int) → Option ((List Int) × Bool)
  | 0, _, _ => N
  | k1 + 1, a, c =>
    if decide (a > 0) then (app c ([Int.tmod a 16777216] : List Int)).bind fun d => (iB k1) (J.wrap (Int.tdiv a 16777216)) d else U (c, y)
noncomputable def mO (p0 : Int) : Option ((List Int) × Bool) :=
  if decide (p0 < 0) then U (([] : List Int), n) else iB be p0 ([] : List Int)
noncomputable def fO (p0 : List Int) : Nat → Int → Option (Bool)
  | 0, _ => N
  | k1 + 1, a =>
    if decide (a < (p0.length : Int)) then (idx p0 a).bind fun c => (bm c 0 16777215).bind fun d => if (!d) then U n else (fO p0 k1) (J.wrap (a + 1)) else (if ((p0.length : Int) == 0) then U y else (idx p0 (J.wrap ((p0.length : Int) - 1))).bind fun e => U (e != 0)).bind fun f => U f
noncomputable def jr (p0 : List Int) : Option (Bool) :=
  if decide ((p0.length : Int) > 16) then U n else fO p0 be 0
noncomputable def gW (p0 : List Int) : Nat → Int → Option (List Int)
  | 0, _ => N
  | k1 + 1, a =>
    (if decide (a > 0) then (idx p0 (J.wrap (a - 1))).bind fun c => U (c == 0) else U n).bind fun d => if d then (gW p0 k1) (J.wrap (a - 1)) else (sub p0 0 a).bind fun e => (app ([] : List Int) e).bind fun f => U f
noncomputable def lM (p0 : List Int) : Option (List Int) :=
  gW p0 be (p0.length : Int)
noncomputable def fx (p1 : List Int) (a : Int) (p0 : List Int) (R1 : (List Int) → Int → Option ((List Int) × Bool)) : Nat → (List Int) → Int → Int → Option ((List Int) × Bool)
  | 0, _, _, _ => N
  | k2 + 1, c, e, d =>
    if decide (d < (p1.length : Int)) then (idx c (J.wrap (a + d))).bind fun f => (idx p0 a).bind fun g => (idx p1 d).bind fun h => (idx c (J.wrap (a + d))).bind fun _ => (fx p1 a p0 R1 k2) (c.set (J.wrap (a + d)).toNat (Int.tmod (J.wrap ((J.wrap (f + (J.wrap (g * h)))) + e)) 16777216)) (J.wrap (Int.tdiv (J.wrap ((J.wrap (f + (J.wrap (g * h)))) + e)) 16777216)) (J.wrap (d + 1)) else (idx c (J.wrap (a + (p1.length : Int)))).bind fun i => (idx c (J.wrap (a + (p1.length : Int)))).bind fun _ => R1 (c.set (J.wrap (a + (p1.length : Int))).toNat (J.wrap (i + e))) (J.wrap (a + 1))
noncomputable def fu (p0 : List Int) (p1 : List Int) : Nat → (List Int) → Int → Option ((List Int) × Bool)
  | 0, _, _ => N
  | k1 + 1, c, d =>
    if decide (d < (p0.length : Int)) then fx p1 d p0 (fu p0 p1 k1) be c 0 0 else (lM c).bind fun a => if decide ((a.length : Int) > 16) then U (([] : List Int), n) else U (a, y)
noncomputable def ji (p0 : List Int) (p1 : List Int) : Option ((List Int) × Bool) :=
  (jr p0).bind fun a => (if (!a) then U y else (jr p1).bind fun c => U (!c)).bind fun d => if d then U (([] : List Int), n) else (mk (0 : Int) (J.wrap ((J.wrap ((p0.length : Int) + (p1.length : Int))) + 1))).bind fun e => fu p0 p1 be e 0
noncomputable def fS (p0 : Int) (p1 : Int) : Option (List Int) :=
  (mO p0).bind fun a => (mO p1).bind fun c => (ji a.1 c.1).bind fun d => U d.1
noncomputable def ol (p0 : Int) (p1 : Int) : Option (Int) :=
  if decide (p0 > p1) then U p0 else U p1
noncomputable def kz (p0 : List Int) (p1 : Int) : Option (Int) :=
  if decide (p1 < (p0.length : Int)) then (idx p0 p1).bind fun a => U a else U 0
noncomputable def gU (p0 : List Int) (p1 : List Int) : Nat → Int → Option (Int)
  | 0, _ => N
  | k1 + 1, a =>
    if decide (a ≥ 0) then (kz p0 a).bind fun c => (kz p1 a).bind fun d => if decide (c < d) then U (-1) else if decide (c > d) then U 1 else (gU p0 p1 k1) (J.wrap (a - 1)) else U 0
noncomputable def kC (p0 : List Int) (p1 : List Int) : Option (Int) :=
  (jr p0).bind fun a => (if (!a) then U y else (jr p1).bind fun c => U (!c)).bind fun d => if d then U (-2) else (ol (p0.length : Int) (p1.length : Int)).bind fun e => gU p0 p1 be (J.wrap (e - 1))
noncomputable def im (p0 : bd) (p1 : bd) : Option (Int) :=
  (io p0).bind fun a => (if (!a) then U y else (io p1).bind fun c => U (!c)).bind fun d => if d then U (-2) else (fS p0.D_ p1.C_).bind fun e => (fS p1.D_ p0.C_).bind fun f => (kC e f).bind fun g => U g
noncomputable def mv (f : Int) (g : Int) (i : List aq) (a : Int) (R1 : Int → Int → Int → Int → Int → Option (aq × bd)) (j : Int) (k : Int) (c : Int) (d : Int) : Option (aq × bd) :=
  (im (bd.mk c d) (bd.mk f g)).bind fun h => if decide (h > 0) then (idx i a).bind fun e => R1 e.j_ e.c_ c d (J.wrap (a + 1)) else R1 j k f g (J.wrap (a + 1))
noncomputable def fX (a : List aq) (p0 : ab) (p1 : av) : Nat → Int → Int → Int → Int → Int → Option (aq × bd)
  | 0, _, _, _, _, _ => N
  | k1 + 1, e, f, g, h, c =>
    if decide (c < (a.length : Int)) then (idx a c).bind fun i => (mP p0 p1 i).bind fun d => mv g h a c (fX a p0 p1 k1) e f d.D_ d.C_ else U ((aq.mk e f), (bd.mk g h))
noncomputable def nj (p0 : ab) (p1 : av) (p2 : Int) (p3 : Bool) : Option (aq × bd) :=
  (eZ p0 p1).bind fun e => (if ((!e) || ((p1.d_.length : Int) == 0)) then U y else (bm p2 0 (J.wrap ((p0.b_.length : Int) - 1))).bind fun f => U (!f)).bind fun g => if g then U ((aq.mk 0 0), (bd.mk 0 0)) else (ke p0 ([p2] : List Int) p3).bind fun c => (idx c 0).bind fun a => (mP p0 p1 a).bind fun d => fX c p0 p1 be a.j_ a.c_ d.D_ d.C_ 1
noncomputable def pr (p0 : bw) (p1 : bw) : Option (Bool) :=
  (im p0.z_ p1.z_).bind fun a => U (a == 1)
noncomputable def jp (a : List bw) (d : Int) (e : Int) (f : Int) (g : Int) (R1 : Int → (List bw) → Option (List bw)) (h : Int) : Nat → Int → Option (List bw)
  | 0, _ => N
  | k2 + 1, c =>
    (if decide (c > 0) then (idx a (J.wrap (c - 1))).bind fun i => (pr (bw.mk (aq.mk d e) (bd.mk f g)) i).bind fun j => U j else U n).bind fun k => if k then (jp a d e f g R1 h k2) (J.wrap (c - 1)) else (sub a 0 c).bind fun l => (app ([] : List bw) l).bind fun m => (app m ([(bw.mk (aq.mk d e) (bd.mk f g))] : List bw)).bind fun o => (sub a c (a.length : Int)).bind fun p => (app o p).bind fun q => R1 (J.wrap (h + 1)) q
noncomputable def nF (a : List bw) (R1 : Int → (List bw) → Option (List bw)) (c : Int) (d : Int) (e : Int) (f : Int) (g : Int) : Option (List bw) :=
  jp a d e f g R1 c be (a.length : Int)
noncomputable def eG (p2 : List Int) (p0 : ab) (p1 : av) (p3 : Bool) : Nat → Int → (List bw) → Option (List bw)
  | 0, _, _ => N
  | k1 + 1, c, d =>
    if decide (c < (p2.length : Int)) then (idx p2 c).bind fun e => (nj p0 p1 e p3).bind fun a => nF d (eG p2 p0 p1 p3 k1) c a.1.j_ a.1.c_ a.2.D_ a.2.C_ else U d
noncomputable def pn (p0 : ab) (p1 : av) (p2 : List Int) (p3 : Bool) : Option (List bw) :=
  (eZ p0 p1).bind fun a => (if ((!a) || ((p1.d_.length : Int) == 0)) then U y else (gH p0 p2).bind fun c => U (!c)).bind fun d => if d then U ([] : List bw) else eG p2 p0 p1 p3 be 0 ([] : List bw)
noncomputable def jG (a : List bw) (c : Int) (d : Int) : Option (bw × bd × Bool) :=
  (idx a 0).bind fun e => U (e, (bd.mk c d), y)
noncomputable def lr (p0 : ab) (p1 : av) (p2 : List Int) (p3 : Bool) : Option (bw × bd × Bool) :=
  (pn p0 p1 p2 p3).bind fun a => if ((a.length : Int) == 0) then U ((bw.mk (aq.mk 0 0) (bd.mk 0 0)), (bd.mk 0 0), n) else if decide ((a.length : Int) > 1) then (idx a 1).bind fun c => jG a c.z_.D_ c.z_.C_ else jG a 0 1
noncomputable def iA (p0 : bd) : Option (Bool) :=
  (io p0).bind fun a => U (a && (decide (p0.D_ ≤ p0.C_)))
noncomputable def kJ (a : List Int) (R1 : (List Int) → Int → Int → Option ((List Int) × Bool)) (c : Int) (d : Int) (e : Int) : Option ((List Int) × Bool) :=
  (app a ([e] : List Int)).bind fun f => R1 f d (J.wrap (c + 1))
noncomputable def dY (p0 : List Int) (p1 : List Int) : Nat → (List Int) → Int → Int → Option ((List Int) × Bool)
  | 0, _, _, _ => N
  | k1 + 1, c, d, a =>
    if decide (a < (p0.length : Int)) then (idx p0 a).bind fun e => (kz p1 a).bind fun f => if decide ((J.wrap ((J.wrap (e - f)) - d)) < 0) then kJ c (dY p0 p1 k1) a 1 (J.wrap ((J.wrap ((J.wrap (e - f)) - d)) + 16777216)) else kJ c (dY p0 p1 k1) a 0 (J.wrap ((J.wrap (e - f)) - d)) else (lM c).bind fun g => U (g, y)
noncomputable def nf (p0 : List Int) (p1 : List Int) : Option ((List Int) × Bool) :=
  (jr p0).bind fun a => (if (!a) then U y else (jr p1).bind fun c => U (!c)).bind fun d => (if d then U y else (kC p0 p1).bind fun e => U (decide (e < 0))).bind fun f => if f then U (([] : List Int), n) else dY p0 p1 be ([] : List Int) 0 0
noncomputable def lZ (p0 : bd) (p1 : bd) : Option ((List Int) × (List Int) × Bool) :=
  (io p0).bind fun a => (if (!a) then U y else (io p1).bind fun c => U (!c)).bind fun d => (if d then U y else (im p0 p1).bind fun e => U (decide (e < 0))).bind fun f => if f then U (([] : List Int), ([] : List Int), n) else (fS p0.D_ p1.C_).bind fun g => (fS p1.D_ p0.C_).bind fun h => (nf g h).bind fun i => (fS p0.C_ p1.C_).bind fun j => U (i.1, j, y)
noncomputable def nL (p0 : Int) : Option (Int) :=
  (bm p0 1 9).bind fun a => if (!a) then U 0 else U (J.wrap (Int.tdiv (J.wrap ((J.wrap (p0 * 2302585)) + 999)) 1000))
noncomputable def nk (p0 : bd) (p1 : bd) (p2 : Int) (p3 : Int) : Option (Bool) :=
  (iA p0).bind fun d => (if (!d) then U y else (iA p1).bind fun e => U (!e)).bind fun f => (if f then U y else (im p0 p1).bind fun g => U (decide (g < 0))).bind fun h => (if h then U y else (bm p2 1 999).bind fun i => U (!i)).bind fun j => (if j then U y else (bm p3 1 9).bind fun k => U (!k)).bind fun l => if l then U n else (lZ p0 p1).bind fun a => (ji a.1 a.1).bind fun m => (fS 2000 p2).bind fun o => (ji m.1 o).bind fun p => (ji a.2.1 a.2.1).bind fun q => (nL p3).bind fun r => (fS r 1).bind fun s => (ji q.1 s).bind fun t => (kC p.1 t.1).bind fun c => U (decide (c > 0))
noncomputable def pi (p0 : cB) (p1 : Int) : Option (Bool) :=
  (kF p0).bind fun a => (if a then (bm p1 1 999).bind fun c => U c else U n).bind fun d => (if d then (nL p0.G_).bind fun e => U (decide ((J.wrap (1000 * e)) < (J.wrap ((J.wrap ((J.wrap (2 * p1)) * p0.H_)) * p0.H_)))) else U n).bind fun f => U f
noncomputable def my (p0 : cB) (p1 : bd) (p2 : bd) (p3 : Int) : Option (Int) :=
  (kF p0).bind fun a => (if (!a) then U y else (bm p3 1 999).bind fun c => U (!c)).bind fun d => (if d then U y else (iA p1).bind fun e => U (!e)).bind fun f => (if f then U y else (iA p2).bind fun g => U (!g)).bind fun h => (if h then U y else (im p1 p2).bind fun i => U (decide (i < 0))).bind fun j => if j then U 4 else if (p1.D_ == 0) then U 3 else (nk p1 p2 p3 p0.G_).bind fun k => if k then U 1 else (pi p0 p3).bind fun l => if l then U 2 else U 0
noncomputable def ou (p0 : ab) (p1 : cB) (p2 : aT) : Option (aq × Int) :=
  (lr p0 p2.n_ p2.b_ p1.F_).bind fun a => if ((!p2.q_) || (!a.2.2)) then U ((aq.mk 0 0), 4) else (dZ p0 p2.n_).bind fun d => (my p1 a.1.z_ a.2.1 d).bind fun c => if ((c == 1) || (c == 2)) then U (a.1.g_, c) else U ((aq.mk 0 0), c)
noncomputable def fI (c : List Int) (R1 : (List Int) → Int → Option (Int)) (d : Int) : Nat → (List Int) → Int → Option (Int)
  | 0, _, _ => N
  | k2 + 1, e, a =>
    if decide (a < (c.length : Int)) then (idx c (J.wrap (a - 1))).bind fun f => (idx c a).bind fun g => (app e ([J.wrap (f + g)] : List Int)).bind fun h => (fI c R1 d k2) h (J.wrap (a + 1)) else (app e ([1] : List Int)).bind fun i => R1 i (J.wrap (d + 1))
noncomputable def cW (p0 : Int) (p1 : Int) : Nat → (List Int) → Int → Option (Int)
  | 0, _, _ => N
  | k1 + 1, c, a =>
    if decide (a < p0) then fI c (cW p0 p1 k1) a be ([1] : List Int) 1 else (idx c p1).bind fun d => U d
noncomputable def jw (p0 : Int) (p1 : Int) : Option (Int) :=
  (bm p0 0 20).bind fun a => (if (!a) then U y else (bm p1 0 p0).bind fun c => U (!c)).bind fun d => if d then U 0 else cW p0 p1 be ([1] : List Int) 0
noncomputable def mX (p0 : bh) : Option (Int) :=
  (lT p0).bind fun a => if (!a) then U 0 else U (J.wrap ((p0.t_.length : Int) - p0.c_))
noncomputable def pd (p0 : bh) : Option (bh × Int × Bool) :=
  (eY p0).bind fun a => (mX p0).bind fun c => if decide (c < 2) then U (a, 0, n) else (idx p0.t_ p0.c_).bind fun d => (idx p0.t_ (J.wrap (p0.c_ + 1))).bind fun e => U ((bh.mk a.t_ (J.wrap (p0.c_ + 2))), J.wrap ((J.wrap ((J.wrap d) * 256)) + (J.wrap e)), y)
noncomputable def ma (p0 : bh) (p1 : Int) : Option (bh × Int × Bool) :=
  (pd p0).bind fun a => (if (!a.2.2) then U y else (bm p1 1 65536).bind fun c => U (!c)).bind fun d => if d then (eY p0).bind fun e => U (e, 0, n) else (rem a.2.1 p1).bind fun f => U (a.1, f, y)
noncomputable def eW (p1 : Int) (p0 : Int) : Nat → Int → (List Int) → Int → Option (List Int)
  | 0, _, _, _ => N
  | k1 + 1, d, a, c =>
    if decide ((a.length : Int) < p1) then (jw (J.wrap ((J.wrap (p0 - c)) - 1)) (J.wrap ((J.wrap (p1 - (a.length : Int))) - 1))).bind fun e => if decide (d < e) then (app a ([c] : List Int)).bind fun f => (eW p1 p0 k1) d f (J.wrap (c + 1)) else (eW p1 p0 k1) (J.wrap (d - e)) a (J.wrap (c + 1)) else U a
noncomputable def jt (p0 : Int) (p1 : Int) (p2 : Int) : Option (List Int) :=
  (jw p0 p1).bind fun a => (bm p2 0 (J.wrap (a - 1))).bind fun c => if (!c) then U ([] : List Int) else eW p1 p0 be p2 ([] : List Int) 0
noncomputable def iP (p0 : bh) (p1 : Int) (p2 : Int) (a : Int) (c : Bool) (d : List Int) (e : Int) : Option (bh × (List Int) × Bool) :=
  if (!c) then (eY p0).bind fun f => U (f, ([] : List Int), n) else (jt p1 p2 a).bind fun g => U ((bh.mk d e), g, y)
noncomputable def kg (p0 : bh) (p1 : Int) (p2 : Int) : Option (bh × (List Int) × Bool) :=
  (jw p1 p2).bind fun c => (ma p0 c).bind fun a => iP p0 p1 p2 a.2.1 a.2.2 a.1.t_ a.1.c_
noncomputable def gI (p0 : List Int) : Nat → Int → Int → Option (Int)
  | 0, _, _ => N
  | k1 + 1, c, a =>
    if decide (a < (p0.length : Int)) then (if decide (c < 0) then U y else (idx p0 a).bind fun d => (idx p0 c).bind fun e => U (decide (d > e))).bind fun f => if f then (gI p0 k1) a (J.wrap (a + 1)) else (gI p0 k1) c (J.wrap (a + 1)) else U c
noncomputable def mQ (p0 : List Int) : Option (Int) :=
  gI p0 be (-1) 0
noncomputable def ep (p0 : ab) (p2 : aq) (p1 : av) : Nat → (List Int) → Int → Option (Int)
  | 0, _, _ => N
  | k1 + 1, c, a =>
    (dR p0 p2).bind fun g => if decide (a < g) then (gZ p0 p1 p2 a).bind fun d => if ((d.length : Int) == 0) then U (-1) else (jS d).bind fun h => (app c ([h] : List Int)).bind fun e => (ep p0 p2 p1 k1) e (J.wrap (a + 1)) else (mQ c).bind fun f => U f
noncomputable def lm (p0 : ab) (p1 : av) (p2 : aq) : Option (Int) :=
  ep p0 p2 p1 be ([] : List Int) 0
noncomputable def mI (p0 : av) : Option (av) :=
  (app ([] : List Int) p0.e_).bind fun a => U (av.mk a ([] : List (List Int)))
noncomputable def eO (p4 : List (List Int)) (p0 : ab) (d : Int) (p2 : Int) (p1 : ah) (p3 : aq) (f : Int) (g : List Int) (h : List (List Int)) (i : List Int) (j : Int) (k : Int) (r : ah) : Nat → (List aT) → (List Int) → Int → Option (ah × Bool)
  | 0, _, _, _ => N
  | k2 + 1, a, e, c =>
    if decide (c < (p4.length : Int)) then (app e ([(a.length : Int)] : List Int)).bind fun l => (idx p4 c).bind fun m => (gG p0).bind fun o => (app ([] : List Int) m).bind fun p => (app a [(aT.mk y (aq.mk 0 0) ([] : List Int) 0 o 0 p (J.wrap (d + 1)) p2 p1.k_)]).bind fun q => (eO p4 p0 d p2 p1 p3 f g h i j k r k2) q l (J.wrap (c + 1)) else (idx a p2).bind fun _ => U ((ah.mk (a.set p2.toNat (aT.mk n p3 e f (av.mk g h) 0 i d j k)) r.k_), y)
noncomputable def lD (p4 : List (List Int)) (p0 : ab) (p2 : Int) (p1 : ah) (p3 : aq) (a : ah) (c : Int) (d : List Int) (e : List (List Int)) (f : List Int) (g : Int) (h : Int) (i : Int) : Option (ah × Bool) :=
  eO p4 p0 g p2 p1 p3 c d e f h i a be a.a_ ([] : List Int) 0
noncomputable def eR (p4 : List (List Int)) (p0 : ab) (c : ah) (p1 : ah) (p2 : Int) (p3 : aq) : Nat → Int → Option (ah × Bool)
  | 0, _ => N
  | k1 + 1, a =>
    if decide (a < (p4.length : Int)) then (idx p4 a).bind fun m => (gH p0 m).bind fun o => if (!o) then U (c, n) else (eR p4 p0 c p1 p2 p3 k1) (J.wrap (a + 1)) else (idx p1.a_ p2).bind fun p => if ((p.m_ == 6) || (decide ((J.wrap ((p1.a_.length : Int) + (p4.length : Int))) > 31))) then U (c, n) else (idx p1.a_ p2).bind fun e => (idx p1.a_ p2).bind fun f => (idx p1.a_ p2).bind fun g => (idx p1.a_ p2).bind fun h => (idx p1.a_ p2).bind fun i => (idx p1.a_ p2).bind fun j => (lm p0 e.n_ p3).bind fun k => (mI f.n_).bind fun d => (app ([] : List Int) g.b_).bind fun l => lD p4 p0 p2 p1 p3 c k d.e_ d.d_ l h.m_ i.p_ j.s_
noncomputable def mt (p0 : ab) (p1 : ah) (p2 : Int) (p3 : aq) (p4 : List (List Int)) : Option (ah × Bool) :=
  (gJ p1).bind fun a => (gV p0 p1).bind fun g => (if (!g) then U y else (bm p2 0 (J.wrap ((p1.a_.length : Int) - 1))).bind fun h => U (!h)).bind fun i => (if i then U y else (idx p1.a_ p2).bind fun j => U (!j.q_)).bind fun k => (if k then U y else (idx p1.a_ p2).bind fun l => U ((l.n_.d_.length : Int) == 0)).bind fun m => (if m then U y else (ga p0 p3).bind fun c => U (!c)).bind fun d => (if d then U y else (dR p0 p3).bind fun e => U ((p4.length : Int) != e)).bind fun f => if f then U (a, n) else eR p4 p0 a p1 p2 p3 be 0
noncomputable def dx (p0 : ah) : Nat → (List Int) → Int → Option (List Int)
  | 0, _, _ => N
  | k1 + 1, c, a =>
    if decide (a < (p0.a_.length : Int)) then (idx p0.a_ a).bind fun d => (if d.q_ then (idx p0.a_ a).bind fun e => U (decide ((e.n_.d_.length : Int) > 0)) else U n).bind fun f => if f then (app c ([a] : List Int)).bind fun g => (dx p0 k1) g (J.wrap (a + 1)) else (dx p0 k1) c (J.wrap (a + 1)) else U c
noncomputable def jo (p0 : ah) : Option (List Int) :=
  dx p0 be ([] : List Int) 0
noncomputable def kU (p0 : ab) (p1 : av) : Option (Int) :=
  (eZ p0 p1).bind fun a => if (!a) then U 0 else (dZ p0 p1).bind fun c => (mQ p1.e_).bind fun d => (idx p1.e_ d).bind fun e => U (J.wrap (c - e))
noncomputable def fD (d : List Int) (p1 : ah) (p0 : ab) : Nat → Int → Int → Option (Int)
  | 0, _, _ => N
  | k1 + 1, c, a =>
    if decide (a < (d.length : Int)) then (if decide (c < 0) then U y else (idx d a).bind fun e => (idx p1.a_ e).bind fun f => (kU p0 f.n_).bind fun g => (idx p1.a_ c).bind fun h => (kU p0 h.n_).bind fun i => U (decide (g < i))).bind fun j => if j then (idx d a).bind fun k => (fD d p1 p0 k1) k (J.wrap (a + 1)) else (fD d p1 p0 k1) c (J.wrap (a + 1)) else U c
noncomputable def kO (p0 : ab) (p1 : ah) : Option (Int) :=
  (gV p0 p1).bind fun a => if (!a) then U (-1) else (jo p1).bind fun c => fD c p1 p0 be (-1) 0
noncomputable def ia (c : ah) (p2 : Int) (p0 : ab) : Nat → (List aT) → (List Int) → Option (ah × (List Int))
  | 0, _, _ => N
  | k1 + 1, a, e =>
    (jM (ah.mk a c.k_)).bind fun g => (if decide (g > p2) then (kO p0 (ah.mk a c.k_)).bind fun h => U (decide (h ≥ 0)) else U n).bind fun i => if i then (kO p0 (ah.mk a c.k_)).bind fun d => (idx a d).bind fun f => (mI f.n_).bind fun j => (app e ([d] : List Int)).bind fun k => (ia c p2 p0 k1) (a.set d.toNat ({ f with n_ := j, x_ := 0 })) k else U ((ah.mk a c.k_), e)
noncomputable def mh (p0 : ab) (p1 : ah) (p2 : Int) : Option (ah × (List Int)) :=
  (gJ p1).bind fun a => (gV p0 p1).bind fun c => if (!c) then U (a, ([] : List Int)) else ia a p2 p0 be a.a_ ([] : List Int)
noncomputable def dS (p0 : ab) (c : aq × Int) (p6 : Int) (p2 : ah) (p5 : bh) (d : ah) (e : Int) (f : aT) (g : av × Bool) (h : Int) (p1 : cB) : Nat → (List (List Int)) → (List Int) → Int → Int → Option (ah × bh × Int)
  | 0, _, _, _, _ => N
  | k1 + 1, i, j, k, l =>
    (dR p0 c.1).bind fun m => if decide (l < m) then (kg (bh.mk j k) (p0.b_.length : Int) p6).bind fun a => if (!a.2.2) then (gJ p2).bind fun o => (eY p5).bind fun p => U (o, p, 4) else (app i [a.2.1]).bind fun q => (dS p0 c p6 p2 p5 d e f g h p1 k1) q a.1.t_ a.1.c_ (J.wrap (l + 1)) else (mt p0 (ah.mk (d.a_.set e.toNat ({ f with n_ := g.1, x_ := h })) (J.wrap (p2.k_ + 1))) e c.1 i).bind fun r => (mh p0 r.1 p1.E_).bind fun s => U (s.1, (bh.mk j k), 1)
noncomputable def fW (a : ah) (g : Int) (p5 : bh) (c : aT) (d : av × Bool) (p2 : ah) (p0 : ab) (p1 : cB) (p6 : Int) (e : Int) (i : Bool) : Option (ah × bh × Int) :=
  (idx a.a_ g).bind fun _ => if (!i) then (eY p5).bind fun j => U ((ah.mk (a.a_.set g.toNat ({ c with n_ := d.1, x_ := e })) (J.wrap (p2.k_ + 1))), j, 0) else (ou p0 p1 ({ c with n_ := d.1, x_ := e })).bind fun f => (if (((f.2 != 1) && (f.2 != 2)) || (decide (c.m_ ≥ p1.m_))) then U y else (dR p0 f.1).bind fun k => U (decide ((J.wrap ((a.a_.length : Int) + k)) > p1.a_))).bind fun l => if l then (eY p5).bind fun m => U ((ah.mk (a.a_.set g.toNat ({ c with n_ := d.1, x_ := e })) (J.wrap (p2.k_ + 1))), m, 0) else (eY p5).bind fun h => dS p0 f p6 p2 p5 a g c d e p1 be ([] : List (List Int)) h.t_ h.c_ 0
noncomputable def kL (p0 : ab) (p1 : cB) (p2 : ah) (p3 : aY) (p4 : Int) (p5 : bh) (p6 : Int) : Option (ah × bh × Int) :=
  (pm p0 p1 p2).bind fun j => (if (!j) then U y else (kY p0 p3).bind fun k => U (!k)).bind fun l => (if (l || (decide (p3.v_ < 0))) then U y else (bm p4 1 7).bind fun m => U (!m)).bind fun o => (if o then U y else (lT p5).bind fun p => U (!p)).bind fun q => (if q then U y else (bm p6 1 (p0.b_.length : Int)).bind fun r => U (!r)).bind fun s => if s then (gJ p2).bind fun t => (eY p5).bind fun u => U (t, u, 2) else (mn p0 p2 p3).bind fun d => (if (p2.k_ == 99999) then U y else (idx p2.a_ d).bind fun v => (dZ p0 v.n_).bind fun f => U (decide (f > (J.wrap (999 - p4))))).bind fun w => if w then (gJ p2).bind fun g => (eY p5).bind fun h => U (g, h, 3) else (gJ p2).bind fun e => (idx p2.a_ d).bind fun i => (iE i).bind fun a => (iz p0 a.n_ p3 p4).bind fun c => if decide ((c.1.d_.length : Int) > 0) then if decide ((J.wrap (a.x_ + p4)) ≥ p1.I_) then fW e d p5 a c p2 p0 p1 p6 0 y else fW e d p5 a c p2 p0 p1 p6 (J.wrap (a.x_ + p4)) n else fW e d p5 a c p2 p0 p1 p6 a.x_ n
noncomputable def lb (h : List aY) (a : aY × ao) (R1 : Int → Int → (List aT) → Int → (List aY) → Int → Option (ah × (List aY) × ao)) (i : Int) (c : Int) (d : Int) (e : List aT) (f : Int) : Option (ah × (List aY) × ao) :=
  (app h [a.1]).bind fun g => R1 c d e f g (J.wrap (i + 1))
noncomputable def dK (p3 : Int) (p0b : List Int) (p1 : ab) (p2 : cB) (l : Int × ao) : Nat → Int → Int → (List aT) → Int → (List aY) → Int → Option (ah × (List aY) × ao)
  | 0, _, _, _, _, _, _ => N
  | k1 + 1, f, g, h, i, j, k =>
    if decide (k < p3) then (jZ p0b (ao.mk f g) p1).bind fun a => (ly p0b a.2 8).bind fun d => (bP p0b d.2 ([1, 3, 7, 7] : List Int)).bind fun c => (kL p1 p2 (ah.mk h i) a.1 c.1 (bh.mk d.1 0) (J.wrap (1 + l.1))).bind fun e => lb j a (dK p3 p0b p1 p2 l k1) k c.2.i_ c.2.h_ e.1.a_ e.1.k_ else U ((ah.mk h i), j, (ao.mk f g))
noncomputable def lA (p0b : List Int) (p0 : ao) (p1 : ab) (p2 : cB) (p3 : Int) : Option (ah × (List aY) × ao) :=
  (hH p0b p0 p1).bind fun c => (lX p1 c.1).bind fun d => (cP p0b c.2 (p1.b_.length : Int)).bind fun a => dK p3 p0b p1 p2 a be a.2.i_ a.2.h_ d.a_ d.k_ ([] : List aY) 0
noncomputable def iG (p0b : List Int) (p1 : ab) (d : cB × ao) (e : Int) (f : Int) (g : Int) : Option (ah × ao) :=
  (bP p0b (ao.mk e f) ([0, 2, 12, 40, 60] : List Int)).bind fun a => (lA p0b a.2 p1 ({ d.1 with E_ := g }) a.1).bind fun c => U (c.1, c.2.2)
noncomputable def lj (p0b : List Int) (p0 : ao) (p1 : ab) : Option (ah × ao) :=
  (lx p0b p0).bind fun d => (gi p0b d.2 3).bind fun a => if a.1 then (bP p0b a.2 ([62, 80, 120] : List Int)).bind fun c => iG p0b p1 d c.2.i_ c.2.h_ c.1 else iG p0b p1 d a.2.i_ a.2.h_ 2000
noncomputable def dG (p1 : ab) (c : Int) (R1 : (List aq) → Int → Option (aq × ao)) : Nat → (List aq) → Int → Option (aq × ao)
  | 0, _, _ => N
  | k2 + 1, d, a =>
    if decide (a < 4) then (ga p1 (aq.mk c a)).bind fun e => if e then (app d ([(aq.mk c a)] : List aq)).bind fun f => (dG p1 c R1 k2) f (J.wrap (a + 1)) else (dG p1 c R1 k2) d (J.wrap (a + 1)) else R1 d (J.wrap (c + 1))
noncomputable def du (p1 : ab) (p0 : ao) (p0b : List Int) : Nat → (List aq) → Int → Option (aq × ao)
  | 0, _, _ => N
  | k1 + 1, a, d =>
    if decide (d < (p1.b_.length : Int)) then dG p1 d (du p1 p0 p0b k1) be a (-1) else if ((a.length : Int) == 0) then U ((aq.mk 0 0), p0) else (cP p0b p0 (a.length : Int)).bind fun c => (idx a c.1).bind fun e => U (e, c.2)
noncomputable def mj (p0b : List Int) (p0 : ao) (p1 : ab) : Option (aq × ao) :=
  du p1 p0 p0b be ([] : List aq) 0
noncomputable def nq (p0b : List Int) (p0 : ao) (p1 : ab) : Option (aq × ao) :=
  (mj p0b p0 p1).bind fun c => (cP p0b c.2 10).bind fun a => if (a.1 == 0) then (bP p0b a.2 ([(-2), 1, 2, 3, 4, 9223372036854775807] : List Int)).bind fun d => U ((aq.mk c.1.j_ d.1), d.2) else if (a.1 == 1) then (bP p0b a.2 ([(-1), 5, 4, 9223372036854775807] : List Int)).bind fun e => U ((aq.mk e.1 c.1.c_), e.2) else U (c.1, a.2)
noncomputable def ms (p0b : List Int) (p0 : ao) (p1 : ab) : Option ((List Int) × ao) :=
  (hH p0b p0 p1).bind fun c => (cP p0b c.2 10).bind fun a => if (a.1 == 0) then (bP p0b a.2 ([0, 5, 4, (-1)] : List Int)).bind fun d => (app c.1 ([d.1] : List Int)).bind fun e => U (e, d.2) else if (a.1 == 1) then U (([] : List Int), a.2) else U (c.1, a.2)
noncomputable def eN (k : Int × ao) (p0b : List Int) (p1 : ab) : Nat → Int → Int → (List Int) → (List (List Int)) → Int → Option (av × ao)
  | 0, _, _, _, _, _ => N
  | k1 + 1, f, g, a, c, h =>
    if decide (h < k.1) then (jZ p0b (ao.mk f g) p1).bind fun i => (bP p0b i.2 ([1, 2, 7] : List Int)).bind fun d => (iz p1 (av.mk a c) i.1 d.1).bind fun j => (eN k p0b p1 k1) d.2.i_ d.2.h_ j.1.e_ j.1.d_ (J.wrap (h + 1)) else (gi p0b (ao.mk f g) 8).bind fun e => if e.1 then (mI (av.mk a c)).bind fun l => U (l, e.2) else U ((av.mk a c), e.2)
noncomputable def mx (p0b : List Int) (p0 : ao) (p1 : ab) : Option (av × ao) :=
  (gG p1).bind fun c => (bP p0b p0 ([0, 1, 3, 12, 30, 60] : List Int)).bind fun a => eN a p0b p1 be a.2.i_ a.2.h_ c.e_ c.d_ 0
noncomputable def ns (p0b : List Int) (p0 : ao) (p1 : ab) : Option (av × ao) :=
  (mx p0b p0 p1).bind fun a => (cP p0b a.2 14).bind fun c => if (c.1 == 0) then if decide ((a.1.e_.length : Int) > 0) then (bP p0b c.2 ([(-1), 999, 998, 1000, 9223372036854775807] : List Int)).bind fun d => (idx a.1.e_ 0).bind fun _ => U ((av.mk (a.1.e_.set (0 : Int).toNat d.1) a.1.d_), d.2) else U (a.1, c.2) else if (c.1 == 1) then (app a.1.e_ ([0] : List Int)).bind fun h => U ((av.mk h a.1.d_), c.2) else if (c.1 == 2) then (if decide ((a.1.d_.length : Int) > 0) then (idx a.1.d_ 0).bind fun i => U (decide ((i.length : Int) > 0)) else U n).bind fun j => if j then (idx a.1.d_ 0).bind fun e => (bP p0b c.2 ([(-1), 500, 1000] : List Int)).bind fun f => (idx e 0).bind fun _ => U ((av.mk a.1.e_ (a.1.d_.set (0 : Int).toNat (e.set (0 : Int).toNat f.1))), f.2) else U (a.1, c.2) else if (c.1 == 3) then if decide ((a.1.d_.length : Int) > 0) then (idx a.1.d_ 0).bind fun k => (app k ([0] : List Int)).bind fun g => U ((av.mk a.1.e_ (a.1.d_.set (0 : Int).toNat g)), c.2) else U (a.1, c.2) else U (a.1, c.2)
noncomputable def mE (p0b : List Int) (p0 : ao) (p1 : ab) : Option (ah × ao) :=
  (lj p0b p0 p1).bind fun a => if ((a.1.a_.length : Int) == 0) then U (a.1, a.2) else (cP p0b a.2 (a.1.a_.length : Int)).bind fun d => (cP p0b d.2 22).bind fun c => if (c.1 == 0) then (bP p0b c.2 ([(-1), 0, 99999, 100000] : List Int)).bind fun o => U ((ah.mk a.1.a_ o.1), o.2) else if (c.1 == 1) then (cP p0b c.2 8).bind fun p => (idx a.1.a_ d.1).bind fun C => U ((ah.mk (a.1.a_.set d.1.toNat ({ C with m_ := p.1 })) a.1.k_), p.2) else if (c.1 == 2) then (bP p0b c.2 ([(-1), 0, 1, d.1, 9223372036854775807] : List Int)).bind fun q => (idx a.1.a_ d.1).bind fun D => U ((ah.mk (a.1.a_.set d.1.toNat ({ D with p_ := q.1 })) a.1.k_), q.2) else if (c.1 == 3) then (idx a.1.a_ d.1).bind fun e => (bP p0b c.2 ([(-1), d.1, J.wrap (d.1 + 1), 40] : List Int)).bind fun f => (app e.r_ ([f.1] : List Int)).bind fun r => U ((ah.mk (a.1.a_.set d.1.toNat ({ e with r_ := r })) a.1.k_), f.2) else if (c.1 == 4) then (bP p0b c.2 ([(-1), 1, 2, 4] : List Int)).bind fun g => (idx a.1.a_ d.1).bind fun s => U ((ah.mk (a.1.a_.set d.1.toNat ({ s with w_ := g.1 })) a.1.k_), g.2) else if (c.1 == 5) then (bP p0b c.2 ([(-1), 1, 900, 9223372036854775807] : List Int)).bind fun h => (idx a.1.a_ d.1).bind fun t => U ((ah.mk (a.1.a_.set d.1.toNat ({ t with x_ := h.1 })) a.1.k_), h.2) else if (c.1 == 6) then (bP p0b c.2 ([(-1), 0, 1, a.1.k_, J.wrap (a.1.k_ + 1)] : List Int)).bind fun i => (idx a.1.a_ d.1).bind fun u => U ((ah.mk (a.1.a_.set d.1.toNat ({ u with s_ := i.1 })) a.1.k_), i.2) else if (c.1 == 7) then (idx a.1.a_ d.1).bind fun j => U ((ah.mk (a.1.a_.set d.1.toNat ({ j with q_ := (!j.q_) })) a.1.k_), c.2) else if (c.1 == 8) then (nq p0b c.2 p1).bind fun k => (idx a.1.a_ d.1).bind fun v => U ((ah.mk (a.1.a_.set d.1.toNat ({ v with g_ := k.1 })) a.1.k_), k.2) else if (c.1 == 9) then (ms p0b c.2 p1).bind fun l => (idx a.1.a_ d.1).bind fun w => U ((ah.mk (a.1.a_.set d.1.toNat ({ w with b_ := l.1 })) a.1.k_), l.2) else if (c.1 == 10) then (ns p0b c.2 p1).bind fun m => (idx a.1.a_ d.1).bind fun x => U ((ah.mk (a.1.a_.set d.1.toNat ({ x with n_ := m.1 })) a.1.k_), m.2) else if (c.1 == 11) then (sub a.1.a_ 0 (J.wrap ((a.1.a_.length : Int) - 1))).bind fun A => U ((ah.mk A a.1.k_), c.2) else U (a.1, c.2)
noncomputable def bN (p0 : Int) (p1 : Int) (p2 : Int) : Option (Bool) :=
  U ((decide (p0 ≥ p1)) && (decide (p0 ≤ p2)))
noncomputable def iL (p0 : List UInt8) : Nat → Int → Option (Bool)
  | 0, _ => N
  | k1 + 1, a =>
    if decide (a < (p0.length : Int)) then (idx p0 a).bind fun c => (if decide ((c.toNat : Int) < 97) then U y else (idx p0 a).bind fun d => U (decide ((d.toNat : Int) > 122))).bind fun e => if e then U n else (iL p0 k1) (J.wrap (a + 1)) else U y
noncomputable def lR (p0 : List UInt8) : Option (Bool) :=
  (bN (p0.length : Int) 1 8).bind fun a => if (!a) then U n else iL p0 be 0
noncomputable def cr (p0 : List (List UInt8)) (p1 : List UInt8) : Nat → Int → Option (Int)
  | 0, _ => N
  | k1 + 1, a =>
    if decide (a < (p0.length : Int)) then (idx p0 a).bind fun c => if (p1 == c) then U a else (cr p0 p1 k1) (J.wrap (a + 1)) else U (-1)
noncomputable def ek (p0 : List (List UInt8)) (p1 : List UInt8) : Option (Int) :=
  cr p0 p1 be 0
noncomputable def dC (p0 : List (List UInt8)) (p1 : List UInt8) : Option (Bool) :=
  (ek p0 p1).bind fun a => U (decide (a ≥ 0))
noncomputable def eD (p0 : List (List UInt8)) : Nat → Int → Option (Bool)
  | 0, _ => N
  | k1 + 1, a =>
    if decide (a < (p0.length : Int)) then (idx p0 a).bind fun c => (lR c).bind fun d => (if (!d) then U y else (sub p0 0 a).bind fun e => (dC e c).bind fun f => U f).bind fun g => if g then U n else (eD p0 k1) (J.wrap (a + 1)) else U y
noncomputable def eL (p0 : List (List UInt8)) : Option (Bool) :=
  eD p0 be 0
noncomputable def eF (p0 : List Int) : Nat → Int → Option (Bool)
  | 0, _ => N
  | k1 + 1, a =>
    if decide (a < (p0.length : Int)) then (idx p0 a).bind fun c => (idx p0 (J.wrap (a - 1))).bind fun d => if decide (c ≤ d) then U n else (eF p0 k1) (J.wrap (a + 1)) else U y
noncomputable def fR (p0 : List Int) : Option (Bool) :=
  eF p0 be 1
noncomputable def pq (p0 : Int) : Option (Bool) :=
  (bN p0 (-9999) 9998).bind fun a => U a
noncomputable def mW (p0 : Int) : Option (Bool) :=
  (pq p0).bind fun a => U (!a)
noncomputable def bK (p0 : List Int) : Nat → Int → Option (Int)
  | 0, _ => N
  | k1 + 1, a =>
    if decide (a < (p0.length : Int)) then (idx p0 a).bind fun c => (mW c).bind fun d => if d then U a else (bK p0 k1) (J.wrap (a + 1)) else U (-1)
noncomputable def cQ (p0 : List Int) : Option (Int) :=
  bK p0 be 0
noncomputable def cH (p0 : List Int) : Option (Bool) :=
  (cQ p0).bind fun a => U (decide (a ≥ 0))
noncomputable def nh (p0 : List Int) : Option (Bool) :=
  (bN (p0.length : Int) 1 3).bind fun a => (if a then (fR p0).bind fun c => U c else U n).bind fun d => (if d then (cH p0).bind fun e => U (!e) else U n).bind fun f => U f
noncomputable def ky (p0 : bc) : Option (Bool) :=
  (lR p0.B_).bind fun a => if (!a) then U n else if ((p0.u_.length : Int) == 0) then (bN (p0.A_.length : Int) 2 4).bind fun c => (if c then (eL p0.A_).bind fun d => U d else U n).bind fun e => U e else (if ((p0.A_.length : Int) == 0) then (nh p0.u_).bind fun f => U f else U n).bind fun g => U g
noncomputable def er (p0 : ab) : Nat → Int → (List (List UInt8)) → Option (Bool)
  | 0, _, _ => N
  | k1 + 1, a, d =>
    if decide (a < (p0.b_.length : Int)) then (idx p0.b_ a).bind fun c => (ky c).bind fun e => if (!e) then U n else (app d ([c.B_] : List (List UInt8))).bind fun f => (er p0 k1) (J.wrap (a + 1)) f else (eL d).bind fun g => U g
noncomputable def fy (p0 : ab) : Option (Bool) :=
  (bN (p0.b_.length : Int) 1 5).bind fun a => (if (!a) then U y else (bN (p0.l_.length : Int) 2 3).bind fun c => U (!c)).bind fun d => (if d then U y else (eL p0.l_).bind fun e => U (!e)).bind fun f => if f then U n else er p0 be 0 ([] : List (List UInt8))
noncomputable def mc (p0 : Int) : Option (Bool) :=
  (bN p0 0 999).bind fun a => U (!a)
noncomputable def bI (p0 : List Int) : Nat → Int → Option (Int)
  | 0, _ => N
  | k1 + 1, a =>
    if decide (a < (p0.length : Int)) then (idx p0 a).bind fun c => (mc c).bind fun d => if d then U a else (bI p0 k1) (J.wrap (a + 1)) else U (-1)
noncomputable def cK (p0 : List Int) : Option (Int) :=
  bI p0 be 0
noncomputable def cl (p0 : List Int) : Option (Bool) :=
  (cK p0).bind fun a => U (decide (a ≥ 0))
noncomputable def kP (p0 : List Int) (p1 : Int) : Option (Bool) :=
  (if ((p0.length : Int) == p1) then (cl p0).bind fun a => U (!a) else U n).bind fun c => U c
noncomputable def jq (p0 : List Int) : Nat → Int → Int → Option (Int)
  | 0, _, _ => N
  | k1 + 1, c, a =>
    if decide (a < (p0.length : Int)) then (idx p0 a).bind fun d => (jq p0 k1) (J.wrap (c + d)) (J.wrap (a + 1)) else U c
noncomputable def lH (p0 : List Int) : Option (Int) :=
  jq p0 be 0 0
noncomputable def el (p0 : bc) : Option (Int) :=
  if decide ((p0.u_.length : Int) > 0) then U (J.wrap ((p0.u_.length : Int) + 1)) else U (p0.A_.length : Int)
noncomputable def pD (p0 : Int) : Option (List Int) :=
  (mk (0 : Int) p0).bind fun a => U a
noncomputable def dt (e : List Int) (p0 : ab) (p1 : av) (R1 : Int → Option (Bool)) (f : Int) : Nat → Int → (List Int) → Option (Bool)
  | 0, _, _ => N
  | k2 + 1, a, c =>
    if decide (a < (e.length : Int)) then (idx e a).bind fun g => (rem a (p0.l_.length : Int)).bind fun d => (idx c d).bind fun h => (idx c d).bind fun _ => (rem a (p0.l_.length : Int)).bind fun i => (idx (c.set d.toNat (J.wrap (h + g))) i).bind fun j => (rem a (p0.l_.length : Int)).bind fun k => (idx p1.e_ k).bind fun l => if decide (j > l) then U n else (dt e p0 p1 R1 f k2) (J.wrap (a + 1)) (c.set d.toNat (J.wrap (h + g))) else R1 (J.wrap (f + 1))
noncomputable def dh (p1 : av) (p0 : ab) : Nat → Int → Option (Bool)
  | 0, _ => N
  | k1 + 1, a =>
    if decide (a < (p1.d_.length : Int)) then (idx p1.d_ a).bind fun c => (idx p0.b_ a).bind fun d => (el d).bind fun e => (kP c (J.wrap (e * (p0.l_.length : Int)))).bind fun f => if (!f) then U n else (pD (p0.l_.length : Int)).bind fun g => dt c p0 p1 (dh p1 p0 k1) a be 0 g else U y
noncomputable def kR (p0 : ab) (p1 : av) : Option (Bool) :=
  (fy p0).bind fun a => (if (!a) then U y else (kP p1.e_ (p0.l_.length : Int)).bind fun c => U (!c)).bind fun d => (if d then U y else (lH p1.e_).bind fun e => U (decide (e > 999))).bind fun f => if f then U n else if ((p1.d_.length : Int) == 0) then U y else if ((p1.d_.length : Int) != (p0.b_.length : Int)) then U n else dh p1 p0 be 0
noncomputable def mq (p0 : ab) (p1 : List Int) : Option (Bool) :=
  (fy p0).bind fun a => (if (a && (decide ((p1.length : Int) > 0))) then (fR p1).bind fun c => U c else U n).bind fun d => (if d then (idx p1 0).bind fun e => U (decide (e ≥ 0)) else U n).bind fun f => (if f then (idx p1 (J.wrap ((p1.length : Int) - 1))).bind fun g => U (decide (g < (p0.b_.length : Int))) else U n).bind fun h => U h
noncomputable def lK (p0 : ab) (p1 : aq) : Option (Bool) :=
  (fy p0).bind fun d => (if (!d) then U y else (bN p1.j_ 0 (J.wrap ((p0.b_.length : Int) - 1))).bind fun e => U (!e)).bind fun f => if f then U n else (idx p0.b_ p1.j_).bind fun a => (el a).bind fun c => if decide ((a.u_.length : Int) > 0) then (bN p1.c_ (-1) (J.wrap ((J.wrap (c - 1)) - 1))).bind fun g => U g else (bN p1.c_ (-1) (J.wrap (c - 1))).bind fun h => U h
noncomputable def jy (p0 : ab) (p1 : aq) : Option (Int) :=
  (lK p0 p1).bind fun a => if (!a) then U 0 else if (p1.c_ == (-1)) then (idx p0.b_ p1.j_).bind fun c => (el c).bind fun d => U d else U 2
noncomputable def lp (p0 : Int) (p1 : Int) (p2 : ah) : Option (Bool) :=
  (bN p0 (J.wrap (p1 + 1)) (J.wrap ((p2.a_.length : Int) - 1))).bind fun a => (if (!a) then U y else (idx p2.a_ p0).bind fun c => U (c.p_ != p1)).bind fun d => U d
noncomputable def bJ (p0 : List Int) (p1_0 : Int) (p1_1 : ah) : Nat → Int → Option (Int)
  | 0, _ => N
  | k1 + 1, a =>
    if decide (a < (p0.length : Int)) then (idx p0 a).bind fun c => (lp c p1_0 p1_1).bind fun d => if d then U a else (bJ p0 p1_0 p1_1 k1) (J.wrap (a + 1)) else U (-1)
noncomputable def cO (p0 : List Int) (p1_0 : Int) (p1_1 : ah) : Option (Int) :=
  bJ p0 p1_0 p1_1 be 0
noncomputable def co (p0 : List Int) (p1_0 : Int) (p1_1 : ah) : Option (Bool) :=
  (cO p0 p1_0 p1_1).bind fun a => U (decide (a ≥ 0))
noncomputable def jO (a : aT) (c : Int) : Option (Bool) :=
  (if (((a.g_.j_ == 0 && (a.g_.c_ == 0 && y)) && ((a.r_.length : Int) == 0)) && (a.w_ == 0)) then (bN a.x_ 0 c).bind fun d => U d else U n).bind fun e => U e
noncomputable def ng (p0 : ab) (p1 : ah) (p2 : Int) : Option (Bool) :=
  (idx p1.a_ p2).bind fun a => (bN a.m_ 0 6).bind fun h => (if (!h) then U y else (bN a.s_ 0 p1.k_).bind fun i => U (!i)).bind fun j => (if j then U y else (kR p0 a.n_).bind fun k => U (!k)).bind fun l => (if l then U y else (mq p0 a.b_).bind fun m => U (!m)).bind fun o => if o then U n else if a.q_ then (lH a.n_.e_).bind fun p => if ((a.n_.d_.length : Int) == 0) then jO a 0 else jO a p else (jy p0 a.g_).bind fun c => (if ((c == 0) || ((a.r_.length : Int) != c)) then U y else (fR a.r_).bind fun d => U (!d)).bind fun q => (if q then U y else (bN a.w_ 0 (J.wrap (c - 1))).bind fun e => U (!e)).bind fun f => if ((f || ((a.n_.d_.length : Int) != 0)) || (a.x_ != 0)) then U n else (co a.r_ p2 p1).bind fun g => U (!g)
noncomputable def bG (p0 : List Int) (p1 : Int) : Nat → Int → Option (Int)
  | 0, _ => N
  | k1 + 1, a =>
    if decide (a < (p0.length : Int)) then (idx p0 a).bind fun c => if (p1 == c) then U a else (bG p0 p1 k1) (J.wrap (a + 1)) else U (-1)
noncomputable def db (p0 : List Int) (p1 : Int) : Option (Int) :=
  bG p0 p1 be 0
noncomputable def dJ (p0 : List Int) (p1 : Int) : Option (Bool) :=
  (db p0 p1).bind fun a => U (decide (a ≥ 0))
noncomputable def dO (p1 : ah) (p0 : ab) : Nat → Int → Option (Bool)
  | 0, _ => N
  | k1 + 1, a =>
    if decide (a < (p1.a_.length : Int)) then (idx p1.a_ a).bind fun c => (ng p0 p1 a).bind fun e => if (!e) then U n else if (a == 0) then if (((c.p_ != (-1)) || (c.m_ != 0)) || (c.s_ != 0)) then U n else (dO p1 p0 k1) (J.wrap (a + 1)) else (bN c.p_ 0 (J.wrap (a - 1))).bind fun f => if (!f) then U n else (idx p1.a_ c.p_).bind fun d => (if d.q_ then U y else (dJ d.r_ a).bind fun g => U (!g)).bind fun h => if ((h || (d.m_ != (J.wrap (c.m_ - 1)))) || (decide (d.s_ > c.s_))) then U n else (dO p1 p0 k1) (J.wrap (a + 1)) else U y
noncomputable def lV (p0 : ab) (p1 : ah) : Option (Bool) :=
  (fy p0).bind fun a => (if (!a) then U y else (bN (p1.a_.length : Int) 1 31).bind fun c => U (!c)).bind fun d => (if d then U y else (bN p1.k_ 0 99999).bind fun e => U (!e)).bind fun f => if f then U n else dO p1 p0 be 0
noncomputable def lU (p0 : Int) : Option (List UInt8) :=
  (yz p0).bind fun a => U a
noncomputable def np (p0b : List Int) (p0 : ao) (p1 : ab) : Option (aY × ao) :=
  (jZ p0b p0 p1).bind fun a => (cP p0b a.2 12).bind fun c => if (c.1 == 0) then (bP p0b c.2 ([(-1), (-2), 3, 2, 9223372036854775807] : List Int)).bind fun d => U ((aY.mk a.1.o_ d.1), d.2) else if (c.1 == 1) then (app a.1.o_ ([0] : List Int)).bind fun f => U ((aY.mk f a.1.v_), c.2) else if (c.1 == 2) then if decide ((a.1.o_.length : Int) > 0) then (bP p0b c.2 ([(-2), 4, 3, (-1)] : List Int)).bind fun e => (idx a.1.o_ 0).bind fun _ => U ((aY.mk (a.1.o_.set (0 : Int).toNat e.1) a.1.v_), e.2) else U (a.1, c.2) else U (a.1, c.2)
noncomputable def kh (p0 : List Int) : Option (ab × ah × aY) :=
  (ox p0).bind fun d => (mu p0 d).bind fun a => (mE p0 a.2 a.1).bind fun c => (np p0 c.2 a.1).bind fun e => U (a.1, c.1, e.1)
noncomputable def nc (p0 : aT) : Option (Bool) :=
  U p0.q_
noncomputable def bz (p0 : ah) : Nat → Int → (List Int) → Option (List Int)
  | 0, _, _ => N
  | k1 + 1, a, c =>
    if decide (a < (p0.a_.length : Int)) then (idx p0.a_ a).bind fun d => (nc d).bind fun e => if e then (app c ([a] : List Int)).bind fun f => (bz p0 k1) (J.wrap (a + 1)) f else (bz p0 k1) (J.wrap (a + 1)) c else U c
noncomputable def fi (p0 : ah) : Option (List Int) :=
  bz p0 be 0 ([] : List Int)
noncomputable def lQ (p0 : ah) : Option (List Int) :=
  (fi p0).bind fun a => U a
noncomputable def gC (p0 : bc) : Option (Int) :=
  (ky p0).bind fun a => if (!a) then U 0 else (el p0).bind fun c => (shl J 1 c).bind fun d => U (bi .or J (J.wrap (d - 1)) 16)
noncomputable def km (p0 : ab) (p1 : aq) (p2 : Int) : Option (Int) :=
  (lK p0 p1).bind fun a => (if (!a) then U y else (idx p0.b_ p1.j_).bind fun c => (el c).bind fun d => (bN p2 0 (J.wrap (d - 1))).bind fun e => U (!e)).bind fun f => if f then U (-1) else if (p1.c_ == (-1)) then U p2 else (if (p2 == p1.c_) then U y else (idx p0.b_ p1.j_).bind fun g => U ((decide ((g.u_.length : Int) > 0)) && (decide (p2 < p1.c_)))).bind fun h => if h then U 0 else U 1
noncomputable def cX (d : Int) (p0 : ab) (p1 : aT) (p2 : Int) : Nat → Int → Int → Option (Int)
  | 0, _, _ => N
  | k1 + 1, a, c =>
    if decide (a < d) then (km p0 p1.g_ a).bind fun e => if (e == p2) then (shl J 1 a).bind fun f => (cX d p0 p1 p2 k1) (J.wrap (a + 1)) (bi .or J c f) else (cX d p0 p1 p2 k1) (J.wrap (a + 1)) c else if (p1.w_ == p2) then U (bi .or J c 16) else U c
noncomputable def ki (p0 : ab) (p1 : aT) (p2 : Int) : Option (Int) :=
  (idx p0.b_ p1.g_.j_).bind fun a => (el a).bind fun c => cX c p0 p1 p2 be 0 0
noncomputable def gN (p1 : ah) (p0 : ab) (f : List bf) (e : Int) (R1 : Int → (List bf) → Option (List bf)) (g : Int) : Nat → Int → (List Int) → Option (List bf)
  | 0, _, _ => N
  | k3 + 1, c, d =>
    if decide (c > 0) then (idx p1.a_ c).bind fun h => (idx p1.a_ h.p_).bind fun a => (idx d a.g_.j_).bind fun i => (db a.r_ c).bind fun j => (ki p0 a j).bind fun k => (idx d a.g_.j_).bind fun _ => (idx p1.a_ c).bind fun l => (gN p1 p0 f e R1 g k3) l.p_ (d.set a.g_.j_.toNat (bi .and J i k)) else (app f [(bf.mk e d)]).bind fun m => R1 (J.wrap (g + 1)) m
noncomputable def ef (p0 : ab) (p1 : ah) (e : List bf) (a : Int) (R1 : Int → (List bf) → Option (List bf)) (f : Int) : Nat → Int → (List Int) → Option (List bf)
  | 0, _, _ => N
  | k2 + 1, c, d =>
    if decide (c < (p0.b_.length : Int)) then (idx p0.b_ c).bind fun g => (gC g).bind fun h => (app d ([h] : List Int)).bind fun i => (ef p0 p1 e a R1 f k2) (J.wrap (c + 1)) i else gN p1 p0 e a R1 f be a d
noncomputable def cF (c : List Int) (p0 : ab) (p1 : ah) : Nat → Int → (List bf) → Option (List bf)
  | 0, _, _ => N
  | k1 + 1, a, d =>
    if decide (a < (c.length : Int)) then (idx c a).bind fun e => ef p0 p1 d e (cF c p0 p1 k1) a be 0 ([] : List Int) else U d
noncomputable def kx (p0 : ab) (p1 : ah) : Option (List bf) :=
  (lV p0 p1).bind fun a => if (!a) then U ([] : List bf) else (lQ p1).bind fun c => cF c p0 p1 be 0 ([] : List bf)
noncomputable def ix (p1 : bf) (p0 : ab) : Nat → Int → Option (Bool)
  | 0, _ => N
  | k1 + 1, a =>
    if decide (a < (p1.y_.length : Int)) then (idx p1.y_ a).bind fun c => (idx p0.b_ a).bind fun d => (gC d).bind fun e => if ((bi .andNot J c e) != 0) then U n else (ix p1 p0 k1) (J.wrap (a + 1)) else U y
noncomputable def kb (p0 : ab) (p1 : bf) : Option (Bool) :=
  (fy p0).bind fun a => (if (!a) then U y else (bN p1.q_ 0 30).bind fun c => U (!c)).bind fun d => if (d || ((p1.y_.length : Int) != (p0.b_.length : Int))) then U n else ix p1 p0 be 0
noncomputable def kH (p0 : Int) : Option (Int) :=
  U (bi .and J (J.wrap (IntKind.u64.wrap ((IntKind.u64.wrap ((IntKind.u64.wrap ((bi .and .u64 (IntKind.u64.wrap ((eA .u64 (IntKind.u64.wrap ((bi .and .u64 (eA .u64 (IntKind.u64.wrap ((bi .and .u64 (eA .u64 p0 1) 6148914691236517205) + (bi .and .u64 p0 6148914691236517205))) 2) 3689348814741910323) + (bi .and .u64 (IntKind.u64.wrap ((bi .and .u64 (eA .u64 p0 1) 6148914691236517205) + (bi .and .u64 p0 6148914691236517205))) 3689348814741910323))) 4) + (IntKind.u64.wrap ((bi .and .u64 (eA .u64 (IntKind.u64.wrap ((bi .and .u64 (eA .u64 p0 1) 6148914691236517205) + (bi .and .u64 p0 6148914691236517205))) 2) 3689348814741910323) + (bi .and .u64 (IntKind.u64.wrap ((bi .and .u64 (eA .u64 p0 1) 6148914691236517205) + (bi .and .u64 p0 6148914691236517205))) 3689348814741910323))))) 1085102592571150095) + (eA .u64 (bi .and .u64 (IntKind.u64.wrap ((eA .u64 (IntKind.u64.wrap ((bi .and .u64 (eA .u64 (IntKind.u64.wrap ((bi .and .u64 (eA .u64 p0 1) 6148914691236517205) + (bi .and .u64 p0 6148914691236517205))) 2) 3689348814741910323) + (bi .and .u64 (IntKind.u64.wrap ((bi .and .u64 (eA .u64 p0 1) 6148914691236517205) + (bi .and .u64 p0 6148914691236517205))) 3689348814741910323))) 4) + (IntKind.u64.wrap ((bi .and .u64 (eA .u64 (IntKind.u64.wrap ((bi .and .u64 (eA .u64 p0 1) 6148914691236517205) + (bi .and .u64 p0 6148914691236517205))) 2) 3689348814741910323) + (bi .and .u64 (IntKind.u64.wrap ((bi .and .u64 (eA .u64 p0 1) 6148914691236517205) + (bi .and .u64 p0 6148914691236517205))) 3689348814741910323))))) 1085102592571150095) 8))) + (eA .u64 (IntKind.u64.wrap ((bi .and .u64 (IntKind.u64.wrap ((eA .u64 (IntKind.u64.wrap ((bi .and .u64 (eA .u64 (IntKind.u64.wrap ((bi .and .u64 (eA .u64 p0 1) 6148914691236517205) + (bi .and .u64 p0 6148914691236517205))) 2) 3689348814741910323) + (bi .and .u64 (IntKind.u64.wrap ((bi .and .u64 (eA .u64 p0 1) 6148914691236517205) + (bi .and .u64 p0 6148914691236517205))) 3689348814741910323))) 4) + (IntKind.u64.wrap ((bi .and .u64 (eA .u64 (IntKind.u64.wrap ((bi .and .u64 (eA .u64 p0 1) 6148914691236517205) + (bi .and .u64 p0 6148914691236517205))) 2) 3689348814741910323) + (bi .and .u64 (IntKind.u64.wrap ((bi .and .u64 (eA .u64 p0 1) 6148914691236517205) + (bi .and .u64 p0 6148914691236517205))) 3689348814741910323))))) 1085102592571150095) + (eA .u64 (bi .and .u64 (IntKind.u64.wrap ((eA .u64 (IntKind.u64.wrap ((bi .and .u64 (eA .u64 (IntKind.u64.wrap ((bi .and .u64 (eA .u64 p0 1) 6148914691236517205) + (bi .and .u64 p0 6148914691236517205))) 2) 3689348814741910323) + (bi .and .u64 (IntKind.u64.wrap ((bi .and .u64 (eA .u64 p0 1) 6148914691236517205) + (bi .and .u64 p0 6148914691236517205))) 3689348814741910323))) 4) + (IntKind.u64.wrap ((bi .and .u64 (eA .u64 (IntKind.u64.wrap ((bi .and .u64 (eA .u64 p0 1) 6148914691236517205) + (bi .and .u64 p0 6148914691236517205))) 2) 3689348814741910323) + (bi .and .u64 (IntKind.u64.wrap ((bi .and .u64 (eA .u64 p0 1) 6148914691236517205) + (bi .and .u64 p0 6148914691236517205))) 3689348814741910323))))) 1085102592571150095) 8))) 16))) + (eA .u64 (IntKind.u64.wrap ((IntKind.u64.wrap ((bi .and .u64 (IntKind.u64.wrap ((eA .u64 (IntKind.u64.wrap ((bi .and .u64 (eA .u64 (IntKind.u64.wrap ((bi .and .u64 (eA .u64 p0 1) 6148914691236517205) + (bi .and .u64 p0 6148914691236517205))) 2) 3689348814741910323) + (bi .and .u64 (IntKind.u64.wrap ((bi .and .u64 (eA .u64 p0 1) 6148914691236517205) + (bi .and .u64 p0 6148914691236517205))) 3689348814741910323))) 4) + (IntKind.u64.wrap ((bi .and .u64 (eA .u64 (IntKind.u64.wrap ((bi .and .u64 (eA .u64 p0 1) 6148914691236517205) + (bi .and .u64 p0 6148914691236517205))) 2) 3689348814741910323) + (bi .and .u64 (IntKind.u64.wrap ((bi .and .u64 (eA .u64 p0 1) 6148914691236517205) + (bi .and .u64 p0 6148914691236517205))) 3689348814741910323))))) 1085102592571150095) + (eA .u64 (bi .and .u64 (IntKind.u64.wrap ((eA .u64 (IntKind.u64.wrap ((bi .and .u64 (eA .u64 (IntKind.u64.wrap ((bi .and .u64 (eA .u64 p0 1) 6148914691236517205) + (bi .and .u64 p0 6148914691236517205))) 2) 3689348814741910323) + (bi .and .u64 (IntKind.u64.wrap ((bi .and .u64 (eA .u64 p0 1) 6148914691236517205) + (bi .and .u64 p0 6148914691236517205))) 3689348814741910323))) 4) + (IntKind.u64.wrap ((bi .and .u64 (eA .u64 (IntKind.u64.wrap ((bi .and .u64 (eA .u64 p0 1) 6148914691236517205) + (bi .and .u64 p0 6148914691236517205))) 2) 3689348814741910323) + (bi .and .u64 (IntKind.u64.wrap ((bi .and .u64 (eA .u64 p0 1) 6148914691236517205) + (bi .and .u64 p0 6148914691236517205))) 3689348814741910323))))) 1085102592571150095) 8))) + (eA .u64 (IntKind.u64.wrap ((bi .and .u64 (IntKind.u64.wrap ((eA .u64 (IntKind.u64.wrap ((bi .and .u64 (eA .u64 (IntKind.u64.wrap ((bi .and .u64 (eA .u64 p0 1) 6148914691236517205) + (bi .and .u64 p0 6148914691236517205))) 2) 3689348814741910323) + (bi .and .u64 (IntKind.u64.wrap ((bi .and .u64 (eA .u64 p0 1) 6148914691236517205) + (bi .and .u64 p0 6148914691236517205))) 3689348814741910323))) 4) + (IntKind.u64.wrap ((bi .and .u64 (eA .u64 (IntKind.u64.wrap ((bi .and .u64 (eA .u64 p0 1) 6148914691236517205) + (bi .and .u64 p0 6148914691236517205))) 2) 3689348814741910323) + (bi .and .u64 (IntKind.u64.wrap ((bi .and .u64 (eA .u64 p0 1) 6148914691236517205) + (bi .and .u64 p0 6148914691236517205))) 3689348814741910323))))) 1085102592571150095) + (eA .u64 (bi .and .u64 (IntKind.u64.wrap ((eA .u64 (IntKind.u64.wrap ((bi .and .u64 (eA .u64 (IntKind.u64.wrap ((bi .and .u64 (eA .u64 p0 1) 6148914691236517205) + (bi .and .u64 p0 6148914691236517205))) 2) 3689348814741910323) + (bi .and .u64 (IntKind.u64.wrap ((bi .and .u64 (eA .u64 p0 1) 6148914691236517205) + (bi .and .u64 p0 6148914691236517205))) 3689348814741910323))) 4) + (IntKind.u64.wrap ((bi .and .u64 (eA .u64 (IntKind.u64.wrap ((bi .and .u64 (eA .u64 p0 1) 6148914691236517205) + (bi .and .u64 p0 6148914691236517205))) 2) 3689348814741910323) + (bi .and .u64 (IntKind.u64.wrap ((bi .and .u64 (eA .u64 p0 1) 6148914691236517205) + (bi .and .u64 p0 6148914691236517205))) 3689348814741910323))))) 1085102592571150095) 8))) 16))) 32)))) 127)
noncomputable def fE (p0 : Int) : Option (Int) :=
  (kH p0).bind fun a => U a
noncomputable def gf (p1 : bf) : Nat → Int → Int → Option (Int)
  | 0, _, _ => N
  | k1 + 1, a, c =>
    if decide (a < (p1.y_.length : Int)) then (idx p1.y_ a).bind fun d => (fE (IntKind.u64.wrap d)).bind fun e => (gf p1 k1) (J.wrap (a + 1)) (J.wrap (c * e)) else U c
noncomputable def mi (p0 : ab) (p1 : bf) : Option (Int) :=
  (kb p0 p1).bind fun a => if (!a) then U 0 else gf p1 be 0 1
noncomputable def ll (p0 : bc) (p1 : Int) : Option (List UInt8) :=
  (ky p0).bind fun a => (if (!a) then U y else (el p0).bind fun c => (bN p1 (-1) (J.wrap (c - 1))).bind fun d => U (!d)).bind fun e => if e then U ([] : List UInt8) else if (p1 == (-1)) then U ([63] : List UInt8) else if decide ((p0.A_.length : Int) > 0) then (idx p0.A_ p1).bind fun f => U f else if decide (p1 < (p0.u_.length : Int)) then (idx p0.u_ p1).bind fun g => (lU g).bind fun h => U h else (idx p0.u_ (J.wrap (p1 - 1))).bind fun i => (lU (J.wrap (i + 1))).bind fun j => U j
noncomputable def ie (a : bc) (c : List (List UInt8)) (R1 : Int → (List (List UInt8)) → Option (List UInt8)) (d : Int) (e : List (List UInt8)) : Option (List UInt8) :=
  (qP a.B_ ([123] : List UInt8)).bind fun f => (vG e ([44] : List UInt8)).bind fun g => (qP f g).bind fun h => (qP h ([125] : List UInt8)).bind fun i => (app c ([i] : List (List UInt8))).bind fun j => R1 (J.wrap (d + 1)) j
noncomputable def ec (h : Int) (d : Int) (a : bc) (e : List (List UInt8)) (R1 : Int → (List (List UInt8)) → Option (List UInt8)) (f : Int) : Nat → Int → (List (List UInt8)) → Option (List UInt8)
  | 0, _, _ => N
  | k2 + 1, c, g =>
    if decide (c < h) then (shr J d c).bind fun i => if ((bi .and J i 1) == 1) then (ll a c).bind fun j => (app g ([j] : List (List UInt8))).bind fun k => (ec h d a e R1 f k2) (J.wrap (c + 1)) k else (ec h d a e R1 f k2) (J.wrap (c + 1)) g else if ((bi .and J d 16) != 0) then (app g ([([63] : List UInt8)] : List (List UInt8))).bind fun l => ie a e R1 f l else ie a e R1 f g
noncomputable def cZ (p1 : bf) (p0 : ab) : Nat → Int → (List (List UInt8)) → Option (List UInt8)
  | 0, _, _ => N
  | k1 + 1, a, c =>
    if decide (a < (p1.y_.length : Int)) then (idx p1.y_ a).bind fun e => (idx p0.b_ a).bind fun d => (gC d).bind fun f => if (e == f) then (cZ p1 p0 k1) (J.wrap (a + 1)) c else (el d).bind fun g => ec g e d c (cZ p1 p0 k1) a be 0 ([] : List (List UInt8)) else if ((c.length : Int) == 0) then U ([97, 110, 121] : List UInt8) else (vG c ([38] : List UInt8)).bind fun h => U h
noncomputable def kM (p0 : ab) (p1 : bf) : Option (List UInt8) :=
  (kb p0 p1).bind fun a => if (!a) then U ([] : List UInt8) else cZ p1 p0 be 0 ([] : List (List UInt8))
noncomputable def jm (p1 : aY) (p0 : ab) : Nat → Int → Option (Bool)
  | 0, _ => N
  | k1 + 1, a =>
    if decide (a < (p1.o_.length : Int)) then (idx p1.o_ a).bind fun e => (idx p0.b_ a).bind fun f => (el f).bind fun c => (bN e (-1) (J.wrap (c - 1))).bind fun d => if (!d) then U n else (jm p1 p0 k1) (J.wrap (a + 1)) else U y
noncomputable def mJ (p0 : ab) (p1 : aY) : Option (Bool) :=
  (fy p0).bind fun a => (if ((!a) || ((p1.o_.length : Int) != (p0.b_.length : Int))) then U y else (bN p1.v_ (-1) (J.wrap ((p0.l_.length : Int) - 1))).bind fun c => U (!c)).bind fun d => if d then U n else jm p1 p0 be 0
noncomputable def iH (p1 : bf) (a : Int) (R1 : Int → Option (Bool)) (c : Int) : Option (Bool) :=
  (idx p1.y_ a).bind fun d => if ((bi .and J d c) == 0) then U n else R1 (J.wrap (a + 1))
noncomputable def dP (p2 : aY) (p1 : bf) : Nat → Int → Option (Bool)
  | 0, _ => N
  | k1 + 1, a =>
    if decide (a < (p2.o_.length : Int)) then (idx p2.o_ a).bind fun c => if decide (c ≥ 0) then (shl J 1 c).bind fun d => iH p1 a (dP p2 p1 k1) d else iH p1 a (dP p2 p1 k1) 16 else U y
noncomputable def iy (p0 : ab) (p1 : bf) (p2 : aY) : Option (Bool) :=
  (kb p0 p1).bind fun a => (if (!a) then U y else (mJ p0 p2).bind fun c => U (!c)).bind fun d => if d then U n else dP p2 p1 be 0
noncomputable def gb (p0 : ab) : Nat → Int → Int → Option (Int)
  | 0, _, _ => N
  | k1 + 1, c, a =>
    if decide (a < (p0.b_.length : Int)) then (idx p0.b_ a).bind fun d => (dV d).bind fun e => (gb p0 k1) (J.wrap (c * (J.wrap (e + 1)))) (J.wrap (a + 1)) else U c
noncomputable def mw (p0 : ab) : Option (Int) :=
  (eS p0).bind fun a => if (!a) then U 0 else gb p0 be 1 0
noncomputable def ei (p0 : ab) : Nat → Int → Int → Option (Int)
  | 0, _, _ => N
  | k1 + 1, a, c =>
    if decide (a < (p0.b_.length : Int)) then (idx p0.b_ a).bind fun d => (el d).bind fun e => (ei p0 k1) (J.wrap (a + 1)) (J.wrap (c * (J.wrap (e + 1)))) else U c
noncomputable def me (p0 : ab) : Option (Int) :=
  (fy p0).bind fun a => if (!a) then U 0 else ei p0 be 0 1
noncomputable def jB (a : aT) (c : List Int) (R1 : (List Int) → Option ((List Int) × Bool)) (d : Int) : Option ((List Int) × Bool) :=
  (idx a.r_ d).bind fun e => (app c ([e] : List Int)).bind fun f => R1 f
noncomputable def fo (p1 : ah) (p2 : aY) (p0 : ab) : Nat → (List Int) → Option ((List Int) × Bool)
  | 0, _ => N
  | k1 + 1, c =>
    (idx c (J.wrap ((c.length : Int) - 1))).bind fun e => (idx p1.a_ e).bind fun a => if a.q_ then U (c, n) else (idx p2.o_ a.g_.j_).bind fun d => if decide (d ≥ 0) then (km p0 a.g_ d).bind fun f => jB a c (fo p1 p2 p0 k1) f else jB a c (fo p1 p2 p0 k1) a.w_
noncomputable def oz (p0 : ab) (p1 : ah) (p2 : aY) : Option ((List Int) × Bool) :=
  fo p1 p2 p0 be ([0] : List Int)
noncomputable def oK (p0 : ab) (p1 : ah) (p2 : aY) : Option ((List Int) × Bool) :=
  (lV p0 p1).bind fun c => (if (!c) then U y else (mJ p0 p2).bind fun d => U (!d)).bind fun e => if e then U (([] : List Int), y) else (oz p0 p1 p2).bind fun a => U (a.1, a.2)
noncomputable def kX (p0 : ab) (p1 : ah) (p2 : aY) : Option (Int) :=
  (oK p0 p1 p2).bind fun a => if ((a.1.length : Int) == 0) then U (-1) else (idx a.1 (J.wrap ((a.1.length : Int) - 1))).bind fun c => U c
noncomputable def dL (e : List bf) (a : ab × ah × aY) : Nat → Int → (List bf) → Int → Int → Int → Option (Bool)
  | 0, _, _, _, _, _ => N
  | k1 + 1, d, h, f, g, j =>
    if decide (d < (e.length : Int)) then (idx h d).bind fun c => (mi a.1 c).bind fun i => (kb a.1 c).bind fun k => (if (!k) then U y else (kM a.1 c).bind fun l => U (l == ([] : List UInt8))).bind fun m => if m then U n else (iy a.1 c a.2.2).bind fun o => if o then (dL e a k1) (J.wrap (d + 1)) (h.set d.toNat c) (J.wrap (f + i)) (J.wrap (g + 1)) c.q_ else (dL e a k1) (J.wrap (d + 1)) (h.set d.toNat c) (J.wrap (f + i)) g j else (mw a.1).bind fun p => (if (f != p) then U y else (lQ a.2.1).bind fun q => U ((e.length : Int) != (q.length : Int))).bind fun r => (if r then U y else (me a.1).bind fun s => U (s != f)).bind fun t => if t then U n else (kY a.1 a.2.2).bind fun u => if (!u) then U (g == 0) else (if (g == 1) then (kX a.1 a.2.1 a.2.2).bind fun v => U (j == v) else U n).bind fun w => U w
noncomputable def oy (p0 : List Int) : Option (Bool) :=
  (ry p0).bind fun d => if d then U y else (kh p0).bind fun a => (kx a.1 a.2.1).bind fun c => (gV a.1 a.2.1).bind fun e => if (!e) then U ((c.length : Int) == 0) else dL c a be 0 c 0 0 (-1)
end Go.Vk
