/- The functions of the code, as functions of data. Printed by program. -/
import Derived.Test.YtdckhcfbccnjiaaGreatVkQ
namespace Go.Vk
open Value renaming int → I, slice → S, pointer → O, bool → B
open IntKind renaming i64 → J, u8 → K
open Bool renaming true → y, false → n
open Option renaming some → U, none → N
theorem z {α : Sort _} {a : α} : a = a := Eq.refl a
theorem Y : True := True.intro
structure ak where
  i_ : Int
  h_ : Int
  deriving DecidableEq, Inhabited
structure bz where
  D_ : List UInt8
  A_ : List Int
  E_ : List (List UInt8)
  deriving DecidableEq, Inhabited
structure ae where
  f_ : List bz
  n_ : List (List UInt8)
  deriving DecidableEq, Inhabited
structure cq where
  J_ : Int
  I_ : Int
  K_ : Int
  l_ : Int
  a_ : Int
  F_ : Int
  G_ : Bool
  deriving DecidableEq, Inhabited
structure ar where
  d_ : List Int
  b_ : List (List Int)
  deriving DecidableEq, Inhabited
structure au where
  j_ : Int
  c_ : Int
  deriving DecidableEq, Inhabited
structure aG where
  s_ : Bool
  k_ : au
  t_ : List Int
  x_ : Int
  m_ : ar
  v_ : Int
  f_ : List Int
  l_ : Int
  p_ : Int
  q_ : Int
  deriving DecidableEq, Inhabited
structure ai where
  a_ : List aG
  g_ : Int
  deriving DecidableEq, Inhabited
structure bB where
  w_ : List Int
  y_ : Int
  deriving DecidableEq, Inhabited
structure bf where
  r_ : List Int
  c_ : Int
  deriving DecidableEq, Inhabited
structure aZ where
  u_ : Int
  B_ : Int
  deriving DecidableEq, Inhabited
structure bv where
  k_ : au
  z_ : aZ
  deriving DecidableEq, Inhabited
structure aE where
  o_ : List (List Int)
  deriving DecidableEq, Inhabited
structure bM where
  H_ : List Int
  C_ : Bool
  deriving DecidableEq, Inhabited
structure aF where
  e_ : Int
  C_ : Bool
  deriving DecidableEq, Inhabited
noncomputable def sh (p0 : List Int) : Option (Bool) :=
  U (decide ((p0.length : Int) > 1048576))
noncomputable def iH (p0 : List Int) : Nat → Int → Int → Option (ak)
  | 0, _, _ => N
  | k1 + 1, c, a =>
    if ((decide (a < (p0.length : Int))) && (decide (a < 4000))) then (idx p0 a).bind fun d => (iH p0 k1) (el .and J (J.wrap ((J.wrap ((J.wrap (c * 131)) + (J.wrap d))) + 7)) 1073741823) (J.wrap (a + 1)) else U (ak.mk 0 c)
noncomputable def mV (p0 : List Int) : Option (ak) :=
  iH p0 aY (J.wrap (26583 + (p0.length : Int))) 0
noncomputable def iJ (p0b : List Int) (p0 : ak) : Option (Int × ak) :=
  if decide (p0.i_ < (p0b.length : Int)) then (idx p0b p0.i_).bind fun a => U (el .and J (J.wrap ((el .and J (el .xor J (rt J (J.wrap ((J.wrap (p0.h_ * 6364136223846793005)) + 1442695040888963407)) 33) (rt J (J.wrap ((J.wrap (p0.h_ * 6364136223846793005)) + 1442695040888963407)) 45)) 255) + (J.wrap a))) 255, (ak.mk (J.wrap (p0.i_ + 1)) (J.wrap ((J.wrap (p0.h_ * 6364136223846793005)) + 1442695040888963407)))) else U (el .and J (el .xor J (rt J (J.wrap ((J.wrap (p0.h_ * 6364136223846793005)) + 1442695040888963407)) 33) (rt J (J.wrap ((J.wrap (p0.h_ * 6364136223846793005)) + 1442695040888963407)) 45)) 255, (ak.mk p0.i_ (J.wrap ((J.wrap (p0.h_ * 6364136223846793005)) + 1442695040888963407))))
noncomputable def cj (p0b : List Int) (p0 : ak) (p1 : Int) : Option (Int × ak) :=
  if decide (p1 ≤ 0) then U (0, p0) else if decide (p1 ≤ 256) then (iJ p0b p0).bind fun a => (rem a.1 p1).bind fun g => U (g, a.2) else (iJ p0b p0).bind fun c => (iJ p0b c.2).bind fun d => (iJ p0b d.2).bind fun e => (iJ p0b e.2).bind fun f => (rem (J.wrap ((J.wrap ((J.wrap ((J.wrap (c.1 * 16777216)) + (J.wrap (d.1 * 65536)))) + (J.wrap (e.1 * 256)))) + f.1)) p1).bind fun h => U (h, f.2)
noncomputable def dS (p0b : List Int) (p0 : ak) (p1 : Int) : Option (Bool × ak) :=
  (cj p0b p0 p1).bind fun a => U ((a.1 == 0), a.2)
noncomputable def bA (p0b : List Int) (p0 : ak) (p1 : List Int) : Option (Int × ak) :=
  (cj p0b p0 (p1.length : Int)).bind fun a => (idx p1 a.1).bind fun c => U (c, a.2)
noncomputable def dj (c : Int × ak) (p0b : List Int) (d : List UInt8) : Nat → Int → Int → (List Int) → Int → Int → Option (bz × ak)
  | 0, _, _, _, _, _ => N
  | k1 + 1, e, f, g, h, i =>
    if decide (i < (J.wrap (1 + c.1))) then (app g ([h] : List Int)).bind fun j => (cj p0b (ak.mk e f) 6).bind fun a => (dj c p0b d k1) a.2.i_ a.2.h_ j (J.wrap ((J.wrap (h + 1)) + a.1)) (J.wrap (i + 1)) else U ((bz.mk d g ([] : List (List UInt8))), (ak.mk e f))
noncomputable def dh (c : Int × ak) (e : List UInt8) : Nat → Int → (List (List UInt8)) → Option (bz × ak)
  | 0, _, _ => N
  | k2 + 1, a, d =>
    if decide (a < (J.wrap (2 + c.1))) then (idx ([([114, 101, 100] : List UInt8), ([98, 108, 117, 101] : List UInt8), ([120] : List UInt8), ([103, 114, 101, 101, 110] : List UInt8)] : List (List UInt8)) a).bind fun f => (app d ([f] : List (List UInt8))).bind fun g => (dh c e k2) (J.wrap (a + 1)) g else U ((bz.mk e ([] : List Int) d), c.2)
noncomputable def jR (p0b : List Int) (p0 : ak) (p1 : Int) : Option (bz × ak) :=
  (idx ([([97, 103, 101] : List UInt8), ([115, 105, 122, 101] : List UInt8), ([99, 111, 108, 111, 117, 114] : List UInt8), ([107] : List UInt8), ([108, 111, 110, 103, 110, 97, 109, 101] : List UInt8)] : List (List UInt8)) (Int.tmod p1 5)).bind fun d => (dS p0b p0 2).bind fun a => if a.1 then (cj p0b a.2 3).bind fun e => (bA p0b e.2 ([(-9999), (-7), 0, 3, 20] : List Int)).bind fun c => dj e p0b d aY c.2.i_ c.2.h_ ([] : List Int) c.1 0 else (cj p0b a.2 3).bind fun f => dh f d aY 0 ([] : List (List UInt8))
noncomputable def eK (d : Int × ak) (p0b : List Int) (e : List (List UInt8)) : Nat → Int → Int → (List bz) → Int → Option (ae × ak)
  | 0, _, _, _, _ => N
  | k1 + 1, f, g, h, c =>
    if decide (c < (J.wrap (1 + d.1))) then (jR p0b (ak.mk f g) c).bind fun a => (app h [a.1]).bind fun i => (eK d p0b e k1) a.2.i_ a.2.h_ i (J.wrap (c + 1)) else U ((ae.mk h e), (ak.mk f g))
noncomputable def ji (p0b : List Int) (c : Int) (d : Int) (e : List (List UInt8)) : Option (ae × ak) :=
  (cj p0b (ak.mk c d) 5).bind fun a => eK a p0b e aY a.2.i_ a.2.h_ ([] : List bz) 0
noncomputable def mq (p0b : List Int) (p0 : ak) : Option (ae × ak) :=
  (dS p0b p0 3).bind fun a => if a.1 then (app ([([110, 111] : List UInt8), ([121, 101, 115] : List UInt8)] : List (List UInt8)) ([([112, 101, 114, 104, 97, 112, 115] : List UInt8)] : List (List UInt8))).bind fun c => ji p0b a.2.i_ a.2.h_ c else ji p0b a.2.i_ a.2.h_ ([([110, 111] : List UInt8), ([121, 101, 115] : List UInt8)] : List (List UInt8))
noncomputable def lv (p0b : List Int) (p0 : ak) : Option (cq × ak) :=
  (bA p0b p0 ([1, 1, 2, 3, 9] : List Int)).bind fun a => (bA p0b a.2 ([0, 50, 200, 500, 999] : List Int)).bind fun c => (bA p0b c.2 ([1, 4, 10, 25, 200] : List Int)).bind fun d => (bA p0b d.2 ([0, 1, 2, 4, 6, 6] : List Int)).bind fun e => (bA p0b e.2 ([1, 3, 7, 15, 31, 31] : List Int)).bind fun f => (bA p0b f.2 ([62, 63, 80, 100, 150, 2000] : List Int)).bind fun g => (dS p0b g.2 2).bind fun h => U ((cq.mk a.1 c.1 d.1 e.1 f.1 g.1 h.1), h.2)
noncomputable def cF (p1 : ae) (p0b : List Int) : Nat → Int → Int → (List Int) → Int → Option ((List Int) × ak)
  | 0, _, _, _, _ => N
  | k1 + 1, e, f, c, d =>
    if decide (d < (p1.f_.length : Int)) then (dS p0b (ak.mk e f) 4).bind fun a => if (!a.1) then (app c ([d] : List Int)).bind fun g => (cF p1 p0b k1) a.2.i_ a.2.h_ g (J.wrap (d + 1)) else (cF p1 p0b k1) a.2.i_ a.2.h_ c (J.wrap (d + 1)) else if ((c.length : Int) == 0) then U (([0] : List Int), (ak.mk e f)) else U (c, (ak.mk e f))
noncomputable def ii (p0b : List Int) (p0 : ak) (p1 : ae) : Option ((List Int) × ak) :=
  cF p1 p0b aY p0.i_ p0.h_ ([] : List Int) 0
noncomputable def bd (p0 : Int) (p1 : Int) (p2 : Int) : Option (Bool) :=
  U ((decide (p0 ≥ p1)) && (decide (p0 ≤ p2)))
noncomputable def jb (p0 : List UInt8) : Nat → Int → Option (Bool)
  | 0, _ => N
  | k1 + 1, a =>
    if decide (a < (p0.length : Int)) then (idx p0 a).bind fun c => (if decide ((c.toNat : Int) < 97) then U y else (idx p0 a).bind fun d => U (decide ((d.toNat : Int) > 122))).bind fun e => if e then U n else (jb p0 k1) (J.wrap (a + 1)) else U y
noncomputable def lP (p0 : List UInt8) : Option (Bool) :=
  (bd (p0.length : Int) 1 8).bind fun a => if (!a) then U n else jb p0 aY 0
noncomputable def fv (a : Int) (p0 : List (List UInt8)) (R1 : Int → Option (Bool)) : Nat → Int → Option (Bool)
  | 0, _ => N
  | k2 + 1, c =>
    if decide (c < a) then (idx p0 a).bind fun d => (idx p0 c).bind fun e => if (d == e) then U n else (fv a p0 R1 k2) (J.wrap (c + 1)) else R1 (J.wrap (a + 1))
noncomputable def dX (p0 : List (List UInt8)) : Nat → Int → Option (Bool)
  | 0, _ => N
  | k1 + 1, a =>
    if decide (a < (p0.length : Int)) then (idx p0 a).bind fun c => (lP c).bind fun d => if (!d) then U n else fv a p0 (dX p0 k1) aY 0 else U y
noncomputable def kR (p0 : List (List UInt8)) : Option (Bool) :=
  dX p0 aY 0
noncomputable def gU (p0 : bz) : Nat → Int → Option (Bool)
  | 0, _ => N
  | k1 + 1, a =>
    if decide (a < (p0.A_.length : Int)) then (idx p0.A_ a).bind fun c => (bd c (-9999) 9998).bind fun d => (if (!d) then U y else (if decide (a > 0) then (idx p0.A_ a).bind fun e => (idx p0.A_ (J.wrap (a - 1))).bind fun f => U (decide (e ≤ f)) else U n).bind fun g => U g).bind fun h => if h then U n else (gU p0 k1) (J.wrap (a + 1)) else U y
noncomputable def lO (p0 : bz) : Option (Bool) :=
  (lP p0.D_).bind fun a => if (!a) then U n else if ((p0.A_.length : Int) == 0) then (bd (p0.E_.length : Int) 2 4).bind fun c => (if c then (kR p0.E_).bind fun d => U d else U n).bind fun e => U e else if ((decide ((p0.E_.length : Int) > 0)) || (decide ((p0.A_.length : Int) > 3))) then U n else gU p0 aY 0
noncomputable def eV (a : Int) (p0 : ae) (R1 : Int → Option (Bool)) : Nat → Int → Option (Bool)
  | 0, _ => N
  | k2 + 1, c =>
    if decide (c < a) then (idx p0.f_ a).bind fun d => (idx p0.f_ c).bind fun e => if (d.D_ == e.D_) then U n else (eV a p0 R1 k2) (J.wrap (c + 1)) else R1 (J.wrap (a + 1))
noncomputable def dr (p0 : ae) : Nat → Int → Option (Bool)
  | 0, _ => N
  | k1 + 1, a =>
    if decide (a < (p0.f_.length : Int)) then (idx p0.f_ a).bind fun c => (lO c).bind fun d => if (!d) then U n else eV a p0 (dr p0 k1) aY 0 else U y
noncomputable def fT (p0 : ae) : Option (Bool) :=
  (bd (p0.f_.length : Int) 1 5).bind fun a => (if (!a) then U y else (bd (p0.n_.length : Int) 2 3).bind fun c => U (!c)).bind fun d => (if d then U y else (kR p0.n_).bind fun e => U (!e)).bind fun f => if f then U n else dr p0 aY 0
noncomputable def im (p1 : List Int) (p0 : ae) : Nat → Int → Option (Bool)
  | 0, _ => N
  | k1 + 1, a =>
    if decide (a < (p1.length : Int)) then (idx p1 a).bind fun c => (bd c 0 (J.wrap ((p0.f_.length : Int) - 1))).bind fun d => (if (!d) then U y else (if decide (a > 0) then (idx p1 a).bind fun e => (idx p1 (J.wrap (a - 1))).bind fun f => U (decide (e ≤ f)) else U n).bind fun g => U g).bind fun h => if h then U n else (im p1 p0 k1) (J.wrap (a + 1)) else U y
noncomputable def gO (p0 : ae) (p1 : List Int) : Option (Bool) :=
  (fT p0).bind fun a => if ((!a) || ((p1.length : Int) == 0)) then U n else im p1 p0 aY 0
noncomputable def gj (p0 : bz) : Option (Int) :=
  (lO p0).bind fun a => if (!a) then U 0 else if decide ((p0.A_.length : Int) > 0) then U (J.wrap ((p0.A_.length : Int) + 1)) else U (p0.E_.length : Int)
noncomputable def fL (p0 : ae) (c : List Int) : Nat → (List (List Int)) → Int → Option (ar)
  | 0, _, _ => N
  | k1 + 1, d, a =>
    if decide (a < (p0.f_.length : Int)) then (idx p0.f_ a).bind fun e => (gj e).bind fun f => (mk (0 : Int) (J.wrap (f * (p0.n_.length : Int)))).bind fun g => (app d [g]).bind fun h => (fL p0 c k1) h (J.wrap (a + 1)) else U (ar.mk c d)
noncomputable def gK (p0 : ae) : Option (ar) :=
  (fT p0).bind fun a => if (!a) then U (ar.mk ([] : List Int) ([] : List (List Int))) else (mk (0 : Int) (p0.n_.length : Int)).bind fun c => fL p0 c aY ([] : List (List Int)) 0
noncomputable def mn (p0 : ae) (p1 : List Int) : Option (ai) :=
  (gO p0 p1).bind fun a => if (!a) then U (ai.mk ([] : List aG) 0) else (gK p0).bind fun c => (app ([] : List Int) p1).bind fun d => U (ai.mk [(aG.mk y (au.mk 0 0) ([] : List Int) 0 c 0 d 0 (-1) 0)] 0)
noncomputable def jk (f : List Int) (R1 : Int → Int → (List Int) → Int → Option (bB × ak)) (g : Int) (a : Int) (c : Int) (d : Int) : Option (bB × ak) :=
  (app f ([d] : List Int)).bind fun e => R1 a c e (J.wrap (g + 1))
noncomputable def dn (p1 : ae) (p0b : List Int) : Nat → Int → Int → (List Int) → Int → Option (bB × ak)
  | 0, _, _, _, _ => N
  | k1 + 1, i, j, d, g =>
    if decide (g < (p1.f_.length : Int)) then (idx p1.f_ g).bind fun k => (gj k).bind fun l => (cj p0b (ak.mk i j) l).bind fun h => (dS p0b h.2 9).bind fun a => if a.1 then jk d (dn p1 p0b k1) g a.2.i_ a.2.h_ (-1) else jk d (dn p1 p0b k1) g a.2.i_ a.2.h_ h.1 else (cj p0b (ak.mk i j) (p1.n_.length : Int)).bind fun e => (if decide ((d.length : Int) > 0) then (dS p0b e.2 5).bind fun f => U ((!f.1), f.2.i_, f.2.h_) else U (n, e.2.i_, e.2.h_)).bind fun c => if (c.1 && (decide ((p1.n_.length : Int) > 0))) then (idx d 0).bind fun m => (rem (J.wrap (m + 1)) (p1.n_.length : Int)).bind fun o => U ((bB.mk d o), (ak.mk c.2.1 c.2.2)) else U ((bB.mk d e.1), (ak.mk c.2.1 c.2.2))
noncomputable def kS (p0b : List Int) (p0 : ak) (p1 : ae) : Option (bB × ak) :=
  dn p1 p0b aY p0.i_ p0.h_ ([] : List Int) 0
noncomputable def ee (p1 : Int) (p0b : List Int) : Nat → Int → Int → (List Int) → Int → Option ((List Int) × ak)
  | 0, _, _, _, _ => N
  | k1 + 1, c, d, e, f =>
    if decide (f < p1) then (iJ p0b (ak.mk c d)).bind fun a => (app e ([K.wrap a.1] : List Int)).bind fun g => (ee p1 p0b k1) a.2.i_ a.2.h_ g (J.wrap (f + 1)) else U (e, (ak.mk c d))
noncomputable def lr (p0b : List Int) (p0 : ak) (p1 : Int) : Option ((List Int) × ak) :=
  ee p1 p0b aY p0.i_ p0.h_ ([] : List Int) 0
noncomputable def cZ (d : Int) (p1 : ar) (e : Int) (p0 : ae) (a : Int) (R3 : Int → Option (Bool)) : Nat → Int → Int → Option (Bool)
  | 0, _, _ => N
  | k4 + 1, f, c =>
    if decide (c < d) then (idx p1.b_ e).bind fun h => (idx h (J.wrap ((J.wrap (c * (p0.n_.length : Int))) + a))).bind fun g => (bd g 0 999).bind fun i => if (!i) then U n else (cZ d p1 e p0 a R3 k4) (J.wrap (f + g)) (J.wrap (c + 1)) else (idx p1.d_ a).bind fun j => if decide (f > j) then U n else R3 (J.wrap (a + 1))
noncomputable def bT (p0 : ae) (c : Int) (p1 : ar) (a : Int) (R2 : Int → Option (Bool)) : Nat → Int → Option (Bool)
  | 0, _ => N
  | k3 + 1, d =>
    if decide (d < (p0.n_.length : Int)) then cZ c p1 a p0 d (bT p0 c p1 a R2 k3) aY 0 0 else R2 (J.wrap (a + 1))
noncomputable def cB (p1 : ar) (p0 : ae) : Nat → Int → Option (Bool)
  | 0, _ => N
  | k2 + 1, a =>
    if decide (a < (p1.b_.length : Int)) then (idx p0.f_ a).bind fun d => (gj d).bind fun c => (idx p1.b_ a).bind fun e => if ((e.length : Int) != (J.wrap (c * (p0.n_.length : Int)))) then U n else bT p0 c p1 a (cB p1 p0 k2) aY 0 else U y
noncomputable def dB (p1 : ar) (p0 : ae) : Nat → Int → Int → Option (Bool)
  | 0, _, _ => N
  | k1 + 1, c, a =>
    if decide (a < (p1.d_.length : Int)) then (idx p1.d_ a).bind fun d => (bd d 0 999).bind fun e => if (!e) then U n else (idx p1.d_ a).bind fun f => (dB p1 p0 k1) (J.wrap (c + f)) (J.wrap (a + 1)) else if decide (c > 999) then U n else if ((p1.b_.length : Int) == 0) then U y else if ((p1.b_.length : Int) != (p0.f_.length : Int)) then U n else cB p1 p0 aY 0
noncomputable def fb (p0 : ae) (p1 : ar) : Option (Bool) :=
  (fT p0).bind fun a => if ((!a) || ((p1.d_.length : Int) != (p0.n_.length : Int))) then U n else dB p1 p0 aY 0 0
noncomputable def fF (p1 : ar) : Nat → Int → Int → Option (Int)
  | 0, _, _ => N
  | k1 + 1, c, a =>
    if decide (a < (p1.d_.length : Int)) then (idx p1.d_ a).bind fun d => (fF p1 k1) (J.wrap (c + d)) (J.wrap (a + 1)) else U c
noncomputable def dZ (p0 : ae) (p1 : ar) : Option (Int) :=
  (fb p0 p1).bind fun a => if (!a) then U 0 else fF p1 aY 0 0
noncomputable def kb (p0 : ae) (p1 : aG) : Option (Bool) :=
  (if (((!(p1.k_.j_ == 0 && (p1.k_.c_ == 0 && y))) || (decide ((p1.t_.length : Int) > 0))) || (p1.x_ != 0)) then U y else (fb p0 p1.m_).bind fun a => U (!a)).bind fun c => (if c then U y else (gO p0 p1.f_).bind fun d => U (!d)).bind fun e => if e then U n else if ((p1.m_.b_.length : Int) == 0) then U (p1.v_ == 0) else (dZ p0 p1.m_).bind fun f => (bd p1.v_ 0 f).bind fun g => U g
noncomputable def gm (p0 : ae) (p1 : au) : Option (Bool) :=
  (fT p0).bind fun a => (if (!a) then U y else (bd p1.j_ 0 (J.wrap ((p0.f_.length : Int) - 1))).bind fun c => U (!c)).bind fun d => if d then U n else (idx p0.f_ p1.j_).bind fun e => if decide ((e.A_.length : Int) > 0) then (idx p0.f_ p1.j_).bind fun f => (gj f).bind fun g => (bd p1.c_ (-1) (J.wrap (g - 2))).bind fun h => U h else (idx p0.f_ p1.j_).bind fun i => (gj i).bind fun j => (bd p1.c_ (-1) (J.wrap (j - 1))).bind fun k => U k
noncomputable def dO (p0 : ae) (p1 : au) : Option (Int) :=
  (gm p0 p1).bind fun a => if (!a) then U 0 else if (p1.c_ == (-1)) then (idx p0.f_ p1.j_).bind fun c => (gj c).bind fun d => U d else U 2
noncomputable def gB (c : aG) (p2 : Int) (p1 : ai) : Nat → Int → Option (Bool)
  | 0, _ => N
  | k1 + 1, a =>
    if decide (a < (c.t_.length : Int)) then (idx c.t_ a).bind fun d => (bd d (J.wrap (p2 + 1)) (J.wrap ((p1.a_.length : Int) - 1))).bind fun e => (if (!e) then U y else (idx c.t_ a).bind fun f => (idx p1.a_ f).bind fun g => U (g.p_ != p2)).bind fun h => (if h then U y else (if decide (a > 0) then (idx c.t_ a).bind fun i => (idx c.t_ (J.wrap (a - 1))).bind fun j => U (decide (i ≤ j)) else U n).bind fun k => U k).bind fun l => if l then U n else (gB c p2 p1 k1) (J.wrap (a + 1)) else U y
noncomputable def jC (p0 : ae) (p1 : ai) (p2 : Int) : Option (Bool) :=
  (idx p1.a_ p2).bind fun a => (gm p0 a.k_).bind fun c => (if (!c) then U y else (dO p0 a.k_).bind fun d => U ((a.t_.length : Int) != d)).bind fun e => (if e then U y else (bd a.x_ 0 (J.wrap ((a.t_.length : Int) - 1))).bind fun f => U (!f)).bind fun g => (if g then U y else (fb p0 a.m_).bind fun h => U (!h)).bind fun i => (if ((i || (decide ((a.m_.b_.length : Int) > 0))) || (a.v_ != 0)) then U y else (gO p0 a.f_).bind fun j => U (!j)).bind fun k => if k then U n else gB a p2 p1 aY 0
noncomputable def cM (p0 : List Int) (p1 : Int) : Nat → Int → Option (Bool)
  | 0, _ => N
  | k1 + 1, a =>
    if decide (a < (p0.length : Int)) then (idx p0 a).bind fun c => if (c == p1) then U y else (cM p0 p1 k1) (J.wrap (a + 1)) else U n
noncomputable def lu (p0 : List Int) (p1 : Int) : Option (Bool) :=
  cM p0 p1 aY 0
noncomputable def dE (p1 : ai) (p0 : ae) : Nat → Int → Option (Bool)
  | 0, _ => N
  | k1 + 1, c =>
    if decide (c < (p1.a_.length : Int)) then (idx p1.a_ c).bind fun a => (bd a.l_ 0 6).bind fun e => (if (!e) then U y else (bd a.q_ 0 p1.g_).bind fun f => U (!f)).bind fun g => if g then U n else (if a.s_ then (kb p0 ({ a with s_ := y })).bind fun h => U (!h) else U n).bind fun i => (if i then U y else (if (!a.s_) then (jC p0 p1 c).bind fun j => U (!j) else U n).bind fun k => U k).bind fun l => if l then U n else if (c == 0) then if (((a.p_ != (-1)) || (a.l_ != 0)) || (a.q_ != 0)) then U n else (dE p1 p0 k1) (J.wrap (c + 1)) else (bd a.p_ 0 (J.wrap (c - 1))).bind fun m => if (!m) then U n else (idx p1.a_ a.p_).bind fun d => (if d.s_ then U y else (lu d.t_ c).bind fun o => U (!o)).bind fun p => if ((p || ((J.wrap (d.l_ + 1)) != a.l_)) || (decide (d.q_ > a.q_))) then U n else (dE p1 p0 k1) (J.wrap (c + 1)) else U y
noncomputable def jn (p0 : ae) (p1 : ai) : Option (Bool) :=
  (fT p0).bind fun a => (if (!a) then U y else (bd (p1.a_.length : Int) 1 31).bind fun c => U (!c)).bind fun d => (if d then U y else (bd p1.g_ 0 99999).bind fun e => U (!e)).bind fun f => if f then U n else dE p1 p0 aY 0
noncomputable def kG (p0 : cq) : Option (Bool) :=
  (bd p0.J_ 1 9).bind fun a => (if a then (bd p0.I_ 0 999).bind fun c => U c else U n).bind fun d => (if d then (bd p0.K_ 1 200).bind fun e => U e else U n).bind fun f => (if f then (bd p0.l_ 0 6).bind fun g => U g else U n).bind fun h => (if h then (bd p0.a_ 1 31).bind fun i => U i else U n).bind fun j => (if j then (bd p0.F_ 62 2000).bind fun k => U k else U n).bind fun l => U l
noncomputable def fB (p0 : ai) : Nat → Int → Int → Option (Int)
  | 0, _, _ => N
  | k1 + 1, c, a =>
    if decide (a < (p0.a_.length : Int)) then (if (a == 0) then U y else (idx p0.a_ a).bind fun d => U (decide (d.l_ > c))).bind fun e => if e then (idx p0.a_ a).bind fun f => (fB p0 k1) f.l_ (J.wrap (a + 1)) else (fB p0 k1) c (J.wrap (a + 1)) else U c
noncomputable def mH (p0 : ai) : Option (Int) :=
  fB p0 aY 0 0
noncomputable def go (p0 : aG) : Nat → Int → Int → Option (Int)
  | 0, _, _ => N
  | k1 + 1, c, a =>
    if decide (a < (p0.m_.b_.length : Int)) then (idx p0.m_.b_ a).bind fun d => (go p0 k1) (J.wrap (c + (d.length : Int))) (J.wrap (a + 1)) else U c
noncomputable def mc (p0 : aG) : Option (Int) :=
  if (!p0.s_) then U 1 else go p0 aY 2 0
noncomputable def fi (p0 : ai) : Nat → Int → Int → Option (Int)
  | 0, _, _ => N
  | k1 + 1, c, a =>
    if decide (a < (p0.a_.length : Int)) then (idx p0.a_ a).bind fun d => (mc d).bind fun e => (fi p0 k1) (J.wrap (c + e)) (J.wrap (a + 1)) else U c
noncomputable def jW (p0 : ai) : Option (Int) :=
  fi p0 aY 0 0
noncomputable def pt (p0 : ae) (p1 : cq) (p2 : ai) : Option (Bool) :=
  (jn p0 p2).bind fun a => (if a then (kG p1).bind fun c => U c else U n).bind fun d => (if (d && (decide ((p2.a_.length : Int) ≤ p1.a_))) then (mH p2).bind fun e => U (decide (e ≤ p1.l_)) else U n).bind fun f => (if f then (jW p2).bind fun g => U (decide (g ≤ p1.F_)) else U n).bind fun h => U h
noncomputable def jr (p1 : bB) (p0 : ae) : Nat → Int → Option (Bool)
  | 0, _ => N
  | k1 + 1, a =>
    if decide (a < (p1.w_.length : Int)) then (idx p1.w_ a).bind fun e => (idx p0.f_ a).bind fun f => (gj f).bind fun c => (bd e (-1) (J.wrap (c - 1))).bind fun d => if (!d) then U n else (jr p1 p0 k1) (J.wrap (a + 1)) else U y
noncomputable def mN (p0 : ae) (p1 : bB) : Option (Bool) :=
  (fT p0).bind fun a => (if ((!a) || ((p1.w_.length : Int) != (p0.f_.length : Int))) then U y else (bd p1.y_ (-1) (J.wrap ((p0.n_.length : Int) - 1))).bind fun c => U (!c)).bind fun d => if d then U n else jr p1 p0 aY 0
noncomputable def lQ (p0 : bf) : Option (Bool) :=
  (if decide ((p0.r_.length : Int) ≤ 600) then (bd p0.c_ 0 (p0.r_.length : Int)).bind fun a => U a else U n).bind fun c => U c
noncomputable def gY (p0 : ar) (c : List Int) : Nat → (List (List Int)) → Int → Option (ar)
  | 0, _, _ => N
  | k1 + 1, d, a =>
    if decide (a < (p0.b_.length : Int)) then (idx p0.b_ a).bind fun e => (app ([] : List Int) e).bind fun f => (app d [f]).bind fun g => (gY p0 c k1) g (J.wrap (a + 1)) else U (ar.mk c d)
noncomputable def lR (p0 : ar) : Option (ar) :=
  (app ([] : List Int) p0.d_).bind fun a => gY p0 a aY ([] : List (List Int)) 0
noncomputable def iK (p0 : aG) : Option (aG) :=
  (app ([] : List Int) p0.t_).bind fun a => (app ([] : List Int) p0.f_).bind fun c => (lR p0.m_).bind fun d => U ({ p0 with t_ := a, m_ := d, f_ := c })
noncomputable def gx (p0 : ai) : Nat → (List aG) → Int → Option (ai)
  | 0, _, _ => N
  | k1 + 1, c, a =>
    if decide (a < (p0.a_.length : Int)) then (idx p0.a_ a).bind fun d => (iK d).bind fun e => (app c [e]).bind fun f => (gx p0 k1) f (J.wrap (a + 1)) else U (ai.mk c p0.g_)
noncomputable def gM (p0 : ai) : Option (ai) :=
  gx p0 aY ([] : List aG) 0
noncomputable def eU (p0 : bf) : Option (bf) :=
  (app ([] : List Int) p0.r_).bind fun a => U (bf.mk a p0.c_)
noncomputable def io (p0 : Bool) : Option (Int) :=
  if p0 then U 1 else U 0
noncomputable def kq (p0 : ae) (p1 : au) (p2 : Int) : Option (Int) :=
  (gm p0 p1).bind fun a => (if (!a) then U y else (idx p0.f_ p1.j_).bind fun c => (gj c).bind fun d => (bd p2 0 (J.wrap (d - 1))).bind fun e => U (!e)).bind fun f => if f then U (-1) else if (p1.c_ == (-1)) then U p2 else (idx p0.f_ p1.j_).bind fun g => if decide ((g.A_.length : Int) > 0) then (io (decide (p2 > p1.c_))).bind fun h => U h else (io (p2 != p1.c_)).bind fun i => U i
noncomputable def gv (p1 : ai) (p2 : bB) (p0 : ae) : Nat → (List Int) → Int → Option (List Int)
  | 0, _, _ => N
  | k1 + 1, d, c =>
    (idx p1.a_ c).bind fun f => if (!f.s_) then (app d ([c] : List Int)).bind fun e => (idx p1.a_ c).bind fun a => (idx p2.w_ a.k_.j_).bind fun g => if decide (g ≥ 0) then (idx p2.w_ a.k_.j_).bind fun h => (kq p0 a.k_ h).bind fun i => (idx a.t_ i).bind fun j => (gv p1 p2 p0 k1) e j else (idx a.t_ a.x_).bind fun k => (gv p1 p2 p0 k1) e k else (app d ([c] : List Int)).bind fun l => U l
noncomputable def nU (p0 : ae) (p1 : ai) (p2 : bB) : Option (List Int) :=
  gv p1 p2 p0 aY ([] : List Int) 0
noncomputable def oR (p0 : ae) (p1 : ai) (p2 : bB) : Option (List Int) :=
  (jn p0 p1).bind fun a => (if (!a) then U y else (mN p0 p2).bind fun c => U (!c)).bind fun d => if d then U ([] : List Int) else (nU p0 p1 p2).bind fun e => U e
noncomputable def ms (p0 : ae) (p1 : ai) (p2 : bB) : Option (Int) :=
  (oR p0 p1 p2).bind fun a => if ((a.length : Int) == 0) then U (-1) else (idx a (J.wrap ((a.length : Int) - 1))).bind fun c => U c
noncomputable def eR (e : ar) (p2 : bB) (p0 : ae) (p3 : Int) (g : Int) : Nat → (List (List Int)) → Int → Option (ar × Bool)
  | 0, _, _ => N
  | k1 + 1, f, a =>
    if decide (a < (e.b_.length : Int)) then (idx p2.w_ a).bind fun h => if decide (h ≥ 0) then (idx p2.w_ a).bind fun c => (idx f a).bind fun d => (idx d (J.wrap ((J.wrap (c * (p0.n_.length : Int))) + p2.y_))).bind fun i => (idx d (J.wrap ((J.wrap (c * (p0.n_.length : Int))) + p2.y_))).bind fun _ => (eR e p2 p0 p3 g k1) (f.set a.toNat (d.set (J.wrap ((J.wrap (c * (p0.n_.length : Int))) + p2.y_)).toNat (J.wrap (i + p3)))) (J.wrap (a + 1)) else (eR e p2 p0 p3 g k1) f (J.wrap (a + 1)) else U ((ar.mk (e.d_.set p2.y_.toNat (J.wrap (g + p3))) f), y)
noncomputable def iF (p0 : ae) (p1 : ar) (p2 : bB) (p3 : Int) : Option (ar × Bool) :=
  (lR p1).bind fun a => (fb p0 p1).bind fun c => (if (!c) then U y else (mN p0 p2).bind fun d => U (!d)).bind fun e => (if (e || (decide (p2.y_ < 0))) then U y else (bd p3 1 7).bind fun f => U (!f)).bind fun g => (if g then U y else (dZ p0 p1).bind fun h => U (decide ((J.wrap (h + p3)) > 999))).bind fun i => if i then U (a, n) else (idx a.d_ p2.y_).bind fun j => (idx a.d_ p2.y_).bind fun _ => eR a p2 p0 p3 j aY a.b_ 0
noncomputable def dc (p1 : List Int) (c : Int) (p0 : ae) (R1 : (List au) → Int → Option (List au)) : Nat → (List au) → Int → Option (List au)
  | 0, _, _ => N
  | k2 + 1, d, a =>
    if decide (a < 4) then (idx p1 c).bind fun e => (gm p0 (au.mk e a)).bind fun f => if f then (app d ([(au.mk e a)] : List au)).bind fun g => (dc p1 c p0 R1 k2) g (J.wrap (a + 1)) else (dc p1 c p0 R1 k2) d (J.wrap (a + 1)) else R1 d (J.wrap (c + 1))
noncomputable def da (p1 : List Int) (p0 : ae) (p2 : Bool) : Nat → (List au) → Int → Option (List au)
  | 0, _, _ => N
  | k1 + 1, c, a =>
    if decide (a < (p1.length : Int)) then (idx p1 a).bind fun d => (idx p0.f_ d).bind fun e => if (((e.A_.length : Int) == 0) && (!p2)) then (idx p1 a).bind fun f => (app c ([(au.mk f (-1))] : List au)).bind fun g => (da p1 p0 p2 k1) g (J.wrap (a + 1)) else dc p1 a p0 (da p1 p0 p2 k1) aY c 0 else U c
noncomputable def kl (p0 : ae) (p1 : List Int) (p2 : Bool) : Option (List au) :=
  (gO p0 p1).bind fun a => if (!a) then U ([] : List au) else da p1 p0 p2 aY ([] : List au) 0
noncomputable def cX (e : List Int) (p1 : ar) (p2 : au) (d : Int) (p0 : ae) (R1 : Int → (List Int) → Option (List Int)) : Nat → Int → (List Int) → Option (List Int)
  | 0, _, _ => N
  | k2 + 1, a, c =>
    if decide (a < (e.length : Int)) then (idx c a).bind fun f => (idx p1.b_ p2.j_).bind fun g => (idx g (J.wrap ((J.wrap (d * (p0.n_.length : Int))) + a))).bind fun h => (idx c a).bind fun _ => (cX e p1 p2 d p0 R1 k2) (J.wrap (a + 1)) (c.set a.toNat (J.wrap (f + h))) else R1 (J.wrap (d + 1)) c
noncomputable def cl (p0 : ae) (p2 : au) (p3 : Int) (d : List Int) (p1 : ar) : Nat → Int → (List Int) → Option (List Int)
  | 0, _, _ => N
  | k1 + 1, a, c =>
    (idx p0.f_ p2.j_).bind fun e => (gj e).bind fun f => if decide (a < f) then (kq p0 p2 a).bind fun g => if (g == p3) then cX d p1 p2 a p0 (cl p0 p2 p3 d p1 k1) aY 0 c else (cl p0 p2 p3 d p1 k1) (J.wrap (a + 1)) c else U c
noncomputable def ic (p0 : ae) (p1 : ar) (p2 : au) (p3 : Int) : Option (List Int) :=
  (fb p0 p1).bind fun c => (if ((!c) || ((p1.b_.length : Int) == 0)) then U y else (gm p0 p2).bind fun d => U (!d)).bind fun e => (if e then U y else (dO p0 p2).bind fun f => (bd p3 0 (J.wrap (f - 1))).bind fun g => U (!g)).bind fun h => if h then U ([] : List Int) else (mk (0 : Int) (p0.n_.length : Int)).bind fun a => cl p0 p2 p3 a p1 aY 0 a
noncomputable def gX (p0 : List Int) : Nat → Int → Int → Option (Int)
  | 0, _, _ => N
  | k1 + 1, c, a =>
    if decide (a < (p0.length : Int)) then (idx p0 a).bind fun d => (gX p0 k1) (J.wrap (c + d)) (J.wrap (a + 1)) else U c
noncomputable def ka (p0 : List Int) : Option (Int) :=
  gX p0 aY 0 0
noncomputable def gn (p0 : List Int) : Nat → Int → Int → Option (Int)
  | 0, _, _ => N
  | k1 + 1, c, a =>
    if decide (a < (p0.length : Int)) then (idx p0 a).bind fun d => (bd d 0 999).bind fun e => if (!e) then U (-1) else (idx p0 a).bind fun f => (idx p0 a).bind fun g => (gn p0 k1) (J.wrap (c + (J.wrap (f * g)))) (J.wrap (a + 1)) else U c
noncomputable def lg (p0 : List Int) : Option (Int) :=
  if decide ((p0.length : Int) > 3) then U (-1) else gn p0 aY 0 0
noncomputable def iC (p0 : aZ) : Option (Bool) :=
  (bd p0.u_ 0 4000000000000000).bind fun a => (if a then (bd p0.B_ 1 4000000000000000).bind fun c => U c else U n).bind fun d => U d
noncomputable def jt  : Nat → Int → Int → Option (Int)
  | 0, _, _ => N
  | k1 + 1, c, a =>
    if decide (a > 0) then (rem c a).bind fun d => (jt k1) a d else U c
noncomputable def qq (p0 : Int) (p1 : Int) : Option (Int) :=
  if ((decide (p0 < 0)) || (decide (p1 < 0))) then U (-1) else jt aY p0 p1
noncomputable def mt (p0 : aZ) : Option (aZ) :=
  (iC p0).bind fun c => if (!c) then U (aZ.mk 0 0) else (qq p0.u_ p0.B_).bind fun a => (quo J p0.u_ a).bind fun d => (quo J p0.B_ a).bind fun e => U (aZ.mk d e)
noncomputable def fS (a : List Int) (e : List Int) (f : List Int) (R1 : Int → (List Int) → (List Int) → (List Int) → Option (aZ)) (g : Int) : Nat → Int → (List Int) → Option (aZ)
  | 0, _, _ => N
  | k2 + 1, c, d =>
    if decide (c < (a.length : Int)) then (idx d c).bind fun h => (idx a c).bind fun i => (idx d c).bind fun _ => (fS a e f R1 g k2) (J.wrap (c + 1)) (d.set c.toNat (J.wrap (h + i))) else (ka a).bind fun j => if decide (j > 0) then (ka a).bind fun k => (app e ([k] : List Int)).bind fun l => (lg a).bind fun m => (app f ([m] : List Int)).bind fun o => R1 (J.wrap (g + 1)) d l o else R1 (J.wrap (g + 1)) d e f
noncomputable def iB (e : List Int) (f : List Int) (a : Int) (c : Int) (g : List Int) : Nat → Int → Int → Option (aZ)
  | 0, _, _ => N
  | k4 + 1, h, d =>
    if decide (d < (e.length : Int)) then (idx f d).bind fun i => (idx e d).bind fun j => (quo J a j).bind fun k => (iB e f a c g k4) (J.wrap (h + (J.wrap ((J.wrap (i * c)) * k)))) (J.wrap (d + 1)) else (lg g).bind fun l => (mt (aZ.mk (J.wrap (h - (J.wrap (l * a)))) (J.wrap ((J.wrap (c * c)) * a)))).bind fun m => U m
noncomputable def iG (a : List Int) (d : List Int) (e : Int) (f : List Int) : Nat → Int → Int → Option (aZ)
  | 0, _, _ => N
  | k3 + 1, g, c =>
    if decide (c < (a.length : Int)) then (idx a c).bind fun h => (iG a d e f k3) (J.wrap (g * h)) (J.wrap (c + 1)) else iB a d g e f aY 0 0
noncomputable def eL (p0 : ae) (p2 : au) (p1 : ar) : Nat → Int → (List Int) → (List Int) → (List Int) → Option (aZ)
  | 0, _, _, _, _ => N
  | k1 + 1, a, c, d, e =>
    (dO p0 p2).bind fun g => if decide (a < g) then (ic p0 p1 p2 a).bind fun h => fS h d e (eL p0 p2 p1 k1) a aY 0 c else (ka c).bind fun f => if (f == 0) then U (aZ.mk 0 1) else iG d e f c aY 1 0
noncomputable def mQ (p0 : ae) (p1 : ar) (p2 : au) : Option (aZ) :=
  (fb p0 p1).bind fun a => (if ((!a) || ((p1.b_.length : Int) == 0)) then U y else (gm p0 p2).bind fun c => U (!c)).bind fun d => if d then U (aZ.mk 0 0) else (mk (0 : Int) (p0.n_.length : Int)).bind fun e => eL p0 p2 p1 aY 0 e ([] : List Int) ([] : List Int)
noncomputable def iD  : Nat → Int → (List Int) → Option ((List Int) × Bool)
  | 0, _, _ => N
  | k1 + 1, a, c =>
    if decide (a > 0) then (app c ([Int.tmod a 16777216] : List Int)).bind fun d => (iD k1) (J.wrap (Int.tdiv a 16777216)) d else U (c, y)
noncomputable def mJ (p0 : Int) : Option ((List Int) × Bool) :=
  if decide (p0 < 0) then U (([] : List Int), n) else iD aY p0 ([] : List Int)
noncomputable def fU (p0 : List Int) : Nat → Int → Option (Bool)
  | 0, _ => N
  | k1 + 1, a =>
    if decide (a < (p0.length : Int)) then (idx p0 a).bind fun c => (bd c 0 16777215).bind fun d => if (!d) then U n else (fU p0 k1) (J.wrap (a + 1)) else (if ((p0.length : Int) == 0) then U y else (idx p0 (J.wrap ((p0.length : Int) - 1))).bind fun e => U (e != 0)).bind fun f => U f
noncomputable def jE (p0 : List Int) : Option (Bool) :=
  if decide ((p0.length : Int) > 16) then U n else fU p0 aY 0
noncomputable def gZ (p0 : List Int) : Nat → Int → Option (List Int)
  | 0, _ => N
  | k1 + 1, a =>
    (if decide (a > 0) then (idx p0 (J.wrap (a - 1))).bind fun c => U (c == 0) else U n).bind fun d => if d then (gZ p0 k1) (J.wrap (a - 1)) else (sub p0 0 a).bind fun e => (app ([] : List Int) e).bind fun f => U f
noncomputable def lL (p0 : List Int) : Option (List Int) :=
  gZ p0 aY (p0.length : Int)
noncomputable def fq (p1 : List Int) (a : Int) (p0 : List Int) (R1 : (List Int) → Int → Option ((List Int) × Bool)) : Nat → (List Int) → Int → Int → Option ((List Int) × Bool)
  | 0, _, _, _ => N
  | k2 + 1, c, e, d =>
    if decide (d < (p1.length : Int)) then (idx c (J.wrap (a + d))).bind fun f => (idx p0 a).bind fun g => (idx p1 d).bind fun h => (idx c (J.wrap (a + d))).bind fun _ => (fq p1 a p0 R1 k2) (c.set (J.wrap (a + d)).toNat (Int.tmod (J.wrap ((J.wrap (f + (J.wrap (g * h)))) + e)) 16777216)) (J.wrap (Int.tdiv (J.wrap ((J.wrap (f + (J.wrap (g * h)))) + e)) 16777216)) (J.wrap (d + 1)) else (idx c (J.wrap (a + (p1.length : Int)))).bind fun i => (idx c (J.wrap (a + (p1.length : Int)))).bind fun _ => R1 (c.set (J.wrap (a + (p1.length : Int))).toNat (J.wrap (i + e))) (J.wrap (a + 1))
noncomputable def ft (p0 : List Int) (p1 : List Int) : Nat → (List Int) → Int → Option ((List Int) × Bool)
  | 0, _, _ => N
  | k1 + 1, c, d =>
    if decide (d < (p0.length : Int)) then fq p1 d p0 (ft p0 p1 k1) aY c 0 0 else (lL c).bind fun a => if decide ((a.length : Int) > 16) then U (([] : List Int), n) else U (a, y)
noncomputable def jq (p0 : List Int) (p1 : List Int) : Option ((List Int) × Bool) :=
  (jE p0).bind fun a => (if (!a) then U y else (jE p1).bind fun c => U (!c)).bind fun d => if d then U (([] : List Int), n) else (mk (0 : Int) (J.wrap ((J.wrap ((p0.length : Int) + (p1.length : Int))) + 1))).bind fun e => ft p0 p1 aY e 0
noncomputable def fY (p0 : Int) (p1 : Int) : Option (List Int) :=
  (mJ p0).bind fun a => (mJ p1).bind fun c => (jq a.1 c.1).bind fun d => U d.1
noncomputable def oo (p0 : Int) (p1 : Int) : Option (Int) :=
  if decide (p0 > p1) then U p0 else U p1
noncomputable def kQ (p0 : List Int) (p1 : Int) : Option (Int) :=
  if decide (p1 < (p0.length : Int)) then (idx p0 p1).bind fun a => U a else U 0
noncomputable def hH (p0 : List Int) (p1 : List Int) : Nat → Int → Option (Int)
  | 0, _ => N
  | k1 + 1, a =>
    if decide (a ≥ 0) then (kQ p0 a).bind fun c => (kQ p1 a).bind fun d => if decide (c < d) then U (-1) else if decide (c > d) then U 1 else (hH p0 p1 k1) (J.wrap (a - 1)) else U 0
noncomputable def kO (p0 : List Int) (p1 : List Int) : Option (Int) :=
  (jE p0).bind fun a => (if (!a) then U y else (jE p1).bind fun c => U (!c)).bind fun d => if d then U (-2) else (oo (p0.length : Int) (p1.length : Int)).bind fun e => hH p0 p1 aY (J.wrap (e - 1))
noncomputable def iv (p0 : aZ) (p1 : aZ) : Option (Int) :=
  (iC p0).bind fun a => (if (!a) then U y else (iC p1).bind fun c => U (!c)).bind fun d => if d then U (-2) else (fY p0.u_ p1.B_).bind fun e => (fY p1.u_ p0.B_).bind fun f => (kO e f).bind fun g => U g
noncomputable def mj (f : Int) (g : Int) (i : List au) (a : Int) (R1 : Int → Int → Int → Int → Int → Option (au × aZ)) (j : Int) (k : Int) (c : Int) (d : Int) : Option (au × aZ) :=
  (iv (aZ.mk c d) (aZ.mk f g)).bind fun h => if decide (h > 0) then (idx i a).bind fun e => R1 e.j_ e.c_ c d (J.wrap (a + 1)) else R1 j k f g (J.wrap (a + 1))
noncomputable def ga (a : List au) (p0 : ae) (p1 : ar) : Nat → Int → Int → Int → Int → Int → Option (au × aZ)
  | 0, _, _, _, _, _ => N
  | k1 + 1, e, f, g, h, c =>
    if decide (c < (a.length : Int)) then (idx a c).bind fun i => (mQ p0 p1 i).bind fun d => mj g h a c (ga a p0 p1 k1) e f d.u_ d.B_ else U ((au.mk e f), (aZ.mk g h))
noncomputable def nf (p0 : ae) (p1 : ar) (p2 : Int) (p3 : Bool) : Option (au × aZ) :=
  (fb p0 p1).bind fun e => (if ((!e) || ((p1.b_.length : Int) == 0)) then U y else (bd p2 0 (J.wrap ((p0.f_.length : Int) - 1))).bind fun f => U (!f)).bind fun g => if g then U ((au.mk 0 0), (aZ.mk 0 0)) else (kl p0 ([p2] : List Int) p3).bind fun c => (idx c 0).bind fun a => (mQ p0 p1 a).bind fun d => ga c p0 p1 aY a.j_ a.c_ d.u_ d.B_ 1
noncomputable def pM (p0 : bv) (p1 : bv) : Option (Bool) :=
  (iv p0.z_ p1.z_).bind fun a => U (a == 1)
noncomputable def jw (a : List bv) (d : Int) (e : Int) (f : Int) (g : Int) (R1 : Int → (List bv) → Option (List bv)) (h : Int) : Nat → Int → Option (List bv)
  | 0, _ => N
  | k2 + 1, c =>
    (if decide (c > 0) then (idx a (J.wrap (c - 1))).bind fun i => (pM (bv.mk (au.mk d e) (aZ.mk f g)) i).bind fun j => U j else U n).bind fun k => if k then (jw a d e f g R1 h k2) (J.wrap (c - 1)) else (sub a 0 c).bind fun l => (app ([] : List bv) l).bind fun m => (app m ([(bv.mk (au.mk d e) (aZ.mk f g))] : List bv)).bind fun o => (sub a c (a.length : Int)).bind fun p => (app o p).bind fun q => R1 (J.wrap (h + 1)) q
noncomputable def nM (a : List bv) (R1 : Int → (List bv) → Option (List bv)) (c : Int) (d : Int) (e : Int) (f : Int) (g : Int) : Option (List bv) :=
  jw a d e f g R1 c aY (a.length : Int)
noncomputable def ex (p2 : List Int) (p0 : ae) (p1 : ar) (p3 : Bool) : Nat → Int → (List bv) → Option (List bv)
  | 0, _, _ => N
  | k1 + 1, c, d =>
    if decide (c < (p2.length : Int)) then (idx p2 c).bind fun e => (nf p0 p1 e p3).bind fun a => nM d (ex p2 p0 p1 p3 k1) c a.1.j_ a.1.c_ a.2.u_ a.2.B_ else U d
noncomputable def pn (p0 : ae) (p1 : ar) (p2 : List Int) (p3 : Bool) : Option (List bv) :=
  (fb p0 p1).bind fun a => (if ((!a) || ((p1.b_.length : Int) == 0)) then U y else (gO p0 p2).bind fun c => U (!c)).bind fun d => if d then U ([] : List bv) else ex p2 p0 p1 p3 aY 0 ([] : List bv)
noncomputable def jJ (a : List bv) (c : Int) (d : Int) : Option (bv × aZ × Bool) :=
  (idx a 0).bind fun e => U (e, (aZ.mk c d), y)
noncomputable def lz (p0 : ae) (p1 : ar) (p2 : List Int) (p3 : Bool) : Option (bv × aZ × Bool) :=
  (pn p0 p1 p2 p3).bind fun a => if ((a.length : Int) == 0) then U ((bv.mk (au.mk 0 0) (aZ.mk 0 0)), (aZ.mk 0 0), n) else if decide ((a.length : Int) > 1) then (idx a 1).bind fun c => jJ a c.z_.u_ c.z_.B_ else jJ a 0 1
noncomputable def iE (p0 : aZ) : Option (Bool) :=
  (iC p0).bind fun a => U (a && (decide (p0.u_ ≤ p0.B_)))
noncomputable def kN (a : List Int) (R1 : (List Int) → Int → Int → Option ((List Int) × Bool)) (c : Int) (d : Int) (e : Int) : Option ((List Int) × Bool) :=
  (app a ([e] : List Int)).bind fun f => R1 f d (J.wrap (c + 1))
noncomputable def dY (p0 : List Int) (p1 : List Int) : Nat → (List Int) → Int → Int → Option ((List Int) × Bool)
  | 0, _, _, _ => N
  | k1 + 1, c, d, a =>
    if decide (a < (p0.length : Int)) then (idx p0 a).bind fun e => (kQ p1 a).bind fun f => if decide ((J.wrap ((J.wrap (e - f)) - d)) < 0) then kN c (dY p0 p1 k1) a 1 (J.wrap ((J.wrap ((J.wrap (e - f)) - d)) + 16777216)) else kN c (dY p0 p1 k1) a 0 (J.wrap ((J.wrap (e - f)) - d)) else (lL c).bind fun g => U (g, y)
noncomputable def nm (p0 : List Int) (p1 : List Int) : Option ((List Int) × Bool) :=
  (jE p0).bind fun a => (if (!a) then U y else (jE p1).bind fun c => U (!c)).bind fun d => (if d then U y else (kO p0 p1).bind fun e => U (decide (e < 0))).bind fun f => if f then U (([] : List Int), n) else dY p0 p1 aY ([] : List Int) 0 0
noncomputable def mv (p0 : aZ) (p1 : aZ) : Option ((List Int) × (List Int) × Bool) :=
  (iC p0).bind fun a => (if (!a) then U y else (iC p1).bind fun c => U (!c)).bind fun d => (if d then U y else (iv p0 p1).bind fun e => U (decide (e < 0))).bind fun f => if f then U (([] : List Int), ([] : List Int), n) else (fY p0.u_ p1.B_).bind fun g => (fY p1.u_ p0.B_).bind fun h => (nm g h).bind fun i => (fY p0.B_ p1.B_).bind fun j => U (i.1, j, y)
noncomputable def nV (p0 : Int) : Option (Int) :=
  (bd p0 1 9).bind fun a => if (!a) then U 0 else U (J.wrap (Int.tdiv (J.wrap ((J.wrap (p0 * 2302585)) + 999)) 1000))
noncomputable def nr (p0 : aZ) (p1 : aZ) (p2 : Int) (p3 : Int) : Option (Bool) :=
  (iE p0).bind fun d => (if (!d) then U y else (iE p1).bind fun e => U (!e)).bind fun f => (if f then U y else (iv p0 p1).bind fun g => U (decide (g < 0))).bind fun h => (if h then U y else (bd p2 1 999).bind fun i => U (!i)).bind fun j => (if j then U y else (bd p3 1 9).bind fun k => U (!k)).bind fun l => if l then U n else (mv p0 p1).bind fun a => (jq a.1 a.1).bind fun m => (fY 2000 p2).bind fun o => (jq m.1 o).bind fun p => (jq a.2.1 a.2.1).bind fun q => (nV p3).bind fun r => (fY r 1).bind fun s => (jq q.1 s).bind fun t => (kO p.1 t.1).bind fun c => U (decide (c > 0))
noncomputable def pk (p0 : cq) (p1 : Int) : Option (Bool) :=
  (kG p0).bind fun a => (if a then (bd p1 1 999).bind fun c => U c else U n).bind fun d => (if d then (nV p0.J_).bind fun e => U (decide ((J.wrap (1000 * e)) < (J.wrap ((J.wrap ((J.wrap (2 * p1)) * p0.I_)) * p0.I_)))) else U n).bind fun f => U f
noncomputable def mb (p0 : cq) (p1 : aZ) (p2 : aZ) (p3 : Int) : Option (Int) :=
  (kG p0).bind fun a => (if (!a) then U y else (bd p3 1 999).bind fun c => U (!c)).bind fun d => (if d then U y else (iE p1).bind fun e => U (!e)).bind fun f => (if f then U y else (iE p2).bind fun g => U (!g)).bind fun h => (if h then U y else (iv p1 p2).bind fun i => U (decide (i < 0))).bind fun j => if j then U 4 else if (p1.u_ == 0) then U 3 else (nr p1 p2 p3 p0.J_).bind fun k => if k then U 1 else (pk p0 p3).bind fun l => if l then U 2 else U 0
noncomputable def od (p0 : ae) (p1 : cq) (p2 : aG) : Option (au × Int) :=
  (lz p0 p2.m_ p2.f_ p1.G_).bind fun a => if ((!p2.s_) || (!a.2.2)) then U ((au.mk 0 0), 4) else (dZ p0 p2.m_).bind fun d => (mb p1 a.1.z_ a.2.1 d).bind fun c => if ((c == 1) || (c == 2)) then U (a.1.k_, c) else U ((au.mk 0 0), c)
noncomputable def fM (c : List Int) (R1 : (List Int) → Int → Option (Int)) (d : Int) : Nat → (List Int) → Int → Option (Int)
  | 0, _, _ => N
  | k2 + 1, e, a =>
    if decide (a < (c.length : Int)) then (idx c (J.wrap (a - 1))).bind fun f => (idx c a).bind fun g => (app e ([J.wrap (f + g)] : List Int)).bind fun h => (fM c R1 d k2) h (J.wrap (a + 1)) else (app e ([1] : List Int)).bind fun i => R1 i (J.wrap (d + 1))
noncomputable def cQ (p0 : Int) (p1 : Int) : Nat → (List Int) → Int → Option (Int)
  | 0, _, _ => N
  | k1 + 1, c, a =>
    if decide (a < p0) then fM c (cQ p0 p1 k1) a aY ([1] : List Int) 1 else (idx c p1).bind fun d => U d
noncomputable def jF (p0 : Int) (p1 : Int) : Option (Int) :=
  (bd p0 0 20).bind fun a => (if (!a) then U y else (bd p1 0 p0).bind fun c => U (!c)).bind fun d => if d then U 0 else cQ p0 p1 aY ([1] : List Int) 0
noncomputable def mW (p0 : bf) : Option (Int) :=
  (lQ p0).bind fun a => if (!a) then U 0 else U (J.wrap ((p0.r_.length : Int) - p0.c_))
noncomputable def pj (p0 : bf) : Option (bf × Int × Bool) :=
  (eU p0).bind fun a => (mW p0).bind fun c => if decide (c < 2) then U (a, 0, n) else (idx p0.r_ p0.c_).bind fun d => (idx p0.r_ (J.wrap (p0.c_ + 1))).bind fun e => U ((bf.mk a.r_ (J.wrap (p0.c_ + 2))), J.wrap ((J.wrap ((J.wrap d) * 256)) + (J.wrap e)), y)
noncomputable def lY (p0 : bf) (p1 : Int) : Option (bf × Int × Bool) :=
  (pj p0).bind fun a => (if (!a.2.2) then U y else (bd p1 1 65536).bind fun c => U (!c)).bind fun d => if d then (eU p0).bind fun e => U (e, 0, n) else (rem a.2.1 p1).bind fun f => U (a.1, f, y)
noncomputable def eX (p1 : Int) (p0 : Int) : Nat → Int → (List Int) → Int → Option (List Int)
  | 0, _, _, _ => N
  | k1 + 1, d, a, c =>
    if decide ((a.length : Int) < p1) then (jF (J.wrap ((J.wrap (p0 - c)) - 1)) (J.wrap ((J.wrap (p1 - (a.length : Int))) - 1))).bind fun e => if decide (d < e) then (app a ([c] : List Int)).bind fun f => (eX p1 p0 k1) d f (J.wrap (c + 1)) else (eX p1 p0 k1) (J.wrap (d - e)) a (J.wrap (c + 1)) else U a
noncomputable def jD (p0 : Int) (p1 : Int) (p2 : Int) : Option (List Int) :=
  (jF p0 p1).bind fun a => (bd p2 0 (J.wrap (a - 1))).bind fun c => if (!c) then U ([] : List Int) else eX p1 p0 aY p2 ([] : List Int) 0
noncomputable def iU (p0 : bf) (p1 : Int) (p2 : Int) (a : Int) (c : Bool) (d : List Int) (e : Int) : Option (bf × (List Int) × Bool) :=
  if (!c) then (eU p0).bind fun f => U (f, ([] : List Int), n) else (jD p1 p2 a).bind fun g => U ((bf.mk d e), g, y)
noncomputable def kn (p0 : bf) (p1 : Int) (p2 : Int) : Option (bf × (List Int) × Bool) :=
  (jF p1 p2).bind fun c => (lY p0 c).bind fun a => iU p0 p1 p2 a.2.1 a.2.2 a.1.r_ a.1.c_
noncomputable def gP (p0 : List Int) : Nat → Int → Int → Option (Int)
  | 0, _, _ => N
  | k1 + 1, c, a =>
    if decide (a < (p0.length : Int)) then (if decide (c < 0) then U y else (idx p0 a).bind fun d => (idx p0 c).bind fun e => U (decide (d > e))).bind fun f => if f then (gP p0 k1) a (J.wrap (a + 1)) else (gP p0 k1) c (J.wrap (a + 1)) else U c
noncomputable def mO (p0 : List Int) : Option (Int) :=
  gP p0 aY (-1) 0
noncomputable def ef (p0 : ae) (p2 : au) (p1 : ar) : Nat → (List Int) → Int → Option (Int)
  | 0, _, _ => N
  | k1 + 1, c, a =>
    (dO p0 p2).bind fun g => if decide (a < g) then (ic p0 p1 p2 a).bind fun d => if ((d.length : Int) == 0) then U (-1) else (ka d).bind fun h => (app c ([h] : List Int)).bind fun e => (ef p0 p2 p1 k1) e (J.wrap (a + 1)) else (mO c).bind fun f => U f
noncomputable def lx (p0 : ae) (p1 : ar) (p2 : au) : Option (Int) :=
  ef p0 p2 p1 aY ([] : List Int) 0
noncomputable def mR (p0 : ar) : Option (ar) :=
  (app ([] : List Int) p0.d_).bind fun a => U (ar.mk a ([] : List (List Int)))
noncomputable def eJ (p4 : List (List Int)) (p0 : ae) (d : Int) (p2 : Int) (p1 : ai) (p3 : au) (f : Int) (g : List Int) (h : List (List Int)) (i : List Int) (j : Int) (k : Int) (r : ai) : Nat → (List aG) → (List Int) → Int → Option (ai × Bool)
  | 0, _, _, _ => N
  | k2 + 1, a, e, c =>
    if decide (c < (p4.length : Int)) then (app e ([(a.length : Int)] : List Int)).bind fun l => (idx p4 c).bind fun m => (gK p0).bind fun o => (app ([] : List Int) m).bind fun p => (app a [(aG.mk y (au.mk 0 0) ([] : List Int) 0 o 0 p (J.wrap (d + 1)) p2 p1.g_)]).bind fun q => (eJ p4 p0 d p2 p1 p3 f g h i j k r k2) q l (J.wrap (c + 1)) else (idx a p2).bind fun _ => U ((ai.mk (a.set p2.toNat (aG.mk n p3 e f (ar.mk g h) 0 i d j k)) r.g_), y)
noncomputable def lB (p4 : List (List Int)) (p0 : ae) (p2 : Int) (p1 : ai) (p3 : au) (a : ai) (c : Int) (d : List Int) (e : List (List Int)) (f : List Int) (g : Int) (h : Int) (i : Int) : Option (ai × Bool) :=
  eJ p4 p0 g p2 p1 p3 c d e f h i a aY a.a_ ([] : List Int) 0
noncomputable def eH (p4 : List (List Int)) (p0 : ae) (c : ai) (p1 : ai) (p2 : Int) (p3 : au) : Nat → Int → Option (ai × Bool)
  | 0, _ => N
  | k1 + 1, a =>
    if decide (a < (p4.length : Int)) then (idx p4 a).bind fun m => (gO p0 m).bind fun o => if (!o) then U (c, n) else (eH p4 p0 c p1 p2 p3 k1) (J.wrap (a + 1)) else (idx p1.a_ p2).bind fun p => if ((p.l_ == 6) || (decide ((J.wrap ((p1.a_.length : Int) + (p4.length : Int))) > 31))) then U (c, n) else (idx p1.a_ p2).bind fun e => (idx p1.a_ p2).bind fun f => (idx p1.a_ p2).bind fun g => (idx p1.a_ p2).bind fun h => (idx p1.a_ p2).bind fun i => (idx p1.a_ p2).bind fun j => (lx p0 e.m_ p3).bind fun k => (mR f.m_).bind fun d => (app ([] : List Int) g.f_).bind fun l => lB p4 p0 p2 p1 p3 c k d.d_ d.b_ l h.l_ i.p_ j.q_
noncomputable def mC (p0 : ae) (p1 : ai) (p2 : Int) (p3 : au) (p4 : List (List Int)) : Option (ai × Bool) :=
  (gM p1).bind fun a => (jn p0 p1).bind fun g => (if (!g) then U y else (bd p2 0 (J.wrap ((p1.a_.length : Int) - 1))).bind fun h => U (!h)).bind fun i => (if i then U y else (idx p1.a_ p2).bind fun j => U (!j.s_)).bind fun k => (if k then U y else (idx p1.a_ p2).bind fun l => U ((l.m_.b_.length : Int) == 0)).bind fun m => (if m then U y else (gm p0 p3).bind fun c => U (!c)).bind fun d => (if d then U y else (dO p0 p3).bind fun e => U ((p4.length : Int) != e)).bind fun f => if f then U (a, n) else eH p4 p0 a p1 p2 p3 aY 0
noncomputable def dv (p0 : ai) : Nat → (List Int) → Int → Option (List Int)
  | 0, _, _ => N
  | k1 + 1, c, a =>
    if decide (a < (p0.a_.length : Int)) then (idx p0.a_ a).bind fun d => (if d.s_ then (idx p0.a_ a).bind fun e => U (decide ((e.m_.b_.length : Int) > 0)) else U n).bind fun f => if f then (app c ([a] : List Int)).bind fun g => (dv p0 k1) g (J.wrap (a + 1)) else (dv p0 k1) c (J.wrap (a + 1)) else U c
noncomputable def jv (p0 : ai) : Option (List Int) :=
  dv p0 aY ([] : List Int) 0
noncomputable def kW (p0 : ae) (p1 : ar) : Option (Int) :=
  (fb p0 p1).bind fun a => if (!a) then U 0 else (dZ p0 p1).bind fun c => (mO p1.d_).bind fun d => (idx p1.d_ d).bind fun e => U (J.wrap (c - e))
noncomputable def fw (d : List Int) (p1 : ai) (p0 : ae) : Nat → Int → Int → Option (Int)
  | 0, _, _ => N
  | k1 + 1, c, a =>
    if decide (a < (d.length : Int)) then (if decide (c < 0) then U y else (idx d a).bind fun e => (idx p1.a_ e).bind fun f => (kW p0 f.m_).bind fun g => (idx p1.a_ c).bind fun h => (kW p0 h.m_).bind fun i => U (decide (g < i))).bind fun j => if j then (idx d a).bind fun k => (fw d p1 p0 k1) k (J.wrap (a + 1)) else (fw d p1 p0 k1) c (J.wrap (a + 1)) else U c
noncomputable def lc (p0 : ae) (p1 : ai) : Option (Int) :=
  (jn p0 p1).bind fun a => if (!a) then U (-1) else (jv p1).bind fun c => fw c p1 p0 aY (-1) 0
noncomputable def ik (c : ai) (p2 : Int) (p0 : ae) : Nat → (List aG) → (List Int) → Option (ai × (List Int))
  | 0, _, _ => N
  | k1 + 1, a, e =>
    (jW (ai.mk a c.g_)).bind fun g => (if decide (g > p2) then (lc p0 (ai.mk a c.g_)).bind fun h => U (decide (h ≥ 0)) else U n).bind fun i => if i then (lc p0 (ai.mk a c.g_)).bind fun d => (idx a d).bind fun f => (mR f.m_).bind fun j => (app e ([d] : List Int)).bind fun k => (ik c p2 p0 k1) (a.set d.toNat ({ f with m_ := j, v_ := 0 })) k else U ((ai.mk a c.g_), e)
noncomputable def mD (p0 : ae) (p1 : ai) (p2 : Int) : Option (ai × (List Int)) :=
  (gM p1).bind fun a => (jn p0 p1).bind fun c => if (!c) then U (a, ([] : List Int)) else ik a p2 p0 aY a.a_ ([] : List Int)
noncomputable def dM (p0 : ae) (c : au × Int) (p6 : Int) (p2 : ai) (p5 : bf) (d : ai) (e : Int) (f : aG) (g : ar × Bool) (h : Int) (p1 : cq) : Nat → (List (List Int)) → (List Int) → Int → Int → Option (ai × bf × Int)
  | 0, _, _, _, _ => N
  | k1 + 1, i, j, k, l =>
    (dO p0 c.1).bind fun m => if decide (l < m) then (kn (bf.mk j k) (p0.f_.length : Int) p6).bind fun a => if (!a.2.2) then (gM p2).bind fun o => (eU p5).bind fun p => U (o, p, 4) else (app i [a.2.1]).bind fun q => (dM p0 c p6 p2 p5 d e f g h p1 k1) q a.1.r_ a.1.c_ (J.wrap (l + 1)) else (mC p0 (ai.mk (d.a_.set e.toNat ({ f with m_ := g.1, v_ := h })) (J.wrap (p2.g_ + 1))) e c.1 i).bind fun r => (mD p0 r.1 p1.F_).bind fun s => U (s.1, (bf.mk j k), 1)
noncomputable def fZ (a : ai) (g : Int) (p5 : bf) (c : aG) (d : ar × Bool) (p2 : ai) (p0 : ae) (p1 : cq) (p6 : Int) (e : Int) (i : Bool) : Option (ai × bf × Int) :=
  (idx a.a_ g).bind fun _ => if (!i) then (eU p5).bind fun j => U ((ai.mk (a.a_.set g.toNat ({ c with m_ := d.1, v_ := e })) (J.wrap (p2.g_ + 1))), j, 0) else (od p0 p1 ({ c with m_ := d.1, v_ := e })).bind fun f => (if (((f.2 != 1) && (f.2 != 2)) || (decide (c.l_ ≥ p1.l_))) then U y else (dO p0 f.1).bind fun k => U (decide ((J.wrap ((a.a_.length : Int) + k)) > p1.a_))).bind fun l => if l then (eU p5).bind fun m => U ((ai.mk (a.a_.set g.toNat ({ c with m_ := d.1, v_ := e })) (J.wrap (p2.g_ + 1))), m, 0) else (eU p5).bind fun h => dM p0 f p6 p2 p5 a g c d e p1 aY ([] : List (List Int)) h.r_ h.c_ 0
noncomputable def kB (p0 : ae) (p1 : cq) (p2 : ai) (p3 : bB) (p4 : Int) (p5 : bf) (p6 : Int) : Option (ai × bf × Int) :=
  (pt p0 p1 p2).bind fun j => (if (!j) then U y else (mN p0 p3).bind fun k => U (!k)).bind fun l => (if (l || (decide (p3.y_ < 0))) then U y else (bd p4 1 7).bind fun m => U (!m)).bind fun o => (if o then U y else (lQ p5).bind fun p => U (!p)).bind fun q => (if q then U y else (bd p6 1 (p0.f_.length : Int)).bind fun r => U (!r)).bind fun s => if s then (gM p2).bind fun t => (eU p5).bind fun u => U (t, u, 2) else (ms p0 p2 p3).bind fun d => (if (p2.g_ == 99999) then U y else (idx p2.a_ d).bind fun v => (dZ p0 v.m_).bind fun f => U (decide (f > (J.wrap (999 - p4))))).bind fun w => if w then (gM p2).bind fun g => (eU p5).bind fun h => U (g, h, 3) else (gM p2).bind fun e => (idx p2.a_ d).bind fun i => (iK i).bind fun a => (iF p0 a.m_ p3 p4).bind fun c => if decide ((c.1.b_.length : Int) > 0) then if decide ((J.wrap (a.v_ + p4)) ≥ p1.K_) then fZ e d p5 a c p2 p0 p1 p6 0 y else fZ e d p5 a c p2 p0 p1 p6 (J.wrap (a.v_ + p4)) n else fZ e d p5 a c p2 p0 p1 p6 a.v_ n
noncomputable def ld (h : List bB) (a : bB × ak) (R1 : Int → Int → (List aG) → Int → (List bB) → Int → Option (ai × (List bB) × ak)) (i : Int) (c : Int) (d : Int) (e : List aG) (f : Int) : Option (ai × (List bB) × ak) :=
  (app h [a.1]).bind fun g => R1 c d e f g (J.wrap (i + 1))
noncomputable def dJ (p3 : Int) (p0b : List Int) (p1 : ae) (p2 : cq) (l : Int × ak) : Nat → Int → Int → (List aG) → Int → (List bB) → Int → Option (ai × (List bB) × ak)
  | 0, _, _, _, _, _, _ => N
  | k1 + 1, f, g, h, i, j, k =>
    if decide (k < p3) then (kS p0b (ak.mk f g) p1).bind fun a => (lr p0b a.2 8).bind fun d => (bA p0b d.2 ([1, 3, 7, 7] : List Int)).bind fun c => (kB p1 p2 (ai.mk h i) a.1 c.1 (bf.mk d.1 0) (J.wrap (1 + l.1))).bind fun e => ld j a (dJ p3 p0b p1 p2 l k1) k c.2.i_ c.2.h_ e.1.a_ e.1.g_ else U ((ai.mk h i), j, (ak.mk f g))
noncomputable def lk (p0b : List Int) (p0 : ak) (p1 : ae) (p2 : cq) (p3 : Int) : Option (ai × (List bB) × ak) :=
  (ii p0b p0 p1).bind fun c => (mn p1 c.1).bind fun d => (cj p0b c.2 (p1.f_.length : Int)).bind fun a => dJ p3 p0b p1 p2 a aY a.2.i_ a.2.h_ d.a_ d.g_ ([] : List bB) 0
noncomputable def iT (p0b : List Int) (p1 : ae) (d : cq × ak) (e : Int) (f : Int) (g : Int) : Option (ai × ak) :=
  (bA p0b (ak.mk e f) ([0, 2, 12, 40, 60] : List Int)).bind fun a => (lk p0b a.2 p1 ({ d.1 with F_ := g }) a.1).bind fun c => U (c.1, c.2.2)
noncomputable def lq (p0b : List Int) (p0 : ak) (p1 : ae) : Option (ai × ak) :=
  (lv p0b p0).bind fun d => (dS p0b d.2 3).bind fun a => if a.1 then (bA p0b a.2 ([62, 80, 120] : List Int)).bind fun c => iT p0b p1 d c.2.i_ c.2.h_ c.1 else iT p0b p1 d a.2.i_ a.2.h_ 2000
noncomputable def dC (p1 : ae) (c : Int) (R1 : (List au) → Int → Option (au × ak)) : Nat → (List au) → Int → Option (au × ak)
  | 0, _, _ => N
  | k2 + 1, d, a =>
    if decide (a < 4) then (gm p1 (au.mk c a)).bind fun e => if e then (app d ([(au.mk c a)] : List au)).bind fun f => (dC p1 c R1 k2) f (J.wrap (a + 1)) else (dC p1 c R1 k2) d (J.wrap (a + 1)) else R1 d (J.wrap (c + 1))
noncomputable def dp (p1 : ae) (p0 : ak) (p0b : List Int) : Nat → (List au) → Int → Option (au × ak)
  | 0, _, _ => N
  | k1 + 1, a, d =>
    if decide (d < (p1.f_.length : Int)) then dC p1 d (dp p1 p0 p0b k1) aY a (-1) else if ((a.length : Int) == 0) then U ((au.mk 0 0), p0) else (cj p0b p0 (a.length : Int)).bind fun c => (idx a c.1).bind fun e => U (e, c.2)
noncomputable def ml (p0b : List Int) (p0 : ak) (p1 : ae) : Option (au × ak) :=
  dp p1 p0 p0b aY ([] : List au) 0
noncomputable def nq (p0b : List Int) (p0 : ak) (p1 : ae) : Option (au × ak) :=
  (ml p0b p0 p1).bind fun c => (cj p0b c.2 10).bind fun a => if (a.1 == 0) then (bA p0b a.2 ([(-2), 1, 2, 3, 4, 9223372036854775807] : List Int)).bind fun d => U ((au.mk c.1.j_ d.1), d.2) else if (a.1 == 1) then (bA p0b a.2 ([(-1), 5, 4, 9223372036854775807] : List Int)).bind fun e => U ((au.mk e.1 c.1.c_), e.2) else U (c.1, a.2)
noncomputable def mf (p0b : List Int) (p0 : ak) (p1 : ae) : Option ((List Int) × ak) :=
  (ii p0b p0 p1).bind fun c => (cj p0b c.2 10).bind fun a => if (a.1 == 0) then (bA p0b a.2 ([0, 5, 4, (-1)] : List Int)).bind fun d => (app c.1 ([d.1] : List Int)).bind fun e => U (e, d.2) else if (a.1 == 1) then U (([] : List Int), a.2) else U (c.1, a.2)
noncomputable def eN (k : Int × ak) (p0b : List Int) (p1 : ae) : Nat → Int → Int → (List Int) → (List (List Int)) → Int → Option (ar × ak)
  | 0, _, _, _, _, _ => N
  | k1 + 1, f, g, a, c, h =>
    if decide (h < k.1) then (kS p0b (ak.mk f g) p1).bind fun i => (bA p0b i.2 ([1, 2, 7] : List Int)).bind fun d => (iF p1 (ar.mk a c) i.1 d.1).bind fun j => (eN k p0b p1 k1) d.2.i_ d.2.h_ j.1.d_ j.1.b_ (J.wrap (h + 1)) else (dS p0b (ak.mk f g) 8).bind fun e => if e.1 then (mR (ar.mk a c)).bind fun l => U (l, e.2) else U ((ar.mk a c), e.2)
noncomputable def my (p0b : List Int) (p0 : ak) (p1 : ae) : Option (ar × ak) :=
  (gK p1).bind fun c => (bA p0b p0 ([0, 1, 3, 12, 30, 60] : List Int)).bind fun a => eN a p0b p1 aY a.2.i_ a.2.h_ c.d_ c.b_ 0
noncomputable def nt (p0b : List Int) (p0 : ak) (p1 : ae) : Option (ar × ak) :=
  (my p0b p0 p1).bind fun a => (cj p0b a.2 14).bind fun c => if (c.1 == 0) then if decide ((a.1.d_.length : Int) > 0) then (bA p0b c.2 ([(-1), 999, 998, 1000, 9223372036854775807] : List Int)).bind fun d => (idx a.1.d_ 0).bind fun _ => U ((ar.mk (a.1.d_.set (0 : Int).toNat d.1) a.1.b_), d.2) else U (a.1, c.2) else if (c.1 == 1) then (app a.1.d_ ([0] : List Int)).bind fun h => U ((ar.mk h a.1.b_), c.2) else if (c.1 == 2) then (if decide ((a.1.b_.length : Int) > 0) then (idx a.1.b_ 0).bind fun i => U (decide ((i.length : Int) > 0)) else U n).bind fun j => if j then (idx a.1.b_ 0).bind fun e => (bA p0b c.2 ([(-1), 500, 1000] : List Int)).bind fun f => (idx e 0).bind fun _ => U ((ar.mk a.1.d_ (a.1.b_.set (0 : Int).toNat (e.set (0 : Int).toNat f.1))), f.2) else U (a.1, c.2) else if (c.1 == 3) then if decide ((a.1.b_.length : Int) > 0) then (idx a.1.b_ 0).bind fun k => (app k ([0] : List Int)).bind fun g => U ((ar.mk a.1.d_ (a.1.b_.set (0 : Int).toNat g)), c.2) else U (a.1, c.2) else U (a.1, c.2)
noncomputable def mF (p0b : List Int) (p0 : ak) (p1 : ae) : Option (ai × ak) :=
  (lq p0b p0 p1).bind fun a => if ((a.1.a_.length : Int) == 0) then U (a.1, a.2) else (cj p0b a.2 (a.1.a_.length : Int)).bind fun d => (cj p0b d.2 22).bind fun c => if (c.1 == 0) then (bA p0b c.2 ([(-1), 0, 99999, 100000] : List Int)).bind fun o => U ((ai.mk a.1.a_ o.1), o.2) else if (c.1 == 1) then (cj p0b c.2 8).bind fun p => (idx a.1.a_ d.1).bind fun C => U ((ai.mk (a.1.a_.set d.1.toNat ({ C with l_ := p.1 })) a.1.g_), p.2) else if (c.1 == 2) then (bA p0b c.2 ([(-1), 0, 1, d.1, 9223372036854775807] : List Int)).bind fun q => (idx a.1.a_ d.1).bind fun D => U ((ai.mk (a.1.a_.set d.1.toNat ({ D with p_ := q.1 })) a.1.g_), q.2) else if (c.1 == 3) then (idx a.1.a_ d.1).bind fun e => (bA p0b c.2 ([(-1), d.1, J.wrap (d.1 + 1), 40] : List Int)).bind fun f => (app e.t_ ([f.1] : List Int)).bind fun r => U ((ai.mk (a.1.a_.set d.1.toNat ({ e with t_ := r })) a.1.g_), f.2) else if (c.1 == 4) then (bA p0b c.2 ([(-1), 1, 2, 4] : List Int)).bind fun g => (idx a.1.a_ d.1).bind fun s => U ((ai.mk (a.1.a_.set d.1.toNat ({ s with x_ := g.1 })) a.1.g_), g.2) else if (c.1 == 5) then (bA p0b c.2 ([(-1), 1, 900, 9223372036854775807] : List Int)).bind fun h => (idx a.1.a_ d.1).bind fun t => U ((ai.mk (a.1.a_.set d.1.toNat ({ t with v_ := h.1 })) a.1.g_), h.2) else if (c.1 == 6) then (bA p0b c.2 ([(-1), 0, 1, a.1.g_, J.wrap (a.1.g_ + 1)] : List Int)).bind fun i => (idx a.1.a_ d.1).bind fun u => U ((ai.mk (a.1.a_.set d.1.toNat ({ u with q_ := i.1 })) a.1.g_), i.2) else if (c.1 == 7) then (idx a.1.a_ d.1).bind fun j => U ((ai.mk (a.1.a_.set d.1.toNat ({ j with s_ := (!j.s_) })) a.1.g_), c.2) else if (c.1 == 8) then (nq p0b c.2 p1).bind fun k => (idx a.1.a_ d.1).bind fun v => U ((ai.mk (a.1.a_.set d.1.toNat ({ v with k_ := k.1 })) a.1.g_), k.2) else if (c.1 == 9) then (mf p0b c.2 p1).bind fun l => (idx a.1.a_ d.1).bind fun w => U ((ai.mk (a.1.a_.set d.1.toNat ({ w with f_ := l.1 })) a.1.g_), l.2) else if (c.1 == 10) then (nt p0b c.2 p1).bind fun m => (idx a.1.a_ d.1).bind fun x => U ((ai.mk (a.1.a_.set d.1.toNat ({ x with m_ := m.1 })) a.1.g_), m.2) else if (c.1 == 11) then (sub a.1.a_ 0 (J.wrap ((a.1.a_.length : Int) - 1))).bind fun A => U ((ai.mk A a.1.g_), c.2) else U (a.1, c.2)
noncomputable def nL (p0b : List Int) (p0 : ak) : Option (ai × ak) :=
  (mq p0b p0).bind fun c => (dS p0b c.2 4).bind fun a => if a.1 then U ((ai.mk ([] : List aG) 0), a.2) else (mF p0b a.2 c.1).bind fun d => U (d.1, d.2)
noncomputable def jK (p0 : List Int) : Option (ai) :=
  (mV p0).bind fun a => (nL p0 a).bind fun c => U c.1
noncomputable def fG (p0 : Int) : Nat → Int → Int → Option (Int)
  | 0, _, _ => N
  | k1 + 1, a, c =>
    if decide (c < p0) then (fG p0 k1) (J.wrap (a * 2)) (J.wrap (c + 1)) else U a
noncomputable def jG (p0 : Int) : Option (Int) :=
  fG p0 aY 1 0
noncomputable def dD (e : Int × ak) (f : Int × ak) (p0b : List Int) (g : Int × ak) : Nat → Int → Int → (List Int) → Int → Option ((List Int) × ak)
  | 0, _, _, _, _ => N
  | k1 + 1, h, i, j, d =>
    if decide (d < e.1) then if decide (d < f.1) then (dS p0b (ak.mk h i) g.1).bind fun a => (io a.1).bind fun k => (app j ([k] : List Int)).bind fun l => (dD e f p0b g k1) a.2.i_ a.2.h_ l (J.wrap (d + 1)) else (dS p0b (ak.mk h i) 5).bind fun c => (io (!c.1)).bind fun m => (app j ([m] : List Int)).bind fun o => (dD e f p0b g k1) c.2.i_ c.2.h_ o (J.wrap (d + 1)) else U (j, (ak.mk h i))
noncomputable def ma (p0b : List Int) (p0 : ak) (p1 : Int) : Option ((List Int) × ak) :=
  (cj p0b p0 (J.wrap (p1 + 1))).bind fun c => (cj p0b c.2 (J.wrap (p1 + 1))).bind fun d => (bA p0b d.2 ([2, 8, 200] : List Int)).bind fun a => dD c d p0b a aY a.2.i_ a.2.h_ ([] : List Int) 0
noncomputable def gq (p0 : aE) : Nat → (List (List Int)) → Int → Option (aE)
  | 0, _, _ => N
  | k1 + 1, c, a =>
    if decide (a < (p0.o_.length : Int)) then (idx p0.o_ a).bind fun d => (app ([] : List Int) d).bind fun e => (app c [e]).bind fun f => (gq p0 k1) f (J.wrap (a + 1)) else U (aE.mk c)
noncomputable def mo (p0 : aE) : Option (aE) :=
  gq p0 aY ([] : List (List Int)) 0
noncomputable def fI (p0 : aE) (a : Int) (R1 : Int → Option (Bool)) : Nat → Int → Option (Bool)
  | 0, _ => N
  | k2 + 1, c =>
    (idx p0.o_ a).bind fun d => if decide (c < (d.length : Int)) then (idx p0.o_ a).bind fun e => (idx e c).bind fun f => (jG a).bind fun g => (bd f 0 g).bind fun h => if (!h) then U n else (fI p0 a R1 k2) (J.wrap (c + 1)) else R1 (J.wrap (a + 1))
noncomputable def cy (p0 : aE) : Nat → Int → Option (Bool)
  | 0, _ => N
  | k1 + 1, a =>
    if decide (a < (p0.o_.length : Int)) then (idx p0.o_ a).bind fun c => (bd (c.length : Int) 1 3).bind fun d => if (!d) then U n else fI p0 a (cy p0 k1) aY 0 else U y
noncomputable def lm (p0 : aE) : Option (Bool) :=
  if decide ((p0.o_.length : Int) > 8) then U n else cy p0 aY 0
noncomputable def ie (a : Int) (d : Int) (e : Int) (R1 : (List (List Int)) → Int → Option (aE × Bool)) (c : List (List Int)) : Option (aE × Bool) :=
  (idx c (J.wrap (a + 1))).bind fun f => (app f ([J.wrap (d + e)] : List Int)).bind fun g => R1 (c.set (J.wrap (a + 1)).toNat g) (J.wrap (a + 1))
noncomputable def cO  : Nat → (List (List Int)) → Int → Option (aE × Bool)
  | 0, _, _ => N
  | k1 + 1, c, a =>
    if decide (a < 8) then (if decide (a ≥ (c.length : Int)) then U y else (idx c a).bind fun i => U (decide ((i.length : Int) ≤ 3))).bind fun j => if j then U ((aE.mk c), y) else if (a == 7) then (idx c a).bind fun e => (sub e 1 (e.length : Int)).bind fun k => (app ([] : List Int) k).bind fun l => U ((aE.mk (c.set a.toNat l)), y) else (idx c a).bind fun d => (idx d 0).bind fun f => (idx d 1).bind fun g => (sub d 2 (d.length : Int)).bind fun m => (app ([] : List Int) m).bind fun h => if ((J.wrap (a + 1)) == (c.length : Int)) then (app (c.set a.toNat h) [([] : List Int)]).bind fun o => ie a f g (cO k1) o else ie a f g (cO k1) (c.set a.toNat h) else U ((aE.mk c), y)
noncomputable def ib (p1 : Int) (a : List (List Int)) : Option (aE × Bool) :=
  (idx a 0).bind fun c => (app c ([p1] : List Int)).bind fun d => cO aY (a.set (0 : Int).toNat d) 0
noncomputable def kD (p0 : aE) (p1 : Int) : Option (aE × Bool) :=
  (mo p0).bind fun a => (lm p0).bind fun d => (if (!d) then U y else (bd p1 0 1).bind fun e => U (!e)).bind fun f => if f then U (a, n) else if ((a.o_.length : Int) == 0) then (app a.o_ [([] : List Int)]).bind fun c => ib p1 c else ib p1 a.o_
noncomputable def ei (d : Int × ak) (a : Int) (p0b : List Int) (e : List (List Int)) (R1 : Int → Int → (List (List Int)) → Int → Option (aE × ak)) : Nat → Int → Int → (List Int) → Int → Option (aE × ak)
  | 0, _, _, _, _ => N
  | k2 + 1, f, g, h, i =>
    if decide (i < (J.wrap (1 + d.1))) then (jG a).bind fun k => (jG a).bind fun l => (cj p0b (ak.mk f g) (J.wrap (l + 1))).bind fun j => (bA p0b j.2 ([0, k, j.1] : List Int)).bind fun c => (app h ([c.1] : List Int)).bind fun m => (ei d a p0b e R1 k2) c.2.i_ c.2.h_ m (J.wrap (i + 1)) else (app e [h]).bind fun o => R1 f g o (J.wrap (a + 1))
noncomputable def dq (g : Int × ak) (p0b : List Int) : Nat → Int → Int → (List (List Int)) → Int → Option (aE × ak)
  | 0, _, _, _, _ => N
  | k1 + 1, c, d, e, f =>
    if decide (f < g.1) then (cj p0b (ak.mk c d) 3).bind fun a => ei a f p0b e (dq g p0b k1) aY a.2.i_ a.2.h_ ([] : List Int) 0 else U ((aE.mk e), (ak.mk c d))
noncomputable def eh (a : (List Int) × ak) : Nat → Int → (List (List Int)) → Option (aE × ak)
  | 0, _, _ => N
  | k3 + 1, c, d =>
    if decide (c < (a.1.length : Int)) then (idx a.1 c).bind fun e => (kD (aE.mk d) e).bind fun f => (eh a k3) (J.wrap (c + 1)) f.1.o_ else U ((aE.mk d), a.2)
noncomputable def lw (p0b : List Int) (p0 : ak) : Option (aE × ak) :=
  (dS p0b p0 5).bind fun a => if a.1 then (bA p0b a.2 ([1, 4, 7, 8] : List Int)).bind fun c => dq c p0b aY c.2.i_ c.2.h_ ([] : List (List Int)) 0 else (bA p0b a.2 ([0, 6, 30, 90] : List Int)).bind fun d => (ma p0b d.2 d.1).bind fun e => eh e aY 0 ([] : List (List Int))
noncomputable def gp (c : Int × ak) : Nat → (List (List Int)) → Option (aE × ak)
  | 0, _ => N
  | k1 + 1, a =>
    if decide ((a.length : Int) < 9) then (app a [([1] : List Int)]).bind fun d => (gp c k1) d else U ((aE.mk a), c.2)
noncomputable def mE (p0b : List Int) (p0 : ak) : Option (aE × ak) :=
  (lw p0b p0).bind fun c => (cj p0b c.2 12).bind fun a => if (a.1 == 0) then (app c.1.o_ [([] : List Int)]).bind fun g => U ((aE.mk g), a.2) else if (a.1 == 1) then if decide ((c.1.o_.length : Int) > 0) then (idx c.1.o_ 0).bind fun h => (bA p0b a.2 ([2, (-1), 1, 1] : List Int)).bind fun e => (app h ([e.1] : List Int)).bind fun i => U ((aE.mk (c.1.o_.set (0 : Int).toNat i)), e.2) else U (c.1, a.2) else if (a.1 == 2) then gp a aY c.1.o_ else if (a.1 == 3) then (bA p0b a.2 ([256, 257, 1, (-1)] : List Int)).bind fun d => (app c.1.o_ [([d.1] : List Int)]).bind fun f => U ((aE.mk f), d.2) else U (c.1, a.2)
noncomputable def ja (p0 : List Int) : Option (aE) :=
  (mV p0).bind fun c => (mE p0 c).bind fun a => (dS p0 a.2 8).bind fun d => if d.1 then (app a.1.o_ [([1000000001] : List Int)]).bind fun e => U (aE.mk e) else U a.1
noncomputable def bQ (p0 : Int) (p1 : Int) (p2 : Int) : Option (Bool) :=
  U ((decide (p0 ≥ p1)) && (decide (p0 ≤ p2)))
noncomputable def gS  : Nat → Int → (List Int) → Option ((List Int) × Bool)
  | 0, _, _ => N
  | k1 + 1, a, c =>
    if decide (a ≥ 128) then (app c ([K.wrap (el .or J (el .and J a 127) 128)] : List Int)).bind fun d => (gS k1) (rt J a 7) d else (app c ([K.wrap a] : List Int)).bind fun e => U (e, n)
noncomputable def lT (p0 : Int) : Option ((List Int) × Bool) :=
  (bQ p0 0 2147483647).bind fun a => if (!a) then U (([] : List Int), y) else gS aY p0 ([] : List Int)
noncomputable def nu (p0 : Int) : Option ((List Int) × Bool) :=
  (bQ p0 (-1000000000) 1000000000).bind fun d => if (!d) then U (([] : List Int), y) else if decide (p0 < 0) then (lT (J.wrap ((J.wrap ((-2) * p0)) - 1))).bind fun a => U (a.1, a.2) else (lT (J.wrap (2 * p0))).bind fun c => U (c.1, c.2)
noncomputable def ek (p1 : List Int) : Nat → (List Int) → Bool → Int → Option (bM)
  | 0, _, _, _ => N
  | k1 + 1, c, d, a =>
    if decide (a < (p1.length : Int)) then (idx p1 a).bind fun f => (nu f).bind fun e => (app c e.1).bind fun g => (ek p1 k1) g (d || e.2) (J.wrap (a + 1)) else U (bM.mk c d)
noncomputable def cN (p0 : bM) (p1 : List Int) : Option (bM) :=
  ek p1 aY p0.H_ p0.C_ 0
noncomputable def qP (p0 : Bool) : Option (Int) :=
  if p0 then U 1 else U 0
noncomputable def dF (p0 : bM) (p1 : List Int) : Option (bM) :=
  (cN p0 ([(p1.length : Int)] : List Int)).bind fun a => (cN a p1).bind fun c => U c
noncomputable def gh (a : aG) (R1 : (List Int) → Bool → Int → Option (bM)) (d : Int) : Nat → (List Int) → Bool → Int → Option (bM)
  | 0, _, _, _ => N
  | k2 + 1, e, f, c =>
    if decide (c < (a.m_.b_.length : Int)) then (idx a.m_.b_ c).bind fun i => (dF (bM.mk e f) i).bind fun g => (gh a R1 d k2) g.H_ g.C_ (J.wrap (c + 1)) else (cN (bM.mk e f) ([a.v_] : List Int)).bind fun j => (dF j a.f_).bind fun k => (cN k ([a.l_, a.p_, a.q_] : List Int)).bind fun h => R1 h.H_ h.C_ (J.wrap (d + 1))
noncomputable def cT (p1 : ai) : Nat → (List Int) → Bool → Int → Option (bM)
  | 0, _, _, _ => N
  | k1 + 1, d, e, c =>
    if decide (c < (p1.a_.length : Int)) then (idx p1.a_ c).bind fun a => (qP a.s_).bind fun g => (cN (bM.mk d e) ([g, a.k_.j_, a.k_.c_] : List Int)).bind fun h => (dF h a.t_).bind fun i => (cN i ([a.x_] : List Int)).bind fun j => (dF j a.m_.d_).bind fun k => (cN k ([(a.m_.b_.length : Int)] : List Int)).bind fun f => gh a (cT p1 k1) c aY f.H_ f.C_ 0 else U (bM.mk d e)
noncomputable def li (p0 : bM) (p1 : ai) : Option (bM) :=
  (cN p0 ([p1.g_, (p1.a_.length : Int)] : List Int)).bind fun a => cT p1 aY a.H_ a.C_ 0
noncomputable def iQ (p0 : bM) : Option (List Int) :=
  if p0.C_ then U ([] : List Int) else U p0.H_
noncomputable def mA (p0 : ai) : Option (List Int) :=
  (li (bM.mk ([] : List Int) n) p0).bind fun a => (iQ a).bind fun c => U c
noncomputable def fm (p1 : aE) : Nat → (List Int) → Bool → Int → Option (bM)
  | 0, _, _, _ => N
  | k1 + 1, c, d, a =>
    if decide (a < (p1.o_.length : Int)) then (idx p1.o_ a).bind fun f => (dF (bM.mk c d) f).bind fun e => (fm p1 k1) e.H_ e.C_ (J.wrap (a + 1)) else U (bM.mk c d)
noncomputable def kd (p0 : bM) (p1 : aE) : Option (bM) :=
  (cN p0 ([(p1.o_.length : Int)] : List Int)).bind fun a => fm p1 aY a.H_ a.C_ 0
noncomputable def kz (p0 : aE) : Option (List Int) :=
  (kd (bM.mk ([] : List Int) n) p0).bind fun a => (iQ a).bind fun c => U c
noncomputable def jh (p0 : List Int) : Nat → Int → Option (Bool)
  | 0, _ => N
  | k1 + 1, a =>
    if decide (a < (p0.length : Int)) then (idx p0 a).bind fun c => (bd c (-1000000000) 1000000000).bind fun d => if (!d) then U n else (jh p0 k1) (J.wrap (a + 1)) else U y
noncomputable def eY (p0 : List Int) : Option (Bool) :=
  jh p0 aY 0
noncomputable def gW  : Nat → Int → (List Int) → Option (List Int)
  | 0, _, _ => N
  | k1 + 1, a, c =>
    if decide (a > 127) then (app c ([K.wrap (J.wrap ((Int.tmod a 128) + 128))] : List Int)).bind fun d => (gW k1) (J.wrap (Int.tdiv a 128)) d else (app c ([K.wrap a] : List Int)).bind fun e => U e
noncomputable def lV (p0 : Int) : Option (List Int) :=
  (bd p0 0 2147483647).bind fun a => if (!a) then U ([] : List Int) else gW aY p0 ([] : List Int)
noncomputable def dU (p0 : Int) : Option (List Int) :=
  (bd p0 (-1000000000) 1000000000).bind fun a => if (!a) then U ([] : List Int) else if decide (p0 < 0) then (lV (J.wrap ((J.wrap (0 - (J.wrap (2 * p0)))) - 1))).bind fun c => U c else (lV (J.wrap (2 * p0))).bind fun d => U d
noncomputable def fg (p0 : aG) : Nat → Int → Option (Bool)
  | 0, _ => N
  | k1 + 1, a =>
    if decide (a < (p0.m_.b_.length : Int)) then (idx p0.m_.b_ a).bind fun c => (eY c).bind fun d => if (!d) then U n else (fg p0 k1) (J.wrap (a + 1)) else U y
noncomputable def jS (p0 : aG) : Option (Bool) :=
  (eY ([p0.k_.j_, p0.k_.c_, p0.x_, p0.v_, p0.l_, p0.p_, p0.q_] : List Int)).bind fun a => (if (!a) then U y else (eY p0.t_).bind fun c => U (!c)).bind fun d => (if d then U y else (eY p0.f_).bind fun e => U (!e)).bind fun f => (if f then U y else (eY p0.m_.d_).bind fun g => U (!g)).bind fun h => if h then U n else fg p0 aY 0
noncomputable def ij (p0 : List Int) : Nat → (List Int) → Int → Option (List Int)
  | 0, _, _ => N
  | k1 + 1, c, a =>
    if decide (a < (p0.length : Int)) then (idx p0 a).bind fun d => (dU d).bind fun e => (app c e).bind fun f => (ij p0 k1) f (J.wrap (a + 1)) else U c
noncomputable def iy (p0 : List Int) : Option (List Int) :=
  (eY p0).bind fun a => if (!a) then U ([] : List Int) else (dU (p0.length : Int)).bind fun c => ij p0 aY c 0
noncomputable def gk (p0 : List (List Int)) : Nat → (List Int) → Int → Option (List Int)
  | 0, _, _ => N
  | k1 + 1, c, a =>
    if decide (a < (p0.length : Int)) then (idx p0 a).bind fun d => (iy d).bind fun e => (app c e).bind fun f => (gk p0 k1) f (J.wrap (a + 1)) else U c
noncomputable def gH (p0 : List (List Int)) : Option (List Int) :=
  (dU (p0.length : Int)).bind fun a => gk p0 aY a 0
noncomputable def ke (p0 : aG) : Option (List Int) :=
  (io p0.s_).bind fun r => (dU r).bind fun s => (dU p0.k_.j_).bind fun t => (app s t).bind fun u => (dU p0.k_.c_).bind fun v => (app u v).bind fun w => (iy p0.t_).bind fun x => (app w x).bind fun A => (dU p0.x_).bind fun C => (app A C).bind fun a => (iy p0.m_.d_).bind fun c => (app a c).bind fun d => (gH p0.m_.b_).bind fun e => (app d e).bind fun f => (dU p0.v_).bind fun g => (app f g).bind fun h => (iy p0.f_).bind fun i => (app h i).bind fun j => (dU p0.l_).bind fun k => (app j k).bind fun l => (dU p0.p_).bind fun m => (app l m).bind fun o => (dU p0.q_).bind fun p => (app o p).bind fun q => U q
noncomputable def jl (p0 : ai) : Nat → (List Int) → Int → Option (List Int)
  | 0, _, _ => N
  | k1 + 1, c, a =>
    if decide (a < (p0.a_.length : Int)) then (idx p0.a_ a).bind fun d => (jS d).bind fun e => if (!e) then U ([] : List Int) else (idx p0.a_ a).bind fun f => (ke f).bind fun g => (app c g).bind fun h => (jl p0 k1) h (J.wrap (a + 1)) else U c
noncomputable def mr (p0 : ai) : Option (List Int) :=
  (eY ([p0.g_] : List Int)).bind fun a => if (!a) then U ([] : List Int) else (dU p0.g_).bind fun c => (dU (p0.a_.length : Int)).bind fun d => (app c d).bind fun e => jl p0 aY e 0
noncomputable def gV (p1 : Int) (p0 : List Int) : Nat → Int → Int → Option (Int × Int × Bool)
  | 0, _, _ => N
  | k1 + 1, c, a =>
    if (((decide (a < 5)) && (decide ((J.wrap (p1 + a)) ≥ 0))) && (decide ((J.wrap (p1 + a)) < (p0.length : Int)))) then (idx p0 (J.wrap (p1 + a))).bind fun d => (shl J (el .and J (J.wrap d) 127) (J.wrap (7 * a))).bind fun e => if decide ((J.wrap d) ≥ 128) then (gV p1 p0 k1) (el .or J c e) (J.wrap (a + 1)) else if ((((J.wrap d) == 0) && (decide (a > 0))) || (decide ((el .or J c e) > 2147483647))) then U (0, 0, n) else U (el .or J c e, J.wrap ((J.wrap (p1 + a)) + 1), y) else U (0, 0, n)
noncomputable def ng (p0 : List Int) (p1 : Int) : Option (Int × Int × Bool) :=
  if decide (p1 < 0) then U (0, 0, n) else gV p1 p0 aY 0 0
noncomputable def jN (a : Int × Int × Bool) (c : Int) : Option (Int × Int × Bool) :=
  (if (!a.2.2) then U y else (bQ c (-1000000000) 1000000000).bind fun d => U (!d)).bind fun e => if e then U (0, 0, n) else U (c, a.2.1, y)
noncomputable def kJ (p0 : List Int) (p1 : Int) : Option (Int × Int × Bool) :=
  (ng p0 p1).bind fun a => if ((Int.tmod a.1 2) == 1) then jN a (J.wrap ((J.wrap (0 - (J.wrap (Int.tdiv a.1 2)))) - 1)) else jN a (J.wrap (Int.tdiv a.1 2))
noncomputable def bH (p0b : List Int) (p0 : aF) : Option (Int × aF) :=
  if p0.C_ then U (0, p0) else (kJ p0b p0.e_).bind fun a => if (!a.2.2) then U (0, (aF.mk p0.e_ y)) else U (a.1, (aF.mk a.2.1 p0.C_))
noncomputable def du (p0b : List Int) (p0 : aF) : Option (Int × aF) :=
  (bH p0b p0).bind fun a => if ((decide (a.1 < 0)) || (decide (a.1 > (J.wrap ((p0b.length : Int) - a.2.e_))))) then U (0, (aF.mk a.2.e_ y)) else U (a.1, a.2)
noncomputable def iO (p0b : List Int) (p0 : aF) : Option (Bool × aF) :=
  (bH p0b p0).bind fun a => U ((a.1 == 1), (aF.mk a.2.e_ (a.2.C_ || ((a.1 != 0) && (a.1 != 1)))))
noncomputable def gi (p0b : List Int) : Nat → Int → Bool → (List Int) → Int → Option ((List Int) × aF)
  | 0, _, _, _, _ => N
  | k1 + 1, d, a, e, f =>
    if ((decide (f > 0)) && (!a)) then (bH p0b (aF.mk d a)).bind fun c => (app e ([c.1] : List Int)).bind fun g => (gi p0b k1) c.2.e_ c.2.C_ g (J.wrap (f - 1)) else U (e, (aF.mk d a))
noncomputable def cP (p0b : List Int) (p0 : aF) : Option ((List Int) × aF) :=
  (du p0b p0).bind fun a => gi p0b aY a.2.e_ a.2.C_ ([] : List Int) a.1
noncomputable def ff (p0b : List Int) (e : List aG) (f : Bool × aF) (g : Int × aF) (h : Int × aF) (i : (List Int) × aF) (j : Int × aF) (k : (List Int) × aF) (R1 : Int → Bool → (List aG) → Int → Option (ai × aF)) (l : Int) : Nat → Int → Bool → (List (List Int)) → Int → Option (ai × aF)
  | 0, _, _, _, _ => N
  | k2 + 1, m, a, o, p =>
    if ((decide (p > 0)) && (!a)) then (cP p0b (aF.mk m a)).bind fun c => (app o [c.1]).bind fun u => (ff p0b e f g h i j k R1 l k2) c.2.e_ c.2.C_ u (J.wrap (p - 1)) else (bH p0b (aF.mk m a)).bind fun q => (cP p0b q.2).bind fun r => (bH p0b r.2).bind fun s => (bH p0b s.2).bind fun t => (bH p0b t.2).bind fun d => (app e [(aG.mk f.1 (au.mk g.1 h.1) i.1 j.1 (ar.mk k.1 o) q.1 r.1 s.1 t.1 d.1)]).bind fun v => R1 d.2.e_ d.2.C_ v (J.wrap (l - 1))
noncomputable def cU (p0b : List Int) (m : Int × aF) : Nat → Int → Bool → (List aG) → Int → Option (ai × aF)
  | 0, _, _, _, _ => N
  | k1 + 1, d, a, e, f =>
    if ((decide (f > 0)) && (!a)) then (iO p0b (aF.mk d a)).bind fun g => (bH p0b g.2).bind fun h => (bH p0b h.2).bind fun i => (cP p0b i.2).bind fun j => (bH p0b j.2).bind fun k => (cP p0b k.2).bind fun l => (du p0b l.2).bind fun c => ff p0b e g h i j k l (cU p0b m k1) f aY c.2.e_ c.2.C_ ([] : List (List Int)) c.1 else U ((ai.mk e m.1), (aF.mk d a))
noncomputable def iR (p0b : List Int) (p0 : aF) : Option (ai × aF) :=
  (bH p0b p0).bind fun c => (du p0b c.2).bind fun a => cU p0b c aY a.2.e_ a.2.C_ ([] : List aG) a.1
noncomputable def lh (p0 : List Int) (p1 : Int) : Option (ai × Int × Bool) :=
  (iR p0 (aF.mk p1 n)).bind fun a => if a.2.C_ then U ((ai.mk ([] : List aG) 0), 0, n) else U (a.1, a.2.e_, y)
noncomputable def eF (p0 : List Int) (p1 : List Int) : Nat → Int → Option (Bool)
  | 0, _ => N
  | k1 + 1, a =>
    if decide (a < (p0.length : Int)) then (idx p0 a).bind fun c => (idx p1 a).bind fun d => if (c != d) then U n else (eF p0 p1 k1) (J.wrap (a + 1)) else U y
noncomputable def fx (p0 : List Int) (p1 : List Int) : Option (Bool) :=
  if ((p0.length : Int) != (p1.length : Int)) then U n else eF p0 p1 aY 0
noncomputable def dN (p0 : ar) (p1 : ar) : Nat → Int → Option (Bool)
  | 0, _ => N
  | k1 + 1, a =>
    if decide (a < (p0.b_.length : Int)) then (idx p0.b_ a).bind fun c => (idx p1.b_ a).bind fun d => (fx c d).bind fun e => if (!e) then U n else (dN p0 p1 k1) (J.wrap (a + 1)) else U y
noncomputable def kx (p0 : ar) (p1 : ar) : Option (Bool) :=
  (fx p0.d_ p1.d_).bind fun a => if ((!a) || ((p0.b_.length : Int) != (p1.b_.length : Int))) then U n else dN p0 p1 aY 0
noncomputable def ls (p0 : aG) (p1 : aG) : Option (Bool) :=
  (if ((p0.s_ == p1.s_) && (p0.k_.j_ == p1.k_.j_ && (p0.k_.c_ == p1.k_.c_ && y))) then (fx p0.t_ p1.t_).bind fun a => U a else U n).bind fun c => (if (c && (p0.x_ == p1.x_)) then (kx p0.m_ p1.m_).bind fun d => U d else U n).bind fun e => (if (e && (p0.v_ == p1.v_)) then (fx p0.f_ p1.f_).bind fun f => U f else U n).bind fun g => U (((g && (p0.l_ == p1.l_)) && (p0.p_ == p1.p_)) && (p0.q_ == p1.q_))
noncomputable def eg (p0 : ai) (p1 : ai) : Nat → Int → Option (Bool)
  | 0, _ => N
  | k1 + 1, a =>
    if decide (a < (p0.a_.length : Int)) then (idx p0.a_ a).bind fun c => (idx p1.a_ a).bind fun d => (ls c d).bind fun e => if (!e) then U n else (eg p0 p1 k1) (J.wrap (a + 1)) else U y
noncomputable def ly (p0 : ai) (p1 : ai) : Option (Bool) :=
  if (((p0.a_.length : Int) != (p1.a_.length : Int)) || (p0.g_ != p1.g_)) then U n else eg p0 p1 aY 0
noncomputable def hZ (p0 : aE) : Nat → Int → Option (List Int)
  | 0, _ => N
  | k1 + 1, a =>
    if decide (a < (p0.o_.length : Int)) then (idx p0.o_ a).bind fun c => (eY c).bind fun d => if (!d) then U ([] : List Int) else (hZ p0 k1) (J.wrap (a + 1)) else (gH p0.o_).bind fun e => U e
noncomputable def kI (p0 : aE) : Option (List Int) :=
  hZ p0 aY 0
noncomputable def dy (p0b : List Int) : Nat → Int → Bool → (List (List Int)) → Int → Option (aE × aF)
  | 0, _, _, _, _ => N
  | k1 + 1, d, c, e, f =>
    if ((decide (f > 0)) && (!c)) then (cP p0b (aF.mk d c)).bind fun a => (app e [a.1]).bind fun g => (dy p0b k1) a.2.e_ a.2.C_ g (J.wrap (f - 1)) else U ((aE.mk e), (aF.mk d c))
noncomputable def fD (p0b : List Int) (p0 : aF) : Option (aE × aF) :=
  (du p0b p0).bind fun a => dy p0b aY a.2.e_ a.2.C_ ([] : List (List Int)) a.1
noncomputable def kM (p0 : List Int) (p1 : Int) : Option (aE × Int × Bool) :=
  (fD p0 (aF.mk p1 n)).bind fun a => if a.2.C_ then U ((aE.mk ([] : List (List Int))), 0, n) else U (a.1, a.2.e_, y)
noncomputable def dw (p0 : aE) (p1 : aE) : Nat → Int → Option (Bool)
  | 0, _ => N
  | k1 + 1, a =>
    if decide (a < (p0.o_.length : Int)) then (idx p0.o_ a).bind fun c => (idx p1.o_ a).bind fun d => (fx c d).bind fun e => if (!e) then U n else (dw p0 p1 k1) (J.wrap (a + 1)) else U y
noncomputable def kh (p0 : aE) (p1 : aE) : Option (Bool) :=
  if ((p0.o_.length : Int) != (p1.o_.length : Int)) then U n else dw p0 p1 aY 0
noncomputable def gd (c : aE) (g : List Int) (d : List Int) (h : Int) : Option (Bool) :=
  (kI c).bind fun i => if ((i.length : Int) == 0) then U ((g.length : Int) == 0) else (kM d h).bind fun a => (if a.2.2 then (kh a.1 c).bind fun e => U e else U n).bind fun f => U (f && (a.2.1 == (d.length : Int)))
noncomputable def kX (p0 : List Int) : Option (Bool) :=
  (sh p0).bind fun k => if k then U y else (jK p0).bind fun c => (ja p0).bind fun d => (mA c).bind fun e => (kz d).bind fun f => (app ([5] : List Int) e).bind fun l => (app l f).bind fun g => (mr c).bind fun h => if decide ((h.length : Int) > 0) then (lh g 1).bind fun a => (if (!a.2.2) then U y else (ly a.1 c).bind fun i => U (!i)).bind fun j => if (j || (a.2.1 != (J.wrap (1 + (e.length : Int))))) then U n else gd d f g a.2.1 else if decide ((e.length : Int) > 0) then U n else gd d f g 1
end Go.Vk
