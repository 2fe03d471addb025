/- The functions of the code, as functions of data. Printed by program. -/
import Derived.Test.YtckmlpmehdpmiaaGreatDoorVkCu
import Derived.Test.YtckmlpmehdpmiaaGreatDoorVkBr
namespace Go.Vk
open Value renaming int → I, slice → S, pointer → O, bool → B
open IntKind renaming i64 → J, u8 → K
open Bool renaming true → y, false → n
open Option renaming some → U, none → N
theorem z {α : Sort _} {a : α} : a = a := Eq.refl a
theorem Y : True := True.intro
structure ap where
  D_ : List UInt8
  w_ : List Int
  F_ : List (List UInt8)
  deriving DecidableEq, Inhabited
structure aj where
  d_ : List ap
  f_ : List (List UInt8)
  deriving DecidableEq, Inhabited
structure bw where
  M_ : Int
  N_ : Int
  L_ : Int
  h_ : Int
  e_ : Int
  E_ : Int
  Q_ : Bool
  deriving DecidableEq, Inhabited
structure aR where
  g_ : aj
  b_ : bw
  j_ : Int
  O_ : Int
  P_ : Int
  s_ : Int
  r_ : Int
  deriving DecidableEq, Inhabited
structure bD where
  t_ : Int
  u_ : Int
  deriving DecidableEq, Inhabited
structure bl where
  q_ : List Int
  k_ : List (List Int)
  deriving DecidableEq, Inhabited
structure az where
  B_ : Bool
  i_ : bD
  v_ : List Int
  I_ : Int
  l_ : bl
  J_ : Int
  d_ : List Int
  h_ : Int
  A_ : Int
  G_ : Int
  deriving DecidableEq, Inhabited
structure ax where
  e_ : List az
  y_ : Int
  deriving DecidableEq, Inhabited
structure aJ where
  p_ : List (List Int)
  deriving DecidableEq, Inhabited
structure dg where
  s_ : aJ
  r_ : aJ
  deriving DecidableEq, Inhabited
structure au where
  H_ : ax
  T_ : Bool
  x_ : ax
  K_ : dg
  deriving DecidableEq, Inhabited
structure be where
  j_ : List au
  deriving DecidableEq, Inhabited
structure aC where
  R_ : Int
  S_ : Int
  deriving DecidableEq, Inhabited
structure aZ where
  o_ : List (List Int)
  n_ : List aC
  deriving DecidableEq, Inhabited
structure ao where
  a_ : aR
  z_ : be
  m_ : aZ
  deriving DecidableEq, Inhabited
structure ak where
  c_ : Int
  C_ : Bool
  deriving DecidableEq, Inhabited
structure ck where
  U_ : List Int
  C_ : Bool
  deriving DecidableEq, Inhabited
noncomputable def lX (p0 : List Int) : Nat → (List Int) → Int → Option (List Int)
  | 0, _, _ => N
  | e + 1, c, a =>
    if decide (a < (p0.length : Int)) then (idx p0 a).bind fun d => (idx c a).bind fun _ => (lX p0 e) (c.set a.toNat d) (J.wrap (a + 1)) else U c
noncomputable def kg (p0 : List Int) : Option (List Int) :=
  (mk (0 : Int) (p0.length : Int)).bind fun a => lX p0 aI a 0
noncomputable def ll (e : Int → Int → Option (Int)) (c : Int) : Nat → Int → Int → Option (Int)
  | 0, _, _ => N
  | f + 1, a, d =>
    if decide (d < 8) then if ((Int.tmod a 2) == 1) then (ll e c f) (eK .xor J (J.wrap (Int.tdiv a 2)) 3988292384) (J.wrap (d + 1)) else (ll e c f) (J.wrap (Int.tdiv a 2)) (J.wrap (d + 1)) else e a (J.wrap (c + 1))
noncomputable def jX (p0 : List Int) : Nat → Int → Int → Option (Int)
  | 0, _, _ => N
  | e + 1, c, a =>
    if decide (a < (p0.length : Int)) then (idx p0 a).bind fun d => ll (jX p0 e) a aI (eK .xor J c (J.wrap d)) 0 else U (eK .xor J c 4294967295)
noncomputable def yo (p0 : List Int) : Option (Int) :=
  jX p0 aI 4294967295 0
noncomputable def fZ (p0 : List Int) : Option (List Int) :=
  (yo p0).bind fun a => U ([K.wrap (J.wrap (Int.tdiv a 16777216)), K.wrap (Int.tmod (J.wrap (Int.tdiv a 65536)) 256), K.wrap (Int.tmod (J.wrap (Int.tdiv a 256)) 256), K.wrap (Int.tmod a 256)] : List Int)
noncomputable def dT (p1 : Int) (p0 : List Int) : Nat → Int → Int → Option (Int × Int × Bool)
  | 0, _, _ => N
  | f + 1, c, a =>
    if decide (a < 5) then if ((decide (p1 < 0)) || (decide (p1 ≥ (J.wrap ((p0.length : Int) - a))))) then U (0, 0, n) else (idx p0 (J.wrap (p1 + a))).bind fun d => (shl J (Int.tmod (J.wrap d) 128) (J.wrap (7 * a))).bind fun e => if decide ((J.wrap d) < 128) then if (((decide (a > 0)) && ((J.wrap d) == 0)) || (decide ((eK .or J c e) > 2147483647))) then U (0, 0, n) else U (eK .or J c e, J.wrap ((J.wrap (p1 + a)) + 1), y) else (dT p1 p0 f) (eK .or J c e) (J.wrap (a + 1)) else U (0, 0, n)
noncomputable def lc (p0 : List Int) (p1 : Int) : Option (Int × Int × Bool) :=
  dT p1 p0 aI 0 0
noncomputable def jZ (p0 : List Int) (p1 : Int) : Option ((List UInt8) × Int × Bool) :=
  (lc p0 p1).bind fun a => if ((!a.2.2) || (decide (a.1 > (J.wrap ((p0.length : Int) - a.2.1))))) then U (([] : List UInt8), 0, n) else (sub p0 a.2.1 (J.wrap (a.2.1 + a.1))).bind fun c => U (dw c, J.wrap (a.2.1 + a.1), y)
noncomputable def ir (p0 : List UInt8) (p1 : Int) : Nat → (List (List UInt8)) → Int → Int → Option (List (List UInt8))
  | 0, _, _, _ => N
  | e + 1, c, d, a =>
    if decide (a ≤ (p0.length : Int)) then (if (a == (p0.length : Int)) then U y else (idx p0 a).bind fun f => U ((f.toNat : Int) == p1)).bind fun f => if f then (sub p0 d a).bind fun f => (app c ([f] : List (List UInt8))).bind fun f => (ir p0 p1 e) f (J.wrap (a + 1)) (J.wrap (a + 1)) else (ir p0 p1 e) c d (J.wrap (a + 1)) else U c
noncomputable def gB (p0 : List UInt8) (p1 : Int) : Option (List (List UInt8)) :=
  ir p0 p1 aI ([] : List (List UInt8)) 0 0
noncomputable def jx (a : List UInt8) (e : Int → (List UInt8) → Option (List UInt8)) (c : Int) (d : Int) : Option (List UInt8) :=
  (mB (dw ([K.wrap (J.wrap (48 + d))] : List Int)) a).bind fun a => e (J.wrap (Int.tdiv c 10)) a
noncomputable def dO (p0 : Int) : Nat → Int → (List UInt8) → Option (List UInt8)
  | 0, _, _ => N
  | d + 1, a, c =>
    if (a != 0) then if decide ((Int.tmod a 10) < 0) then jx c (dO p0 d) a (J.wrap (0 - (Int.tmod a 10))) else jx c (dO p0 d) a (Int.tmod a 10) else if decide (p0 < 0) then (mB ([45] : List UInt8) c).bind fun a => U a else U c
noncomputable def oN (p0 : Int) : Option (List UInt8) :=
  if (p0 == 0) then U ([48] : List UInt8) else dO p0 aI p0 ([] : List UInt8)
noncomputable def ep (p0 : List UInt8) : Nat → Int → Int → Option (Int × Bool)
  | 0, _, _ => N
  | e + 1, c, a =>
    if decide (a < (p0.length : Int)) then (idx p0 a).bind fun d => (if decide ((d.toNat : Int) < 48) then U y else (idx p0 a).bind fun d => U (decide ((d.toNat : Int) > 57))).bind fun d => if d then U (0, n) else (idx p0 a).bind fun d => (ep p0 e) (J.wrap ((J.wrap ((J.wrap (10 * c)) + (J.wrap (d.toNat : Int)))) - 48)) (J.wrap (a + 1)) else (oN c).bind fun a => if (!(a == p0)) then U (0, n) else U (c, y)
noncomputable def lh (p0 : List UInt8) : Option (Int × Bool) :=
  if ((decide ((p0.length : Int) < 1)) || (decide ((p0.length : Int) > 6))) then U (0, n) else ep p0 aI 0 0
noncomputable def lg (p0 : List UInt8) : Option (Int × Bool) :=
  if ((decide ((p0.length : Int) < 1)) || (decide ((p0.length : Int) > 5))) then U (0, n) else (idx p0 0).bind fun a => if ((a.toNat : Int) != 45) then (lh p0).bind fun a => if ((!a.2) || (decide (a.1 > 9999))) then U (0, n) else U (a.1, y) else (sub p0 1 (p0.length : Int)).bind fun a => (lh a).bind fun a => if (((!a.2) || (decide (a.1 < 1))) || (decide (a.1 > 9999))) then U (0, n) else U (J.wrap (0 - a.1), y)
noncomputable def ba (p0 : Int) (p1 : Int) (a : Int) : Option (Bool) :=
  U ((decide (p0 ≥ p1)) && (decide (p0 ≤ a)))
noncomputable def kE (p0 : List UInt8) : Nat → Int → Option (Bool)
  | 0, _ => N
  | d + 1, a =>
    if decide (a < (p0.length : Int)) then (idx p0 a).bind fun c => (if decide ((c.toNat : Int) < 97) then U y else (idx p0 a).bind fun c => U (decide ((c.toNat : Int) > 122))).bind fun c => if c then U n else (kE p0 d) (J.wrap (a + 1)) else U y
noncomputable def oJ (p0 : List UInt8) : Option (Bool) :=
  (ba (p0.length : Int) 1 8).bind fun a => if (!a) then U n else kE p0 aI 0
noncomputable def gO (a : Int) (p0 : List (List UInt8)) (d : Int → Option (Bool)) : Nat → Int → Option (Bool)
  | 0, _ => N
  | g + 1, c =>
    if decide (c < a) then (idx p0 a).bind fun e => (idx p0 c).bind fun f => if (e == f) then U n else (gO a p0 d g) (J.wrap (c + 1)) else d (J.wrap (a + 1))
noncomputable def fi (p0 : List (List UInt8)) : Nat → Int → Option (Bool)
  | 0, _ => N
  | d + 1, a =>
    if decide (a < (p0.length : Int)) then (idx p0 a).bind fun c => (oJ c).bind fun c => if (!c) then U n else gO a p0 (fi p0 d) aI 0 else U y
noncomputable def nD (p0 : List (List UInt8)) : Option (Bool) :=
  fi p0 aI 0
noncomputable def ju (p0 : ap) : Nat → Int → Option (Bool)
  | 0, _ => N
  | e + 1, a =>
    if decide (a < (p0.w_.length : Int)) then (idx p0.w_ a).bind fun c => (ba c (-9999) 9998).bind fun c => (if (!c) then U y else (if decide (a > 0) then (idx p0.w_ a).bind fun c => (idx p0.w_ (J.wrap (a - 1))).bind fun d => U (decide (c ≤ d)) else U n).bind fun c => U c).bind fun c => if c then U n else (ju p0 e) (J.wrap (a + 1)) else U y
noncomputable def jY (p0 : ap) : Option (Bool) :=
  (oJ p0.D_).bind fun a => if (!a) then U n else if ((p0.w_.length : Int) == 0) then (ba (p0.F_.length : Int) 2 4).bind fun a => (if a then (nD p0.F_).bind fun a => U a else U n).bind fun a => U a else if ((decide ((p0.F_.length : Int) > 0)) || (decide ((p0.w_.length : Int) > 3))) then U n else ju p0 aI 0
noncomputable def kW (p0 : List (List UInt8)) (a : Int) (e : (List UInt8) → Int → Option (List UInt8)) (c : List UInt8) : Option (List UInt8) :=
  (idx p0 a).bind fun d => (mB c d).bind fun c => e c (J.wrap (a + 1))
noncomputable def dX (p0 : List (List UInt8)) (p1 : List UInt8) : Nat → (List UInt8) → Int → Option (List UInt8)
  | 0, _, _ => N
  | d + 1, c, a =>
    if decide (a < (p0.length : Int)) then if decide (a > 0) then (mB c p1).bind fun e => kW p0 a (dX p0 p1 d) e else kW p0 a (dX p0 p1 d) c else U c
noncomputable def iy (p0 : List (List UInt8)) (p1 : List UInt8) : Option (List UInt8) :=
  dX p0 p1 aI ([] : List UInt8) 0
noncomputable def ft (p0 : ap) : Nat → (List (List UInt8)) → Int → Option (List UInt8)
  | 0, _, _ => N
  | e + 1, c, a =>
    if decide (a < (p0.w_.length : Int)) then (idx p0.w_ a).bind fun d => (oN d).bind fun d => (app c ([d] : List (List UInt8))).bind fun d => (ft p0 e) d (J.wrap (a + 1)) else (mB p0.D_ ([58] : List UInt8)).bind fun a => (iy c ([44] : List UInt8)).bind fun c => (mB a c).bind fun a => U a
noncomputable def jd (p0 : ap) : Option (List UInt8) :=
  (jY p0).bind fun a => if (!a) then U ([] : List UInt8) else if decide ((p0.F_.length : Int) > 0) then (mB p0.D_ ([61] : List UInt8)).bind fun a => (iy p0.F_ ([44] : List UInt8)).bind fun c => (mB a c).bind fun a => U a else ft p0 aI ([] : List (List UInt8)) 0
noncomputable def gp (p0 : List UInt8) (a : List UInt8) (c : List Int) (d : List (List UInt8)) : Option (ap × Bool) :=
  (jY (ap.mk a c d)).bind fun e => (if (!e) then U y else (jd (ap.mk a c d)).bind fun e => U (!(e == p0))).bind fun e => if e then U ((ap.mk ([] : List UInt8) ([] : List Int) ([] : List (List UInt8))), n) else U ((ap.mk a c d), y)
noncomputable def cY (a : List (List UInt8)) (p0 : List UInt8) (d : List UInt8) : Nat → (List Int) → Int → Option (ap × Bool)
  | 0, _, _ => N
  | g + 1, e, c =>
    if decide (c < (a.length : Int)) then (idx a c).bind fun f => (lg f).bind fun f => if (!f.2) then U ((ap.mk ([] : List UInt8) ([] : List Int) ([] : List (List UInt8))), n) else (app e ([f.1] : List Int)).bind fun f => (cY a p0 d g) f (J.wrap (c + 1)) else gp p0 d e ([] : List (List UInt8))
noncomputable def lm (p0 : List UInt8) : Option (ap × Bool) :=
  (gB p0 61).bind fun a => (gB p0 58).bind fun c => if ((a.length : Int) == 2) then (idx a 0).bind fun d => (idx a 1).bind fun a => (gB a 44).bind fun a => gp p0 d ([] : List Int) a else if ((c.length : Int) == 2) then (idx c 0).bind fun a => (idx c 1).bind fun c => (gB c 44).bind fun c => cY c p0 a aI ([] : List Int) 0 else gp p0 ([] : List UInt8) ([] : List Int) ([] : List (List UInt8))
noncomputable def ga (a : Int) (p0 : aj) (f : Int → Option (Bool)) : Nat → Int → Option (Bool)
  | 0, _ => N
  | g + 1, c =>
    if decide (c < a) then (idx p0.d_ a).bind fun d => (idx p0.d_ c).bind fun e => if (d.D_ == e.D_) then U n else (ga a p0 f g) (J.wrap (c + 1)) else f (J.wrap (a + 1))
noncomputable def dV (p0 : aj) : Nat → Int → Option (Bool)
  | 0, _ => N
  | d + 1, a =>
    if decide (a < (p0.d_.length : Int)) then (idx p0.d_ a).bind fun c => (jY c).bind fun c => if (!c) then U n else ga a p0 (dV p0 d) aI 0 else U y
noncomputable def ea (p0 : aj) : Option (Bool) :=
  (ba (p0.d_.length : Int) 1 5).bind fun a => (if (!a) then U y else (ba (p0.f_.length : Int) 2 3).bind fun a => U (!a)).bind fun a => (if a then U y else (nD p0.f_).bind fun a => U (!a)).bind fun a => if a then U n else dV p0 aI 0
noncomputable def cL (a : List (List UInt8)) (c : List (List UInt8)) : Nat → (List ap) → Int → Option (aj × Bool)
  | 0, _, _ => N
  | g + 1, d, e =>
    if decide (e < (a.length : Int)) then (idx a e).bind fun f => (lm f).bind fun f => if (!f.2) then U ((aj.mk ([] : List ap) ([] : List (List UInt8))), n) else (app d [f.1]).bind fun f => (cL a c g) f (J.wrap (e + 1)) else (ea (aj.mk d c)).bind fun a => if (!a) then U ((aj.mk ([] : List ap) ([] : List (List UInt8))), n) else U ((aj.mk d c), y)
noncomputable def jg (p0 : List UInt8) : Option (aj × Bool) :=
  (gB p0 124).bind fun a => if ((a.length : Int) != 2) then U ((aj.mk ([] : List ap) ([] : List (List UInt8))), n) else (idx a 1).bind fun c => (gB c 44).bind fun c => (idx a 0).bind fun a => (gB a 59).bind fun a => cL a c aI ([] : List ap) 0
noncomputable def js (c : Int × Int × Bool) (a : Int) : Option (Int × Int × Bool) :=
  (ba a (-1000000000) 1000000000).bind fun d => if (!d) then U (0, 0, n) else U (a, c.2.1, y)
noncomputable def dc (p0 : List Int) (p1 : Int) : Option (Int × Int × Bool) :=
  (lc p0 p1).bind fun a => if (!a.2.2) then U (0, 0, n) else if ((Int.tmod a.1 2) == 1) then js a (J.wrap ((J.wrap (0 - (J.wrap (Int.tdiv a.1 2)))) - 1)) else js a (J.wrap (Int.tdiv a.1 2))
noncomputable def lV (f : Int) (p0 : List Int) : Nat → Int → Int → (List Int) → Option ((List Int) × Int × Bool)
  | 0, _, _, _ => N
  | h + 1, c, d, e =>
    if decide (d < f) then (dc p0 c).bind fun a => if (!a.2.2) then U (([] : List Int), 0, n) else (app e ([a.1] : List Int)).bind fun g => (lV f p0 h) a.2.1 (J.wrap (d + 1)) g else U (e, c, y)
noncomputable def dA (p0 : List Int) (p1 : Int) (a : Int) : Option ((List Int) × Int × Bool) :=
  lV a p0 aI p1 0 ([] : List Int)
noncomputable def oO (p0 : bw) : Option (Bool) :=
  (ba p0.M_ 1 9).bind fun a => (if a then (ba p0.N_ 0 999).bind fun a => U a else U n).bind fun a => (if a then (ba p0.L_ 1 200).bind fun a => U a else U n).bind fun a => (if a then (ba p0.h_ 0 6).bind fun a => U a else U n).bind fun a => (if a then (ba p0.e_ 1 31).bind fun a => U a else U n).bind fun a => (if a then (ba p0.E_ 62 2000).bind fun a => U a else U n).bind fun a => U a
noncomputable def lE (p0 : Int) : Option (List Int) :=
  if (p0 == 1) then U ([24109, 48218, 60273, 64291, 65296, 65497, 65530] : List Int) else if (p0 == 6) then U ([162, 1137, 4061, 9909, 18681, 29208, 39734] : List Int) else U ([] : List Int)
noncomputable def kc (p0 : aR) : Option (Bool) :=
  (ea p0.g_).bind fun a => (if a then (oO p0.b_).bind fun a => U a else U n).bind fun a => (if a then (ba p0.j_ 1 4).bind fun a => U a else U n).bind fun a => (if a then (ba p0.O_ 1 (p0.g_.d_.length : Int)).bind fun a => U a else U n).bind fun a => (if a then (lE p0.P_).bind fun a => U (decide ((a.length : Int) > 0)) else U n).bind fun a => (if a then (ba p0.s_ 1 9).bind fun a => U a else U n).bind fun a => (if a then (ba p0.r_ 1 9).bind fun a => U a else U n).bind fun a => U (a && (decide (p0.s_ ≤ p0.r_)))
noncomputable def lM (c : Int × Int × Bool) (p0 : List Int) : Nat → (List Int) → Int → Int → Option ((List Int) × Int × Bool)
  | 0, _, _, _ => N
  | h + 1, d, e, f =>
    if decide (e < c.1) then (dc p0 f).bind fun a => if (!a.2.2) then U (([] : List Int), 0, n) else (app d ([a.1] : List Int)).bind fun g => (lM c p0 h) g (J.wrap (e + 1)) a.2.1 else U (d, f, y)
noncomputable def jb (p0 : List Int) (p1 : Int) : Option ((List Int) × Int × Bool) :=
  (dc p0 p1).bind fun a => if ((!a.2.2) || (decide (a.1 < 0))) then U (([] : List Int), 0, n) else lM a p0 aI ([] : List Int) 0 a.2.1
noncomputable def iO (c : Int × Int × Bool) (p0 : List Int) : Nat → (List (List Int)) → Int → Int → Option ((List (List Int)) × Int × Bool)
  | 0, _, _, _ => N
  | h + 1, d, e, f =>
    if decide (e < c.1) then (jb p0 f).bind fun a => if (!a.2.2) then U (([] : List (List Int)), 0, n) else (app d [a.1]).bind fun g => (iO c p0 h) g (J.wrap (e + 1)) a.2.1 else U (d, f, y)
noncomputable def jp (p0 : List Int) (p1 : Int) : Option ((List (List Int)) × Int × Bool) :=
  (dc p0 p1).bind fun a => if ((!a.2.2) || (decide (a.1 < 0))) then U (([] : List (List Int)), 0, n) else iO a p0 aI ([] : List (List Int)) 0 a.2.1
noncomputable def lW (p0 : List Int) (p1 : Int) : Option (az × Int × Bool) :=
  (dA p0 p1 3).bind fun a => (if (!a.2.2) then U y else (idx a.1 0).bind fun c => (ba c 0 1).bind fun c => U (!c)).bind fun c => if c then U ((az.mk n (bD.mk 0 0) ([] : List Int) 0 (bl.mk ([] : List Int) ([] : List (List Int))) 0 ([] : List Int) 0 0 0), 0, n) else (idx a.1 0).bind fun i => (idx a.1 1).bind fun j => (idx a.1 2).bind fun k => (jb p0 a.2.1).bind fun c => if (!c.2.2) then U ((az.mk n (bD.mk 0 0) ([] : List Int) 0 (bl.mk ([] : List Int) ([] : List (List Int))) 0 ([] : List Int) 0 0 0), 0, n) else (dc p0 c.2.1).bind fun d => if (!d.2.2) then U ((az.mk n (bD.mk 0 0) ([] : List Int) 0 (bl.mk ([] : List Int) ([] : List (List Int))) 0 ([] : List Int) 0 0 0), 0, n) else (jb p0 d.2.1).bind fun e => if (!e.2.2) then U ((az.mk n (bD.mk 0 0) ([] : List Int) 0 (bl.mk ([] : List Int) ([] : List (List Int))) 0 ([] : List Int) 0 0 0), 0, n) else (jp p0 e.2.1).bind fun f => if (!f.2.2) then U ((az.mk n (bD.mk 0 0) ([] : List Int) 0 (bl.mk ([] : List Int) ([] : List (List Int))) 0 ([] : List Int) 0 0 0), 0, n) else (dc p0 f.2.1).bind fun g => if (!g.2.2) then U ((az.mk n (bD.mk 0 0) ([] : List Int) 0 (bl.mk ([] : List Int) ([] : List (List Int))) 0 ([] : List Int) 0 0 0), 0, n) else (jb p0 g.2.1).bind fun h => if (!h.2.2) then U ((az.mk n (bD.mk 0 0) ([] : List Int) 0 (bl.mk ([] : List Int) ([] : List (List Int))) 0 ([] : List Int) 0 0 0), 0, n) else (dA p0 h.2.1 3).bind fun a => if (!a.2.2) then U ((az.mk n (bD.mk 0 0) ([] : List Int) 0 (bl.mk ([] : List Int) ([] : List (List Int))) 0 ([] : List Int) 0 0 0), 0, n) else (idx a.1 0).bind fun l => (idx a.1 1).bind fun m => (idx a.1 2).bind fun o => U ((az.mk (i == 1) (bD.mk j k) c.1 d.1 (bl.mk e.1 f.1) g.1 h.1 l m o), a.2.1, y)
noncomputable def lJ (c : (List Int) × Int × Bool) (p0 : List Int) (d : Int) : Nat → (List az) → Int → Int → Option (ax × Int × Bool)
  | 0, _, _, _ => N
  | i + 1, e, f, g =>
    (idx c.1 1).bind fun a => if decide (f < a) then (lW p0 g).bind fun a => if (!a.2.2) then U ((ax.mk ([] : List az) 0), 0, n) else (app e [a.1]).bind fun h => (lJ c p0 d i) h (J.wrap (f + 1)) a.2.1 else U ((ax.mk e d), g, y)
noncomputable def nx (p0 : List Int) (p1 : Int) : Option (ax × Int × Bool) :=
  (dA p0 p1 2).bind fun a => (if (!a.2.2) then U y else (idx a.1 1).bind fun c => U (decide (c < 0))).bind fun c => if c then U ((ax.mk ([] : List az) 0), 0, n) else (idx a.1 0).bind fun c => lJ a p0 c aI ([] : List az) 0 a.2.1
noncomputable def kH (p0 : List Int) (p1 : Int) : Option (aJ × Int × Bool) :=
  (jp p0 p1).bind fun a => if (!a.2.2) then U ((aJ.mk ([] : List (List Int))), 0, n) else U ((aJ.mk a.1), a.2.1, y)
noncomputable def mK (p0 : List Int) (p1 : Int) : Option (au × Int × Bool) :=
  (nx p0 p1).bind fun a => if (!a.2.2) then U ((au.mk (ax.mk ([] : List az) 0) n (ax.mk ([] : List az) 0) (dg.mk (aJ.mk ([] : List (List Int))) (aJ.mk ([] : List (List Int))))), 0, n) else (dc p0 a.2.1).bind fun c => if (!c.2.2) then U ((au.mk (ax.mk ([] : List az) 0) n (ax.mk ([] : List az) 0) (dg.mk (aJ.mk ([] : List (List Int))) (aJ.mk ([] : List (List Int))))), 0, n) else (nx p0 c.2.1).bind fun d => if (!d.2.2) then U ((au.mk (ax.mk ([] : List az) 0) n (ax.mk ([] : List az) 0) (dg.mk (aJ.mk ([] : List (List Int))) (aJ.mk ([] : List (List Int))))), 0, n) else (kH p0 d.2.1).bind fun e => if (!e.2.2) then U ((au.mk (ax.mk ([] : List az) 0) n (ax.mk ([] : List az) 0) (dg.mk (aJ.mk ([] : List (List Int))) (aJ.mk ([] : List (List Int))))), 0, n) else (kH p0 e.2.1).bind fun f => if (!f.2.2) then U ((au.mk (ax.mk ([] : List az) 0) n (ax.mk ([] : List az) 0) (dg.mk (aJ.mk ([] : List (List Int))) (aJ.mk ([] : List (List Int))))), 0, n) else U ((au.mk a.1 (c.1 == 1) d.1 (dg.mk e.1 f.1)), f.2.1, y)
noncomputable def dM (d : Int × Int × Bool) (c : (List Int) × Int × Bool) (h : aj × Bool) (i : Int) (j : Int) (k : Int) (l : Int) (m : Int) (o : Int) (p : Int) (q : Int) (r : Int) (s : Int) (t : Int) (u : Int) (e : List au) (f : List (List Int)) : Nat → (List aC) → Int → Option (ao × Bool)
  | 0, _, _ => N
  | x + 1, g, a =>
    if decide (a < d.1) then (idx c.1 (J.wrap (2 * a))).bind fun v => (idx c.1 (J.wrap ((J.wrap (2 * a)) + 1))).bind fun w => (app g ([(aC.mk v w)] : List aC)).bind fun v => (dM d c h i j k l m o p q r s t u e f x) v (J.wrap (a + 1)) else U ((ao.mk (aR.mk h.1 (bw.mk i j k l m o (p == 1)) q r s t u) (be.mk e) (aZ.mk f g)), y)
noncomputable def fR (c : aj × Bool) (p0 : List Int) (h : Int) (i : Int) (j : Int) (k : Int) (l : Int) (m : Int) (o : Int) (p : Int) (q : Int) (r : Int) (s : Int) (t : Int) (d : List au) : Nat → (List (List Int)) → Int → Int → Option (ao × Bool)
  | 0, _, _, _ => N
  | v + 1, e, f, g =>
    if decide (f < (c.1.f_.length : Int)) then (jb p0 g).bind fun a => if (!a.2.2) then U ((ao.mk (aR.mk (aj.mk ([] : List ap) ([] : List (List UInt8))) (bw.mk 0 0 0 0 0 0 n) 0 0 0 0 0) (be.mk ([] : List au)) (aZ.mk ([] : List (List Int)) ([] : List aC))), n) else (app e [a.1]).bind fun u => (fR c p0 h i j k l m o p q r s t d v) u (J.wrap (f + 1)) a.2.1 else (dc p0 g).bind fun a => (if (!a.2.2) then U y else (ba a.1 0 20).bind fun f => U (!f)).bind fun f => if f then U ((ao.mk (aR.mk (aj.mk ([] : List ap) ([] : List (List UInt8))) (bw.mk 0 0 0 0 0 0 n) 0 0 0 0 0) (be.mk ([] : List au)) (aZ.mk ([] : List (List Int)) ([] : List aC))), n) else (dA p0 a.2.1 (J.wrap (2 * a.1))).bind fun f => if (!f.2.2) then U ((ao.mk (aR.mk (aj.mk ([] : List ap) ([] : List (List UInt8))) (bw.mk 0 0 0 0 0 0 n) 0 0 0 0 0) (be.mk ([] : List au)) (aZ.mk ([] : List (List Int)) ([] : List aC))), n) else dM a f c h i j k l m o p q r s t d e aI ([] : List aC) 0
noncomputable def fP (c : Int) (p0 : List Int) (g : aj × Bool) (h : Int) (i : Int) (j : Int) (k : Int) (l : Int) (m : Int) (o : Int) (p : Int) (q : Int) (r : Int) (s : Int) : Nat → (List au) → Int → Int → Option (ao × Bool)
  | 0, _, _, _ => N
  | u + 1, d, e, f =>
    if decide (e < c) then (mK p0 f).bind fun a => if (!a.2.2) then U ((ao.mk (aR.mk (aj.mk ([] : List ap) ([] : List (List UInt8))) (bw.mk 0 0 0 0 0 0 n) 0 0 0 0 0) (be.mk ([] : List au)) (aZ.mk ([] : List (List Int)) ([] : List aC))), n) else (app d [a.1]).bind fun t => (fP c p0 g h i j k l m o p q r s u) t (J.wrap (e + 1)) a.2.1 else fR g p0 h i j k l m o c p q r s d aI ([] : List (List Int)) 0 f
noncomputable def gj (p0 : List Int) : Option (ao × Bool) :=
  (jZ p0 4).bind fun a => if (!a.2.2) then U ((ao.mk (aR.mk (aj.mk ([] : List ap) ([] : List (List UInt8))) (bw.mk 0 0 0 0 0 0 n) 0 0 0 0 0) (be.mk ([] : List au)) (aZ.mk ([] : List (List Int)) ([] : List aC))), n) else (jg a.1).bind fun c => (dA p0 a.2.1 12).bind fun a => if ((!c.2) || (!a.2.2)) then U ((ao.mk (aR.mk (aj.mk ([] : List ap) ([] : List (List UInt8))) (bw.mk 0 0 0 0 0 0 n) 0 0 0 0 0) (be.mk ([] : List au)) (aZ.mk ([] : List (List Int)) ([] : List aC))), n) else (idx a.1 0).bind fun d => (idx a.1 1).bind fun e => (idx a.1 2).bind fun f => (idx a.1 3).bind fun g => (idx a.1 4).bind fun h => (idx a.1 5).bind fun i => (idx a.1 6).bind fun j => (idx a.1 7).bind fun k => (idx a.1 8).bind fun l => (idx a.1 9).bind fun m => (idx a.1 10).bind fun o => (idx a.1 11).bind fun p => (kc (aR.mk c.1 (bw.mk d e f g h i (j == 1)) k l m o p)).bind fun q => if (!q) then U ((ao.mk (aR.mk (aj.mk ([] : List ap) ([] : List (List UInt8))) (bw.mk 0 0 0 0 0 0 n) 0 0 0 0 0) (be.mk ([] : List au)) (aZ.mk ([] : List (List Int)) ([] : List aC))), n) else fP k p0 c d e f g h i j l m o p aI ([] : List au) 0 a.2.1
noncomputable def nr (p0 : ap) : Option (Int) :=
  (jY p0).bind fun a => if (!a) then U 0 else if decide ((p0.w_.length : Int) > 0) then U (J.wrap ((p0.w_.length : Int) + 1)) else U (p0.F_.length : Int)
noncomputable def dr (d : Int) (p1 : bl) (e : Int) (p0 : aj) (a : Int) (i : Int → Option (Bool)) : Nat → Int → Int → Option (Bool)
  | 0, _, _ => N
  | j + 1, f, c =>
    if decide (c < d) then (idx p1.k_ e).bind fun g => (idx g (J.wrap ((J.wrap (c * (p0.f_.length : Int))) + a))).bind fun g => (ba g 0 999).bind fun h => if (!h) then U n else (dr d p1 e p0 a i j) (J.wrap (f + g)) (J.wrap (c + 1)) else (idx p1.q_ a).bind fun c => if decide (f > c) then U n else i (J.wrap (a + 1))
noncomputable def bT (p0 : aj) (c : Int) (p1 : bl) (a : Int) (e : Int → Option (Bool)) : Nat → Int → Option (Bool)
  | 0, _ => N
  | f + 1, d =>
    if decide (d < (p0.f_.length : Int)) then dr c p1 a p0 d (bT p0 c p1 a e f) aI 0 0 else e (J.wrap (a + 1))
noncomputable def cW (p1 : bl) (p0 : aj) : Nat → Int → Option (Bool)
  | 0, _ => N
  | e + 1, a =>
    if decide (a < (p1.k_.length : Int)) then (idx p0.d_ a).bind fun c => (nr c).bind fun c => (idx p1.k_ a).bind fun d => if ((d.length : Int) != (J.wrap (c * (p0.f_.length : Int)))) then U n else bT p0 c p1 a (cW p1 p0 e) aI 0 else U y
noncomputable def eC (p1 : bl) (p0 : aj) : Nat → Int → Int → Option (Bool)
  | 0, _, _ => N
  | e + 1, c, a =>
    if decide (a < (p1.q_.length : Int)) then (idx p1.q_ a).bind fun d => (ba d 0 999).bind fun d => if (!d) then U n else (idx p1.q_ a).bind fun d => (eC p1 p0 e) (J.wrap (c + d)) (J.wrap (a + 1)) else if decide (c > 999) then U n else if ((p1.k_.length : Int) == 0) then U y else if ((p1.k_.length : Int) != (p0.d_.length : Int)) then U n else cW p1 p0 aI 0
noncomputable def lv (p0 : aj) (p1 : bl) : Option (Bool) :=
  (ea p0).bind fun a => if ((!a) || ((p1.q_.length : Int) != (p0.f_.length : Int))) then U n else eC p1 p0 aI 0 0
noncomputable def jP (p1 : List Int) (p0 : aj) : Nat → Int → Option (Bool)
  | 0, _ => N
  | e + 1, a =>
    if decide (a < (p1.length : Int)) then (idx p1 a).bind fun c => (ba c 0 (J.wrap ((p0.d_.length : Int) - 1))).bind fun c => (if (!c) then U y else (if decide (a > 0) then (idx p1 a).bind fun c => (idx p1 (J.wrap (a - 1))).bind fun d => U (decide (c ≤ d)) else U n).bind fun c => U c).bind fun c => if c then U n else (jP p1 p0 e) (J.wrap (a + 1)) else U y
noncomputable def nt (p0 : aj) (p1 : List Int) : Option (Bool) :=
  (ea p0).bind fun a => if ((!a) || ((p1.length : Int) == 0)) then U n else jP p1 p0 aI 0
noncomputable def ia (p1 : bl) : Nat → Int → Int → Option (Int)
  | 0, _, _ => N
  | e + 1, c, a =>
    if decide (a < (p1.q_.length : Int)) then (idx p1.q_ a).bind fun d => (ia p1 e) (J.wrap (c + d)) (J.wrap (a + 1)) else U c
noncomputable def mb (p0 : aj) (p1 : bl) : Option (Int) :=
  (lv p0 p1).bind fun a => if (!a) then U 0 else ia p1 aI 0 0
noncomputable def ln (p0 : aj) (p1 : az) : Option (Bool) :=
  (if (((!(p1.i_.t_ == 0 && (p1.i_.u_ == 0 && y))) || (decide ((p1.v_.length : Int) > 0))) || (p1.I_ != 0)) then U y else (lv p0 p1.l_).bind fun a => U (!a)).bind fun a => (if a then U y else (nt p0 p1.d_).bind fun a => U (!a)).bind fun a => if a then U n else if ((p1.l_.k_.length : Int) == 0) then U (p1.J_ == 0) else (mb p0 p1.l_).bind fun a => (ba p1.J_ 0 a).bind fun a => U a
noncomputable def oK (p0 : aj) (p1 : bD) : Option (Bool) :=
  (ea p0).bind fun a => (if (!a) then U y else (ba p1.t_ 0 (J.wrap ((p0.d_.length : Int) - 1))).bind fun a => U (!a)).bind fun a => if a then U n else (idx p0.d_ p1.t_).bind fun a => if decide ((a.w_.length : Int) > 0) then (idx p0.d_ p1.t_).bind fun a => (nr a).bind fun a => (ba p1.u_ (-1) (J.wrap (a - 2))).bind fun a => U a else (idx p0.d_ p1.t_).bind fun a => (nr a).bind fun a => (ba p1.u_ (-1) (J.wrap (a - 1))).bind fun a => U a
noncomputable def ou (p0 : aj) (p1 : bD) : Option (Int) :=
  (oK p0 p1).bind fun a => if (!a) then U 0 else if (p1.u_ == (-1)) then (idx p0.d_ p1.t_).bind fun a => (nr a).bind fun a => U a else U 2
noncomputable def jn (c : az) (d : Int) (p1 : ax) : Nat → Int → Option (Bool)
  | 0, _ => N
  | g + 1, a =>
    if decide (a < (c.v_.length : Int)) then (idx c.v_ a).bind fun e => (ba e (J.wrap (d + 1)) (J.wrap ((p1.e_.length : Int) - 1))).bind fun e => (if (!e) then U y else (idx c.v_ a).bind fun e => (idx p1.e_ e).bind fun e => U (e.A_ != d)).bind fun e => (if e then U y else (if decide (a > 0) then (idx c.v_ a).bind fun e => (idx c.v_ (J.wrap (a - 1))).bind fun f => U (decide (e ≤ f)) else U n).bind fun e => U e).bind fun e => if e then U n else (jn c d p1 g) (J.wrap (a + 1)) else U y
noncomputable def ko (p0 : aj) (p1 : ax) (c : Int) : Option (Bool) :=
  (idx p1.e_ c).bind fun a => (oK p0 a.i_).bind fun d => (if (!d) then U y else (ou p0 a.i_).bind fun d => U ((a.v_.length : Int) != d)).bind fun d => (if d then U y else (ba a.I_ 0 (J.wrap ((a.v_.length : Int) - 1))).bind fun d => U (!d)).bind fun d => (if d then U y else (lv p0 a.l_).bind fun d => U (!d)).bind fun d => (if ((d || (decide ((a.l_.k_.length : Int) > 0))) || (a.J_ != 0)) then U y else (nt p0 a.d_).bind fun d => U (!d)).bind fun d => if d then U n else jn a c p1 aI 0
noncomputable def dj (p0 : List Int) (p1 : Int) : Nat → Int → Option (Bool)
  | 0, _ => N
  | d + 1, a =>
    if decide (a < (p0.length : Int)) then (idx p0 a).bind fun c => if (c == p1) then U y else (dj p0 p1 d) (J.wrap (a + 1)) else U n
noncomputable def ol (p0 : List Int) (p1 : Int) : Option (Bool) :=
  dj p0 p1 aI 0
noncomputable def er (p1 : ax) (p0 : aj) : Nat → Int → Option (Bool)
  | 0, _ => N
  | f + 1, c =>
    if decide (c < (p1.e_.length : Int)) then (idx p1.e_ c).bind fun a => (ba a.h_ 0 6).bind fun d => (if (!d) then U y else (ba a.G_ 0 p1.y_).bind fun d => U (!d)).bind fun d => if d then U n else (if a.B_ then (ln p0 ({ a with B_ := y })).bind fun d => U (!d) else U n).bind fun d => (if d then U y else (if (!a.B_) then (ko p0 p1 c).bind fun d => U (!d) else U n).bind fun d => U d).bind fun d => if d then U n else if (c == 0) then if (((a.A_ != (-1)) || (a.h_ != 0)) || (a.G_ != 0)) then U n else (er p1 p0 f) (J.wrap (c + 1)) else (ba a.A_ 0 (J.wrap (c - 1))).bind fun d => if (!d) then U n else (idx p1.e_ a.A_).bind fun d => (if d.B_ then U y else (ol d.v_ c).bind fun e => U (!e)).bind fun e => if ((e || ((J.wrap (d.h_ + 1)) != a.h_)) || (decide (d.G_ > a.G_))) then U n else (er p1 p0 f) (J.wrap (c + 1)) else U y
noncomputable def qE (p0 : aj) (p1 : ax) : Option (Bool) :=
  (ea p0).bind fun a => (if (!a) then U y else (ba (p1.e_.length : Int) 1 31).bind fun a => U (!a)).bind fun a => (if a then U y else (ba p1.y_ 0 99999).bind fun a => U (!a)).bind fun a => if a then U n else er p1 p0 aI 0
noncomputable def ex (p0 : ax) : Nat → Int → Int → Option (Int)
  | 0, _, _ => N
  | e + 1, c, a =>
    if decide (a < (p0.e_.length : Int)) then (if (a == 0) then U y else (idx p0.e_ a).bind fun d => U (decide (d.h_ > c))).bind fun d => if d then (idx p0.e_ a).bind fun d => (ex p0 e) d.h_ (J.wrap (a + 1)) else (ex p0 e) c (J.wrap (a + 1)) else U c
noncomputable def pP (p0 : ax) : Option (Int) :=
  ex p0 aI 0 0
noncomputable def jS (p0 : az) : Nat → Int → Int → Option (Int)
  | 0, _, _ => N
  | e + 1, c, a =>
    if decide (a < (p0.l_.k_.length : Int)) then (idx p0.l_.k_ a).bind fun d => (jS p0 e) (J.wrap (c + (d.length : Int))) (J.wrap (a + 1)) else U c
noncomputable def pA (p0 : az) : Option (Int) :=
  if (!p0.B_) then U 1 else jS p0 aI 2 0
noncomputable def iH (p0 : ax) : Nat → Int → Int → Option (Int)
  | 0, _, _ => N
  | e + 1, c, a =>
    if decide (a < (p0.e_.length : Int)) then (idx p0.e_ a).bind fun d => (pA d).bind fun d => (iH p0 e) (J.wrap (c + d)) (J.wrap (a + 1)) else U c
noncomputable def mM (p0 : ax) : Option (Int) :=
  iH p0 aI 0 0
noncomputable def rB (p0 : aj) (p1 : bw) (a : ax) : Option (Bool) :=
  (qE p0 a).bind fun c => (if c then (oO p1).bind fun c => U c else U n).bind fun c => (if (c && (decide ((a.e_.length : Int) ≤ p1.e_))) then (pP a).bind fun c => U (decide (c ≤ p1.h_)) else U n).bind fun c => (if c then (mM a).bind fun a => U (decide (a ≤ p1.E_)) else U n).bind fun a => U a
noncomputable def ic (p0 : Int) : Nat → Int → Int → Option (Int)
  | 0, _, _ => N
  | d + 1, a, c =>
    if decide (c < p0) then (ic p0 d) (J.wrap (a * 2)) (J.wrap (c + 1)) else U a
noncomputable def nS (p0 : Int) : Option (Int) :=
  ic p0 aI 1 0
noncomputable def ij (p0 : aJ) (a : Int) (f : Int → Option (Bool)) : Nat → Int → Option (Bool)
  | 0, _ => N
  | g + 1, c =>
    (idx p0.p_ a).bind fun d => if decide (c < (d.length : Int)) then (idx p0.p_ a).bind fun d => (idx d c).bind fun d => (nS a).bind fun e => (ba d 0 e).bind fun d => if (!d) then U n else (ij p0 a f g) (J.wrap (c + 1)) else f (J.wrap (a + 1))
noncomputable def cT (p0 : aJ) : Nat → Int → Option (Bool)
  | 0, _ => N
  | d + 1, a =>
    if decide (a < (p0.p_.length : Int)) then (idx p0.p_ a).bind fun c => (ba (c.length : Int) 1 3).bind fun c => if (!c) then U n else ij p0 a (cT p0 d) aI 0 else U y
noncomputable def mn (p0 : aJ) : Option (Bool) :=
  if decide ((p0.p_.length : Int) > 8) then U n else cT p0 aI 0
noncomputable def rX (p0 : dg) : Option (Bool) :=
  (mn p0.s_).bind fun a => (if a then (mn p0.r_).bind fun a => U a else U n).bind fun a => U a
noncomputable def od (p0 : aR) (p1 : au) : Option (Bool) :=
  (kc p0).bind fun a => (if (!a) then U y else (rB p0.g_ p0.b_ p1.H_).bind fun a => U (!a)).bind fun a => (if a then U y else (rX p1.K_).bind fun a => U (!a)).bind fun a => if a then U n else if p1.T_ then (rB p0.g_ p0.b_ p1.x_).bind fun a => U a else U (((p1.x_.e_.length : Int) == 0) && (p1.x_.y_ == 0))
noncomputable def jq (p1 : be) (p0 : aR) : Nat → Int → Option (Bool)
  | 0, _ => N
  | d + 1, a =>
    if decide (a < (p1.j_.length : Int)) then (idx p1.j_ a).bind fun c => (od p0 c).bind fun c => if (!c) then U n else (jq p1 p0 d) (J.wrap (a + 1)) else U y
noncomputable def ov (p0 : aR) (p1 : be) : Option (Bool) :=
  (kc p0).bind fun a => if ((!a) || ((p1.j_.length : Int) != p0.j_)) then U n else jq p1 p0 aI 0
noncomputable def dP (p0 : List aC) (p1 : Int) (d : Int) : Nat → Int → Int → Option (Int)
  | 0, _, _ => N
  | e + 1, c, a =>
    if decide (a < (p0.length : Int)) then (idx p0 a).bind fun f => (if (f.R_ == p1) then (idx p0 a).bind fun f => U (f.S_ == d) else U n).bind fun f => if f then (dP p0 p1 d e) (J.wrap (c + 1)) (J.wrap (a + 1)) else (dP p0 p1 d e) c (J.wrap (a + 1)) else U c
noncomputable def oo (p0 : List aC) (p1 : Int) (a : Int) : Option (Int) :=
  dP p0 p1 a aI 0 0
noncomputable def ud (p0 : Int) (p1 : Int) : Option (Int) :=
  if decide (p0 < p1) then U p0 else U p1
noncomputable def ez (p0 : Int) (p1 : aZ) (a : Int) (g : Int → Int → Option (Bool)) : Nat → Int → Int → Option (Bool)
  | 0, _, _ => N
  | h + 1, d, c =>
    if decide (c < p0) then (idx p1.o_ a).bind fun e => (idx e c).bind fun e => (ba e 0 9999).bind fun e => (if (!e) then U y else (oo p1.n_ a c).bind fun e => (idx p1.o_ a).bind fun f => (idx f c).bind fun f => U (decide (e > f))).bind fun e => if e then U n else (idx p1.o_ a).bind fun e => (idx e c).bind fun e => (ez p0 p1 a g h) (J.wrap (d + e)) (J.wrap (c + 1)) else g d (J.wrap (a + 1))
noncomputable def dL (p1 : aZ) (p0 : Int) : Nat → Int → Option (Bool)
  | 0, _ => N
  | d + 1, a =>
    if decide (a < (p1.n_.length : Int)) then (idx p1.n_ a).bind fun c => (ba c.R_ 0 (J.wrap (p0 - 1))).bind fun c => (if (!c) then U y else (idx p1.n_ a).bind fun c => (ba c.S_ 0 (J.wrap (p0 - 1))).bind fun c => U (!c)).bind fun c => if c then U n else (dL p1 p0 d) (J.wrap (a + 1)) else U y
noncomputable def dk (p0 : Int) (p1 : aZ) : Nat → Int → Int → Option (Bool)
  | 0, _, _ => N
  | e + 1, a, c =>
    if decide (c < p0) then (idx p1.o_ c).bind fun d => if ((d.length : Int) != p0) then U n else ez p0 p1 c (dk p0 p1 e) aI a 0 else (if decide (a > 9999) then U y else (ud a 20).bind fun a => U ((p1.n_.length : Int) != a)).bind fun a => if a then U n else dL p1 p0 aI 0
noncomputable def pF (p0 : Int) (p1 : aZ) : Option (Bool) :=
  (ba p0 2 3).bind fun a => if ((!a) || ((p1.o_.length : Int) != p0)) then U n else dk p0 p1 aI 0 0
noncomputable def ly (p0 : ao) : Option (Bool) :=
  (ov p0.a_ p0.z_).bind fun a => (if a then (pF (p0.a_.g_.f_.length : Int) p0.m_).bind fun a => U a else U n).bind fun a => U a
noncomputable def ei (p0 : aj) : Nat → (List (List UInt8)) → Int → Option (List UInt8)
  | 0, _, _ => N
  | e + 1, c, a =>
    if decide (a < (p0.d_.length : Int)) then (idx p0.d_ a).bind fun d => (jd d).bind fun d => (app c ([d] : List (List UInt8))).bind fun d => (ei p0 e) d (J.wrap (a + 1)) else (iy c ([59] : List UInt8)).bind fun a => (mB a ([124] : List UInt8)).bind fun a => (iy p0.f_ ([44] : List UInt8)).bind fun c => (mB a c).bind fun a => U a
noncomputable def lF (p0 : aj) : Option (List UInt8) :=
  (ea p0).bind fun a => if (!a) then U ([] : List UInt8) else ei p0 aI ([] : List (List UInt8)) 0
noncomputable def jD  : Nat → Int → (List Int) → Option (List Int)
  | 0, _, _ => N
  | e + 1, a, c =>
    if decide (a > 127) then (app c ([K.wrap (J.wrap ((Int.tmod a 128) + 128))] : List Int)).bind fun d => (jD e) (J.wrap (Int.tdiv a 128)) d else (app c ([K.wrap a] : List Int)).bind fun a => U a
noncomputable def mD (p0 : Int) : Option (List Int) :=
  (ba p0 0 2147483647).bind fun a => if (!a) then U ([] : List Int) else jD aI p0 ([] : List Int)
noncomputable def pl (p0 : List UInt8) : Option (List Int) :=
  (mD (p0.length : Int)).bind fun a => (wD p0).bind fun c => (app a c).bind fun a => U a
noncomputable def qm (p0 : Bool) : Option (Int) :=
  if p0 then U 1 else U 0
noncomputable def cP (p0 : Int) : Option (List Int) :=
  (ba p0 (-1000000000) 1000000000).bind fun a => if (!a) then U ([] : List Int) else if decide (p0 < 0) then (mD (J.wrap ((J.wrap (0 - (J.wrap (2 * p0)))) - 1))).bind fun a => U a else (mD (J.wrap (2 * p0))).bind fun a => U a
noncomputable def lL (p0 : List Int) : Nat → Int → Option (Bool)
  | 0, _ => N
  | d + 1, a =>
    if decide (a < (p0.length : Int)) then (idx p0 a).bind fun c => (ba c (-1000000000) 1000000000).bind fun c => if (!c) then U n else (lL p0 d) (J.wrap (a + 1)) else U y
noncomputable def fq (p0 : List Int) : Option (Bool) :=
  lL p0 aI 0
noncomputable def gH (p0 : az) : Nat → Int → Option (Bool)
  | 0, _ => N
  | d + 1, a =>
    if decide (a < (p0.l_.k_.length : Int)) then (idx p0.l_.k_ a).bind fun c => (fq c).bind fun c => if (!c) then U n else (gH p0 d) (J.wrap (a + 1)) else U y
noncomputable def kO (p0 : az) : Option (Bool) :=
  (fq ([p0.i_.t_, p0.i_.u_, p0.I_, p0.J_, p0.h_, p0.A_, p0.G_] : List Int)).bind fun a => (if (!a) then U y else (fq p0.v_).bind fun a => U (!a)).bind fun a => (if a then U y else (fq p0.d_).bind fun a => U (!a)).bind fun a => (if a then U y else (fq p0.l_.q_).bind fun a => U (!a)).bind fun a => if a then U n else gH p0 aI 0
noncomputable def jT (p0 : List Int) : Nat → (List Int) → Int → Option (List Int)
  | 0, _, _ => N
  | e + 1, c, a =>
    if decide (a < (p0.length : Int)) then (idx p0 a).bind fun d => (cP d).bind fun d => (app c d).bind fun d => (jT p0 e) d (J.wrap (a + 1)) else U c
noncomputable def iw (p0 : List Int) : Option (List Int) :=
  (fq p0).bind fun a => if (!a) then U ([] : List Int) else (cP (p0.length : Int)).bind fun a => jT p0 aI a 0
noncomputable def iQ (p0 : List (List Int)) : Nat → (List Int) → Int → Option (List Int)
  | 0, _, _ => N
  | e + 1, c, a =>
    if decide (a < (p0.length : Int)) then (idx p0 a).bind fun d => (iw d).bind fun d => (app c d).bind fun d => (iQ p0 e) d (J.wrap (a + 1)) else U c
noncomputable def gY (p0 : List (List Int)) : Option (List Int) :=
  (cP (p0.length : Int)).bind fun a => iQ p0 aI a 0
noncomputable def lY (p0 : az) : Option (List Int) :=
  (qm p0.B_).bind fun a => (cP a).bind fun a => (cP p0.i_.t_).bind fun c => (app a c).bind fun a => (cP p0.i_.u_).bind fun c => (app a c).bind fun a => (iw p0.v_).bind fun c => (app a c).bind fun a => (cP p0.I_).bind fun c => (app a c).bind fun a => (iw p0.l_.q_).bind fun c => (app a c).bind fun c => (gY p0.l_.k_).bind fun a => (app c a).bind fun a => (cP p0.J_).bind fun c => (app a c).bind fun a => (iw p0.d_).bind fun c => (app a c).bind fun a => (cP p0.h_).bind fun c => (app a c).bind fun a => (cP p0.A_).bind fun c => (app a c).bind fun a => (cP p0.G_).bind fun c => (app a c).bind fun a => U a
noncomputable def lR (p0 : ax) : Nat → (List Int) → Int → Option (List Int)
  | 0, _, _ => N
  | e + 1, c, a =>
    if decide (a < (p0.e_.length : Int)) then (idx p0.e_ a).bind fun d => (kO d).bind fun d => if (!d) then U ([] : List Int) else (idx p0.e_ a).bind fun d => (lY d).bind fun d => (app c d).bind fun d => (lR p0 e) d (J.wrap (a + 1)) else U c
noncomputable def lC (p0 : ax) : Option (List Int) :=
  (fq ([p0.y_] : List Int)).bind fun a => if (!a) then U ([] : List Int) else (cP p0.y_).bind fun a => (cP (p0.e_.length : Int)).bind fun c => (app a c).bind fun a => lR p0 aI a 0
noncomputable def ka (p0 : aJ) : Nat → Int → Option (List Int)
  | 0, _ => N
  | d + 1, a =>
    if decide (a < (p0.p_.length : Int)) then (idx p0.p_ a).bind fun c => (fq c).bind fun c => if (!c) then U ([] : List Int) else (ka p0 d) (J.wrap (a + 1)) else (gY p0.p_).bind fun a => U a
noncomputable def jA (p0 : aJ) : Option (List Int) :=
  ka p0 aI 0
noncomputable def fT (p0 : ao) : Nat → Int → (List Int) → Option (List Int)
  | 0, _, _ => N
  | f + 1, a, c =>
    if decide (a < (p0.m_.n_.length : Int)) then (idx p0.m_.n_ a).bind fun d => (cP d.R_).bind fun d => (app c d).bind fun d => (idx p0.m_.n_ a).bind fun e => (cP e.S_).bind fun e => (app d e).bind fun d => (fT p0 f) (J.wrap (a + 1)) d else (fZ c).bind fun a => (app c a).bind fun a => U a
noncomputable def fc (p0 : ao) : Nat → (List Int) → Int → Option (List Int)
  | 0, _, _ => N
  | e + 1, c, a =>
    if decide (a < (p0.m_.o_.length : Int)) then (idx p0.m_.o_ a).bind fun d => (iw d).bind fun d => (app c d).bind fun d => (fc p0 e) d (J.wrap (a + 1)) else (cP (p0.m_.n_.length : Int)).bind fun a => (app c a).bind fun a => fT p0 aI 0 a
noncomputable def fe (p0 : ao) : Nat → (List Int) → Int → Option (List Int)
  | 0, _, _ => N
  | g + 1, d, c =>
    if decide (c < (p0.z_.j_.length : Int)) then (idx p0.z_.j_ c).bind fun a => (lC a.H_).bind fun e => (app d e).bind fun e => (qm a.T_).bind fun f => (cP f).bind fun f => (app e f).bind fun e => (lC a.x_).bind fun f => (app e f).bind fun e => (jA a.K_.s_).bind fun f => (app e f).bind fun e => (jA a.K_.r_).bind fun a => (app e a).bind fun a => (fe p0 g) a (J.wrap (c + 1)) else fc p0 aI d 0
noncomputable def jF (p0 : ao) (a : Int) : Nat → (List Int) → Int → Option (List Int)
  | 0, _, _ => N
  | f + 1, d, c =>
    if decide (c < (([p0.a_.b_.M_, p0.a_.b_.N_, p0.a_.b_.L_, p0.a_.b_.h_, p0.a_.b_.e_, p0.a_.b_.E_, a, p0.a_.j_, p0.a_.O_, p0.a_.P_, p0.a_.s_, p0.a_.r_] : List Int).length : Int)) then (idx ([p0.a_.b_.M_, p0.a_.b_.N_, p0.a_.b_.L_, p0.a_.b_.h_, p0.a_.b_.e_, p0.a_.b_.E_, a, p0.a_.j_, p0.a_.O_, p0.a_.P_, p0.a_.s_, p0.a_.r_] : List Int) c).bind fun e => (cP e).bind fun e => (app d e).bind fun e => (jF p0 a f) e (J.wrap (c + 1)) else fe p0 aI d 0
noncomputable def ew (p0 : ao) : Option (List Int) :=
  (ly p0).bind fun a => if (!a) then U ([] : List Int) else (lF p0.a_.g_).bind fun a => (pl a).bind fun a => (app ([83, 80, 78, 1] : List Int) a).bind fun a => (qm p0.a_.b_.Q_).bind fun c => jF p0 c aI a 0
noncomputable def lu (p0 : List Int) : Option (ao × Int) :=
  if decide ((p0.length : Int) < 8) then U ((ao.mk (aR.mk (aj.mk ([] : List ap) ([] : List (List UInt8))) (bw.mk 0 0 0 0 0 0 n) 0 0 0 0 0) (be.mk ([] : List au)) (aZ.mk ([] : List (List Int)) ([] : List aC))), 1) else (idx p0 0).bind fun a => (if (a != 83) then U y else (idx p0 1).bind fun a => U (a != 80)).bind fun a => (if a then U y else (idx p0 2).bind fun a => U (a != 78)).bind fun a => if a then U ((ao.mk (aR.mk (aj.mk ([] : List ap) ([] : List (List UInt8))) (bw.mk 0 0 0 0 0 0 n) 0 0 0 0 0) (be.mk ([] : List au)) (aZ.mk ([] : List (List Int)) ([] : List aC))), 2) else (idx p0 3).bind fun a => if (a != 1) then U ((ao.mk (aR.mk (aj.mk ([] : List ap) ([] : List (List UInt8))) (bw.mk 0 0 0 0 0 0 n) 0 0 0 0 0) (be.mk ([] : List au)) (aZ.mk ([] : List (List Int)) ([] : List aC))), 3) else (sub p0 0 (J.wrap ((p0.length : Int) - 4))).bind fun a => (sub p0 (J.wrap ((p0.length : Int) - 4)) (p0.length : Int)).bind fun c => (fZ a).bind fun a => if (!((dw a) == (dw c))) then U ((ao.mk (aR.mk (aj.mk ([] : List ap) ([] : List (List UInt8))) (bw.mk 0 0 0 0 0 0 n) 0 0 0 0 0) (be.mk ([] : List au)) (aZ.mk ([] : List (List Int)) ([] : List aC))), 4) else (sub p0 0 (J.wrap ((p0.length : Int) - 4))).bind fun a => (gj a).bind fun a => (if (!a.2) then U y else (ly a.1).bind fun c => U (!c)).bind fun c => if c then U ((ao.mk (aR.mk (aj.mk ([] : List ap) ([] : List (List UInt8))) (bw.mk 0 0 0 0 0 0 n) 0 0 0 0 0) (be.mk ([] : List au)) (aZ.mk ([] : List (List Int)) ([] : List aC))), 5) else (ew a.1).bind fun c => if (!((dw c) == (dw p0))) then U ((ao.mk (aR.mk (aj.mk ([] : List ap) ([] : List (List UInt8))) (bw.mk 0 0 0 0 0 0 n) 0 0 0 0 0) (be.mk ([] : List au)) (aZ.mk ([] : List (List Int)) ([] : List aC))), 5) else U (a.1, 0)
noncomputable def ld (e : Int → Int → Option (Int)) (c : Int) : Nat → Int → Int → Option (Int)
  | 0, _, _ => N
  | f + 1, d, a =>
    if decide (d < 8) then if ((eK .and J a 1) == 1) then (ld e c f) (J.wrap (d + 1)) (eK .xor J (qa J a 1) 3988292384) else (ld e c f) (J.wrap (d + 1)) (qa J a 1) else e a (J.wrap (c + 1))
noncomputable def kf (p0 : List Int) : Nat → Int → Int → Option (Int)
  | 0, _, _ => N
  | e + 1, c, a =>
    if decide (a < (p0.length : Int)) then (idx p0 a).bind fun d => ld (kf p0 e) a aI 0 (eK .xor J c (J.wrap d)) else U (eK .xor J c 4294967295)
noncomputable def yg (p0 : List Int) : Option (Int) :=
  kf p0 aI 4294967295 0
noncomputable def fM (p0 : List Int) : Option (List Int) :=
  (yg p0).bind fun a => U ([K.wrap (qa J a 24), K.wrap (qa J a 16), K.wrap (qa J a 8), K.wrap a] : List Int)
noncomputable def gU (p0 : List Int) (p1 : List Int) : Option (Bool) :=
  U ((dw p0) == (dw p1))
noncomputable def jv (p1 : Int) (p0 : List Int) : Nat → Int → Int → Option (Int × Int × Bool)
  | 0, _, _ => N
  | f + 1, c, a =>
    if (((decide (a < 5)) && (decide ((J.wrap (p1 + a)) ≥ 0))) && (decide ((J.wrap (p1 + a)) < (p0.length : Int)))) then (idx p0 (J.wrap (p1 + a))).bind fun d => (shl J (eK .and J (J.wrap d) 127) (J.wrap (7 * a))).bind fun e => if decide ((J.wrap d) ≥ 128) then (jv p1 p0 f) (eK .or J c e) (J.wrap (a + 1)) else if ((((J.wrap d) == 0) && (decide (a > 0))) || (decide ((eK .or J c e) > 2147483647))) then U (0, 0, n) else U (eK .or J c e, J.wrap ((J.wrap (p1 + a)) + 1), y) else U (0, 0, n)
noncomputable def oS (p0 : List Int) (p1 : Int) : Option (Int × Int × Bool) :=
  if decide (p1 < 0) then U (0, 0, n) else jv p1 p0 aI 0 0
noncomputable def nz (p0 : List Int) (p1 : Int) : Option ((List UInt8) × Int × Bool) :=
  (oS p0 p1).bind fun a => if ((!a.2.2) || (decide (a.1 > (J.wrap ((p0.length : Int) - a.2.1))))) then U (([] : List UInt8), 0, n) else (sub p0 a.2.1 (J.wrap (a.2.1 + a.1))).bind fun c => U (dw c, J.wrap (a.2.1 + a.1), y)
noncomputable def je (p0 : List UInt8) (p1 : Int) : Nat → (List (List UInt8)) → Int → Int → Option (List (List UInt8))
  | 0, _, _, _ => N
  | e + 1, c, d, a =>
    if decide (a < (p0.length : Int)) then (idx p0 a).bind fun f => if ((f.toNat : Int) == p1) then (sub p0 d a).bind fun f => (app c ([f] : List (List UInt8))).bind fun f => (je p0 p1 e) f (J.wrap (a + 1)) (J.wrap (a + 1)) else (je p0 p1 e) c d (J.wrap (a + 1)) else (sub p0 d (p0.length : Int)).bind fun a => (app c ([a] : List (List UInt8))).bind fun a => U a
noncomputable def oB (p0 : List UInt8) (p1 : Int) : Option (List (List UInt8)) :=
  je p0 p1 aI ([] : List (List UInt8)) 0 0
noncomputable def aW (p0 : Int) (p1 : Int) (a : Int) : Option (Bool) :=
  U ((decide (p0 ≥ p1)) && (decide (p0 ≤ a)))
noncomputable def oX (p0 : Int) : Option (List UInt8) :=
  (IG p0).bind fun a => U a
noncomputable def pB (p0 : List UInt8) (p1 : Int) (c : Int) : Option (Int × Bool) :=
  (En p0).bind fun a => (if (!a.2) then U y else (aW a.1 p1 c).bind fun c => U (!c)).bind fun c => (if c then U y else (oX a.1).bind fun c => U (!(c == p0))).bind fun c => if c then U (0, n) else U (a.1, y)
noncomputable def lj (p0 : List UInt8) : Option (Int × Bool) :=
  (pB p0 (-9999) 9999).bind fun a => U (a.1, a.2)
noncomputable def kZ (p0 : List UInt8) : Nat → Int → Option (Bool)
  | 0, _ => N
  | d + 1, a =>
    if decide (a < (p0.length : Int)) then (idx p0 a).bind fun c => (if decide ((c.toNat : Int) < 97) then U y else (idx p0 a).bind fun c => U (decide ((c.toNat : Int) > 122))).bind fun c => if c then U n else (kZ p0 d) (J.wrap (a + 1)) else U y
noncomputable def pc (p0 : List UInt8) : Option (Bool) :=
  (aW (p0.length : Int) 1 8).bind fun a => if (!a) then U n else kZ p0 aI 0
noncomputable def cy (p0 : List (List UInt8)) (p1 : List UInt8) : Nat → Int → Option (Int)
  | 0, _ => N
  | d + 1, a =>
    if decide (a < (p0.length : Int)) then (idx p0 a).bind fun c => if (p1 == c) then U a else (cy p0 p1 d) (J.wrap (a + 1)) else U (-1)
noncomputable def eH (p0 : List (List UInt8)) (p1 : List UInt8) : Option (Int) :=
  cy p0 p1 aI 0
noncomputable def dH (p0 : List (List UInt8)) (p1 : List UInt8) : Option (Bool) :=
  (eH p0 p1).bind fun a => U (decide (a ≥ 0))
noncomputable def fK (p0 : List (List UInt8)) : Nat → Int → Option (Bool)
  | 0, _ => N
  | e + 1, a =>
    if decide (a < (p0.length : Int)) then (idx p0 a).bind fun c => (pc c).bind fun d => (if (!d) then U y else (sub p0 0 a).bind fun d => (dH d c).bind fun c => U c).bind fun c => if c then U n else (fK p0 e) (J.wrap (a + 1)) else U y
noncomputable def ff (p0 : List (List UInt8)) : Option (Bool) :=
  fK p0 aI 0
noncomputable def fI (p0 : List Int) : Nat → Int → Option (Bool)
  | 0, _ => N
  | e + 1, a =>
    if decide (a < (p0.length : Int)) then (idx p0 a).bind fun c => (idx p0 (J.wrap (a - 1))).bind fun d => if decide (c ≤ d) then U n else (fI p0 e) (J.wrap (a + 1)) else U y
noncomputable def go (p0 : List Int) : Option (Bool) :=
  fI p0 aI 1
noncomputable def uj (p0 : Int) : Option (Bool) :=
  (aW p0 (-9999) 9998).bind fun a => U a
noncomputable def qo (p0 : Int) : Option (Bool) :=
  (uj p0).bind fun a => U (!a)
noncomputable def bM (p0 : List Int) : Nat → Int → Option (Int)
  | 0, _ => N
  | d + 1, a =>
    if decide (a < (p0.length : Int)) then (idx p0 a).bind fun c => (qo c).bind fun c => if c then U a else (bM p0 d) (J.wrap (a + 1)) else U (-1)
noncomputable def cN (p0 : List Int) : Option (Int) :=
  bM p0 aI 0
noncomputable def cz (p0 : List Int) : Option (Bool) :=
  (cN p0).bind fun a => U (decide (a ≥ 0))
noncomputable def qC (p0 : List Int) : Option (Bool) :=
  (aW (p0.length : Int) 1 3).bind fun a => (if a then (go p0).bind fun a => U a else U n).bind fun a => (if a then (cz p0).bind fun a => U (!a) else U n).bind fun a => U a
noncomputable def kh (p0 : ap) : Option (Bool) :=
  (pc p0.D_).bind fun a => if (!a) then U n else if ((p0.w_.length : Int) == 0) then (aW (p0.F_.length : Int) 2 4).bind fun a => (if a then (ff p0.F_).bind fun a => U a else U n).bind fun a => U a else (if ((p0.F_.length : Int) == 0) then (qC p0.w_).bind fun a => U a else U n).bind fun a => U a
noncomputable def dI (p0 : List Int) (p1 : List UInt8) : Nat → Int → (List (List UInt8)) → Option (List UInt8)
  | 0, _, _ => N
  | e + 1, a, c =>
    if decide (a < (p0.length : Int)) then (idx p0 a).bind fun d => (oX d).bind fun d => (app c ([d] : List (List UInt8))).bind fun d => (dI p0 p1 e) (J.wrap (a + 1)) d else (vx c p1).bind fun a => U a
noncomputable def kN (p0 : List Int) (p1 : List UInt8) : Option (List UInt8) :=
  dI p0 p1 aI 0 ([] : List (List UInt8))
noncomputable def jh (p0 : ap) : Option (List UInt8) :=
  (kh p0).bind fun a => if (!a) then U ([] : List UInt8) else if decide ((p0.w_.length : Int) > 0) then (mB p0.D_ ([58] : List UInt8)).bind fun a => (kN p0.w_ ([44] : List UInt8)).bind fun c => (mB a c).bind fun a => U a else (mB p0.D_ ([61] : List UInt8)).bind fun a => (vx p0.F_ ([44] : List UInt8)).bind fun c => (mB a c).bind fun a => U a
noncomputable def gF (p0 : List UInt8) (a : List UInt8) (c : List Int) (d : List (List UInt8)) : Option (ap × Bool) :=
  (kh (ap.mk a c d)).bind fun e => (if (!e) then U y else (jh (ap.mk a c d)).bind fun e => U (!(e == p0))).bind fun e => if e then U ((ap.mk ([] : List UInt8) ([] : List Int) ([] : List (List UInt8))), n) else U ((ap.mk a c d), y)
noncomputable def cX (a : List (List UInt8)) (p0 : List UInt8) (d : List UInt8 × List UInt8 × Bool) : Nat → Int → (List Int) → Option (ap × Bool)
  | 0, _, _ => N
  | g + 1, c, e =>
    if decide (c < (a.length : Int)) then (idx a c).bind fun f => (lj f).bind fun f => if (!f.2) then U ((ap.mk ([] : List UInt8) ([] : List Int) ([] : List (List UInt8))), n) else (app e ([f.1] : List Int)).bind fun f => (cX a p0 d g) (J.wrap (c + 1)) f else gF p0 d.1 e ([] : List (List UInt8))
noncomputable def lk (p0 : List UInt8) : Option (ap × Bool) :=
  (KB p0 ([61] : List UInt8)).bind fun a => if a.2.2 then (oB a.2.1 44).bind fun c => gF p0 a.1 ([] : List Int) c else (KB p0 ([58] : List UInt8)).bind fun a => if a.2.2 then (oB a.2.1 44).bind fun c => cX c p0 a aI 0 ([] : List Int) else gF p0 ([] : List UInt8) ([] : List Int) ([] : List (List UInt8))
noncomputable def fm (p0 : aj) : Nat → Int → (List (List UInt8)) → Option (Bool)
  | 0, _, _ => N
  | f + 1, a, c =>
    if decide (a < (p0.d_.length : Int)) then (idx p0.d_ a).bind fun d => (kh d).bind fun e => if (!e) then U n else (app c ([d.D_] : List (List UInt8))).bind fun d => (fm p0 f) (J.wrap (a + 1)) d else (ff c).bind fun a => U a
noncomputable def ed (p0 : aj) : Option (Bool) :=
  (aW (p0.d_.length : Int) 1 5).bind fun a => (if (!a) then U y else (aW (p0.f_.length : Int) 2 3).bind fun a => U (!a)).bind fun a => (if a then U y else (ff p0.f_).bind fun a => U (!a)).bind fun a => if a then U n else fm p0 aI 0 ([] : List (List UInt8))
noncomputable def cJ (a : List (List UInt8)) (c : List (List UInt8)) : Nat → Int → (List ap) → Option (aj × Bool)
  | 0, _, _ => N
  | g + 1, d, e =>
    if decide (d < (a.length : Int)) then (idx a d).bind fun f => (lk f).bind fun f => if (!f.2) then U ((aj.mk ([] : List ap) ([] : List (List UInt8))), n) else (app e [f.1]).bind fun f => (cJ a c g) (J.wrap (d + 1)) f else (ed (aj.mk e c)).bind fun a => if (!a) then U ((aj.mk ([] : List ap) ([] : List (List UInt8))), n) else U ((aj.mk e c), y)
noncomputable def jc (p0 : List UInt8) : Option (aj × Bool) :=
  (KB p0 ([124] : List UInt8)).bind fun a => if (!a.2.2) then U ((aj.mk ([] : List ap) ([] : List (List UInt8))), n) else (oB a.2.1 44).bind fun c => (oB a.1 59).bind fun a => cJ a c aI 0 ([] : List ap)
noncomputable def kU (a : Int × Int × Bool) (c : Int) : Option (Int × Int × Bool) :=
  (if (!a.2.2) then U y else (aW c (-1000000000) 1000000000).bind fun d => U (!d)).bind fun d => if d then U (0, 0, n) else U (c, a.2.1, y)
noncomputable def na (p0 : List Int) (p1 : Int) : Option (Int × Int × Bool) :=
  (oS p0 p1).bind fun a => if ((Int.tmod a.1 2) == 1) then kU a (J.wrap ((J.wrap (0 - (J.wrap (Int.tdiv a.1 2)))) - 1)) else kU a (J.wrap (Int.tdiv a.1 2))
noncomputable def aM (p0b : List Int) (p0 : ak) : Option (Int × ak) :=
  if p0.C_ then U (0, p0) else (na p0b p0.c_).bind fun a => if (!a.2.2) then U (0, (ak.mk p0.c_ y)) else U (a.1, (ak.mk a.2.1 p0.C_))
noncomputable def eJ (p0b : List Int) (p0 : ak) : Option (Bool × ak) :=
  (aM p0b p0).bind fun a => U ((a.1 == 1), (ak.mk a.2.c_ (a.2.C_ || ((a.1 != 0) && (a.1 != 1)))))
noncomputable def oR (p0 : bw) : Option (Bool) :=
  (aW p0.M_ 1 9).bind fun a => (if a then (aW p0.N_ 0 999).bind fun a => U a else U n).bind fun a => (if a then (aW p0.L_ 1 200).bind fun a => U a else U n).bind fun a => (if a then (aW p0.h_ 0 6).bind fun a => U a else U n).bind fun a => (if a then (aW p0.e_ 1 31).bind fun a => U a else U n).bind fun a => (if a then (aW p0.E_ 62 2000).bind fun a => U a else U n).bind fun a => U a
noncomputable def mf (p0 : Int) : Option ((List Int) × Bool) :=
  if (p0 == 1) then U (([24109, 48218, 60273, 64291, 65296, 65497, 65530] : List Int), n) else if (p0 == 6) then U (([162, 1137, 4061, 9909, 18681, 29208, 39734] : List Int), n) else U (([] : List Int), y)
noncomputable def lf (p0 : aR) : Option (Bool) :=
  (ed p0.g_).bind fun a => (if a then (oR p0.b_).bind fun a => U a else U n).bind fun a => (if a then (aW p0.j_ 1 4).bind fun a => U a else U n).bind fun a => (if a then (aW p0.O_ 1 (p0.g_.d_.length : Int)).bind fun a => U a else U n).bind fun a => (if a then (mf p0.P_).bind fun a => U (!a.2) else U n).bind fun a => (if a then (aW p0.s_ 1 9).bind fun a => U a else U n).bind fun a => (if a then (aW p0.r_ 1 9).bind fun a => U a else U n).bind fun a => U (a && (decide (p0.s_ ≤ p0.r_)))
noncomputable def bZ (p0b : List Int) (p0 : ak) : Option (Int × ak) :=
  (aM p0b p0).bind fun a => if ((decide (a.1 < 0)) || (decide (a.1 > (J.wrap ((p0b.length : Int) - a.2.c_))))) then U (0, (ak.mk a.2.c_ y)) else U (a.1, a.2)
noncomputable def iT (p0b : List Int) : Nat → Int → Bool → (List Int) → Int → Option ((List Int) × ak)
  | 0, _, _, _, _ => N
  | h + 1, d, a, e, f =>
    if ((decide (f > 0)) && (!a)) then (aM p0b (ak.mk d a)).bind fun c => (app e ([c.1] : List Int)).bind fun g => (iT p0b h) c.2.c_ c.2.C_ g (J.wrap (f - 1)) else U (e, (ak.mk d a))
noncomputable def cH (p0b : List Int) (p0 : ak) : Option ((List Int) × ak) :=
  (bZ p0b p0).bind fun a => iT p0b aI a.2.c_ a.2.C_ ([] : List Int) a.1
noncomputable def gJ (p0b : List Int) (d : List az) (e : Bool × ak) (f : Int × ak) (g : Int × ak) (h : (List Int) × ak) (i : Int × ak) (j : (List Int) × ak) (q : Int → Bool → (List az) → Int → Option (ax × ak)) (k : Int) : Nat → Int → Bool → (List (List Int)) → Int → Option (ax × ak)
  | 0, _, _, _, _ => N
  | r + 1, l, a, m, o =>
    if ((decide (o > 0)) && (!a)) then (cH p0b (ak.mk l a)).bind fun c => (app m [c.1]).bind fun p => (gJ p0b d e f g h i j q k r) c.2.c_ c.2.C_ p (J.wrap (o - 1)) else (aM p0b (ak.mk l a)).bind fun c => (cH p0b c.2).bind fun l => (aM p0b l.2).bind fun o => (aM p0b o.2).bind fun p => (aM p0b p.2).bind fun a => (app d [(az.mk e.1 (bD.mk f.1 g.1) h.1 i.1 (bl.mk j.1 m) c.1 l.1 o.1 p.1 a.1)]).bind fun c => q a.2.c_ a.2.C_ c (J.wrap (k - 1))
noncomputable def dm (p0b : List Int) (m : Int × ak) : Nat → Int → Bool → (List az) → Int → Option (ax × ak)
  | 0, _, _, _, _ => N
  | o + 1, d, a, e, f =>
    if ((decide (f > 0)) && (!a)) then (eJ p0b (ak.mk d a)).bind fun g => (aM p0b g.2).bind fun h => (aM p0b h.2).bind fun i => (cH p0b i.2).bind fun j => (aM p0b j.2).bind fun k => (cH p0b k.2).bind fun l => (bZ p0b l.2).bind fun c => gJ p0b e g h i j k l (dm p0b m o) f aI c.2.c_ c.2.C_ ([] : List (List Int)) c.1 else U ((ax.mk e m.1), (ak.mk d a))
noncomputable def fv (p0b : List Int) (p0 : ak) : Option (ax × ak) :=
  (aM p0b p0).bind fun c => (bZ p0b c.2).bind fun a => dm p0b c aI a.2.c_ a.2.C_ ([] : List az) a.1
noncomputable def eN (p0b : List Int) : Nat → Int → Bool → (List (List Int)) → Int → Option (aJ × ak)
  | 0, _, _, _, _ => N
  | h + 1, d, c, e, f =>
    if ((decide (f > 0)) && (!c)) then (cH p0b (ak.mk d c)).bind fun a => (app e [a.1]).bind fun g => (eN p0b h) a.2.c_ a.2.C_ g (J.wrap (f - 1)) else U ((aJ.mk e), (ak.mk d c))
noncomputable def dD (p0b : List Int) (p0 : ak) : Option (aJ × ak) :=
  (bZ p0b p0).bind fun a => eN p0b aI a.2.c_ a.2.C_ ([] : List (List Int)) a.1
noncomputable def eR (p0 : List Int) (i : aj × Bool) (j : Int × ak) (k : Int × ak) (l : Int × ak) (m : Int × ak) (o : Int × ak) (p : Int × ak) (q : Bool × ak) (r : Int × ak) (s : Int × ak) (t : Int × ak) (u : Int × ak) (v : Int × ak) (d : List au) (e : List (List Int)) : Nat → Int → (List aC) → Int → Bool → Option (ao × Bool)
  | 0, _, _, _, _ => N
  | w + 1, f, g, c, a =>
    if ((decide (f > 0)) && (!a)) then (aM p0 (ak.mk c a)).bind fun h => (aM p0 h.2).bind fun c => (app g ([(aC.mk h.1 c.1)] : List aC)).bind fun h => (eR p0 i j k l m o p q r s t u v d e w) (J.wrap (f - 1)) h c.2.c_ c.2.C_ else U ((ao.mk (aR.mk i.1 (bw.mk j.1 k.1 l.1 m.1 o.1 p.1 q.1) r.1 s.1 t.1 u.1 v.1) (be.mk d) (aZ.mk e g)), (!a))
noncomputable def eQ (c : aj × Bool) (p0 : List Int) (i : Int × ak) (j : Int × ak) (k : Int × ak) (l : Int × ak) (m : Int × ak) (o : Int × ak) (p : Bool × ak) (q : Int × ak) (r : Int × ak) (s : Int × ak) (t : Int × ak) (u : Int × ak) (d : List au) : Nat → Int → (List (List Int)) → Int → Bool → Option (ao × Bool)
  | 0, _, _, _, _ => N
  | w + 1, e, f, g, h =>
    if decide (e < (c.1.f_.length : Int)) then (cH p0 (ak.mk g h)).bind fun a => (app f [a.1]).bind fun v => (eQ c p0 i j k l m o p q r s t u d w) (J.wrap (e + 1)) v a.2.c_ a.2.C_ else (bZ p0 (ak.mk g h)).bind fun a => eR p0 c i j k l m o p q r s t u d f aI a.1 ([] : List aC) a.2.c_ a.2.C_
noncomputable def ee (c : Int × ak) (p0 : List Int) (l : aj × Bool) (m : Int × ak) (o : Int × ak) (p : Int × ak) (q : Int × ak) (r : Int × ak) (s : Int × ak) (t : Bool × ak) (u : Int × ak) (v : Int × ak) (w : Int × ak) (x : Int × ak) : Nat → Int → (List au) → Int → Bool → Option (ao × Bool)
  | 0, _, _, _, _ => N
  | A + 1, d, e, f, g =>
    if decide (d < c.1) then (fv p0 (ak.mk f g)).bind fun h => (eJ p0 h.2).bind fun i => (fv p0 i.2).bind fun j => (dD p0 j.2).bind fun k => (dD p0 k.2).bind fun a => (app e [(au.mk h.1 i.1 j.1 (dg.mk k.1 a.1))]).bind fun h => (ee c p0 l m o p q r s t u v w x A) (J.wrap (d + 1)) h a.2.c_ a.2.C_ else eQ l p0 m o p q r s t c u v w x e aI 0 ([] : List (List Int)) f g
noncomputable def dW (p0 : List Int) : Option (ao × Bool) :=
  (nz p0 4).bind fun a => if (!a.2.2) then U ((ao.mk (aR.mk (aj.mk ([] : List ap) ([] : List (List UInt8))) (bw.mk 0 0 0 0 0 0 n) 0 0 0 0 0) (be.mk ([] : List au)) (aZ.mk ([] : List (List Int)) ([] : List aC))), n) else (jc a.1).bind fun c => if (!c.2) then U ((ao.mk (aR.mk (aj.mk ([] : List ap) ([] : List (List UInt8))) (bw.mk 0 0 0 0 0 0 n) 0 0 0 0 0) (be.mk ([] : List au)) (aZ.mk ([] : List (List Int)) ([] : List aC))), n) else (aM p0 (ak.mk a.2.1 n)).bind fun d => (aM p0 d.2).bind fun e => (aM p0 e.2).bind fun f => (aM p0 f.2).bind fun g => (aM p0 g.2).bind fun h => (aM p0 h.2).bind fun i => (eJ p0 i.2).bind fun j => (aM p0 j.2).bind fun k => (aM p0 k.2).bind fun l => (aM p0 l.2).bind fun m => (aM p0 m.2).bind fun o => (aM p0 o.2).bind fun a => (if a.2.C_ then U y else (lf (aR.mk c.1 (bw.mk d.1 e.1 f.1 g.1 h.1 i.1 j.1) k.1 l.1 m.1 o.1 a.1)).bind fun p => U (!p)).bind fun p => if p then U ((ao.mk (aR.mk (aj.mk ([] : List ap) ([] : List (List UInt8))) (bw.mk 0 0 0 0 0 0 n) 0 0 0 0 0) (be.mk ([] : List au)) (aZ.mk ([] : List (List Int)) ([] : List aC))), n) else ee k p0 c d e f g h i j l m o a aI 0 ([] : List au) a.2.c_ a.2.C_
noncomputable def pu (p0 : Int) : Option (Bool) :=
  (aW p0 0 999).bind fun a => U (!a)
noncomputable def bL (p0 : List Int) : Nat → Int → Option (Int)
  | 0, _ => N
  | d + 1, a =>
    if decide (a < (p0.length : Int)) then (idx p0 a).bind fun c => (pu c).bind fun c => if c then U a else (bL p0 d) (J.wrap (a + 1)) else U (-1)
noncomputable def cE (p0 : List Int) : Option (Int) :=
  bL p0 aI 0
noncomputable def bX (p0 : List Int) : Option (Bool) :=
  (cE p0).bind fun a => U (decide (a ≥ 0))
noncomputable def nk (p0 : List Int) (p1 : Int) : Option (Bool) :=
  (if ((p0.length : Int) == p1) then (bX p0).bind fun a => U (!a) else U n).bind fun a => U a
noncomputable def fL (p0 : List Int) : Nat → Int → Int → Option (Int)
  | 0, _, _ => N
  | e + 1, c, a =>
    if decide (a < (p0.length : Int)) then (idx p0 a).bind fun d => (fL p0 e) (J.wrap (c + d)) (J.wrap (a + 1)) else U c
noncomputable def ls (p0 : List Int) : Option (Int) :=
  fL p0 aI 0 0
noncomputable def nq (p0 : ap) : Option (Int) :=
  if decide ((p0.w_.length : Int) > 0) then U (J.wrap ((p0.w_.length : Int) + 1)) else U (p0.F_.length : Int)
noncomputable def tV (p0 : Int) : Option (List Int) :=
  (mk (0 : Int) p0).bind fun a => U a
noncomputable def dK (e : List Int) (p0 : aj) (p1 : bl) (k : Int → Option (Bool)) (f : Int) : Nat → Int → (List Int) → Option (Bool)
  | 0, _, _ => N
  | l + 1, a, c =>
    if decide (a < (e.length : Int)) then (idx e a).bind fun g => (rem a (p0.f_.length : Int)).bind fun d => (idx c d).bind fun h => (idx c d).bind fun _ => (rem a (p0.f_.length : Int)).bind fun i => (idx (c.set d.toNat (J.wrap (h + g))) i).bind fun i => (rem a (p0.f_.length : Int)).bind fun j => (idx p1.q_ j).bind fun j => if decide (i > j) then U n else (dK e p0 p1 k f l) (J.wrap (a + 1)) (c.set d.toNat (J.wrap (h + g))) else k (J.wrap (f + 1))
noncomputable def dt (p1 : bl) (p0 : aj) : Nat → Int → Option (Bool)
  | 0, _ => N
  | e + 1, a =>
    if decide (a < (p1.k_.length : Int)) then (idx p1.k_ a).bind fun c => (idx p0.d_ a).bind fun d => (nq d).bind fun d => (nk c (J.wrap (d * (p0.f_.length : Int)))).bind fun d => if (!d) then U n else (tV (p0.f_.length : Int)).bind fun d => dK c p0 p1 (dt p1 p0 e) a aI 0 d else U y
noncomputable def pM (p0 : aj) (p1 : bl) : Option (Bool) :=
  (ed p0).bind fun a => (if (!a) then U y else (nk p1.q_ (p0.f_.length : Int)).bind fun a => U (!a)).bind fun a => (if a then U y else (ls p1.q_).bind fun a => U (decide (a > 999))).bind fun a => if a then U n else if ((p1.k_.length : Int) == 0) then U y else if ((p1.k_.length : Int) != (p0.d_.length : Int)) then U n else dt p1 p0 aI 0
noncomputable def pf (p0 : aj) (p1 : List Int) : Option (Bool) :=
  (ed p0).bind fun a => (if (a && (decide ((p1.length : Int) > 0))) then (go p1).bind fun a => U a else U n).bind fun a => (if a then (idx p1 0).bind fun a => U (decide (a ≥ 0)) else U n).bind fun a => (if a then (idx p1 (J.wrap ((p1.length : Int) - 1))).bind fun a => U (decide (a < (p0.d_.length : Int))) else U n).bind fun a => U a
noncomputable def qP (p0 : aj) (p1 : bD) : Option (Bool) :=
  (ed p0).bind fun a => (if (!a) then U y else (aW p1.t_ 0 (J.wrap ((p0.d_.length : Int) - 1))).bind fun a => U (!a)).bind fun a => if a then U n else (idx p0.d_ p1.t_).bind fun a => (nq a).bind fun c => if decide ((a.w_.length : Int) > 0) then (aW p1.u_ (-1) (J.wrap ((J.wrap (c - 1)) - 1))).bind fun a => U a else (aW p1.u_ (-1) (J.wrap (c - 1))).bind fun a => U a
noncomputable def kr (p0 : aj) (p1 : bD) : Option (Int) :=
  (qP p0 p1).bind fun a => if (!a) then U 0 else if (p1.u_ == (-1)) then (idx p0.d_ p1.t_).bind fun a => (nq a).bind fun a => U a else U 2
noncomputable def om (p0 : Int) (p1 : Int) (a : ax) : Option (Bool) :=
  (aW p0 (J.wrap (p1 + 1)) (J.wrap ((a.e_.length : Int) - 1))).bind fun c => (if (!c) then U y else (idx a.e_ p0).bind fun a => U (a.A_ != p1)).bind fun a => U a
noncomputable def bN (p0 : List Int) (p1_0 : Int) (p1_1 : ax) : Nat → Int → Option (Int)
  | 0, _ => N
  | d + 1, a =>
    if decide (a < (p0.length : Int)) then (idx p0 a).bind fun c => (om c p1_0 p1_1).bind fun c => if c then U a else (bN p0 p1_0 p1_1 d) (J.wrap (a + 1)) else U (-1)
noncomputable def cO (p0 : List Int) (p1_0 : Int) (p1_1 : ax) : Option (Int) :=
  bN p0 p1_0 p1_1 aI 0
noncomputable def cb (p0 : List Int) (p1_0 : Int) (p1_1 : ax) : Option (Bool) :=
  (cO p0 p1_0 p1_1).bind fun a => U (decide (a ≥ 0))
noncomputable def kC (a : az) (c : Int) : Option (Bool) :=
  (if (((a.i_.t_ == 0 && (a.i_.u_ == 0 && y)) && ((a.v_.length : Int) == 0)) && (a.I_ == 0)) then (aW a.J_ 0 c).bind fun a => U a else U n).bind fun a => U a
noncomputable def qD (p0 : aj) (p1 : ax) (d : Int) : Option (Bool) :=
  (idx p1.e_ d).bind fun a => (aW a.h_ 0 6).bind fun c => (if (!c) then U y else (aW a.G_ 0 p1.y_).bind fun c => U (!c)).bind fun c => (if c then U y else (pM p0 a.l_).bind fun c => U (!c)).bind fun c => (if c then U y else (pf p0 a.d_).bind fun c => U (!c)).bind fun c => if c then U n else if a.B_ then (ls a.l_.q_).bind fun c => if ((a.l_.k_.length : Int) == 0) then kC a 0 else kC a c else (kr p0 a.i_).bind fun c => (if ((c == 0) || ((a.v_.length : Int) != c)) then U y else (go a.v_).bind fun e => U (!e)).bind fun e => (if e then U y else (aW a.I_ 0 (J.wrap (c - 1))).bind fun c => U (!c)).bind fun c => if ((c || ((a.l_.k_.length : Int) != 0)) || (a.J_ != 0)) then U n else (cb a.v_ d p1).bind fun a => U (!a)
noncomputable def de (p0 : List Int) (p1 : Int) : Nat → Int → Option (Int)
  | 0, _ => N
  | d + 1, a =>
    if decide (a < (p0.length : Int)) then (idx p0 a).bind fun c => if (p1 == c) then U a else (de p0 p1 d) (J.wrap (a + 1)) else U (-1)
noncomputable def gh (p0 : List Int) (p1 : Int) : Option (Int) :=
  de p0 p1 aI 0
noncomputable def dS (p0 : List Int) (p1 : Int) : Option (Bool) :=
  (gh p0 p1).bind fun a => U (decide (a ≥ 0))
noncomputable def eD (p1 : ax) (p0 : aj) : Nat → Int → Option (Bool)
  | 0, _ => N
  | f + 1, c =>
    if decide (c < (p1.e_.length : Int)) then (idx p1.e_ c).bind fun a => (qD p0 p1 c).bind fun d => if (!d) then U n else if (c == 0) then if (((a.A_ != (-1)) || (a.h_ != 0)) || (a.G_ != 0)) then U n else (eD p1 p0 f) (J.wrap (c + 1)) else (aW a.A_ 0 (J.wrap (c - 1))).bind fun d => if (!d) then U n else (idx p1.e_ a.A_).bind fun d => (if d.B_ then U y else (dS d.v_ c).bind fun e => U (!e)).bind fun e => if ((e || (d.h_ != (J.wrap (a.h_ - 1)))) || (decide (d.G_ > a.G_))) then U n else (eD p1 p0 f) (J.wrap (c + 1)) else U y
noncomputable def qM (p0 : aj) (p1 : ax) : Option (Bool) :=
  (ed p0).bind fun a => (if (!a) then U y else (aW (p1.e_.length : Int) 1 31).bind fun a => U (!a)).bind fun a => (if a then U y else (aW p1.y_ 0 99999).bind fun a => U (!a)).bind fun a => if a then U n else eD p1 p0 aI 0
noncomputable def fj (p0 : ax) : Nat → Int → Int → Option (Int)
  | 0, _, _ => N
  | e + 1, a, c =>
    if decide (a < (p0.e_.length : Int)) then (idx p0.e_ a).bind fun d => (fj p0 e) (J.wrap (a + 1)) (if c < d.h_ then d.h_ else c) else U c
noncomputable def pJ (p0 : ax) : Option (Int) :=
  if ((p0.e_.length : Int) == 0) then U 0 else (idx p0.e_ 0).bind fun a => fj p0 aI 0 a.h_
noncomputable def gV (p0 : az) : Nat → Int → Int → Option (Int)
  | 0, _, _ => N
  | e + 1, a, c =>
    if decide (a < (p0.l_.k_.length : Int)) then (idx p0.l_.k_ a).bind fun d => (gV p0 e) (J.wrap (a + 1)) (J.wrap (c + (d.length : Int))) else U c
noncomputable def pD (p0 : az) : Option (Int) :=
  if (!p0.B_) then U 1 else gV p0 aI 0 2
noncomputable def iI (p0 : ax) : Nat → Int → Int → Option (Int)
  | 0, _, _ => N
  | e + 1, c, a =>
    if decide (a < (p0.e_.length : Int)) then (idx p0.e_ a).bind fun d => (pD d).bind fun d => (iI p0 e) (J.wrap (c + d)) (J.wrap (a + 1)) else U c
noncomputable def mI (p0 : ax) : Option (Int) :=
  iI p0 aI 0 0
noncomputable def rD (p0 : aj) (p1 : bw) (a : ax) : Option (Bool) :=
  (qM p0 a).bind fun c => (if c then (oR p1).bind fun c => U c else U n).bind fun c => (if (c && (decide ((a.e_.length : Int) ≤ p1.e_))) then (pJ a).bind fun c => U (decide (c ≤ p1.h_)) else U n).bind fun c => (if c then (mI a).bind fun a => U (decide (a ≤ p1.E_)) else U n).bind fun a => U a
noncomputable def ow (p0 : Int) (p1 : Int) : Option (Bool) :=
  (shl J 1 p1).bind fun x10 => (aW p0 0 x10).bind fun a => U (!a)
noncomputable def bF (p0 : List Int) (p1_0 : Int) : Nat → Int → Option (Int)
  | 0, _ => N
  | d + 1, a =>
    if decide (a < (p0.length : Int)) then (idx p0 a).bind fun c => (ow c p1_0).bind fun c => if c then U a else (bF p0 p1_0 d) (J.wrap (a + 1)) else U (-1)
noncomputable def cC (p0 : List Int) (p1_0 : Int) : Option (Int) :=
  bF p0 p1_0 aI 0
noncomputable def bW (p0 : List Int) (p1_0 : Int) : Option (Bool) :=
  (cC p0 p1_0).bind fun a => U (decide (a ≥ 0))
noncomputable def dQ (p0 : aJ) : Nat → Int → Option (Bool)
  | 0, _ => N
  | e + 1, a =>
    if decide (a < (p0.p_.length : Int)) then (idx p0.p_ a).bind fun c => (aW (c.length : Int) 1 3).bind fun d => (if (!d) then U y else (bW c a).bind fun c => U c).bind fun c => if c then U n else (dQ p0 e) (J.wrap (a + 1)) else U y
noncomputable def ml (p0 : aJ) : Option (Bool) :=
  if decide ((p0.p_.length : Int) > 8) then U n else dQ p0 aI 0
noncomputable def sa (p0 : dg) : Option (Bool) :=
  (ml p0.s_).bind fun a => (if a then (ml p0.r_).bind fun a => U a else U n).bind fun a => U a
noncomputable def fk (p0 : List Int) (p1 : List Int) : Nat → Int → Option (Bool)
  | 0, _ => N
  | e + 1, a =>
    if decide (a < (p0.length : Int)) then (idx p0 a).bind fun c => (idx p1 a).bind fun d => if (c != d) then U n else (fk p0 p1 e) (J.wrap (a + 1)) else U y
noncomputable def dG (p0 : List Int) (p1 : List Int) : Option (Bool) :=
  if ((p0.length : Int) != (p1.length : Int)) then U n else fk p0 p1 aI 0
noncomputable def qd (p0 : List Int) (p1 : List Int) : Option (Bool) :=
  (dG p0 p1).bind fun a => U a
noncomputable def bI (p0 : List (List Int)) (p1 : List (List Int)) : Nat → Int → Option (Bool)
  | 0, _ => N
  | e + 1, a =>
    if decide (a < (p0.length : Int)) then (idx p0 a).bind fun c => (idx p1 a).bind fun d => (qd c d).bind fun c => if (!c) then U n else (bI p0 p1 e) (J.wrap (a + 1)) else U y
noncomputable def cl (p0 : List (List Int)) (p1 : List (List Int)) : Option (Bool) :=
  if ((p0.length : Int) != (p1.length : Int)) then U n else bI p0 p1 aI 0
noncomputable def rN (p0 : List (List Int)) (p1 : List (List Int)) : Option (Bool) :=
  (cl p0 p1).bind fun a => U a
noncomputable def sv (p0 : bl) (p1 : bl) : Option (Bool) :=
  (dG p0.q_ p1.q_).bind fun a => (if a then (rN p0.k_ p1.k_).bind fun a => U a else U n).bind fun a => U a
noncomputable def tn (p0 : az) (p1 : az) : Option (Bool) :=
  (if ((p0.B_ == p1.B_) && (p0.i_.t_ == p1.i_.t_ && (p0.i_.u_ == p1.i_.u_ && y))) then (dG p0.v_ p1.v_).bind fun a => U a else U n).bind fun a => (if (a && (p0.I_ == p1.I_)) then (sv p0.l_ p1.l_).bind fun a => U a else U n).bind fun a => (if (a && (p0.J_ == p1.J_)) then (dG p0.d_ p1.d_).bind fun a => U a else U n).bind fun a => U (((a && (p0.h_ == p1.h_)) && (p0.A_ == p1.A_)) && (p0.G_ == p1.G_))
noncomputable def bb (p0 : List az) (p1 : List az) : Nat → Int → Option (Bool)
  | 0, _ => N
  | e + 1, a =>
    if decide (a < (p0.length : Int)) then (idx p0 a).bind fun d => (idx p1 a).bind fun c => (tn d c).bind fun c => if (!c) then U n else (bb p0 p1 e) (J.wrap (a + 1)) else U y
noncomputable def br (p0 : List az) (p1 : List az) : Option (Bool) :=
  if ((p0.length : Int) != (p1.length : Int)) then U n else bb p0 p1 aI 0
noncomputable def oh (p0 : ax) (p1 : ax) : Option (Bool) :=
  (if (p0.y_ == p1.y_) then (br p0.e_ p1.e_).bind fun a => U a else U n).bind fun a => U a
noncomputable def nV (p0 : aR) (p1 : au) : Option (Bool) :=
  (lf p0).bind fun a => (if (!a) then U y else (rD p0.g_ p0.b_ p1.H_).bind fun a => U (!a)).bind fun a => (if a then U y else (sa p1.K_).bind fun a => U (!a)).bind fun a => if a then U n else if p1.T_ then (rD p0.g_ p0.b_ p1.x_).bind fun a => U a else (oh p1.x_ (ax.mk ([] : List az) 0)).bind fun a => U a
noncomputable def oy (p0 : au) (p1 : aR) : Option (Bool) :=
  (nV p1 p0).bind fun a => U (!a)
noncomputable def bd (p0 : List au) (p1_0 : aR) : Nat → Int → Option (Int)
  | 0, _ => N
  | d + 1, a =>
    if decide (a < (p0.length : Int)) then (idx p0 a).bind fun c => (oy c p1_0).bind fun c => if c then U a else (bd p0 p1_0 d) (J.wrap (a + 1)) else U (-1)
noncomputable def bQ (p0 : List au) (p1_0 : aR) : Option (Int) :=
  bd p0 p1_0 aI 0
noncomputable def bt (p0 : List au) (p1_0 : aR) : Option (Bool) :=
  (bQ p0 p1_0).bind fun a => U (decide (a ≥ 0))
noncomputable def oa (p0 : aR) (p1 : be) : Option (Bool) :=
  (lf p0).bind fun a => (if (a && ((p1.j_.length : Int) == p0.j_)) then (bt p1.j_ p0).bind fun a => U (!a) else U n).bind fun a => U a
noncomputable def pS (p0 : Int) : Option (Bool) :=
  (aW p0 0 9999).bind fun a => U (!a)
noncomputable def fo (p0 : List (List Int)) : Nat → Int → Int → Option (Int)
  | 0, _, _ => N
  | e + 1, c, a =>
    if decide (a < (p0.length : Int)) then (idx p0 a).bind fun d => (ls d).bind fun d => (fo p0 e) (J.wrap (c + d)) (J.wrap (a + 1)) else U c
noncomputable def nW (p0 : List (List Int)) : Option (Int) :=
  fo p0 aI 0 0
noncomputable def bK (p0 : List Int) : Nat → Int → Option (Int)
  | 0, _ => N
  | d + 1, a =>
    if decide (a < (p0.length : Int)) then (idx p0 a).bind fun c => (pS c).bind fun c => if c then U a else (bK p0 d) (J.wrap (a + 1)) else U (-1)
noncomputable def cF (p0 : List Int) : Option (Int) :=
  bK p0 aI 0
noncomputable def bY (p0 : List Int) : Option (Bool) :=
  (cF p0).bind fun a => U (decide (a ≥ 0))
noncomputable def dN (p1 : aZ) (p0 : Int) : Nat → Int → (List (aC × Int)) → Option (Bool)
  | 0, _, _ => N
  | f + 1, d, c =>
    if decide (d < (p1.n_.length : Int)) then (idx p1.n_ d).bind fun a => (aW a.R_ 0 (J.wrap (p0 - 1))).bind fun e => (if (!e) then U y else (aW a.S_ 0 (J.wrap (p0 - 1))).bind fun e => U (!e)).bind fun e => (if e then U y else (idx p1.o_ a.R_).bind fun e => (idx e a.S_).bind fun e => U (decide ((ii (xk c a (J.wrap ((ii c a) + 1))) a) > e))).bind fun e => if e then U n else (dN p1 p0 f) (J.wrap (d + 1)) (xk c a (J.wrap ((ii c a) + 1))) else U y
noncomputable def eA (p1 : aZ) (p0 : Int) : Nat → Int → Option (Bool)
  | 0, _ => N
  | d + 1, a =>
    if decide (a < (p1.o_.length : Int)) then (idx p1.o_ a).bind fun c => (if ((c.length : Int) != p0) then U y else (bY c).bind fun c => U c).bind fun c => if c then U n else (eA p1 p0 d) (J.wrap (a + 1)) else (nW p1.o_).bind fun a => if ((decide (a > 9999)) || ((p1.n_.length : Int) != (if 20 < a then 20 else a))) then U n else dN p1 p0 aI 0 ([] : List (aC × Int))
noncomputable def ph (p0 : Int) (p1 : aZ) : Option (Bool) :=
  (aW p0 2 3).bind fun a => if ((!a) || ((p1.o_.length : Int) != p0)) then U n else eA p1 p0 aI 0
noncomputable def nw (p0 : ao) : Option (Bool) :=
  (oa p0.a_ p0.z_).bind fun a => (if a then (ph (p0.a_.g_.f_.length : Int) p0.m_).bind fun a => U a else U n).bind fun a => U a
noncomputable def ej (p0 : aj) : Nat → Int → (List (List UInt8)) → Option (List UInt8)
  | 0, _, _ => N
  | e + 1, a, c =>
    if decide (a < (p0.d_.length : Int)) then (idx p0.d_ a).bind fun d => (jh d).bind fun d => (app c ([d] : List (List UInt8))).bind fun d => (ej p0 e) (J.wrap (a + 1)) d else (vx c ([59] : List UInt8)).bind fun a => (mB a ([124] : List UInt8)).bind fun a => (vx p0.f_ ([44] : List UInt8)).bind fun c => (mB a c).bind fun a => U a
noncomputable def lP (p0 : aj) : Option (List UInt8) :=
  (ed p0).bind fun a => if (!a) then U ([] : List UInt8) else ej p0 aI 0 ([] : List (List UInt8))
noncomputable def jB  : Nat → Int → (List Int) → Option ((List Int) × Bool)
  | 0, _, _ => N
  | e + 1, a, c =>
    if decide (a ≥ 128) then (app c ([K.wrap (eK .or J (eK .and J a 127) 128)] : List Int)).bind fun d => (jB e) (qa J a 7) d else (app c ([K.wrap a] : List Int)).bind fun a => U (a, n)
noncomputable def ng (p0 : Int) : Option ((List Int) × Bool) :=
  (aW p0 0 2147483647).bind fun a => if (!a) then U (([] : List Int), y) else jB aI p0 ([] : List Int)
noncomputable def pg (p0 : List UInt8) : Option (List Int) :=
  (ng (p0.length : Int)).bind fun a => (wD p0).bind fun c => (app a.1 c).bind fun a => U a
noncomputable def rE (p0 : Bool) : Option (Int) :=
  if p0 then U 1 else U 0
noncomputable def qG (p0 : Int) : Option ((List Int) × Bool) :=
  (aW p0 (-1000000000) 1000000000).bind fun a => if (!a) then U (([] : List Int), y) else if decide (p0 < 0) then (ng (J.wrap ((J.wrap ((-2) * p0)) - 1))).bind fun a => U (a.1, a.2) else (ng (J.wrap (2 * p0))).bind fun a => U (a.1, a.2)
noncomputable def fD (p1 : List Int) : Nat → (List Int) → Bool → Int → Option (ck)
  | 0, _, _, _ => N
  | g + 1, c, d, a =>
    if decide (a < (p1.length : Int)) then (idx p1 a).bind fun e => (qG e).bind fun e => (app c e.1).bind fun f => (fD p1 g) f (d || e.2) (J.wrap (a + 1)) else U (ck.mk c d)
noncomputable def bO (p0 : ck) (p1 : List Int) : Option (ck) :=
  fD p1 aI p0.U_ p0.C_ 0
noncomputable def du (p0 : ck) (p1 : List Int) : Option (ck) :=
  (bO p0 ([(p1.length : Int)] : List Int)).bind fun a => (bO a p1).bind fun a => U a
noncomputable def iU (a : az) (h : (List Int) → Bool → Int → Option (ck)) (d : Int) : Nat → (List Int) → Bool → Int → Option (ck)
  | 0, _, _, _ => N
  | i + 1, e, f, c =>
    if decide (c < (a.l_.k_.length : Int)) then (idx a.l_.k_ c).bind fun g => (du (ck.mk e f) g).bind fun g => (iU a h d i) g.U_ g.C_ (J.wrap (c + 1)) else (bO (ck.mk e f) ([a.J_] : List Int)).bind fun c => (du c a.d_).bind fun c => (bO c ([a.h_, a.A_, a.G_] : List Int)).bind fun a => h a.U_ a.C_ (J.wrap (d + 1))
noncomputable def dJ (p1 : ax) : Nat → (List Int) → Bool → Int → Option (ck)
  | 0, _, _, _ => N
  | g + 1, d, e, c =>
    if decide (c < (p1.e_.length : Int)) then (idx p1.e_ c).bind fun a => (rE a.B_).bind fun f => (bO (ck.mk d e) ([f, a.i_.t_, a.i_.u_] : List Int)).bind fun f => (du f a.v_).bind fun f => (bO f ([a.I_] : List Int)).bind fun f => (du f a.l_.q_).bind fun f => (bO f ([(a.l_.k_.length : Int)] : List Int)).bind fun f => iU a (dJ p1 g) c aI f.U_ f.C_ 0 else U (ck.mk d e)
noncomputable def jk (p0 : ck) (p1 : ax) : Option (ck) :=
  (bO p0 ([p1.y_, (p1.e_.length : Int)] : List Int)).bind fun a => dJ p1 aI a.U_ a.C_ 0
noncomputable def gX (p1 : aJ) : Nat → (List Int) → Bool → Int → Option (ck)
  | 0, _, _, _ => N
  | f + 1, c, d, a =>
    if decide (a < (p1.p_.length : Int)) then (idx p1.p_ a).bind fun e => (du (ck.mk c d) e).bind fun e => (gX p1 f) e.U_ e.C_ (J.wrap (a + 1)) else U (ck.mk c d)
noncomputable def il (p0 : ck) (p1 : aJ) : Option (ck) :=
  (bO p0 ([(p1.p_.length : Int)] : List Int)).bind fun a => gX p1 aI a.U_ a.C_ 0
noncomputable def fY (p0 : ao) : Nat → Int → (List Int) → Bool → Option (List Int)
  | 0, _, _, _ => N
  | f + 1, a, c, e =>
    if decide (a < (p0.m_.n_.length : Int)) then (idx p0.m_.n_ a).bind fun d => (bO (ck.mk c e) ([d.R_, d.S_] : List Int)).bind fun d => (fY p0 f) (J.wrap (a + 1)) d.U_ d.C_ else (fM c).bind fun a => (app c a).bind fun a => U a
noncomputable def eZ (p0 : ao) : Nat → Int → (List Int) → Bool → Option (List Int)
  | 0, _, _, _ => N
  | f + 1, a, c, d =>
    if decide (a < (p0.m_.o_.length : Int)) then (idx p0.m_.o_ a).bind fun e => (du (ck.mk c d) e).bind fun e => (eZ p0 f) (J.wrap (a + 1)) e.U_ e.C_ else (bO (ck.mk c d) ([(p0.m_.n_.length : Int)] : List Int)).bind fun a => fY p0 aI 0 a.U_ a.C_
noncomputable def fU (p0 : ao) : Nat → (List Int) → Bool → Int → Option (List Int)
  | 0, _, _, _ => N
  | h + 1, d, e, c =>
    if decide (c < (p0.z_.j_.length : Int)) then (idx p0.z_.j_ c).bind fun a => (jk (ck.mk d e) a.H_).bind fun f => (rE a.T_).bind fun g => (bO f ([g] : List Int)).bind fun f => (jk f a.x_).bind fun f => (il f a.K_.s_).bind fun f => (il f a.K_.r_).bind fun a => (fU p0 h) a.U_ a.C_ (J.wrap (c + 1)) else eZ p0 aI 0 d e
noncomputable def fg (p0 : ao) : Option (List Int) :=
  (nw p0).bind fun a => if (!a) then U ([] : List Int) else (app ([83, 80, 78] : List Int) ([1] : List Int)).bind fun a => (lP p0.a_.g_).bind fun c => (pg c).bind fun c => (app a c).bind fun a => (rE p0.a_.b_.Q_).bind fun c => (bO (ck.mk a n) ([p0.a_.b_.M_, p0.a_.b_.N_, p0.a_.b_.L_, p0.a_.b_.h_, p0.a_.b_.e_, p0.a_.b_.E_, c] : List Int)).bind fun a => (bO a ([p0.a_.j_, p0.a_.O_, p0.a_.P_, p0.a_.s_, p0.a_.r_] : List Int)).bind fun a => fU p0 aI a.U_ a.C_ 0
noncomputable def jW (p0 : List Int) : Option (ao × Int) :=
  if decide ((p0.length : Int) < 8) then U ((ao.mk (aR.mk (aj.mk ([] : List ap) ([] : List (List UInt8))) (bw.mk 0 0 0 0 0 0 n) 0 0 0 0 0) (be.mk ([] : List au)) (aZ.mk ([] : List (List Int)) ([] : List aC))), 1) else (sub p0 0 3).bind fun a => if (!((dw a) == ([83, 80, 78] : List UInt8))) then U ((ao.mk (aR.mk (aj.mk ([] : List ap) ([] : List (List UInt8))) (bw.mk 0 0 0 0 0 0 n) 0 0 0 0 0) (be.mk ([] : List au)) (aZ.mk ([] : List (List Int)) ([] : List aC))), 2) else (idx p0 3).bind fun a => if (a != 1) then U ((ao.mk (aR.mk (aj.mk ([] : List ap) ([] : List (List UInt8))) (bw.mk 0 0 0 0 0 0 n) 0 0 0 0 0) (be.mk ([] : List au)) (aZ.mk ([] : List (List Int)) ([] : List aC))), 3) else (sub p0 (J.wrap ((p0.length : Int) - 4)) (p0.length : Int)).bind fun a => (sub p0 0 (J.wrap ((p0.length : Int) - 4))).bind fun c => (fM c).bind fun c => (gU a c).bind fun a => if (!a) then U ((ao.mk (aR.mk (aj.mk ([] : List ap) ([] : List (List UInt8))) (bw.mk 0 0 0 0 0 0 n) 0 0 0 0 0) (be.mk ([] : List au)) (aZ.mk ([] : List (List Int)) ([] : List aC))), 4) else (sub p0 0 (J.wrap ((p0.length : Int) - 4))).bind fun a => (dW a).bind fun a => (if (!a.2) then U y else (fg a.1).bind fun c => (gU c p0).bind fun c => U (!c)).bind fun c => if c then U ((ao.mk (aR.mk (aj.mk ([] : List ap) ([] : List (List UInt8))) (bw.mk 0 0 0 0 0 0 n) 0 0 0 0 0) (be.mk ([] : List au)) (aZ.mk ([] : List (List Int)) ([] : List aC))), 5) else U (a.1, 0)
noncomputable def mQ (p0 : List Int) (p1 : List Int) : Nat → Int → Option (Bool)
  | 0, _ => N
  | e + 1, a =>
    if decide (a < (p0.length : Int)) then (idx p0 a).bind fun c => (idx p1 a).bind fun d => if (c != d) then U n else (mQ p0 p1 e) (J.wrap (a + 1)) else U y
noncomputable def jf (p0 : List Int) (p1 : List Int) : Option (Bool) :=
  if ((p0.length : Int) != (p1.length : Int)) then U n else mQ p0 p1 aI 0
noncomputable def ki (p0 : List (List UInt8)) (p1 : List (List UInt8)) : Nat → Int → Option (Bool)
  | 0, _ => N
  | e + 1, a =>
    if decide (a < (p0.length : Int)) then (idx p0 a).bind fun c => (idx p1 a).bind fun d => if (!(c == d)) then U n else (ki p0 p1 e) (J.wrap (a + 1)) else U y
noncomputable def kF (p0 : List (List UInt8)) (p1 : List (List UInt8)) : Option (Bool) :=
  if ((p0.length : Int) != (p1.length : Int)) then U n else ki p0 p1 aI 0
noncomputable def pb (p0 : ap) (p1 : ap) : Option (Bool) :=
  if (!(p0.D_ == p1.D_)) then U n else (jf p0.w_ p1.w_).bind fun a => if (!a) then U n else (kF p0.F_ p1.F_).bind fun a => if (!a) then U n else U y
noncomputable def me (p0 : List ap) (p1 : List ap) : Nat → Int → Option (Bool)
  | 0, _ => N
  | e + 1, a =>
    if decide (a < (p0.length : Int)) then (idx p0 a).bind fun c => (idx p1 a).bind fun d => (pb c d).bind fun c => if (!c) then U n else (me p0 p1 e) (J.wrap (a + 1)) else U y
noncomputable def pk (p0 : List ap) (p1 : List ap) : Option (Bool) :=
  if ((p0.length : Int) != (p1.length : Int)) then U n else me p0 p1 aI 0
noncomputable def nZ (p0 : aj) (p1 : aj) : Option (Bool) :=
  (pk p0.d_ p1.d_).bind fun a => if (!a) then U n else (kF p0.f_ p1.f_).bind fun a => if (!a) then U n else U y
noncomputable def qA (p0 : bw) (p1 : bw) : Option (Bool) :=
  if (p0.M_ != p1.M_) then U n else if (p0.N_ != p1.N_) then U n else if (p0.L_ != p1.L_) then U n else if (p0.h_ != p1.h_) then U n else if (p0.e_ != p1.e_) then U n else if (p0.E_ != p1.E_) then U n else if (p0.Q_ != p1.Q_) then U n else U y
noncomputable def qO (p0 : aR) (p1 : aR) : Option (Bool) :=
  (nZ p0.g_ p1.g_).bind fun a => if (!a) then U n else (qA p0.b_ p1.b_).bind fun a => if (!a) then U n else if (p0.j_ != p1.j_) then U n else if (p0.O_ != p1.O_) then U n else if (p0.P_ != p1.P_) then U n else if (p0.s_ != p1.s_) then U n else if (p0.r_ != p1.r_) then U n else U y
noncomputable def qH (p0 : bD) (p1 : bD) : Option (Bool) :=
  if (p0.t_ != p1.t_) then U n else if (p0.u_ != p1.u_) then U n else U y
noncomputable def ma (p0 : List (List Int)) (p1 : List (List Int)) : Nat → Int → Option (Bool)
  | 0, _ => N
  | e + 1, a =>
    if decide (a < (p0.length : Int)) then (idx p0 a).bind fun c => (idx p1 a).bind fun d => (jf c d).bind fun c => if (!c) then U n else (ma p0 p1 e) (J.wrap (a + 1)) else U y
noncomputable def lD (p0 : List (List Int)) (p1 : List (List Int)) : Option (Bool) :=
  if ((p0.length : Int) != (p1.length : Int)) then U n else ma p0 p1 aI 0
noncomputable def pz (p0 : bl) (p1 : bl) : Option (Bool) :=
  (jf p0.q_ p1.q_).bind fun a => if (!a) then U n else (lD p0.k_ p1.k_).bind fun a => if (!a) then U n else U y
noncomputable def oL (p0 : az) (p1 : az) : Option (Bool) :=
  if (p0.B_ != p1.B_) then U n else (qH p0.i_ p1.i_).bind fun a => if (!a) then U n else (jf p0.v_ p1.v_).bind fun a => if (!a) then U n else if (p0.I_ != p1.I_) then U n else (pz p0.l_ p1.l_).bind fun a => if (!a) then U n else if (p0.J_ != p1.J_) then U n else (jf p0.d_ p1.d_).bind fun a => if (!a) then U n else if (p0.h_ != p1.h_) then U n else if (p0.A_ != p1.A_) then U n else if (p0.G_ != p1.G_) then U n else U y
noncomputable def lU (p0 : List az) (p1 : List az) : Nat → Int → Option (Bool)
  | 0, _ => N
  | e + 1, a =>
    if decide (a < (p0.length : Int)) then (idx p0 a).bind fun d => (idx p1 a).bind fun c => (oL d c).bind fun c => if (!c) then U n else (lU p0 p1 e) (J.wrap (a + 1)) else U y
noncomputable def pT (p0 : List az) (p1 : List az) : Option (Bool) :=
  if ((p0.length : Int) != (p1.length : Int)) then U n else lU p0 p1 aI 0
noncomputable def oM (p0 : ax) (p1 : ax) : Option (Bool) :=
  (pT p0.e_ p1.e_).bind fun a => if (!a) then U n else if (p0.y_ != p1.y_) then U n else U y
noncomputable def mi (p0 : aJ) (p1 : aJ) : Option (Bool) :=
  (lD p0.p_ p1.p_).bind fun a => if (!a) then U n else U y
noncomputable def rR (p0 : dg) (p1 : dg) : Option (Bool) :=
  (mi p0.s_ p1.s_).bind fun a => if (!a) then U n else (mi p0.r_ p1.r_).bind fun a => if (!a) then U n else U y
noncomputable def mo (p0 : au) (p1 : au) : Option (Bool) :=
  (oM p0.H_ p1.H_).bind fun a => if (!a) then U n else if (p0.T_ != p1.T_) then U n else (oM p0.x_ p1.x_).bind fun a => if (!a) then U n else (rR p0.K_ p1.K_).bind fun a => if (!a) then U n else U y
noncomputable def kb (p0 : List au) (p1 : List au) : Nat → Int → Option (Bool)
  | 0, _ => N
  | e + 1, a =>
    if decide (a < (p0.length : Int)) then (idx p0 a).bind fun d => (idx p1 a).bind fun c => (mo d c).bind fun c => if (!c) then U n else (kb p0 p1 e) (J.wrap (a + 1)) else U y
noncomputable def mE (p0 : List au) (p1 : List au) : Option (Bool) :=
  if ((p0.length : Int) != (p1.length : Int)) then U n else kb p0 p1 aI 0
noncomputable def nY (p0 : be) (p1 : be) : Option (Bool) :=
  (mE p0.j_ p1.j_).bind fun a => if (!a) then U n else U y
noncomputable def oZ (p0 : aC) (p1 : aC) : Option (Bool) :=
  if (p0.R_ != p1.R_) then U n else if (p0.S_ != p1.S_) then U n else U y
noncomputable def lH (p0 : List aC) (p1 : List aC) : Nat → Int → Option (Bool)
  | 0, _ => N
  | e + 1, a =>
    if decide (a < (p0.length : Int)) then (idx p0 a).bind fun c => (idx p1 a).bind fun d => (oZ c d).bind fun c => if (!c) then U n else (lH p0 p1 e) (J.wrap (a + 1)) else U y
noncomputable def pO (p0 : List aC) (p1 : List aC) : Option (Bool) :=
  if ((p0.length : Int) != (p1.length : Int)) then U n else lH p0 p1 aI 0
noncomputable def pt (p0 : aZ) (p1 : aZ) : Option (Bool) :=
  (lD p0.o_ p1.o_).bind fun a => if (!a) then U n else (pO p0.n_ p1.n_).bind fun a => if (!a) then U n else U y
noncomputable def lr (p0 : ao) (p1 : ao) : Option (Bool) :=
  (qO p0.a_ p1.a_).bind fun a => if (!a) then U n else (nY p0.z_ p1.z_).bind fun a => if (!a) then U n else (pt p0.m_ p1.m_).bind fun a => if (!a) then U n else U y
noncomputable def mh (p0 : List Int) (p1 : List Int) : Nat → Int → Option (Bool)
  | 0, _ => N
  | e + 1, a =>
    if decide (a < (p0.length : Int)) then (idx p0 a).bind fun c => (idx p1 a).bind fun d => if (c != d) then U n else (mh p0 p1 e) (J.wrap (a + 1)) else U y
noncomputable def pr (p0 : List Int) (p1 : List Int) : Option (Bool) :=
  if ((p0.length : Int) != (p1.length : Int)) then U n else mh p0 p1 aI 0
noncomputable def gn (p0 : List Int) : Nat → (List Int) → Int → Int → Option (Int × (List Int))
  | 0, _, _, _ => N
  | e + 1, c, d, a =>
    if decide (a < (p0.length : Int)) then (idx c a).bind fun _ => (gn p0 e) (c.set a.toNat (K.wrap d)) (J.wrap (d + 1)) (J.wrap (a + 1)) else U (d, c)
noncomputable def kV (p0 : List Int) (p1 : Int) : Option (Int × (List Int)) :=
  gn p0 aI p0 p1 0
noncomputable def ie  : Nat → Int → (List UInt8) → Option (List UInt8)
  | 0, _, _ => N
  | e + 1, a, c =>
    if decide (a > 0) then (mB (dw ([K.wrap (J.wrap (48 + (Int.tmod a 10)))] : List Int)) c).bind fun d => (ie e) (J.wrap (Int.tdiv a 10)) d else (mB ([109] : List UInt8) c).bind fun a => U a
noncomputable def ji (p0 : Int) : Option (List UInt8) :=
  if decide (p0 ≤ 0) then U ([109, 48] : List UInt8) else ie aI p0 ([] : List UInt8)
noncomputable def ib (p0 : List Int) : Nat → (List Int) → Int → Int → Option (Int × (List Int))
  | 0, _, _, _ => N
  | e + 1, c, d, a =>
    if decide (a < (p0.length : Int)) then (idx c a).bind fun _ => (ib p0 e) (c.set a.toNat d) (J.wrap (d + 1)) (J.wrap (a + 1)) else U (d, c)
noncomputable def iv (p0 : List Int) (p1 : Int) : Option (Int × (List Int)) :=
  ib p0 aI p0 p1 0
noncomputable def fB (p0 : List (List UInt8)) : Nat → (List (List UInt8)) → Int → Int → Option (Int × (List (List UInt8)))
  | 0, _, _, _ => N
  | f + 1, c, d, a =>
    if decide (a < (p0.length : Int)) then (ji d).bind fun e => (idx c a).bind fun _ => (fB p0 f) (c.set a.toNat e) (J.wrap (d + 1)) (J.wrap (a + 1)) else U (d, c)
noncomputable def jl (p0 : List (List UInt8)) (p1 : Int) : Option (Int × (List (List UInt8))) :=
  fB p0 aI p0 p1 0
noncomputable def gC (p0 : List ap) : Nat → (List ap) → Int → Int → Option (Int × (List ap))
  | 0, _, _, _ => N
  | h + 1, c, d, a =>
    if decide (a < (p0.length : Int)) then (ji d).bind fun g => (idx c a).bind fun f => (iv f.w_ (J.wrap (d + 1))).bind fun e => (jl f.F_ e.1).bind fun f => (gC p0 h) (c.set a.toNat (ap.mk g e.2 f.2)) f.1 (J.wrap (a + 1)) else U (d, c)
noncomputable def mH (p0 : List ap) (p1 : Int) : Option (Int × (List ap)) :=
  gC p0 aI p0 p1 0
noncomputable def mg (p0 : aj) (p1 : Int) : Option (Int × aj) :=
  (mH p0.d_ p1).bind fun a => (jl p0.f_ a.1).bind fun c => U (c.1, (aj.mk a.2 c.2))
noncomputable def km (p0 : aR) (p1 : Int) : Option (Int × aR) :=
  (mg p0.g_ p1).bind fun a => U (a.1, ({ p0 with g_ := a.2 }))
noncomputable def gr (p0 : List (List Int)) : Nat → (List (List Int)) → Int → Int → Option (Int × (List (List Int)))
  | 0, _, _, _ => N
  | f + 1, c, d, a =>
    if decide (a < (p0.length : Int)) then (idx c a).bind fun e => (iv e d).bind fun e => (gr p0 f) (c.set a.toNat e.2) e.1 (J.wrap (a + 1)) else U (d, c)
noncomputable def iE (p0 : List (List Int)) (p1 : Int) : Option (Int × (List (List Int))) :=
  gr p0 aI p0 p1 0
noncomputable def gy (p0 : List az) : Nat → (List az) → Int → Int → Option (Int × (List az))
  | 0, _, _, _ => N
  | i + 1, g, c, f =>
    if decide (f < (p0.length : Int)) then (idx g f).bind fun a => (iv a.v_ (J.wrap ((J.wrap ((J.wrap (c + 1)) + 1)) + 1))).bind fun d => (iv a.l_.q_ (J.wrap (d.1 + 1))).bind fun h => (iE a.l_.k_ h.1).bind fun e => (iv a.d_ (J.wrap (e.1 + 1))).bind fun a => (gy p0 i) (g.set f.toNat (az.mk ((Int.tmod c 3) == 0) (bD.mk (J.wrap (c + 1)) (J.wrap ((J.wrap (c + 1)) + 1))) d.2 d.1 (bl.mk h.2 e.2) e.1 a.2 a.1 (J.wrap (a.1 + 1)) (J.wrap ((J.wrap (a.1 + 1)) + 1)))) (J.wrap ((J.wrap ((J.wrap (a.1 + 1)) + 1)) + 1)) (J.wrap (f + 1)) else U (c, g)
noncomputable def kD (p0 : List az) (p1 : Int) : Option (Int × (List az)) :=
  gy p0 aI p0 p1 0
noncomputable def fA (p0 : List au) : Nat → (List au) → Int → Int → Option (Int × (List au))
  | 0, _, _, _ => N
  | i + 1, f, h, e =>
    if decide (e < (p0.length : Int)) then (idx f e).bind fun a => (kD a.H_.e_ h).bind fun c => (kD a.x_.e_ (J.wrap ((J.wrap (c.1 + 1)) + 1))).bind fun d => (iE a.K_.s_.p_ (J.wrap (d.1 + 1))).bind fun g => (iE a.K_.r_.p_ g.1).bind fun a => (fA p0 i) (f.set e.toNat (au.mk (ax.mk c.2 c.1) ((Int.tmod (J.wrap (c.1 + 1)) 3) == 0) (ax.mk d.2 d.1) (dg.mk (aJ.mk g.2) (aJ.mk a.2)))) a.1 (J.wrap (e + 1)) else U (h, f)
noncomputable def kM (p0 : List au) (p1 : Int) : Option (Int × (List au)) :=
  fA p0 aI p0 p1 0
noncomputable def lG (p0 : be) (p1 : Int) : Option (Int × be) :=
  (kM p0.j_ p1).bind fun a => U (a.1, (be.mk a.2))
noncomputable def gx (p0 : List aC) : Nat → (List aC) → Int → Int → Option (Int × (List aC))
  | 0, _, _, _ => N
  | e + 1, d, a, c =>
    if decide (c < (p0.length : Int)) then (idx d c).bind fun _ => (gx p0 e) (d.set c.toNat (aC.mk a (J.wrap (a + 1)))) (J.wrap ((J.wrap (a + 1)) + 1)) (J.wrap (c + 1)) else U (a, d)
noncomputable def mX (p0 : List aC) (p1 : Int) : Option (Int × (List aC)) :=
  gx p0 aI p0 p1 0
noncomputable def mC (p0 : aZ) (p1 : Int) : Option (Int × aZ) :=
  (iE p0.o_ p1).bind fun a => (mX p0.n_ a.1).bind fun c => U (c.1, (aZ.mk a.2 c.2))
noncomputable def iB (p0 : ao) (p1 : Int) : Option (Int × ao) :=
  (km p0.a_ p1).bind fun a => (lG p0.z_ a.1).bind fun c => (mC p0.m_ c.1).bind fun d => U (d.1, (ao.mk ({ p0.a_ with g_ := a.2.g_ }) c.2 d.2))
noncomputable def hY (p0 : List Int) : Nat → Int → Int → Option (Int)
  | 0, _, _ => N
  | e + 1, a, c =>
    if decide (c < (p0.length : Int)) then (idx p0 c).bind fun d => if (d != a) then U (-1) else (hY p0 e) (J.wrap (a + 1)) (J.wrap (c + 1)) else U a
noncomputable def io (p0 : List Int) (p1 : Int) : Option (Int) :=
  hY p0 aI p1 0
noncomputable def fH (p0 : List (List UInt8)) : Nat → Int → Int → Option (Int)
  | 0, _, _ => N
  | f + 1, a, c =>
    if decide (c < (p0.length : Int)) then (idx p0 c).bind fun d => (ji a).bind fun e => if (!(d == e)) then U (-1) else (fH p0 f) (J.wrap (a + 1)) (J.wrap (c + 1)) else U a
noncomputable def jm (p0 : List (List UInt8)) (p1 : Int) : Option (Int) :=
  fH p0 aI p1 0
noncomputable def gD (p0 : List ap) : Nat → Int → Int → Option (Int)
  | 0, _, _ => N
  | f + 1, c, a =>
    if decide (a < (p0.length : Int)) then (idx p0 a).bind fun d => (ji c).bind fun e => if (!(d.D_ == e)) then U (-1) else (idx p0 a).bind fun d => (io d.w_ (J.wrap (c + 1))).bind fun d => if decide (d < 0) then U (-1) else (idx p0 a).bind fun e => (jm e.F_ d).bind fun d => if decide (d < 0) then U (-1) else (gD p0 f) d (J.wrap (a + 1)) else U c
noncomputable def mW (p0 : List ap) (p1 : Int) : Option (Int) :=
  gD p0 aI p1 0
noncomputable def lQ (p0 : aj) (p1 : Int) : Option (Int) :=
  (mW p0.d_ p1).bind fun a => if decide (a < 0) then U (-1) else (jm p0.f_ a).bind fun a => if decide (a < 0) then U (-1) else U a
noncomputable def nO (p0 : aR) (p1 : Int) : Option (Int) :=
  (lQ p0.g_ p1).bind fun a => if decide (a < 0) then U (-1) else U a
noncomputable def gk (p0 : List (List Int)) : Nat → Int → Int → Option (Int)
  | 0, _, _ => N
  | e + 1, c, a =>
    if decide (a < (p0.length : Int)) then (idx p0 a).bind fun d => (io d c).bind fun d => if decide (d < 0) then U (-1) else (gk p0 e) d (J.wrap (a + 1)) else U c
noncomputable def iD (p0 : List (List Int)) (p1 : Int) : Option (Int) :=
  gk p0 aI p1 0
noncomputable def gE (p0 : List az) : Nat → Int → Int → Option (Int)
  | 0, _, _ => N
  | f + 1, c, a =>
    if decide (a < (p0.length : Int)) then (idx p0 a).bind fun d => if (d.B_ != ((Int.tmod c 3) == 0)) then U (-1) else (idx p0 a).bind fun d => if (d.i_.t_ != (J.wrap (c + 1))) then U (-1) else (idx p0 a).bind fun d => if (d.i_.u_ != (J.wrap ((J.wrap (c + 1)) + 1))) then U (-1) else (idx p0 a).bind fun d => (io d.v_ (J.wrap ((J.wrap ((J.wrap (c + 1)) + 1)) + 1))).bind fun d => if decide (d < 0) then U (-1) else (idx p0 a).bind fun e => if (e.I_ != d) then U (-1) else (idx p0 a).bind fun e => (io e.l_.q_ (J.wrap (d + 1))).bind fun d => if decide (d < 0) then U (-1) else (idx p0 a).bind fun e => (iD e.l_.k_ d).bind fun d => if decide (d < 0) then U (-1) else (idx p0 a).bind fun e => if (e.J_ != d) then U (-1) else (idx p0 a).bind fun e => (io e.d_ (J.wrap (d + 1))).bind fun d => if decide (d < 0) then U (-1) else (idx p0 a).bind fun e => if (e.h_ != d) then U (-1) else (idx p0 a).bind fun e => if (e.A_ != (J.wrap (d + 1))) then U (-1) else (idx p0 a).bind fun e => if (e.G_ != (J.wrap ((J.wrap (d + 1)) + 1))) then U (-1) else (gE p0 f) (J.wrap ((J.wrap ((J.wrap (d + 1)) + 1)) + 1)) (J.wrap (a + 1)) else U c
noncomputable def kK (p0 : List az) (p1 : Int) : Option (Int) :=
  gE p0 aI p1 0
noncomputable def fC (p0 : List au) : Nat → Int → Int → Option (Int)
  | 0, _, _ => N
  | f + 1, d, a =>
    if decide (a < (p0.length : Int)) then (idx p0 a).bind fun c => (kK c.H_.e_ d).bind fun c => if decide (c < 0) then U (-1) else (idx p0 a).bind fun e => if (e.H_.y_ != c) then U (-1) else (idx p0 a).bind fun e => if (e.T_ != ((Int.tmod (J.wrap (c + 1)) 3) == 0)) then U (-1) else (idx p0 a).bind fun e => (kK e.x_.e_ (J.wrap ((J.wrap (c + 1)) + 1))).bind fun c => if decide (c < 0) then U (-1) else (idx p0 a).bind fun e => if (e.x_.y_ != c) then U (-1) else (idx p0 a).bind fun e => (iD e.K_.s_.p_ (J.wrap (c + 1))).bind fun c => if decide (c < 0) then U (-1) else (idx p0 a).bind fun e => (iD e.K_.r_.p_ c).bind fun c => if decide (c < 0) then U (-1) else (fC p0 f) c (J.wrap (a + 1)) else U d
noncomputable def kT (p0 : List au) (p1 : Int) : Option (Int) :=
  fC p0 aI p1 0
noncomputable def lZ (p0 : be) (p1 : Int) : Option (Int) :=
  (kT p0.j_ p1).bind fun a => if decide (a < 0) then U (-1) else U a
noncomputable def gv (p0 : List aC) : Nat → Int → Int → Option (Int)
  | 0, _, _ => N
  | e + 1, a, c =>
    if decide (c < (p0.length : Int)) then (idx p0 c).bind fun d => if (d.R_ != a) then U (-1) else (idx p0 c).bind fun d => if (d.S_ != (J.wrap (a + 1))) then U (-1) else (gv p0 e) (J.wrap ((J.wrap (a + 1)) + 1)) (J.wrap (c + 1)) else U a
noncomputable def nc (p0 : List aC) (p1 : Int) : Option (Int) :=
  gv p0 aI p1 0
noncomputable def nh (p0 : aZ) (p1 : Int) : Option (Int) :=
  (iD p0.o_ p1).bind fun a => if decide (a < 0) then U (-1) else (nc p0.n_ a).bind fun a => if decide (a < 0) then U (-1) else U a
noncomputable def jt (p0 : ao) (p1 : Int) : Option (Int) :=
  (nO p0.a_ p1).bind fun a => if decide (a < 0) then U (-1) else (lZ p0.z_ a).bind fun a => if decide (a < 0) then U (-1) else (nh p0.m_ a).bind fun a => if decide (a < 0) then U (-1) else U a
noncomputable def kA (p0 : List Int) : Option (Bool) :=
  if decide ((p0.length : Int) > 1048576) then U y else (kg p0).bind fun a => (lu a).bind fun d => (kg p0).bind fun a => (jW a).bind fun c => (lr c.1 d.1).bind fun e => if ((!e) || (c.2 != d.2)) then U n else (kg p0).bind fun e => (pr a e).bind fun e => if (!e) then U n else (kV a 1).bind fun a => (if decide (a.1 < 0) then U y else (lr c.1 d.1).bind fun a => U (!a)).bind fun a => if (a || (c.2 != d.2)) then U n else (iB c.1 1).bind fun a => (jt ({ a.2 with a_ := ({ c.1.a_ with g_ := a.2.a_.g_ }) }) 1).bind fun e => if decide (e < 0) then U n else if (e != a.1) then U n else (kg p0).bind fun e => (jW e).bind fun e => (lr e.1 d.1).bind fun f => if ((!f) || (e.2 != d.2)) then U n else (jt ({ a.2 with a_ := ({ c.1.a_ with g_ := a.2.a_.g_ }) }) 1).bind fun c => if decide (c < 0) then U n else if (c != a.1) then U n else U y
end Go.Vk
