/- The functions of the code, as functions of data. Printed by program. -/
import Derived.Test.YtckmlpmehdpmiaaGreatDoorVkCu
import Derived.Test.YtckmlpmehdpmiaaGreatDoorVkBr
namespace Go.Vk
open Value renaming int → I, slice → S, pointer → O, bool → B
open IntKind renaming i64 → J, u8 → K
open Bool renaming true → y, false → n
open Option renaming some → U, none → N
theorem z {α : Sort _} {a : α} : a = a := Eq.refl a
theorem Y : True := True.intro
structure ap where
  D_ : List UInt8
  x_ : List Int
  F_ : List (List UInt8)
  deriving DecidableEq, Inhabited
structure aj where
  d_ : List ap
  f_ : List (List UInt8)
  deriving DecidableEq, Inhabited
structure bw where
  L_ : Int
  N_ : Int
  M_ : Int
  h_ : Int
  e_ : Int
  E_ : Int
  Q_ : Bool
  deriving DecidableEq, Inhabited
structure aR where
  g_ : aj
  b_ : bw
  j_ : Int
  O_ : Int
  P_ : Int
  r_ : Int
  s_ : Int
  deriving DecidableEq, Inhabited
structure bD where
  t_ : Int
  u_ : Int
  deriving DecidableEq, Inhabited
structure bl where
  q_ : List Int
  l_ : List (List Int)
  deriving DecidableEq, Inhabited
structure az where
  B_ : Bool
  i_ : bD
  v_ : List Int
  I_ : Int
  k_ : bl
  J_ : Int
  d_ : List Int
  h_ : Int
  A_ : Int
  G_ : Int
  deriving DecidableEq, Inhabited
structure ax where
  e_ : List az
  y_ : Int
  deriving DecidableEq, Inhabited
structure aJ where
  p_ : List (List Int)
  deriving DecidableEq, Inhabited
structure dg where
  r_ : aJ
  s_ : aJ
  deriving DecidableEq, Inhabited
structure au where
  H_ : ax
  T_ : Bool
  w_ : ax
  K_ : dg
  deriving DecidableEq, Inhabited
structure be where
  j_ : List au
  deriving DecidableEq, Inhabited
structure aC where
  R_ : Int
  S_ : Int
  deriving DecidableEq, Inhabited
structure aZ where
  o_ : List (List Int)
  n_ : List aC
  deriving DecidableEq, Inhabited
structure ao where
  a_ : aR
  z_ : be
  m_ : aZ
  deriving DecidableEq, Inhabited
structure ak where
  c_ : Int
  C_ : Bool
  deriving DecidableEq, Inhabited
structure cl where
  U_ : List Int
  C_ : Bool
  deriving DecidableEq, Inhabited
noncomputable def lT (p0 : List Int) : Nat → (List Int) → Int → Option (List Int)
  | 0, _, _ => N
  | e + 1, c, a =>
    if decide (a < (p0.length : Int)) then (idx p0 a).bind fun d => (idx c a).bind fun _ => (lT p0 e) (c.set a.toNat d) (J.wrap (a + 1)) else U c
noncomputable def jW (p0 : List Int) : Option (List Int) :=
  (mk (0 : Int) (p0.length : Int)).bind fun a => lT p0 aI a 0
noncomputable def lc (e : Int → Int → Option (Int)) (c : Int) : Nat → Int → Int → Option (Int)
  | 0, _, _ => N
  | f + 1, a, d =>
    if decide (d < 8) then if ((Int.tmod a 2) == 1) then (lc e c f) (eK .xor J (J.wrap (Int.tdiv a 2)) 3988292384) (J.wrap (d + 1)) else (lc e c f) (J.wrap (Int.tdiv a 2)) (J.wrap (d + 1)) else e a (J.wrap (c + 1))
noncomputable def ki (p0 : List Int) : Nat → Int → Int → Option (Int)
  | 0, _, _ => N
  | e + 1, c, a =>
    if decide (a < (p0.length : Int)) then (idx p0 a).bind fun d => lc (ki p0 e) a aI (eK .xor J c (J.wrap d)) 0 else U (eK .xor J c 4294967295)
noncomputable def xM (p0 : List Int) : Option (Int) :=
  ki p0 aI 4294967295 0
noncomputable def ga (p0 : List Int) : Option (List Int) :=
  (xM p0).bind fun a => U ([K.wrap (J.wrap (Int.tdiv a 16777216)), K.wrap (Int.tmod (J.wrap (Int.tdiv a 65536)) 256), K.wrap (Int.tmod (J.wrap (Int.tdiv a 256)) 256), K.wrap (Int.tmod a 256)] : List Int)
noncomputable def dW (p1 : Int) (p0 : List Int) : Nat → Int → Int → Option (Int × Int × Bool)
  | 0, _, _ => N
  | f + 1, c, a =>
    if decide (a < 5) then if ((decide (p1 < 0)) || (decide (p1 ≥ (J.wrap ((p0.length : Int) - a))))) then U (0, 0, n) else (idx p0 (J.wrap (p1 + a))).bind fun d => (shl J (Int.tmod (J.wrap d) 128) (J.wrap (7 * a))).bind fun e => if decide ((J.wrap d) < 128) then if (((decide (a > 0)) && ((J.wrap d) == 0)) || (decide ((eK .or J c e) > 2147483647))) then U (0, 0, n) else U (eK .or J c e, J.wrap ((J.wrap (p1 + a)) + 1), y) else (dW p1 p0 f) (eK .or J c e) (J.wrap (a + 1)) else U (0, 0, n)
noncomputable def lf (p0 : List Int) (p1 : Int) : Option (Int × Int × Bool) :=
  dW p1 p0 aI 0 0
noncomputable def ke (p0 : List Int) (p1 : Int) : Option ((List UInt8) × Int × Bool) :=
  (lf p0 p1).bind fun a => if ((!a.2.2) || (decide (a.1 > (J.wrap ((p0.length : Int) - a.2.1))))) then U (([] : List UInt8), 0, n) else (sub p0 a.2.1 (J.wrap (a.2.1 + a.1))).bind fun c => U (dw c, J.wrap (a.2.1 + a.1), y)
noncomputable def iq (p0 : List UInt8) (p1 : Int) : Nat → (List (List UInt8)) → Int → Int → Option (List (List UInt8))
  | 0, _, _, _ => N
  | e + 1, c, d, a =>
    if decide (a ≤ (p0.length : Int)) then (if (a == (p0.length : Int)) then U y else (idx p0 a).bind fun f => U ((f.toNat : Int) == p1)).bind fun f => if f then (sub p0 d a).bind fun f => (app c ([f] : List (List UInt8))).bind fun f => (iq p0 p1 e) f (J.wrap (a + 1)) (J.wrap (a + 1)) else (iq p0 p1 e) c d (J.wrap (a + 1)) else U c
noncomputable def gn (p0 : List UInt8) (p1 : Int) : Option (List (List UInt8)) :=
  iq p0 p1 aI ([] : List (List UInt8)) 0 0
noncomputable def jx (a : List UInt8) (e : Int → (List UInt8) → Option (List UInt8)) (c : Int) (d : Int) : Option (List UInt8) :=
  (mB (dw ([K.wrap (J.wrap (48 + d))] : List Int)) a).bind fun a => e (J.wrap (Int.tdiv c 10)) a
noncomputable def dQ (p0 : Int) : Nat → Int → (List UInt8) → Option (List UInt8)
  | 0, _, _ => N
  | d + 1, a, c =>
    if (a != 0) then if decide ((Int.tmod a 10) < 0) then jx c (dQ p0 d) a (J.wrap (0 - (Int.tmod a 10))) else jx c (dQ p0 d) a (Int.tmod a 10) else if decide (p0 < 0) then (mB ([45] : List UInt8) c).bind fun a => U a else U c
noncomputable def oX (p0 : Int) : Option (List UInt8) :=
  if (p0 == 0) then U ([48] : List UInt8) else dQ p0 aI p0 ([] : List UInt8)
noncomputable def eD (p0 : List UInt8) : Nat → Int → Int → Option (Int × Bool)
  | 0, _, _ => N
  | e + 1, c, a =>
    if decide (a < (p0.length : Int)) then (idx p0 a).bind fun d => (if decide ((d.toNat : Int) < 48) then U y else (idx p0 a).bind fun d => U (decide ((d.toNat : Int) > 57))).bind fun d => if d then U (0, n) else (idx p0 a).bind fun d => (eD p0 e) (J.wrap ((J.wrap ((J.wrap (10 * c)) + (J.wrap (d.toNat : Int)))) - 48)) (J.wrap (a + 1)) else (oX c).bind fun a => if (!(a == p0)) then U (0, n) else U (c, y)
noncomputable def lh (p0 : List UInt8) : Option (Int × Bool) :=
  if ((decide ((p0.length : Int) < 1)) || (decide ((p0.length : Int) > 6))) then U (0, n) else eD p0 aI 0 0
noncomputable def lg (p0 : List UInt8) : Option (Int × Bool) :=
  if ((decide ((p0.length : Int) < 1)) || (decide ((p0.length : Int) > 5))) then U (0, n) else (idx p0 0).bind fun a => if ((a.toNat : Int) != 45) then (lh p0).bind fun a => if ((!a.2) || (decide (a.1 > 9999))) then U (0, n) else U (a.1, y) else (sub p0 1 (p0.length : Int)).bind fun a => (lh a).bind fun a => if (((!a.2) || (decide (a.1 < 1))) || (decide (a.1 > 9999))) then U (0, n) else U (J.wrap (0 - a.1), y)
noncomputable def ba (p0 : Int) (p1 : Int) (a : Int) : Option (Bool) :=
  U ((decide (p0 ≥ p1)) && (decide (p0 ≤ a)))
noncomputable def kI (p0 : List UInt8) : Nat → Int → Option (Bool)
  | 0, _ => N
  | d + 1, a =>
    if decide (a < (p0.length : Int)) then (idx p0 a).bind fun c => (if decide ((c.toNat : Int) < 97) then U y else (idx p0 a).bind fun c => U (decide ((c.toNat : Int) > 122))).bind fun c => if c then U n else (kI p0 d) (J.wrap (a + 1)) else U y
noncomputable def oN (p0 : List UInt8) : Option (Bool) :=
  (ba (p0.length : Int) 1 8).bind fun a => if (!a) then U n else kI p0 aI 0
noncomputable def gU (a : Int) (p0 : List (List UInt8)) (d : Int → Option (Bool)) : Nat → Int → Option (Bool)
  | 0, _ => N
  | g + 1, c =>
    if decide (c < a) then (idx p0 a).bind fun e => (idx p0 c).bind fun f => if (e == f) then U n else (gU a p0 d g) (J.wrap (c + 1)) else d (J.wrap (a + 1))
noncomputable def fh (p0 : List (List UInt8)) : Nat → Int → Option (Bool)
  | 0, _ => N
  | d + 1, a =>
    if decide (a < (p0.length : Int)) then (idx p0 a).bind fun c => (oN c).bind fun c => if (!c) then U n else gU a p0 (fh p0 d) aI 0 else U y
noncomputable def nt (p0 : List (List UInt8)) : Option (Bool) :=
  fh p0 aI 0
noncomputable def jt (p0 : ap) : Nat → Int → Option (Bool)
  | 0, _ => N
  | e + 1, a =>
    if decide (a < (p0.x_.length : Int)) then (idx p0.x_ a).bind fun c => (ba c (-9999) 9998).bind fun c => (if (!c) then U y else (if decide (a > 0) then (idx p0.x_ a).bind fun c => (idx p0.x_ (J.wrap (a - 1))).bind fun d => U (decide (c ≤ d)) else U n).bind fun c => U c).bind fun c => if c then U n else (jt p0 e) (J.wrap (a + 1)) else U y
noncomputable def jZ (p0 : ap) : Option (Bool) :=
  (oN p0.D_).bind fun a => if (!a) then U n else if ((p0.x_.length : Int) == 0) then (ba (p0.F_.length : Int) 2 4).bind fun a => (if a then (nt p0.F_).bind fun a => U a else U n).bind fun a => U a else if ((decide ((p0.F_.length : Int) > 0)) || (decide ((p0.x_.length : Int) > 3))) then U n else jt p0 aI 0
noncomputable def kZ (p0 : List (List UInt8)) (a : Int) (e : (List UInt8) → Int → Option (List UInt8)) (c : List UInt8) : Option (List UInt8) :=
  (idx p0 a).bind fun d => (mB c d).bind fun c => e c (J.wrap (a + 1))
noncomputable def dY (p0 : List (List UInt8)) (p1 : List UInt8) : Nat → (List UInt8) → Int → Option (List UInt8)
  | 0, _, _ => N
  | d + 1, c, a =>
    if decide (a < (p0.length : Int)) then if decide (a > 0) then (mB c p1).bind fun e => kZ p0 a (dY p0 p1 d) e else kZ p0 a (dY p0 p1 d) c else U c
noncomputable def iz (p0 : List (List UInt8)) (p1 : List UInt8) : Option (List UInt8) :=
  dY p0 p1 aI ([] : List UInt8) 0
noncomputable def fk (p0 : ap) : Nat → (List (List UInt8)) → Int → Option (List UInt8)
  | 0, _, _ => N
  | e + 1, c, a =>
    if decide (a < (p0.x_.length : Int)) then (idx p0.x_ a).bind fun d => (oX d).bind fun d => (app c ([d] : List (List UInt8))).bind fun d => (fk p0 e) d (J.wrap (a + 1)) else (mB p0.D_ ([58] : List UInt8)).bind fun a => (iz c ([44] : List UInt8)).bind fun c => (mB a c).bind fun a => U a
noncomputable def jd (p0 : ap) : Option (List UInt8) :=
  (jZ p0).bind fun a => if (!a) then U ([] : List UInt8) else if decide ((p0.F_.length : Int) > 0) then (mB p0.D_ ([61] : List UInt8)).bind fun a => (iz p0.F_ ([44] : List UInt8)).bind fun c => (mB a c).bind fun a => U a else fk p0 aI ([] : List (List UInt8)) 0
noncomputable def gz (p0 : List UInt8) (a : List UInt8) (c : List Int) (d : List (List UInt8)) : Option (ap × Bool) :=
  (jZ (ap.mk a c d)).bind fun e => (if (!e) then U y else (jd (ap.mk a c d)).bind fun e => U (!(e == p0))).bind fun e => if e then U ((ap.mk ([] : List UInt8) ([] : List Int) ([] : List (List UInt8))), n) else U ((ap.mk a c d), y)
noncomputable def cY (a : List (List UInt8)) (p0 : List UInt8) (d : List UInt8) : Nat → (List Int) → Int → Option (ap × Bool)
  | 0, _, _ => N
  | g + 1, e, c =>
    if decide (c < (a.length : Int)) then (idx a c).bind fun f => (lg f).bind fun f => if (!f.2) then U ((ap.mk ([] : List UInt8) ([] : List Int) ([] : List (List UInt8))), n) else (app e ([f.1] : List Int)).bind fun f => (cY a p0 d g) f (J.wrap (c + 1)) else gz p0 d e ([] : List (List UInt8))
noncomputable def ld (p0 : List UInt8) : Option (ap × Bool) :=
  (gn p0 61).bind fun a => (gn p0 58).bind fun c => if ((a.length : Int) == 2) then (idx a 0).bind fun d => (idx a 1).bind fun a => (gn a 44).bind fun a => gz p0 d ([] : List Int) a else if ((c.length : Int) == 2) then (idx c 0).bind fun a => (idx c 1).bind fun c => (gn c 44).bind fun c => cY c p0 a aI ([] : List Int) 0 else gz p0 ([] : List UInt8) ([] : List Int) ([] : List (List UInt8))
noncomputable def gd (a : Int) (p0 : aj) (f : Int → Option (Bool)) : Nat → Int → Option (Bool)
  | 0, _ => N
  | g + 1, c =>
    if decide (c < a) then (idx p0.d_ a).bind fun d => (idx p0.d_ c).bind fun e => if (d.D_ == e.D_) then U n else (gd a p0 f g) (J.wrap (c + 1)) else f (J.wrap (a + 1))
noncomputable def dX (p0 : aj) : Nat → Int → Option (Bool)
  | 0, _ => N
  | d + 1, a =>
    if decide (a < (p0.d_.length : Int)) then (idx p0.d_ a).bind fun c => (jZ c).bind fun c => if (!c) then U n else gd a p0 (dX p0 d) aI 0 else U y
noncomputable def dZ (p0 : aj) : Option (Bool) :=
  (ba (p0.d_.length : Int) 1 5).bind fun a => (if (!a) then U y else (ba (p0.f_.length : Int) 2 3).bind fun a => U (!a)).bind fun a => (if a then U y else (nt p0.f_).bind fun a => U (!a)).bind fun a => if a then U n else dX p0 aI 0
noncomputable def cL (a : List (List UInt8)) (c : List (List UInt8)) : Nat → (List ap) → Int → Option (aj × Bool)
  | 0, _, _ => N
  | g + 1, d, e =>
    if decide (e < (a.length : Int)) then (idx a e).bind fun f => (ld f).bind fun f => if (!f.2) then U ((aj.mk ([] : List ap) ([] : List (List UInt8))), n) else (app d [f.1]).bind fun f => (cL a c g) f (J.wrap (e + 1)) else (dZ (aj.mk d c)).bind fun a => if (!a) then U ((aj.mk ([] : List ap) ([] : List (List UInt8))), n) else U ((aj.mk d c), y)
noncomputable def jf (p0 : List UInt8) : Option (aj × Bool) :=
  (gn p0 124).bind fun a => if ((a.length : Int) != 2) then U ((aj.mk ([] : List ap) ([] : List (List UInt8))), n) else (idx a 1).bind fun c => (gn c 44).bind fun c => (idx a 0).bind fun a => (gn a 59).bind fun a => cL a c aI ([] : List ap) 0
noncomputable def jG (c : Int × Int × Bool) (a : Int) : Option (Int × Int × Bool) :=
  (ba a (-1000000000) 1000000000).bind fun d => if (!d) then U (0, 0, n) else U (a, c.2.1, y)
noncomputable def da (p0 : List Int) (p1 : Int) : Option (Int × Int × Bool) :=
  (lf p0 p1).bind fun a => if (!a.2.2) then U (0, 0, n) else if ((Int.tmod a.1 2) == 1) then jG a (J.wrap ((J.wrap (0 - (J.wrap (Int.tdiv a.1 2)))) - 1)) else jG a (J.wrap (Int.tdiv a.1 2))
noncomputable def lI (f : Int) (p0 : List Int) : Nat → Int → Int → (List Int) → Option ((List Int) × Int × Bool)
  | 0, _, _, _ => N
  | h + 1, c, d, e =>
    if decide (d < f) then (da p0 c).bind fun a => if (!a.2.2) then U (([] : List Int), 0, n) else (app e ([a.1] : List Int)).bind fun g => (lI f p0 h) a.2.1 (J.wrap (d + 1)) g else U (e, c, y)
noncomputable def dB (p0 : List Int) (p1 : Int) (a : Int) : Option ((List Int) × Int × Bool) :=
  lI a p0 aI p1 0 ([] : List Int)
noncomputable def oV (p0 : bw) : Option (Bool) :=
  (ba p0.L_ 1 9).bind fun a => (if a then (ba p0.N_ 0 999).bind fun a => U a else U n).bind fun a => (if a then (ba p0.M_ 1 200).bind fun a => U a else U n).bind fun a => (if a then (ba p0.h_ 0 6).bind fun a => U a else U n).bind fun a => (if a then (ba p0.e_ 1 31).bind fun a => U a else U n).bind fun a => (if a then (ba p0.E_ 62 2000).bind fun a => U a else U n).bind fun a => U a
noncomputable def mc (p0 : Int) : Option (List Int) :=
  if (p0 == 1) then U ([24109, 48218, 60273, 64291, 65296, 65497, 65530] : List Int) else if (p0 == 6) then U ([162, 1137, 4061, 9909, 18681, 29208, 39734] : List Int) else U ([] : List Int)
noncomputable def jX (p0 : aR) : Option (Bool) :=
  (dZ p0.g_).bind fun a => (if a then (oV p0.b_).bind fun a => U a else U n).bind fun a => (if a then (ba p0.j_ 1 4).bind fun a => U a else U n).bind fun a => (if a then (ba p0.O_ 1 (p0.g_.d_.length : Int)).bind fun a => U a else U n).bind fun a => (if a then (mc p0.P_).bind fun a => U (decide ((a.length : Int) > 0)) else U n).bind fun a => (if a then (ba p0.r_ 1 9).bind fun a => U a else U n).bind fun a => (if a then (ba p0.s_ 1 9).bind fun a => U a else U n).bind fun a => U (a && (decide (p0.r_ ≤ p0.s_)))
noncomputable def lZ (c : Int × Int × Bool) (p0 : List Int) : Nat → (List Int) → Int → Int → Option ((List Int) × Int × Bool)
  | 0, _, _, _ => N
  | h + 1, d, e, f =>
    if decide (e < c.1) then (da p0 f).bind fun a => if (!a.2.2) then U (([] : List Int), 0, n) else (app d ([a.1] : List Int)).bind fun g => (lZ c p0 h) g (J.wrap (e + 1)) a.2.1 else U (d, f, y)
noncomputable def iX (p0 : List Int) (p1 : Int) : Option ((List Int) × Int × Bool) :=
  (da p0 p1).bind fun a => if ((!a.2.2) || (decide (a.1 < 0))) then U (([] : List Int), 0, n) else lZ a p0 aI ([] : List Int) 0 a.2.1
noncomputable def iQ (c : Int × Int × Bool) (p0 : List Int) : Nat → (List (List Int)) → Int → Int → Option ((List (List Int)) × Int × Bool)
  | 0, _, _, _ => N
  | h + 1, d, e, f =>
    if decide (e < c.1) then (iX p0 f).bind fun a => if (!a.2.2) then U (([] : List (List Int)), 0, n) else (app d [a.1]).bind fun g => (iQ c p0 h) g (J.wrap (e + 1)) a.2.1 else U (d, f, y)
noncomputable def jp (p0 : List Int) (p1 : Int) : Option ((List (List Int)) × Int × Bool) :=
  (da p0 p1).bind fun a => if ((!a.2.2) || (decide (a.1 < 0))) then U (([] : List (List Int)), 0, n) else iQ a p0 aI ([] : List (List Int)) 0 a.2.1
noncomputable def mf (p0 : List Int) (p1 : Int) : Option (az × Int × Bool) :=
  (dB p0 p1 3).bind fun a => (if (!a.2.2) then U y else (idx a.1 0).bind fun c => (ba c 0 1).bind fun c => U (!c)).bind fun c => if c then U ((az.mk n (bD.mk 0 0) ([] : List Int) 0 (bl.mk ([] : List Int) ([] : List (List Int))) 0 ([] : List Int) 0 0 0), 0, n) else (idx a.1 0).bind fun i => (idx a.1 1).bind fun j => (idx a.1 2).bind fun k => (iX p0 a.2.1).bind fun c => if (!c.2.2) then U ((az.mk n (bD.mk 0 0) ([] : List Int) 0 (bl.mk ([] : List Int) ([] : List (List Int))) 0 ([] : List Int) 0 0 0), 0, n) else (da p0 c.2.1).bind fun d => if (!d.2.2) then U ((az.mk n (bD.mk 0 0) ([] : List Int) 0 (bl.mk ([] : List Int) ([] : List (List Int))) 0 ([] : List Int) 0 0 0), 0, n) else (iX p0 d.2.1).bind fun e => if (!e.2.2) then U ((az.mk n (bD.mk 0 0) ([] : List Int) 0 (bl.mk ([] : List Int) ([] : List (List Int))) 0 ([] : List Int) 0 0 0), 0, n) else (jp p0 e.2.1).bind fun f => if (!f.2.2) then U ((az.mk n (bD.mk 0 0) ([] : List Int) 0 (bl.mk ([] : List Int) ([] : List (List Int))) 0 ([] : List Int) 0 0 0), 0, n) else (da p0 f.2.1).bind fun g => if (!g.2.2) then U ((az.mk n (bD.mk 0 0) ([] : List Int) 0 (bl.mk ([] : List Int) ([] : List (List Int))) 0 ([] : List Int) 0 0 0), 0, n) else (iX p0 g.2.1).bind fun h => if (!h.2.2) then U ((az.mk n (bD.mk 0 0) ([] : List Int) 0 (bl.mk ([] : List Int) ([] : List (List Int))) 0 ([] : List Int) 0 0 0), 0, n) else (dB p0 h.2.1 3).bind fun a => if (!a.2.2) then U ((az.mk n (bD.mk 0 0) ([] : List Int) 0 (bl.mk ([] : List Int) ([] : List (List Int))) 0 ([] : List Int) 0 0 0), 0, n) else (idx a.1 0).bind fun l => (idx a.1 1).bind fun m => (idx a.1 2).bind fun o => U ((az.mk (i == 1) (bD.mk j k) c.1 d.1 (bl.mk e.1 f.1) g.1 h.1 l m o), a.2.1, y)
noncomputable def lL (c : (List Int) × Int × Bool) (p0 : List Int) (d : Int) : Nat → (List az) → Int → Int → Option (ax × Int × Bool)
  | 0, _, _, _ => N
  | i + 1, e, f, g =>
    (idx c.1 1).bind fun a => if decide (f < a) then (mf p0 g).bind fun a => if (!a.2.2) then U ((ax.mk ([] : List az) 0), 0, n) else (app e [a.1]).bind fun h => (lL c p0 d i) h (J.wrap (f + 1)) a.2.1 else U ((ax.mk e d), g, y)
noncomputable def nu (p0 : List Int) (p1 : Int) : Option (ax × Int × Bool) :=
  (dB p0 p1 2).bind fun a => (if (!a.2.2) then U y else (idx a.1 1).bind fun c => U (decide (c < 0))).bind fun c => if c then U ((ax.mk ([] : List az) 0), 0, n) else (idx a.1 0).bind fun c => lL a p0 c aI ([] : List az) 0 a.2.1
noncomputable def kV (p0 : List Int) (p1 : Int) : Option (aJ × Int × Bool) :=
  (jp p0 p1).bind fun a => if (!a.2.2) then U ((aJ.mk ([] : List (List Int))), 0, n) else U ((aJ.mk a.1), a.2.1, y)
noncomputable def mJ (p0 : List Int) (p1 : Int) : Option (au × Int × Bool) :=
  (nu p0 p1).bind fun a => if (!a.2.2) then U ((au.mk (ax.mk ([] : List az) 0) n (ax.mk ([] : List az) 0) (dg.mk (aJ.mk ([] : List (List Int))) (aJ.mk ([] : List (List Int))))), 0, n) else (da p0 a.2.1).bind fun c => if (!c.2.2) then U ((au.mk (ax.mk ([] : List az) 0) n (ax.mk ([] : List az) 0) (dg.mk (aJ.mk ([] : List (List Int))) (aJ.mk ([] : List (List Int))))), 0, n) else (nu p0 c.2.1).bind fun d => if (!d.2.2) then U ((au.mk (ax.mk ([] : List az) 0) n (ax.mk ([] : List az) 0) (dg.mk (aJ.mk ([] : List (List Int))) (aJ.mk ([] : List (List Int))))), 0, n) else (kV p0 d.2.1).bind fun e => if (!e.2.2) then U ((au.mk (ax.mk ([] : List az) 0) n (ax.mk ([] : List az) 0) (dg.mk (aJ.mk ([] : List (List Int))) (aJ.mk ([] : List (List Int))))), 0, n) else (kV p0 e.2.1).bind fun f => if (!f.2.2) then U ((au.mk (ax.mk ([] : List az) 0) n (ax.mk ([] : List az) 0) (dg.mk (aJ.mk ([] : List (List Int))) (aJ.mk ([] : List (List Int))))), 0, n) else U ((au.mk a.1 (c.1 == 1) d.1 (dg.mk e.1 f.1)), f.2.1, y)
noncomputable def dK (d : Int × Int × Bool) (c : (List Int) × Int × Bool) (h : aj × Bool) (i : Int) (j : Int) (k : Int) (l : Int) (m : Int) (o : Int) (p : Int) (q : Int) (r : Int) (s : Int) (t : Int) (u : Int) (e : List au) (f : List (List Int)) : Nat → (List aC) → Int → Option (ao × Bool)
  | 0, _, _ => N
  | x + 1, g, a =>
    if decide (a < d.1) then (idx c.1 (J.wrap (2 * a))).bind fun v => (idx c.1 (J.wrap ((J.wrap (2 * a)) + 1))).bind fun w => (app g ([(aC.mk v w)] : List aC)).bind fun v => (dK d c h i j k l m o p q r s t u e f x) v (J.wrap (a + 1)) else U ((ao.mk (aR.mk h.1 (bw.mk i j k l m o (p == 1)) q r s t u) (be.mk e) (aZ.mk f g)), y)
noncomputable def fQ (c : aj × Bool) (p0 : List Int) (h : Int) (i : Int) (j : Int) (k : Int) (l : Int) (m : Int) (o : Int) (p : Int) (q : Int) (r : Int) (s : Int) (t : Int) (d : List au) : Nat → (List (List Int)) → Int → Int → Option (ao × Bool)
  | 0, _, _, _ => N
  | v + 1, e, f, g =>
    if decide (f < (c.1.f_.length : Int)) then (iX p0 g).bind fun a => if (!a.2.2) then U ((ao.mk (aR.mk (aj.mk ([] : List ap) ([] : List (List UInt8))) (bw.mk 0 0 0 0 0 0 n) 0 0 0 0 0) (be.mk ([] : List au)) (aZ.mk ([] : List (List Int)) ([] : List aC))), n) else (app e [a.1]).bind fun u => (fQ c p0 h i j k l m o p q r s t d v) u (J.wrap (f + 1)) a.2.1 else (da p0 g).bind fun a => (if (!a.2.2) then U y else (ba a.1 0 20).bind fun f => U (!f)).bind fun f => if f then U ((ao.mk (aR.mk (aj.mk ([] : List ap) ([] : List (List UInt8))) (bw.mk 0 0 0 0 0 0 n) 0 0 0 0 0) (be.mk ([] : List au)) (aZ.mk ([] : List (List Int)) ([] : List aC))), n) else (dB p0 a.2.1 (J.wrap (2 * a.1))).bind fun f => if (!f.2.2) then U ((ao.mk (aR.mk (aj.mk ([] : List ap) ([] : List (List UInt8))) (bw.mk 0 0 0 0 0 0 n) 0 0 0 0 0) (be.mk ([] : List au)) (aZ.mk ([] : List (List Int)) ([] : List aC))), n) else dK a f c h i j k l m o p q r s t d e aI ([] : List aC) 0
noncomputable def fR (c : Int) (p0 : List Int) (g : aj × Bool) (h : Int) (i : Int) (j : Int) (k : Int) (l : Int) (m : Int) (o : Int) (p : Int) (q : Int) (r : Int) (s : Int) : Nat → (List au) → Int → Int → Option (ao × Bool)
  | 0, _, _, _ => N
  | u + 1, d, e, f =>
    if decide (e < c) then (mJ p0 f).bind fun a => if (!a.2.2) then U ((ao.mk (aR.mk (aj.mk ([] : List ap) ([] : List (List UInt8))) (bw.mk 0 0 0 0 0 0 n) 0 0 0 0 0) (be.mk ([] : List au)) (aZ.mk ([] : List (List Int)) ([] : List aC))), n) else (app d [a.1]).bind fun t => (fR c p0 g h i j k l m o p q r s u) t (J.wrap (e + 1)) a.2.1 else fQ g p0 h i j k l m o c p q r s d aI ([] : List (List Int)) 0 f
noncomputable def gE (p0 : List Int) : Option (ao × Bool) :=
  (ke p0 4).bind fun a => if (!a.2.2) then U ((ao.mk (aR.mk (aj.mk ([] : List ap) ([] : List (List UInt8))) (bw.mk 0 0 0 0 0 0 n) 0 0 0 0 0) (be.mk ([] : List au)) (aZ.mk ([] : List (List Int)) ([] : List aC))), n) else (jf a.1).bind fun c => (dB p0 a.2.1 12).bind fun a => if ((!c.2) || (!a.2.2)) then U ((ao.mk (aR.mk (aj.mk ([] : List ap) ([] : List (List UInt8))) (bw.mk 0 0 0 0 0 0 n) 0 0 0 0 0) (be.mk ([] : List au)) (aZ.mk ([] : List (List Int)) ([] : List aC))), n) else (idx a.1 0).bind fun d => (idx a.1 1).bind fun e => (idx a.1 2).bind fun f => (idx a.1 3).bind fun g => (idx a.1 4).bind fun h => (idx a.1 5).bind fun i => (idx a.1 6).bind fun j => (idx a.1 7).bind fun k => (idx a.1 8).bind fun l => (idx a.1 9).bind fun m => (idx a.1 10).bind fun o => (idx a.1 11).bind fun p => (jX (aR.mk c.1 (bw.mk d e f g h i (j == 1)) k l m o p)).bind fun q => if (!q) then U ((ao.mk (aR.mk (aj.mk ([] : List ap) ([] : List (List UInt8))) (bw.mk 0 0 0 0 0 0 n) 0 0 0 0 0) (be.mk ([] : List au)) (aZ.mk ([] : List (List Int)) ([] : List aC))), n) else fR k p0 c d e f g h i j l m o p aI ([] : List au) 0 a.2.1
noncomputable def nr (p0 : ap) : Option (Int) :=
  (jZ p0).bind fun a => if (!a) then U 0 else if decide ((p0.x_.length : Int) > 0) then U (J.wrap ((p0.x_.length : Int) + 1)) else U (p0.F_.length : Int)
noncomputable def du (d : Int) (p1 : bl) (e : Int) (p0 : aj) (a : Int) (i : Int → Option (Bool)) : Nat → Int → Int → Option (Bool)
  | 0, _, _ => N
  | j + 1, f, c =>
    if decide (c < d) then (idx p1.l_ e).bind fun g => (idx g (J.wrap ((J.wrap (c * (p0.f_.length : Int))) + a))).bind fun g => (ba g 0 999).bind fun h => if (!h) then U n else (du d p1 e p0 a i j) (J.wrap (f + g)) (J.wrap (c + 1)) else (idx p1.q_ a).bind fun c => if decide (f > c) then U n else i (J.wrap (a + 1))
noncomputable def bT (p0 : aj) (c : Int) (p1 : bl) (a : Int) (e : Int → Option (Bool)) : Nat → Int → Option (Bool)
  | 0, _ => N
  | f + 1, d =>
    if decide (d < (p0.f_.length : Int)) then du c p1 a p0 d (bT p0 c p1 a e f) aI 0 0 else e (J.wrap (a + 1))
noncomputable def cW (p1 : bl) (p0 : aj) : Nat → Int → Option (Bool)
  | 0, _ => N
  | e + 1, a =>
    if decide (a < (p1.l_.length : Int)) then (idx p0.d_ a).bind fun c => (nr c).bind fun c => (idx p1.l_ a).bind fun d => if ((d.length : Int) != (J.wrap (c * (p0.f_.length : Int)))) then U n else bT p0 c p1 a (cW p1 p0 e) aI 0 else U y
noncomputable def ez (p1 : bl) (p0 : aj) : Nat → Int → Int → Option (Bool)
  | 0, _, _ => N
  | e + 1, c, a =>
    if decide (a < (p1.q_.length : Int)) then (idx p1.q_ a).bind fun d => (ba d 0 999).bind fun d => if (!d) then U n else (idx p1.q_ a).bind fun d => (ez p1 p0 e) (J.wrap (c + d)) (J.wrap (a + 1)) else if decide (c > 999) then U n else if ((p1.l_.length : Int) == 0) then U y else if ((p1.l_.length : Int) != (p0.d_.length : Int)) then U n else cW p1 p0 aI 0
noncomputable def lv (p0 : aj) (p1 : bl) : Option (Bool) :=
  (dZ p0).bind fun a => if ((!a) || ((p1.q_.length : Int) != (p0.f_.length : Int))) then U n else ez p1 p0 aI 0 0
noncomputable def jU (p1 : List Int) (p0 : aj) : Nat → Int → Option (Bool)
  | 0, _ => N
  | e + 1, a =>
    if decide (a < (p1.length : Int)) then (idx p1 a).bind fun c => (ba c 0 (J.wrap ((p0.d_.length : Int) - 1))).bind fun c => (if (!c) then U y else (if decide (a > 0) then (idx p1 a).bind fun c => (idx p1 (J.wrap (a - 1))).bind fun d => U (decide (c ≤ d)) else U n).bind fun c => U c).bind fun c => if c then U n else (jU p1 p0 e) (J.wrap (a + 1)) else U y
noncomputable def nD (p0 : aj) (p1 : List Int) : Option (Bool) :=
  (dZ p0).bind fun a => if ((!a) || ((p1.length : Int) == 0)) then U n else jU p1 p0 aI 0
noncomputable def ib (p1 : bl) : Nat → Int → Int → Option (Int)
  | 0, _, _ => N
  | e + 1, c, a =>
    if decide (a < (p1.q_.length : Int)) then (idx p1.q_ a).bind fun d => (ib p1 e) (J.wrap (c + d)) (J.wrap (a + 1)) else U c
noncomputable def lN (p0 : aj) (p1 : bl) : Option (Int) :=
  (lv p0 p1).bind fun a => if (!a) then U 0 else ib p1 aI 0 0
noncomputable def lC (p0 : aj) (p1 : az) : Option (Bool) :=
  (if (((!(p1.i_.t_ == 0 && (p1.i_.u_ == 0 && y))) || (decide ((p1.v_.length : Int) > 0))) || (p1.I_ != 0)) then U y else (lv p0 p1.k_).bind fun a => U (!a)).bind fun a => (if a then U y else (nD p0 p1.d_).bind fun a => U (!a)).bind fun a => if a then U n else if ((p1.k_.l_.length : Int) == 0) then U (p1.J_ == 0) else (lN p0 p1.k_).bind fun a => (ba p1.J_ 0 a).bind fun a => U a
noncomputable def oK (p0 : aj) (p1 : bD) : Option (Bool) :=
  (dZ p0).bind fun a => (if (!a) then U y else (ba p1.t_ 0 (J.wrap ((p0.d_.length : Int) - 1))).bind fun a => U (!a)).bind fun a => if a then U n else (idx p0.d_ p1.t_).bind fun a => if decide ((a.x_.length : Int) > 0) then (idx p0.d_ p1.t_).bind fun a => (nr a).bind fun a => (ba p1.u_ (-1) (J.wrap (a - 2))).bind fun a => U a else (idx p0.d_ p1.t_).bind fun a => (nr a).bind fun a => (ba p1.u_ (-1) (J.wrap (a - 1))).bind fun a => U a
noncomputable def oe (p0 : aj) (p1 : bD) : Option (Int) :=
  (oK p0 p1).bind fun a => if (!a) then U 0 else if (p1.u_ == (-1)) then (idx p0.d_ p1.t_).bind fun a => (nr a).bind fun a => U a else U 2
noncomputable def jq (c : az) (d : Int) (p1 : ax) : Nat → Int → Option (Bool)
  | 0, _ => N
  | g + 1, a =>
    if decide (a < (c.v_.length : Int)) then (idx c.v_ a).bind fun e => (ba e (J.wrap (d + 1)) (J.wrap ((p1.e_.length : Int) - 1))).bind fun e => (if (!e) then U y else (idx c.v_ a).bind fun e => (idx p1.e_ e).bind fun e => U (e.A_ != d)).bind fun e => (if e then U y else (if decide (a > 0) then (idx c.v_ a).bind fun e => (idx c.v_ (J.wrap (a - 1))).bind fun f => U (decide (e ≤ f)) else U n).bind fun e => U e).bind fun e => if e then U n else (jq c d p1 g) (J.wrap (a + 1)) else U y
noncomputable def kr (p0 : aj) (p1 : ax) (c : Int) : Option (Bool) :=
  (idx p1.e_ c).bind fun a => (oK p0 a.i_).bind fun d => (if (!d) then U y else (oe p0 a.i_).bind fun d => U ((a.v_.length : Int) != d)).bind fun d => (if d then U y else (ba a.I_ 0 (J.wrap ((a.v_.length : Int) - 1))).bind fun d => U (!d)).bind fun d => (if d then U y else (lv p0 a.k_).bind fun d => U (!d)).bind fun d => (if ((d || (decide ((a.k_.l_.length : Int) > 0))) || (a.J_ != 0)) then U y else (nD p0 a.d_).bind fun d => U (!d)).bind fun d => if d then U n else jq a c p1 aI 0
noncomputable def dj (p0 : List Int) (p1 : Int) : Nat → Int → Option (Bool)
  | 0, _ => N
  | d + 1, a =>
    if decide (a < (p0.length : Int)) then (idx p0 a).bind fun c => if (c == p1) then U y else (dj p0 p1 d) (J.wrap (a + 1)) else U n
noncomputable def oh (p0 : List Int) (p1 : Int) : Option (Bool) :=
  dj p0 p1 aI 0
noncomputable def ew (p1 : ax) (p0 : aj) : Nat → Int → Option (Bool)
  | 0, _ => N
  | f + 1, c =>
    if decide (c < (p1.e_.length : Int)) then (idx p1.e_ c).bind fun a => (ba a.h_ 0 6).bind fun d => (if (!d) then U y else (ba a.G_ 0 p1.y_).bind fun d => U (!d)).bind fun d => if d then U n else (if a.B_ then (lC p0 ({ a with B_ := y })).bind fun d => U (!d) else U n).bind fun d => (if d then U y else (if (!a.B_) then (kr p0 p1 c).bind fun d => U (!d) else U n).bind fun d => U d).bind fun d => if d then U n else if (c == 0) then if (((a.A_ != (-1)) || (a.h_ != 0)) || (a.G_ != 0)) then U n else (ew p1 p0 f) (J.wrap (c + 1)) else (ba a.A_ 0 (J.wrap (c - 1))).bind fun d => if (!d) then U n else (idx p1.e_ a.A_).bind fun d => (if d.B_ then U y else (oh d.v_ c).bind fun e => U (!e)).bind fun e => if ((e || ((J.wrap (d.h_ + 1)) != a.h_)) || (decide (d.G_ > a.G_))) then U n else (ew p1 p0 f) (J.wrap (c + 1)) else U y
noncomputable def qD (p0 : aj) (p1 : ax) : Option (Bool) :=
  (dZ p0).bind fun a => (if (!a) then U y else (ba (p1.e_.length : Int) 1 31).bind fun a => U (!a)).bind fun a => (if a then U y else (ba p1.y_ 0 99999).bind fun a => U (!a)).bind fun a => if a then U n else ew p1 p0 aI 0
noncomputable def ex (p0 : ax) : Nat → Int → Int → Option (Int)
  | 0, _, _ => N
  | e + 1, c, a =>
    if decide (a < (p0.e_.length : Int)) then (if (a == 0) then U y else (idx p0.e_ a).bind fun d => U (decide (d.h_ > c))).bind fun d => if d then (idx p0.e_ a).bind fun d => (ex p0 e) d.h_ (J.wrap (a + 1)) else (ex p0 e) c (J.wrap (a + 1)) else U c
noncomputable def pD (p0 : ax) : Option (Int) :=
  ex p0 aI 0 0
noncomputable def jS (p0 : az) : Nat → Int → Int → Option (Int)
  | 0, _, _ => N
  | e + 1, c, a =>
    if decide (a < (p0.k_.l_.length : Int)) then (idx p0.k_.l_ a).bind fun d => (jS p0 e) (J.wrap (c + (d.length : Int))) (J.wrap (a + 1)) else U c
noncomputable def pn (p0 : az) : Option (Int) :=
  if (!p0.B_) then U 1 else jS p0 aI 2 0
noncomputable def iG (p0 : ax) : Nat → Int → Int → Option (Int)
  | 0, _, _ => N
  | e + 1, c, a =>
    if decide (a < (p0.e_.length : Int)) then (idx p0.e_ a).bind fun d => (pn d).bind fun d => (iG p0 e) (J.wrap (c + d)) (J.wrap (a + 1)) else U c
noncomputable def nh (p0 : ax) : Option (Int) :=
  iG p0 aI 0 0
noncomputable def rH (p0 : aj) (p1 : bw) (a : ax) : Option (Bool) :=
  (qD p0 a).bind fun c => (if c then (oV p1).bind fun c => U c else U n).bind fun c => (if (c && (decide ((a.e_.length : Int) ≤ p1.e_))) then (pD a).bind fun c => U (decide (c ≤ p1.h_)) else U n).bind fun c => (if c then (nh a).bind fun a => U (decide (a ≤ p1.E_)) else U n).bind fun a => U a
noncomputable def ic (p0 : Int) : Nat → Int → Int → Option (Int)
  | 0, _, _ => N
  | d + 1, a, c =>
    if decide (c < p0) then (ic p0 d) (J.wrap (a * 2)) (J.wrap (c + 1)) else U a
noncomputable def nY (p0 : Int) : Option (Int) :=
  ic p0 aI 1 0
noncomputable def ia (p0 : aJ) (a : Int) (f : Int → Option (Bool)) : Nat → Int → Option (Bool)
  | 0, _ => N
  | g + 1, c =>
    (idx p0.p_ a).bind fun d => if decide (c < (d.length : Int)) then (idx p0.p_ a).bind fun d => (idx d c).bind fun d => (nY a).bind fun e => (ba d 0 e).bind fun d => if (!d) then U n else (ia p0 a f g) (J.wrap (c + 1)) else f (J.wrap (a + 1))
noncomputable def cU (p0 : aJ) : Nat → Int → Option (Bool)
  | 0, _ => N
  | d + 1, a =>
    if decide (a < (p0.p_.length : Int)) then (idx p0.p_ a).bind fun c => (ba (c.length : Int) 1 3).bind fun c => if (!c) then U n else ia p0 a (cU p0 d) aI 0 else U y
noncomputable def mp (p0 : aJ) : Option (Bool) :=
  if decide ((p0.p_.length : Int) > 8) then U n else cU p0 aI 0
noncomputable def rS (p0 : dg) : Option (Bool) :=
  (mp p0.r_).bind fun a => (if a then (mp p0.s_).bind fun a => U a else U n).bind fun a => U a
noncomputable def od (p0 : aR) (p1 : au) : Option (Bool) :=
  (jX p0).bind fun a => (if (!a) then U y else (rH p0.g_ p0.b_ p1.H_).bind fun a => U (!a)).bind fun a => (if a then U y else (rS p1.K_).bind fun a => U (!a)).bind fun a => if a then U n else if p1.T_ then (rH p0.g_ p0.b_ p1.w_).bind fun a => U a else U (((p1.w_.e_.length : Int) == 0) && (p1.w_.y_ == 0))
noncomputable def jl (p1 : be) (p0 : aR) : Nat → Int → Option (Bool)
  | 0, _ => N
  | d + 1, a =>
    if decide (a < (p1.j_.length : Int)) then (idx p1.j_ a).bind fun c => (od p0 c).bind fun c => if (!c) then U n else (jl p1 p0 d) (J.wrap (a + 1)) else U y
noncomputable def ol (p0 : aR) (p1 : be) : Option (Bool) :=
  (jX p0).bind fun a => if ((!a) || ((p1.j_.length : Int) != p0.j_)) then U n else jl p1 p0 aI 0
noncomputable def dR (p0 : List aC) (p1 : Int) (d : Int) : Nat → Int → Int → Option (Int)
  | 0, _, _ => N
  | e + 1, c, a =>
    if decide (a < (p0.length : Int)) then (idx p0 a).bind fun f => (if (f.R_ == p1) then (idx p0 a).bind fun f => U (f.S_ == d) else U n).bind fun f => if f then (dR p0 p1 d e) (J.wrap (c + 1)) (J.wrap (a + 1)) else (dR p0 p1 d e) c (J.wrap (a + 1)) else U c
noncomputable def oo (p0 : List aC) (p1 : Int) (a : Int) : Option (Int) :=
  dR p0 p1 a aI 0 0
noncomputable def ui (p0 : Int) (p1 : Int) : Option (Int) :=
  if decide (p0 < p1) then U p0 else U p1
noncomputable def ep (p0 : Int) (p1 : aZ) (a : Int) (g : Int → Int → Option (Bool)) : Nat → Int → Int → Option (Bool)
  | 0, _, _ => N
  | h + 1, d, c =>
    if decide (c < p0) then (idx p1.o_ a).bind fun e => (idx e c).bind fun e => (ba e 0 9999).bind fun e => (if (!e) then U y else (oo p1.n_ a c).bind fun e => (idx p1.o_ a).bind fun f => (idx f c).bind fun f => U (decide (e > f))).bind fun e => if e then U n else (idx p1.o_ a).bind fun e => (idx e c).bind fun e => (ep p0 p1 a g h) (J.wrap (d + e)) (J.wrap (c + 1)) else g d (J.wrap (a + 1))
noncomputable def dL (p1 : aZ) (p0 : Int) : Nat → Int → Option (Bool)
  | 0, _ => N
  | d + 1, a =>
    if decide (a < (p1.n_.length : Int)) then (idx p1.n_ a).bind fun c => (ba c.R_ 0 (J.wrap (p0 - 1))).bind fun c => (if (!c) then U y else (idx p1.n_ a).bind fun c => (ba c.S_ 0 (J.wrap (p0 - 1))).bind fun c => U (!c)).bind fun c => if c then U n else (dL p1 p0 d) (J.wrap (a + 1)) else U y
noncomputable def dk (p0 : Int) (p1 : aZ) : Nat → Int → Int → Option (Bool)
  | 0, _, _ => N
  | e + 1, a, c =>
    if decide (c < p0) then (idx p1.o_ c).bind fun d => if ((d.length : Int) != p0) then U n else ep p0 p1 c (dk p0 p1 e) aI a 0 else (if decide (a > 9999) then U y else (ui a 20).bind fun a => U ((p1.n_.length : Int) != a)).bind fun a => if a then U n else dL p1 p0 aI 0
noncomputable def pm (p0 : Int) (p1 : aZ) : Option (Bool) :=
  (ba p0 2 3).bind fun a => if ((!a) || ((p1.o_.length : Int) != p0)) then U n else dk p0 p1 aI 0 0
noncomputable def lA (p0 : ao) : Option (Bool) :=
  (ol p0.a_ p0.z_).bind fun a => (if a then (pm (p0.a_.g_.f_.length : Int) p0.m_).bind fun a => U a else U n).bind fun a => U a
noncomputable def ei (p0 : aj) : Nat → (List (List UInt8)) → Int → Option (List UInt8)
  | 0, _, _ => N
  | e + 1, c, a =>
    if decide (a < (p0.d_.length : Int)) then (idx p0.d_ a).bind fun d => (jd d).bind fun d => (app c ([d] : List (List UInt8))).bind fun d => (ei p0 e) d (J.wrap (a + 1)) else (iz c ([59] : List UInt8)).bind fun a => (mB a ([124] : List UInt8)).bind fun a => (iz p0.f_ ([44] : List UInt8)).bind fun c => (mB a c).bind fun a => U a
noncomputable def lF (p0 : aj) : Option (List UInt8) :=
  (dZ p0).bind fun a => if (!a) then U ([] : List UInt8) else ei p0 aI ([] : List (List UInt8)) 0
noncomputable def jv  : Nat → Int → (List Int) → Option (List Int)
  | 0, _, _ => N
  | e + 1, a, c =>
    if decide (a > 127) then (app c ([K.wrap (J.wrap ((Int.tmod a 128) + 128))] : List Int)).bind fun d => (jv e) (J.wrap (Int.tdiv a 128)) d else (app c ([K.wrap a] : List Int)).bind fun a => U a
noncomputable def mF (p0 : Int) : Option (List Int) :=
  (ba p0 0 2147483647).bind fun a => if (!a) then U ([] : List Int) else jv aI p0 ([] : List Int)
noncomputable def pR (p0 : List UInt8) : Option (List Int) :=
  (mF (p0.length : Int)).bind fun a => (xm p0).bind fun c => (app a c).bind fun a => U a
noncomputable def qh (p0 : Bool) : Option (Int) :=
  if p0 then U 1 else U 0
noncomputable def cP (p0 : Int) : Option (List Int) :=
  (ba p0 (-1000000000) 1000000000).bind fun a => if (!a) then U ([] : List Int) else if decide (p0 < 0) then (mF (J.wrap ((J.wrap (0 - (J.wrap (2 * p0)))) - 1))).bind fun a => U a else (mF (J.wrap (2 * p0))).bind fun a => U a
noncomputable def lP (p0 : List Int) : Nat → Int → Option (Bool)
  | 0, _ => N
  | d + 1, a =>
    if decide (a < (p0.length : Int)) then (idx p0 a).bind fun c => (ba c (-1000000000) 1000000000).bind fun c => if (!c) then U n else (lP p0 d) (J.wrap (a + 1)) else U y
noncomputable def fp (p0 : List Int) : Option (Bool) :=
  lP p0 aI 0
noncomputable def gG (p0 : az) : Nat → Int → Option (Bool)
  | 0, _ => N
  | d + 1, a =>
    if decide (a < (p0.k_.l_.length : Int)) then (idx p0.k_.l_ a).bind fun c => (fp c).bind fun c => if (!c) then U n else (gG p0 d) (J.wrap (a + 1)) else U y
noncomputable def kH (p0 : az) : Option (Bool) :=
  (fp ([p0.i_.t_, p0.i_.u_, p0.I_, p0.J_, p0.h_, p0.A_, p0.G_] : List Int)).bind fun a => (if (!a) then U y else (fp p0.v_).bind fun a => U (!a)).bind fun a => (if a then U y else (fp p0.d_).bind fun a => U (!a)).bind fun a => (if a then U y else (fp p0.k_.q_).bind fun a => U (!a)).bind fun a => if a then U n else gG p0 aI 0
noncomputable def jP (p0 : List Int) : Nat → (List Int) → Int → Option (List Int)
  | 0, _, _ => N
  | e + 1, c, a =>
    if decide (a < (p0.length : Int)) then (idx p0 a).bind fun d => (cP d).bind fun d => (app c d).bind fun d => (jP p0 e) d (J.wrap (a + 1)) else U c
noncomputable def im (p0 : List Int) : Option (List Int) :=
  (fp p0).bind fun a => if (!a) then U ([] : List Int) else (cP (p0.length : Int)).bind fun a => jP p0 aI a 0
noncomputable def iN (p0 : List (List Int)) : Nat → (List Int) → Int → Option (List Int)
  | 0, _, _ => N
  | e + 1, c, a =>
    if decide (a < (p0.length : Int)) then (idx p0 a).bind fun d => (im d).bind fun d => (app c d).bind fun d => (iN p0 e) d (J.wrap (a + 1)) else U c
noncomputable def il (p0 : List (List Int)) : Option (List Int) :=
  (cP (p0.length : Int)).bind fun a => iN p0 aI a 0
noncomputable def lH (p0 : az) : Option (List Int) :=
  (qh p0.B_).bind fun a => (cP a).bind fun a => (cP p0.i_.t_).bind fun c => (app a c).bind fun a => (cP p0.i_.u_).bind fun c => (app a c).bind fun a => (im p0.v_).bind fun c => (app a c).bind fun a => (cP p0.I_).bind fun c => (app a c).bind fun a => (im p0.k_.q_).bind fun c => (app a c).bind fun c => (il p0.k_.l_).bind fun a => (app c a).bind fun a => (cP p0.J_).bind fun c => (app a c).bind fun a => (im p0.d_).bind fun c => (app a c).bind fun a => (cP p0.h_).bind fun c => (app a c).bind fun a => (cP p0.A_).bind fun c => (app a c).bind fun a => (cP p0.G_).bind fun c => (app a c).bind fun a => U a
noncomputable def mg (p0 : ax) : Nat → (List Int) → Int → Option (List Int)
  | 0, _, _ => N
  | e + 1, c, a =>
    if decide (a < (p0.e_.length : Int)) then (idx p0.e_ a).bind fun d => (kH d).bind fun d => if (!d) then U ([] : List Int) else (idx p0.e_ a).bind fun d => (lH d).bind fun d => (app c d).bind fun d => (mg p0 e) d (J.wrap (a + 1)) else U c
noncomputable def ls (p0 : ax) : Option (List Int) :=
  (fp ([p0.y_] : List Int)).bind fun a => if (!a) then U ([] : List Int) else (cP p0.y_).bind fun a => (cP (p0.e_.length : Int)).bind fun c => (app a c).bind fun a => mg p0 aI a 0
noncomputable def kh (p0 : aJ) : Nat → Int → Option (List Int)
  | 0, _ => N
  | d + 1, a =>
    if decide (a < (p0.p_.length : Int)) then (idx p0.p_ a).bind fun c => (fp c).bind fun c => if (!c) then U ([] : List Int) else (kh p0 d) (J.wrap (a + 1)) else (il p0.p_).bind fun a => U a
noncomputable def jC (p0 : aJ) : Option (List Int) :=
  kh p0 aI 0
noncomputable def fX (p0 : ao) : Nat → Int → (List Int) → Option (List Int)
  | 0, _, _ => N
  | f + 1, a, c =>
    if decide (a < (p0.m_.n_.length : Int)) then (idx p0.m_.n_ a).bind fun d => (cP d.R_).bind fun d => (app c d).bind fun d => (idx p0.m_.n_ a).bind fun e => (cP e.S_).bind fun e => (app d e).bind fun d => (fX p0 f) (J.wrap (a + 1)) d else (ga c).bind fun a => (app c a).bind fun a => U a
noncomputable def eX (p0 : ao) : Nat → (List Int) → Int → Option (List Int)
  | 0, _, _ => N
  | e + 1, c, a =>
    if decide (a < (p0.m_.o_.length : Int)) then (idx p0.m_.o_ a).bind fun d => (im d).bind fun d => (app c d).bind fun d => (eX p0 e) d (J.wrap (a + 1)) else (cP (p0.m_.n_.length : Int)).bind fun a => (app c a).bind fun a => fX p0 aI 0 a
noncomputable def ff (p0 : ao) : Nat → (List Int) → Int → Option (List Int)
  | 0, _, _ => N
  | g + 1, d, c =>
    if decide (c < (p0.z_.j_.length : Int)) then (idx p0.z_.j_ c).bind fun a => (ls a.H_).bind fun e => (app d e).bind fun e => (qh a.T_).bind fun f => (cP f).bind fun f => (app e f).bind fun e => (ls a.w_).bind fun f => (app e f).bind fun e => (jC a.K_.r_).bind fun f => (app e f).bind fun e => (jC a.K_.s_).bind fun a => (app e a).bind fun a => (ff p0 g) a (J.wrap (c + 1)) else eX p0 aI d 0
noncomputable def jy (p0 : ao) (a : Int) : Nat → (List Int) → Int → Option (List Int)
  | 0, _, _ => N
  | f + 1, d, c =>
    if decide (c < (([p0.a_.b_.L_, p0.a_.b_.N_, p0.a_.b_.M_, p0.a_.b_.h_, p0.a_.b_.e_, p0.a_.b_.E_, a, p0.a_.j_, p0.a_.O_, p0.a_.P_, p0.a_.r_, p0.a_.s_] : List Int).length : Int)) then (idx ([p0.a_.b_.L_, p0.a_.b_.N_, p0.a_.b_.M_, p0.a_.b_.h_, p0.a_.b_.e_, p0.a_.b_.E_, a, p0.a_.j_, p0.a_.O_, p0.a_.P_, p0.a_.r_, p0.a_.s_] : List Int) c).bind fun e => (cP e).bind fun e => (app d e).bind fun e => (jy p0 a f) e (J.wrap (c + 1)) else ff p0 aI d 0
noncomputable def eA (p0 : ao) : Option (List Int) :=
  (lA p0).bind fun a => if (!a) then U ([] : List Int) else (lF p0.a_.g_).bind fun a => (pR a).bind fun a => (app ([83, 80, 78, 1] : List Int) a).bind fun a => (qh p0.a_.b_.Q_).bind fun c => jy p0 c aI a 0
noncomputable def ly (p0 : List Int) : Option (ao × Int) :=
  if decide ((p0.length : Int) < 8) then U ((ao.mk (aR.mk (aj.mk ([] : List ap) ([] : List (List UInt8))) (bw.mk 0 0 0 0 0 0 n) 0 0 0 0 0) (be.mk ([] : List au)) (aZ.mk ([] : List (List Int)) ([] : List aC))), 1) else (idx p0 0).bind fun a => (if (a != 83) then U y else (idx p0 1).bind fun a => U (a != 80)).bind fun a => (if a then U y else (idx p0 2).bind fun a => U (a != 78)).bind fun a => if a then U ((ao.mk (aR.mk (aj.mk ([] : List ap) ([] : List (List UInt8))) (bw.mk 0 0 0 0 0 0 n) 0 0 0 0 0) (be.mk ([] : List au)) (aZ.mk ([] : List (List Int)) ([] : List aC))), 2) else (idx p0 3).bind fun a => if (a != 1) then U ((ao.mk (aR.mk (aj.mk ([] : List ap) ([] : List (List UInt8))) (bw.mk 0 0 0 0 0 0 n) 0 0 0 0 0) (be.mk ([] : List au)) (aZ.mk ([] : List (List Int)) ([] : List aC))), 3) else (sub p0 0 (J.wrap ((p0.length : Int) - 4))).bind fun a => (sub p0 (J.wrap ((p0.length : Int) - 4)) (p0.length : Int)).bind fun c => (ga a).bind fun a => if (!((dw a) == (dw c))) then U ((ao.mk (aR.mk (aj.mk ([] : List ap) ([] : List (List UInt8))) (bw.mk 0 0 0 0 0 0 n) 0 0 0 0 0) (be.mk ([] : List au)) (aZ.mk ([] : List (List Int)) ([] : List aC))), 4) else (sub p0 0 (J.wrap ((p0.length : Int) - 4))).bind fun a => (gE a).bind fun a => (if (!a.2) then U y else (lA a.1).bind fun c => U (!c)).bind fun c => if c then U ((ao.mk (aR.mk (aj.mk ([] : List ap) ([] : List (List UInt8))) (bw.mk 0 0 0 0 0 0 n) 0 0 0 0 0) (be.mk ([] : List au)) (aZ.mk ([] : List (List Int)) ([] : List aC))), 5) else (eA a.1).bind fun c => if (!((dw c) == (dw p0))) then U ((ao.mk (aR.mk (aj.mk ([] : List ap) ([] : List (List UInt8))) (bw.mk 0 0 0 0 0 0 n) 0 0 0 0 0) (be.mk ([] : List au)) (aZ.mk ([] : List (List Int)) ([] : List aC))), 5) else U (a.1, 0)
noncomputable def lm (e : Int → Int → Option (Int)) (c : Int) : Nat → Int → Int → Option (Int)
  | 0, _, _ => N
  | f + 1, d, a =>
    if decide (d < 8) then if ((eK .and J a 1) == 1) then (lm e c f) (J.wrap (d + 1)) (eK .xor J (qg J a 1) 3988292384) else (lm e c f) (J.wrap (d + 1)) (qg J a 1) else e a (J.wrap (c + 1))
noncomputable def ka (p0 : List Int) : Nat → Int → Int → Option (Int)
  | 0, _, _ => N
  | e + 1, c, a =>
    if decide (a < (p0.length : Int)) then (idx p0 a).bind fun d => lm (ka p0 e) a aI 0 (eK .xor J c (J.wrap d)) else U (eK .xor J c 4294967295)
noncomputable def yG (p0 : List Int) : Option (Int) :=
  ka p0 aI 4294967295 0
noncomputable def fL (p0 : List Int) : Option (List Int) :=
  (yG p0).bind fun a => U ([K.wrap (qg J a 24), K.wrap (qg J a 16), K.wrap (qg J a 8), K.wrap a] : List Int)
noncomputable def gV (p0 : List Int) (p1 : List Int) : Option (Bool) :=
  U ((dw p0) == (dw p1))
noncomputable def jw (p1 : Int) (p0 : List Int) : Nat → Int → Int → Option (Int × Int × Bool)
  | 0, _, _ => N
  | f + 1, c, a =>
    if (((decide (a < 5)) && (decide ((J.wrap (p1 + a)) ≥ 0))) && (decide ((J.wrap (p1 + a)) < (p0.length : Int)))) then (idx p0 (J.wrap (p1 + a))).bind fun d => (shl J (eK .and J (J.wrap d) 127) (J.wrap (7 * a))).bind fun e => if decide ((J.wrap d) ≥ 128) then (jw p1 p0 f) (eK .or J c e) (J.wrap (a + 1)) else if ((((J.wrap d) == 0) && (decide (a > 0))) || (decide ((eK .or J c e) > 2147483647))) then U (0, 0, n) else U (eK .or J c e, J.wrap ((J.wrap (p1 + a)) + 1), y) else U (0, 0, n)
noncomputable def oW (p0 : List Int) (p1 : Int) : Option (Int × Int × Bool) :=
  if decide (p1 < 0) then U (0, 0, n) else jw p1 p0 aI 0 0
noncomputable def np (p0 : List Int) (p1 : Int) : Option ((List UInt8) × Int × Bool) :=
  (oW p0 p1).bind fun a => if ((!a.2.2) || (decide (a.1 > (J.wrap ((p0.length : Int) - a.2.1))))) then U (([] : List UInt8), 0, n) else (sub p0 a.2.1 (J.wrap (a.2.1 + a.1))).bind fun c => U (dw c, J.wrap (a.2.1 + a.1), y)
noncomputable def jh (p0 : List UInt8) (p1 : Int) : Nat → (List (List UInt8)) → Int → Int → Option (List (List UInt8))
  | 0, _, _, _ => N
  | e + 1, c, d, a =>
    if decide (a < (p0.length : Int)) then (idx p0 a).bind fun f => if ((f.toNat : Int) == p1) then (sub p0 d a).bind fun f => (app c ([f] : List (List UInt8))).bind fun f => (jh p0 p1 e) f (J.wrap (a + 1)) (J.wrap (a + 1)) else (jh p0 p1 e) c d (J.wrap (a + 1)) else (sub p0 d (p0.length : Int)).bind fun a => (app c ([a] : List (List UInt8))).bind fun a => U a
noncomputable def oB (p0 : List UInt8) (p1 : Int) : Option (List (List UInt8)) :=
  jh p0 p1 aI ([] : List (List UInt8)) 0 0
noncomputable def aW (p0 : Int) (p1 : Int) (a : Int) : Option (Bool) :=
  U ((decide (p0 ≥ p1)) && (decide (p0 ≤ a)))
noncomputable def oZ (p0 : Int) : Option (List UInt8) :=
  (Js p0).bind fun a => U a
noncomputable def pB (p0 : List UInt8) (p1 : Int) (c : Int) : Option (Int × Bool) :=
  (DC p0).bind fun a => (if (!a.2) then U y else (aW a.1 p1 c).bind fun c => U (!c)).bind fun c => (if c then U y else (oZ a.1).bind fun c => U (!(c == p0))).bind fun c => if c then U (0, n) else U (a.1, y)
noncomputable def li (p0 : List UInt8) : Option (Int × Bool) :=
  (pB p0 (-9999) 9999).bind fun a => U (a.1, a.2)
noncomputable def kX (p0 : List UInt8) : Nat → Int → Option (Bool)
  | 0, _ => N
  | d + 1, a =>
    if decide (a < (p0.length : Int)) then (idx p0 a).bind fun c => (if decide ((c.toNat : Int) < 97) then U y else (idx p0 a).bind fun c => U (decide ((c.toNat : Int) > 122))).bind fun c => if c then U n else (kX p0 d) (J.wrap (a + 1)) else U y
noncomputable def oL (p0 : List UInt8) : Option (Bool) :=
  (aW (p0.length : Int) 1 8).bind fun a => if (!a) then U n else kX p0 aI 0
noncomputable def cy (p0 : List (List UInt8)) (p1 : List UInt8) : Nat → Int → Option (Int)
  | 0, _ => N
  | d + 1, a =>
    if decide (a < (p0.length : Int)) then (idx p0 a).bind fun c => if (p1 == c) then U a else (cy p0 p1 d) (J.wrap (a + 1)) else U (-1)
noncomputable def eG (p0 : List (List UInt8)) (p1 : List UInt8) : Option (Int) :=
  cy p0 p1 aI 0
noncomputable def dI (p0 : List (List UInt8)) (p1 : List UInt8) : Option (Bool) :=
  (eG p0 p1).bind fun a => U (decide (a ≥ 0))
noncomputable def fK (p0 : List (List UInt8)) : Nat → Int → Option (Bool)
  | 0, _ => N
  | e + 1, a =>
    if decide (a < (p0.length : Int)) then (idx p0 a).bind fun c => (oL c).bind fun d => (if (!d) then U y else (sub p0 0 a).bind fun d => (dI d c).bind fun c => U c).bind fun c => if c then U n else (fK p0 e) (J.wrap (a + 1)) else U y
noncomputable def fe (p0 : List (List UInt8)) : Option (Bool) :=
  fK p0 aI 0
noncomputable def fI (p0 : List Int) : Nat → Int → Option (Bool)
  | 0, _ => N
  | e + 1, a =>
    if decide (a < (p0.length : Int)) then (idx p0 a).bind fun c => (idx p0 (J.wrap (a - 1))).bind fun d => if decide (c ≤ d) then U n else (fI p0 e) (J.wrap (a + 1)) else U y
noncomputable def gF (p0 : List Int) : Option (Bool) :=
  fI p0 aI 1
noncomputable def tQ (p0 : Int) : Option (Bool) :=
  (aW p0 (-9999) 9998).bind fun a => U a
noncomputable def qp (p0 : Int) : Option (Bool) :=
  (tQ p0).bind fun a => U (!a)
noncomputable def bM (p0 : List Int) : Nat → Int → Option (Int)
  | 0, _ => N
  | d + 1, a =>
    if decide (a < (p0.length : Int)) then (idx p0 a).bind fun c => (qp c).bind fun c => if c then U a else (bM p0 d) (J.wrap (a + 1)) else U (-1)
noncomputable def cO (p0 : List Int) : Option (Int) :=
  bM p0 aI 0
noncomputable def cz (p0 : List Int) : Option (Bool) :=
  (cO p0).bind fun a => U (decide (a ≥ 0))
noncomputable def qB (p0 : List Int) : Option (Bool) :=
  (aW (p0.length : Int) 1 3).bind fun a => (if a then (gF p0).bind fun a => U a else U n).bind fun a => (if a then (cz p0).bind fun a => U (!a) else U n).bind fun a => U a
noncomputable def kb (p0 : ap) : Option (Bool) :=
  (oL p0.D_).bind fun a => if (!a) then U n else if ((p0.x_.length : Int) == 0) then (aW (p0.F_.length : Int) 2 4).bind fun a => (if a then (fe p0.F_).bind fun a => U a else U n).bind fun a => U a else (if ((p0.F_.length : Int) == 0) then (qB p0.x_).bind fun a => U a else U n).bind fun a => U a
noncomputable def dH (p0 : List Int) (p1 : List UInt8) : Nat → Int → (List (List UInt8)) → Option (List UInt8)
  | 0, _, _ => N
  | e + 1, a, c =>
    if decide (a < (p0.length : Int)) then (idx p0 a).bind fun d => (oZ d).bind fun d => (app c ([d] : List (List UInt8))).bind fun d => (dH p0 p1 e) (J.wrap (a + 1)) d else (vg c p1).bind fun a => U a
noncomputable def kP (p0 : List Int) (p1 : List UInt8) : Option (List UInt8) :=
  dH p0 p1 aI 0 ([] : List (List UInt8))
noncomputable def je (p0 : ap) : Option (List UInt8) :=
  (kb p0).bind fun a => if (!a) then U ([] : List UInt8) else if decide ((p0.x_.length : Int) > 0) then (mB p0.D_ ([58] : List UInt8)).bind fun a => (kP p0.x_ ([44] : List UInt8)).bind fun c => (mB a c).bind fun a => U a else (mB p0.D_ ([61] : List UInt8)).bind fun a => (vg p0.F_ ([44] : List UInt8)).bind fun c => (mB a c).bind fun a => U a
noncomputable def gp (p0 : List UInt8) (a : List UInt8) (c : List Int) (d : List (List UInt8)) : Option (ap × Bool) :=
  (kb (ap.mk a c d)).bind fun e => (if (!e) then U y else (je (ap.mk a c d)).bind fun e => U (!(e == p0))).bind fun e => if e then U ((ap.mk ([] : List UInt8) ([] : List Int) ([] : List (List UInt8))), n) else U ((ap.mk a c d), y)
noncomputable def cX (a : List (List UInt8)) (p0 : List UInt8) (d : List UInt8 × List UInt8 × Bool) : Nat → Int → (List Int) → Option (ap × Bool)
  | 0, _, _ => N
  | g + 1, c, e =>
    if decide (c < (a.length : Int)) then (idx a c).bind fun f => (li f).bind fun f => if (!f.2) then U ((ap.mk ([] : List UInt8) ([] : List Int) ([] : List (List UInt8))), n) else (app e ([f.1] : List Int)).bind fun f => (cX a p0 d g) (J.wrap (c + 1)) f else gp p0 d.1 e ([] : List (List UInt8))
noncomputable def lj (p0 : List UInt8) : Option (ap × Bool) :=
  (JS p0 ([61] : List UInt8)).bind fun a => if a.2.2 then (oB a.2.1 44).bind fun c => gp p0 a.1 ([] : List Int) c else (JS p0 ([58] : List UInt8)).bind fun a => if a.2.2 then (oB a.2.1 44).bind fun c => cX c p0 a aI 0 ([] : List Int) else gp p0 ([] : List UInt8) ([] : List Int) ([] : List (List UInt8))
noncomputable def fv (p0 : aj) : Nat → Int → (List (List UInt8)) → Option (Bool)
  | 0, _, _ => N
  | f + 1, a, c =>
    if decide (a < (p0.d_.length : Int)) then (idx p0.d_ a).bind fun d => (kb d).bind fun e => if (!e) then U n else (app c ([d.D_] : List (List UInt8))).bind fun d => (fv p0 f) (J.wrap (a + 1)) d else (fe c).bind fun a => U a
noncomputable def ed (p0 : aj) : Option (Bool) :=
  (aW (p0.d_.length : Int) 1 5).bind fun a => (if (!a) then U y else (aW (p0.f_.length : Int) 2 3).bind fun a => U (!a)).bind fun a => (if a then U y else (fe p0.f_).bind fun a => U (!a)).bind fun a => if a then U n else fv p0 aI 0 ([] : List (List UInt8))
noncomputable def cH (a : List (List UInt8)) (c : List (List UInt8)) : Nat → Int → (List ap) → Option (aj × Bool)
  | 0, _, _ => N
  | g + 1, d, e =>
    if decide (d < (a.length : Int)) then (idx a d).bind fun f => (lj f).bind fun f => if (!f.2) then U ((aj.mk ([] : List ap) ([] : List (List UInt8))), n) else (app e [f.1]).bind fun f => (cH a c g) (J.wrap (d + 1)) f else (ed (aj.mk e c)).bind fun a => if (!a) then U ((aj.mk ([] : List ap) ([] : List (List UInt8))), n) else U ((aj.mk e c), y)
noncomputable def ji (p0 : List UInt8) : Option (aj × Bool) :=
  (JS p0 ([124] : List UInt8)).bind fun a => if (!a.2.2) then U ((aj.mk ([] : List ap) ([] : List (List UInt8))), n) else (oB a.2.1 44).bind fun c => (oB a.1 59).bind fun a => cH a c aI 0 ([] : List ap)
noncomputable def kR (a : Int × Int × Bool) (c : Int) : Option (Int × Int × Bool) :=
  (if (!a.2.2) then U y else (aW c (-1000000000) 1000000000).bind fun d => U (!d)).bind fun d => if d then U (0, 0, n) else U (c, a.2.1, y)
noncomputable def nf (p0 : List Int) (p1 : Int) : Option (Int × Int × Bool) :=
  (oW p0 p1).bind fun a => if ((Int.tmod a.1 2) == 1) then kR a (J.wrap ((J.wrap (0 - (J.wrap (Int.tdiv a.1 2)))) - 1)) else kR a (J.wrap (Int.tdiv a.1 2))
noncomputable def aM (p0b : List Int) (p0 : ak) : Option (Int × ak) :=
  if p0.C_ then U (0, p0) else (nf p0b p0.c_).bind fun a => if (!a.2.2) then U (0, (ak.mk p0.c_ y)) else U (a.1, (ak.mk a.2.1 p0.C_))
noncomputable def eJ (p0b : List Int) (p0 : ak) : Option (Bool × ak) :=
  (aM p0b p0).bind fun a => U ((a.1 == 1), (ak.mk a.2.c_ (a.2.C_ || ((a.1 != 0) && (a.1 != 1)))))
noncomputable def pb (p0 : bw) : Option (Bool) :=
  (aW p0.L_ 1 9).bind fun a => (if a then (aW p0.N_ 0 999).bind fun a => U a else U n).bind fun a => (if a then (aW p0.M_ 1 200).bind fun a => U a else U n).bind fun a => (if a then (aW p0.h_ 0 6).bind fun a => U a else U n).bind fun a => (if a then (aW p0.e_ 1 31).bind fun a => U a else U n).bind fun a => (if a then (aW p0.E_ 62 2000).bind fun a => U a else U n).bind fun a => U a
noncomputable def lW (p0 : Int) : Option ((List Int) × Bool) :=
  if (p0 == 1) then U (([24109, 48218, 60273, 64291, 65296, 65497, 65530] : List Int), n) else if (p0 == 6) then U (([162, 1137, 4061, 9909, 18681, 29208, 39734] : List Int), n) else U (([] : List Int), y)
noncomputable def ll (p0 : aR) : Option (Bool) :=
  (ed p0.g_).bind fun a => (if a then (pb p0.b_).bind fun a => U a else U n).bind fun a => (if a then (aW p0.j_ 1 4).bind fun a => U a else U n).bind fun a => (if a then (aW p0.O_ 1 (p0.g_.d_.length : Int)).bind fun a => U a else U n).bind fun a => (if a then (lW p0.P_).bind fun a => U (!a.2) else U n).bind fun a => (if a then (aW p0.r_ 1 9).bind fun a => U a else U n).bind fun a => (if a then (aW p0.s_ 1 9).bind fun a => U a else U n).bind fun a => U (a && (decide (p0.r_ ≤ p0.s_)))
noncomputable def bZ (p0b : List Int) (p0 : ak) : Option (Int × ak) :=
  (aM p0b p0).bind fun a => if ((decide (a.1 < 0)) || (decide (a.1 > (J.wrap ((p0b.length : Int) - a.2.c_))))) then U (0, (ak.mk a.2.c_ y)) else U (a.1, a.2)
noncomputable def iU (p0b : List Int) : Nat → Int → Bool → (List Int) → Int → Option ((List Int) × ak)
  | 0, _, _, _, _ => N
  | h + 1, d, a, e, f =>
    if ((decide (f > 0)) && (!a)) then (aM p0b (ak.mk d a)).bind fun c => (app e ([c.1] : List Int)).bind fun g => (iU p0b h) c.2.c_ c.2.C_ g (J.wrap (f - 1)) else U (e, (ak.mk d a))
noncomputable def cK (p0b : List Int) (p0 : ak) : Option ((List Int) × ak) :=
  (bZ p0b p0).bind fun a => iU p0b aI a.2.c_ a.2.C_ ([] : List Int) a.1
noncomputable def gM (p0b : List Int) (d : List az) (e : Bool × ak) (f : Int × ak) (g : Int × ak) (h : (List Int) × ak) (i : Int × ak) (j : (List Int) × ak) (q : Int → Bool → (List az) → Int → Option (ax × ak)) (k : Int) : Nat → Int → Bool → (List (List Int)) → Int → Option (ax × ak)
  | 0, _, _, _, _ => N
  | r + 1, l, a, m, o =>
    if ((decide (o > 0)) && (!a)) then (cK p0b (ak.mk l a)).bind fun c => (app m [c.1]).bind fun p => (gM p0b d e f g h i j q k r) c.2.c_ c.2.C_ p (J.wrap (o - 1)) else (aM p0b (ak.mk l a)).bind fun c => (cK p0b c.2).bind fun l => (aM p0b l.2).bind fun o => (aM p0b o.2).bind fun p => (aM p0b p.2).bind fun a => (app d [(az.mk e.1 (bD.mk f.1 g.1) h.1 i.1 (bl.mk j.1 m) c.1 l.1 o.1 p.1 a.1)]).bind fun c => q a.2.c_ a.2.C_ c (J.wrap (k - 1))
noncomputable def dm (p0b : List Int) (m : Int × ak) : Nat → Int → Bool → (List az) → Int → Option (ax × ak)
  | 0, _, _, _, _ => N
  | o + 1, d, a, e, f =>
    if ((decide (f > 0)) && (!a)) then (eJ p0b (ak.mk d a)).bind fun g => (aM p0b g.2).bind fun h => (aM p0b h.2).bind fun i => (cK p0b i.2).bind fun j => (aM p0b j.2).bind fun k => (cK p0b k.2).bind fun l => (bZ p0b l.2).bind fun c => gM p0b e g h i j k l (dm p0b m o) f aI c.2.c_ c.2.C_ ([] : List (List Int)) c.1 else U ((ax.mk e m.1), (ak.mk d a))
noncomputable def fq (p0b : List Int) (p0 : ak) : Option (ax × ak) :=
  (aM p0b p0).bind fun c => (bZ p0b c.2).bind fun a => dm p0b c aI a.2.c_ a.2.C_ ([] : List az) a.1
noncomputable def eO (p0b : List Int) : Nat → Int → Bool → (List (List Int)) → Int → Option (aJ × ak)
  | 0, _, _, _, _ => N
  | h + 1, d, c, e, f =>
    if ((decide (f > 0)) && (!c)) then (cK p0b (ak.mk d c)).bind fun a => (app e [a.1]).bind fun g => (eO p0b h) a.2.c_ a.2.C_ g (J.wrap (f - 1)) else U ((aJ.mk e), (ak.mk d c))
noncomputable def dF (p0b : List Int) (p0 : ak) : Option (aJ × ak) :=
  (bZ p0b p0).bind fun a => eO p0b aI a.2.c_ a.2.C_ ([] : List (List Int)) a.1
noncomputable def eT (p0 : List Int) (i : aj × Bool) (j : Int × ak) (k : Int × ak) (l : Int × ak) (m : Int × ak) (o : Int × ak) (p : Int × ak) (q : Bool × ak) (r : Int × ak) (s : Int × ak) (t : Int × ak) (u : Int × ak) (v : Int × ak) (d : List au) (e : List (List Int)) : Nat → Int → (List aC) → Int → Bool → Option (ao × Bool)
  | 0, _, _, _, _ => N
  | w + 1, f, g, c, a =>
    if ((decide (f > 0)) && (!a)) then (aM p0 (ak.mk c a)).bind fun h => (aM p0 h.2).bind fun c => (app g ([(aC.mk h.1 c.1)] : List aC)).bind fun h => (eT p0 i j k l m o p q r s t u v d e w) (J.wrap (f - 1)) h c.2.c_ c.2.C_ else U ((ao.mk (aR.mk i.1 (bw.mk j.1 k.1 l.1 m.1 o.1 p.1 q.1) r.1 s.1 t.1 u.1 v.1) (be.mk d) (aZ.mk e g)), (!a))
noncomputable def eQ (c : aj × Bool) (p0 : List Int) (i : Int × ak) (j : Int × ak) (k : Int × ak) (l : Int × ak) (m : Int × ak) (o : Int × ak) (p : Bool × ak) (q : Int × ak) (r : Int × ak) (s : Int × ak) (t : Int × ak) (u : Int × ak) (d : List au) : Nat → Int → (List (List Int)) → Int → Bool → Option (ao × Bool)
  | 0, _, _, _, _ => N
  | w + 1, e, f, g, h =>
    if decide (e < (c.1.f_.length : Int)) then (cK p0 (ak.mk g h)).bind fun a => (app f [a.1]).bind fun v => (eQ c p0 i j k l m o p q r s t u d w) (J.wrap (e + 1)) v a.2.c_ a.2.C_ else (bZ p0 (ak.mk g h)).bind fun a => eT p0 c i j k l m o p q r s t u d f aI a.1 ([] : List aC) a.2.c_ a.2.C_
noncomputable def ee (c : Int × ak) (p0 : List Int) (l : aj × Bool) (m : Int × ak) (o : Int × ak) (p : Int × ak) (q : Int × ak) (r : Int × ak) (s : Int × ak) (t : Bool × ak) (u : Int × ak) (v : Int × ak) (w : Int × ak) (x : Int × ak) : Nat → Int → (List au) → Int → Bool → Option (ao × Bool)
  | 0, _, _, _, _ => N
  | A + 1, d, e, f, g =>
    if decide (d < c.1) then (fq p0 (ak.mk f g)).bind fun h => (eJ p0 h.2).bind fun i => (fq p0 i.2).bind fun j => (dF p0 j.2).bind fun k => (dF p0 k.2).bind fun a => (app e [(au.mk h.1 i.1 j.1 (dg.mk k.1 a.1))]).bind fun h => (ee c p0 l m o p q r s t u v w x A) (J.wrap (d + 1)) h a.2.c_ a.2.C_ else eQ l p0 m o p q r s t c u v w x e aI 0 ([] : List (List Int)) f g
noncomputable def dS (p0 : List Int) : Option (ao × Bool) :=
  (np p0 4).bind fun a => if (!a.2.2) then U ((ao.mk (aR.mk (aj.mk ([] : List ap) ([] : List (List UInt8))) (bw.mk 0 0 0 0 0 0 n) 0 0 0 0 0) (be.mk ([] : List au)) (aZ.mk ([] : List (List Int)) ([] : List aC))), n) else (ji a.1).bind fun c => if (!c.2) then U ((ao.mk (aR.mk (aj.mk ([] : List ap) ([] : List (List UInt8))) (bw.mk 0 0 0 0 0 0 n) 0 0 0 0 0) (be.mk ([] : List au)) (aZ.mk ([] : List (List Int)) ([] : List aC))), n) else (aM p0 (ak.mk a.2.1 n)).bind fun d => (aM p0 d.2).bind fun e => (aM p0 e.2).bind fun f => (aM p0 f.2).bind fun g => (aM p0 g.2).bind fun h => (aM p0 h.2).bind fun i => (eJ p0 i.2).bind fun j => (aM p0 j.2).bind fun k => (aM p0 k.2).bind fun l => (aM p0 l.2).bind fun m => (aM p0 m.2).bind fun o => (aM p0 o.2).bind fun a => (if a.2.C_ then U y else (ll (aR.mk c.1 (bw.mk d.1 e.1 f.1 g.1 h.1 i.1 j.1) k.1 l.1 m.1 o.1 a.1)).bind fun p => U (!p)).bind fun p => if p then U ((ao.mk (aR.mk (aj.mk ([] : List ap) ([] : List (List UInt8))) (bw.mk 0 0 0 0 0 0 n) 0 0 0 0 0) (be.mk ([] : List au)) (aZ.mk ([] : List (List Int)) ([] : List aC))), n) else ee k p0 c d e f g h i j l m o a aI 0 ([] : List au) a.2.c_ a.2.C_
noncomputable def pI (p0 : Int) : Option (Bool) :=
  (aW p0 0 999).bind fun a => U (!a)
noncomputable def bL (p0 : List Int) : Nat → Int → Option (Int)
  | 0, _ => N
  | d + 1, a =>
    if decide (a < (p0.length : Int)) then (idx p0 a).bind fun c => (pI c).bind fun c => if c then U a else (bL p0 d) (J.wrap (a + 1)) else U (-1)
noncomputable def cG (p0 : List Int) : Option (Int) :=
  bL p0 aI 0
noncomputable def bX (p0 : List Int) : Option (Bool) :=
  (cG p0).bind fun a => U (decide (a ≥ 0))
noncomputable def nB (p0 : List Int) (p1 : Int) : Option (Bool) :=
  (if ((p0.length : Int) == p1) then (bX p0).bind fun a => U (!a) else U n).bind fun a => U a
noncomputable def fM (p0 : List Int) : Nat → Int → Int → Option (Int)
  | 0, _, _ => N
  | e + 1, c, a =>
    if decide (a < (p0.length : Int)) then (idx p0 a).bind fun d => (fM p0 e) (J.wrap (c + d)) (J.wrap (a + 1)) else U c
noncomputable def lw (p0 : List Int) : Option (Int) :=
  fM p0 aI 0 0
noncomputable def nx (p0 : ap) : Option (Int) :=
  if decide ((p0.x_.length : Int) > 0) then U (J.wrap ((p0.x_.length : Int) + 1)) else U (p0.F_.length : Int)
noncomputable def tX (p0 : Int) : Option (List Int) :=
  (mk (0 : Int) p0).bind fun a => U a
noncomputable def dM (e : List Int) (p0 : aj) (p1 : bl) (k : Int → Option (Bool)) (f : Int) : Nat → Int → (List Int) → Option (Bool)
  | 0, _, _ => N
  | l + 1, a, c =>
    if decide (a < (e.length : Int)) then (idx e a).bind fun g => (rem a (p0.f_.length : Int)).bind fun d => (idx c d).bind fun h => (idx c d).bind fun _ => (rem a (p0.f_.length : Int)).bind fun i => (idx (c.set d.toNat (J.wrap (h + g))) i).bind fun i => (rem a (p0.f_.length : Int)).bind fun j => (idx p1.q_ j).bind fun j => if decide (i > j) then U n else (dM e p0 p1 k f l) (J.wrap (a + 1)) (c.set d.toNat (J.wrap (h + g))) else k (J.wrap (f + 1))
noncomputable def dv (p1 : bl) (p0 : aj) : Nat → Int → Option (Bool)
  | 0, _ => N
  | e + 1, a =>
    if decide (a < (p1.l_.length : Int)) then (idx p1.l_ a).bind fun c => (idx p0.d_ a).bind fun d => (nx d).bind fun d => (nB c (J.wrap (d * (p0.f_.length : Int)))).bind fun d => if (!d) then U n else (tX (p0.f_.length : Int)).bind fun d => dM c p0 p1 (dv p1 p0 e) a aI 0 d else U y
noncomputable def pj (p0 : aj) (p1 : bl) : Option (Bool) :=
  (ed p0).bind fun a => (if (!a) then U y else (nB p1.q_ (p0.f_.length : Int)).bind fun a => U (!a)).bind fun a => (if a then U y else (lw p1.q_).bind fun a => U (decide (a > 999))).bind fun a => if a then U n else if ((p1.l_.length : Int) == 0) then U y else if ((p1.l_.length : Int) != (p0.d_.length : Int)) then U n else dv p1 p0 aI 0
noncomputable def po (p0 : aj) (p1 : List Int) : Option (Bool) :=
  (ed p0).bind fun a => (if (a && (decide ((p1.length : Int) > 0))) then (gF p1).bind fun a => U a else U n).bind fun a => (if a then (idx p1 0).bind fun a => U (decide (a ≥ 0)) else U n).bind fun a => (if a then (idx p1 (J.wrap ((p1.length : Int) - 1))).bind fun a => U (decide (a < (p0.d_.length : Int))) else U n).bind fun a => U a
noncomputable def qw (p0 : aj) (p1 : bD) : Option (Bool) :=
  (ed p0).bind fun a => (if (!a) then U y else (aW p1.t_ 0 (J.wrap ((p0.d_.length : Int) - 1))).bind fun a => U (!a)).bind fun a => if a then U n else (idx p0.d_ p1.t_).bind fun a => (nx a).bind fun c => if decide ((a.x_.length : Int) > 0) then (aW p1.u_ (-1) (J.wrap ((J.wrap (c - 1)) - 1))).bind fun a => U a else (aW p1.u_ (-1) (J.wrap (c - 1))).bind fun a => U a
noncomputable def km (p0 : aj) (p1 : bD) : Option (Int) :=
  (qw p0 p1).bind fun a => if (!a) then U 0 else if (p1.u_ == (-1)) then (idx p0.d_ p1.t_).bind fun a => (nx a).bind fun a => U a else U 2
noncomputable def nS (p0 : Int) (p1 : Int) (a : ax) : Option (Bool) :=
  (aW p0 (J.wrap (p1 + 1)) (J.wrap ((a.e_.length : Int) - 1))).bind fun c => (if (!c) then U y else (idx a.e_ p0).bind fun a => U (a.A_ != p1)).bind fun a => U a
noncomputable def bN (p0 : List Int) (p1_0 : Int) (p1_1 : ax) : Nat → Int → Option (Int)
  | 0, _ => N
  | d + 1, a =>
    if decide (a < (p0.length : Int)) then (idx p0 a).bind fun c => (nS c p1_0 p1_1).bind fun c => if c then U a else (bN p0 p1_0 p1_1 d) (J.wrap (a + 1)) else U (-1)
noncomputable def cN (p0 : List Int) (p1_0 : Int) (p1_1 : ax) : Option (Int) :=
  bN p0 p1_0 p1_1 aI 0
noncomputable def cb (p0 : List Int) (p1_0 : Int) (p1_1 : ax) : Option (Bool) :=
  (cN p0 p1_0 p1_1).bind fun a => U (decide (a ≥ 0))
noncomputable def kJ (a : az) (c : Int) : Option (Bool) :=
  (if (((a.i_.t_ == 0 && (a.i_.u_ == 0 && y)) && ((a.v_.length : Int) == 0)) && (a.I_ == 0)) then (aW a.J_ 0 c).bind fun a => U a else U n).bind fun a => U a
noncomputable def qG (p0 : aj) (p1 : ax) (d : Int) : Option (Bool) :=
  (idx p1.e_ d).bind fun a => (aW a.h_ 0 6).bind fun c => (if (!c) then U y else (aW a.G_ 0 p1.y_).bind fun c => U (!c)).bind fun c => (if c then U y else (pj p0 a.k_).bind fun c => U (!c)).bind fun c => (if c then U y else (po p0 a.d_).bind fun c => U (!c)).bind fun c => if c then U n else if a.B_ then (lw a.k_.q_).bind fun c => if ((a.k_.l_.length : Int) == 0) then kJ a 0 else kJ a c else (km p0 a.i_).bind fun c => (if ((c == 0) || ((a.v_.length : Int) != c)) then U y else (gF a.v_).bind fun e => U (!e)).bind fun e => (if e then U y else (aW a.I_ 0 (J.wrap (c - 1))).bind fun c => U (!c)).bind fun c => if ((c || ((a.k_.l_.length : Int) != 0)) || (a.J_ != 0)) then U n else (cb a.v_ d p1).bind fun a => U (!a)
noncomputable def de (p0 : List Int) (p1 : Int) : Nat → Int → Option (Int)
  | 0, _ => N
  | d + 1, a =>
    if decide (a < (p0.length : Int)) then (idx p0 a).bind fun c => if (p1 == c) then U a else (de p0 p1 d) (J.wrap (a + 1)) else U (-1)
noncomputable def gi (p0 : List Int) (p1 : Int) : Option (Int) :=
  de p0 p1 aI 0
noncomputable def dO (p0 : List Int) (p1 : Int) : Option (Bool) :=
  (gi p0 p1).bind fun a => U (decide (a ≥ 0))
noncomputable def ey (p1 : ax) (p0 : aj) : Nat → Int → Option (Bool)
  | 0, _ => N
  | f + 1, c =>
    if decide (c < (p1.e_.length : Int)) then (idx p1.e_ c).bind fun a => (qG p0 p1 c).bind fun d => if (!d) then U n else if (c == 0) then if (((a.A_ != (-1)) || (a.h_ != 0)) || (a.G_ != 0)) then U n else (ey p1 p0 f) (J.wrap (c + 1)) else (aW a.A_ 0 (J.wrap (c - 1))).bind fun d => if (!d) then U n else (idx p1.e_ a.A_).bind fun d => (if d.B_ then U y else (dO d.v_ c).bind fun e => U (!e)).bind fun e => if ((e || (d.h_ != (J.wrap (a.h_ - 1)))) || (decide (d.G_ > a.G_))) then U n else (ey p1 p0 f) (J.wrap (c + 1)) else U y
noncomputable def qQ (p0 : aj) (p1 : ax) : Option (Bool) :=
  (ed p0).bind fun a => (if (!a) then U y else (aW (p1.e_.length : Int) 1 31).bind fun a => U (!a)).bind fun a => (if a then U y else (aW p1.y_ 0 99999).bind fun a => U (!a)).bind fun a => if a then U n else ey p1 p0 aI 0
noncomputable def fg (p0 : ax) : Nat → Int → Int → Option (Int)
  | 0, _, _ => N
  | e + 1, a, c =>
    if decide (a < (p0.e_.length : Int)) then (idx p0.e_ a).bind fun d => (fg p0 e) (J.wrap (a + 1)) (if c < d.h_ then d.h_ else c) else U c
noncomputable def pC (p0 : ax) : Option (Int) :=
  if ((p0.e_.length : Int) == 0) then U 0 else (idx p0.e_ 0).bind fun a => fg p0 aI 0 a.h_
noncomputable def gP (p0 : az) : Nat → Int → Int → Option (Int)
  | 0, _, _ => N
  | e + 1, a, c =>
    if decide (a < (p0.k_.l_.length : Int)) then (idx p0.k_.l_ a).bind fun d => (gP p0 e) (J.wrap (a + 1)) (J.wrap (c + (d.length : Int))) else U c
noncomputable def pH (p0 : az) : Option (Int) :=
  if (!p0.B_) then U 1 else gP p0 aI 0 2
noncomputable def iF (p0 : ax) : Nat → Int → Int → Option (Int)
  | 0, _, _ => N
  | e + 1, c, a =>
    if decide (a < (p0.e_.length : Int)) then (idx p0.e_ a).bind fun d => (pH d).bind fun d => (iF p0 e) (J.wrap (c + d)) (J.wrap (a + 1)) else U c
noncomputable def mR (p0 : ax) : Option (Int) :=
  iF p0 aI 0 0
noncomputable def rD (p0 : aj) (p1 : bw) (a : ax) : Option (Bool) :=
  (qQ p0 a).bind fun c => (if c then (pb p1).bind fun c => U c else U n).bind fun c => (if (c && (decide ((a.e_.length : Int) ≤ p1.e_))) then (pC a).bind fun c => U (decide (c ≤ p1.h_)) else U n).bind fun c => (if c then (mR a).bind fun a => U (decide (a ≤ p1.E_)) else U n).bind fun a => U a
noncomputable def oy (p0 : Int) (p1 : Int) : Option (Bool) :=
  (shl J 1 p1).bind fun x10 => (aW p0 0 x10).bind fun a => U (!a)
noncomputable def bF (p0 : List Int) (p1_0 : Int) : Nat → Int → Option (Int)
  | 0, _ => N
  | d + 1, a =>
    if decide (a < (p0.length : Int)) then (idx p0 a).bind fun c => (oy c p1_0).bind fun c => if c then U a else (bF p0 p1_0 d) (J.wrap (a + 1)) else U (-1)
noncomputable def cB (p0 : List Int) (p1_0 : Int) : Option (Int) :=
  bF p0 p1_0 aI 0
noncomputable def bW (p0 : List Int) (p1_0 : Int) : Option (Bool) :=
  (cB p0 p1_0).bind fun a => U (decide (a ≥ 0))
noncomputable def dU (p0 : aJ) : Nat → Int → Option (Bool)
  | 0, _ => N
  | e + 1, a =>
    if decide (a < (p0.p_.length : Int)) then (idx p0.p_ a).bind fun c => (aW (c.length : Int) 1 3).bind fun d => (if (!d) then U y else (bW c a).bind fun c => U c).bind fun c => if c then U n else (dU p0 e) (J.wrap (a + 1)) else U y
noncomputable def mo (p0 : aJ) : Option (Bool) :=
  if decide ((p0.p_.length : Int) > 8) then U n else dU p0 aI 0
noncomputable def rZ (p0 : dg) : Option (Bool) :=
  (mo p0.r_).bind fun a => (if a then (mo p0.s_).bind fun a => U a else U n).bind fun a => U a
noncomputable def ft (p0 : List Int) (p1 : List Int) : Nat → Int → Option (Bool)
  | 0, _ => N
  | e + 1, a =>
    if decide (a < (p0.length : Int)) then (idx p0 a).bind fun c => (idx p1 a).bind fun d => if (c != d) then U n else (ft p0 p1 e) (J.wrap (a + 1)) else U y
noncomputable def dG (p0 : List Int) (p1 : List Int) : Option (Bool) :=
  if ((p0.length : Int) != (p1.length : Int)) then U n else ft p0 p1 aI 0
noncomputable def ql (p0 : List Int) (p1 : List Int) : Option (Bool) :=
  (dG p0 p1).bind fun a => U a
noncomputable def bI (p0 : List (List Int)) (p1 : List (List Int)) : Nat → Int → Option (Bool)
  | 0, _ => N
  | e + 1, a =>
    if decide (a < (p0.length : Int)) then (idx p0 a).bind fun c => (idx p1 a).bind fun d => (ql c d).bind fun c => if (!c) then U n else (bI p0 p1 e) (J.wrap (a + 1)) else U y
noncomputable def ck (p0 : List (List Int)) (p1 : List (List Int)) : Option (Bool) :=
  if ((p0.length : Int) != (p1.length : Int)) then U n else bI p0 p1 aI 0
noncomputable def so (p0 : List (List Int)) (p1 : List (List Int)) : Option (Bool) :=
  (ck p0 p1).bind fun a => U a
noncomputable def rX (p0 : bl) (p1 : bl) : Option (Bool) :=
  (dG p0.q_ p1.q_).bind fun a => (if a then (so p0.l_ p1.l_).bind fun a => U a else U n).bind fun a => U a
noncomputable def tc (p0 : az) (p1 : az) : Option (Bool) :=
  (if ((p0.B_ == p1.B_) && (p0.i_.t_ == p1.i_.t_ && (p0.i_.u_ == p1.i_.u_ && y))) then (dG p0.v_ p1.v_).bind fun a => U a else U n).bind fun a => (if (a && (p0.I_ == p1.I_)) then (rX p0.k_ p1.k_).bind fun a => U a else U n).bind fun a => (if (a && (p0.J_ == p1.J_)) then (dG p0.d_ p1.d_).bind fun a => U a else U n).bind fun a => U (((a && (p0.h_ == p1.h_)) && (p0.A_ == p1.A_)) && (p0.G_ == p1.G_))
noncomputable def bb (p0 : List az) (p1 : List az) : Nat → Int → Option (Bool)
  | 0, _ => N
  | e + 1, a =>
    if decide (a < (p0.length : Int)) then (idx p0 a).bind fun d => (idx p1 a).bind fun c => (tc d c).bind fun c => if (!c) then U n else (bb p0 p1 e) (J.wrap (a + 1)) else U y
noncomputable def bt (p0 : List az) (p1 : List az) : Option (Bool) :=
  if ((p0.length : Int) != (p1.length : Int)) then U n else bb p0 p1 aI 0
noncomputable def nU (p0 : ax) (p1 : ax) : Option (Bool) :=
  (if (p0.y_ == p1.y_) then (bt p0.e_ p1.e_).bind fun a => U a else U n).bind fun a => U a
noncomputable def om (p0 : aR) (p1 : au) : Option (Bool) :=
  (ll p0).bind fun a => (if (!a) then U y else (rD p0.g_ p0.b_ p1.H_).bind fun a => U (!a)).bind fun a => (if a then U y else (rZ p1.K_).bind fun a => U (!a)).bind fun a => if a then U n else if p1.T_ then (rD p0.g_ p0.b_ p1.w_).bind fun a => U a else (nU p1.w_ (ax.mk ([] : List az) 0)).bind fun a => U a
noncomputable def ow (p0 : au) (p1 : aR) : Option (Bool) :=
  (om p1 p0).bind fun a => U (!a)
noncomputable def bd (p0 : List au) (p1_0 : aR) : Nat → Int → Option (Int)
  | 0, _ => N
  | d + 1, a =>
    if decide (a < (p0.length : Int)) then (idx p0 a).bind fun c => (ow c p1_0).bind fun c => if c then U a else (bd p0 p1_0 d) (J.wrap (a + 1)) else U (-1)
noncomputable def bQ (p0 : List au) (p1_0 : aR) : Option (Int) :=
  bd p0 p1_0 aI 0
noncomputable def br (p0 : List au) (p1_0 : aR) : Option (Bool) :=
  (bQ p0 p1_0).bind fun a => U (decide (a ≥ 0))
noncomputable def nV (p0 : aR) (p1 : be) : Option (Bool) :=
  (ll p0).bind fun a => (if (a && ((p1.j_.length : Int) == p0.j_)) then (br p1.j_ p0).bind fun a => U (!a) else U n).bind fun a => U a
noncomputable def pK (p0 : Int) : Option (Bool) :=
  (aW p0 0 9999).bind fun a => U (!a)
noncomputable def fm (p0 : List (List Int)) : Nat → Int → Int → Option (Int)
  | 0, _, _ => N
  | e + 1, c, a =>
    if decide (a < (p0.length : Int)) then (idx p0 a).bind fun d => (lw d).bind fun d => (fm p0 e) (J.wrap (c + d)) (J.wrap (a + 1)) else U c
noncomputable def nZ (p0 : List (List Int)) : Option (Int) :=
  fm p0 aI 0 0
noncomputable def bK (p0 : List Int) : Nat → Int → Option (Int)
  | 0, _ => N
  | d + 1, a =>
    if decide (a < (p0.length : Int)) then (idx p0 a).bind fun c => (pK c).bind fun c => if c then U a else (bK p0 d) (J.wrap (a + 1)) else U (-1)
noncomputable def cE (p0 : List Int) : Option (Int) :=
  bK p0 aI 0
noncomputable def bY (p0 : List Int) : Option (Bool) :=
  (cE p0).bind fun a => U (decide (a ≥ 0))
noncomputable def dN (p1 : aZ) (p0 : Int) : Nat → Int → (List (aC × Int)) → Option (Bool)
  | 0, _, _ => N
  | f + 1, d, c =>
    if decide (d < (p1.n_.length : Int)) then (idx p1.n_ d).bind fun a => (aW a.R_ 0 (J.wrap (p0 - 1))).bind fun e => (if (!e) then U y else (aW a.S_ 0 (J.wrap (p0 - 1))).bind fun e => U (!e)).bind fun e => (if e then U y else (idx p1.o_ a.R_).bind fun e => (idx e a.S_).bind fun e => U (decide ((ik (wK c a (J.wrap ((ik c a) + 1))) a) > e))).bind fun e => if e then U n else (dN p1 p0 f) (J.wrap (d + 1)) (wK c a (J.wrap ((ik c a) + 1))) else U y
noncomputable def eC (p1 : aZ) (p0 : Int) : Nat → Int → Option (Bool)
  | 0, _ => N
  | d + 1, a =>
    if decide (a < (p1.o_.length : Int)) then (idx p1.o_ a).bind fun c => (if ((c.length : Int) != p0) then U y else (bY c).bind fun c => U c).bind fun c => if c then U n else (eC p1 p0 d) (J.wrap (a + 1)) else (nZ p1.o_).bind fun a => if ((decide (a > 9999)) || ((p1.n_.length : Int) != (if 20 < a then 20 else a))) then U n else dN p1 p0 aI 0 ([] : List (aC × Int))
noncomputable def pO (p0 : Int) (p1 : aZ) : Option (Bool) :=
  (aW p0 2 3).bind fun a => if ((!a) || ((p1.o_.length : Int) != p0)) then U n else eC p1 p0 aI 0
noncomputable def nw (p0 : ao) : Option (Bool) :=
  (nV p0.a_ p0.z_).bind fun a => (if a then (pO (p0.a_.g_.f_.length : Int) p0.m_).bind fun a => U a else U n).bind fun a => U a
noncomputable def ej (p0 : aj) : Nat → Int → (List (List UInt8)) → Option (List UInt8)
  | 0, _, _ => N
  | e + 1, a, c =>
    if decide (a < (p0.d_.length : Int)) then (idx p0.d_ a).bind fun d => (je d).bind fun d => (app c ([d] : List (List UInt8))).bind fun d => (ej p0 e) (J.wrap (a + 1)) d else (vg c ([59] : List UInt8)).bind fun a => (mB a ([124] : List UInt8)).bind fun a => (vg p0.f_ ([44] : List UInt8)).bind fun c => (mB a c).bind fun a => U a
noncomputable def lV (p0 : aj) : Option (List UInt8) :=
  (ed p0).bind fun a => if (!a) then U ([] : List UInt8) else ej p0 aI 0 ([] : List (List UInt8))
noncomputable def jB  : Nat → Int → (List Int) → Option ((List Int) × Bool)
  | 0, _, _ => N
  | e + 1, a, c =>
    if decide (a ≥ 128) then (app c ([K.wrap (eK .or J (eK .and J a 127) 128)] : List Int)).bind fun d => (jB e) (qg J a 7) d else (app c ([K.wrap a] : List Int)).bind fun a => U (a, n)
noncomputable def mP (p0 : Int) : Option ((List Int) × Bool) :=
  (aW p0 0 2147483647).bind fun a => if (!a) then U (([] : List Int), y) else jB aI p0 ([] : List Int)
noncomputable def pr (p0 : List UInt8) : Option (List Int) :=
  (mP (p0.length : Int)).bind fun a => (xm p0).bind fun c => (app a.1 c).bind fun a => U a
noncomputable def rC (p0 : Bool) : Option (Int) :=
  if p0 then U 1 else U 0
noncomputable def qM (p0 : Int) : Option ((List Int) × Bool) :=
  (aW p0 (-1000000000) 1000000000).bind fun a => if (!a) then U (([] : List Int), y) else if decide (p0 < 0) then (mP (J.wrap ((J.wrap ((-2) * p0)) - 1))).bind fun a => U (a.1, a.2) else (mP (J.wrap (2 * p0))).bind fun a => U (a.1, a.2)
noncomputable def fy (p1 : List Int) : Nat → (List Int) → Bool → Int → Option (cl)
  | 0, _, _, _ => N
  | g + 1, c, d, a =>
    if decide (a < (p1.length : Int)) then (idx p1 a).bind fun e => (qM e).bind fun e => (app c e.1).bind fun f => (fy p1 g) f (d || e.2) (J.wrap (a + 1)) else U (cl.mk c d)
noncomputable def bO (p0 : cl) (p1 : List Int) : Option (cl) :=
  fy p1 aI p0.U_ p0.C_ 0
noncomputable def dr (p0 : cl) (p1 : List Int) : Option (cl) :=
  (bO p0 ([(p1.length : Int)] : List Int)).bind fun a => (bO a p1).bind fun a => U a
noncomputable def iT (a : az) (h : (List Int) → Bool → Int → Option (cl)) (d : Int) : Nat → (List Int) → Bool → Int → Option (cl)
  | 0, _, _, _ => N
  | i + 1, e, f, c =>
    if decide (c < (a.k_.l_.length : Int)) then (idx a.k_.l_ c).bind fun g => (dr (cl.mk e f) g).bind fun g => (iT a h d i) g.U_ g.C_ (J.wrap (c + 1)) else (bO (cl.mk e f) ([a.J_] : List Int)).bind fun c => (dr c a.d_).bind fun c => (bO c ([a.h_, a.A_, a.G_] : List Int)).bind fun a => h a.U_ a.C_ (J.wrap (d + 1))
noncomputable def dJ (p1 : ax) : Nat → (List Int) → Bool → Int → Option (cl)
  | 0, _, _, _ => N
  | g + 1, d, e, c =>
    if decide (c < (p1.e_.length : Int)) then (idx p1.e_ c).bind fun a => (rC a.B_).bind fun f => (bO (cl.mk d e) ([f, a.i_.t_, a.i_.u_] : List Int)).bind fun f => (dr f a.v_).bind fun f => (bO f ([a.I_] : List Int)).bind fun f => (dr f a.k_.q_).bind fun f => (bO f ([(a.k_.l_.length : Int)] : List Int)).bind fun f => iT a (dJ p1 g) c aI f.U_ f.C_ 0 else U (cl.mk d e)
noncomputable def jk (p0 : cl) (p1 : ax) : Option (cl) :=
  (bO p0 ([p1.y_, (p1.e_.length : Int)] : List Int)).bind fun a => dJ p1 aI a.U_ a.C_ 0
noncomputable def gX (p1 : aJ) : Nat → (List Int) → Bool → Int → Option (cl)
  | 0, _, _, _ => N
  | f + 1, c, d, a =>
    if decide (a < (p1.p_.length : Int)) then (idx p1.p_ a).bind fun e => (dr (cl.mk c d) e).bind fun e => (gX p1 f) e.U_ e.C_ (J.wrap (a + 1)) else U (cl.mk c d)
noncomputable def ij (p0 : cl) (p1 : aJ) : Option (cl) :=
  (bO p0 ([(p1.p_.length : Int)] : List Int)).bind fun a => gX p1 aI a.U_ a.C_ 0
noncomputable def fW (p0 : ao) : Nat → Int → (List Int) → Bool → Option (List Int)
  | 0, _, _, _ => N
  | f + 1, a, c, e =>
    if decide (a < (p0.m_.n_.length : Int)) then (idx p0.m_.n_ a).bind fun d => (bO (cl.mk c e) ([d.R_, d.S_] : List Int)).bind fun d => (fW p0 f) (J.wrap (a + 1)) d.U_ d.C_ else (fL c).bind fun a => (app c a).bind fun a => U a
noncomputable def eY (p0 : ao) : Nat → Int → (List Int) → Bool → Option (List Int)
  | 0, _, _, _ => N
  | f + 1, a, c, d =>
    if decide (a < (p0.m_.o_.length : Int)) then (idx p0.m_.o_ a).bind fun e => (dr (cl.mk c d) e).bind fun e => (eY p0 f) (J.wrap (a + 1)) e.U_ e.C_ else (bO (cl.mk c d) ([(p0.m_.n_.length : Int)] : List Int)).bind fun a => fW p0 aI 0 a.U_ a.C_
noncomputable def fV (p0 : ao) : Nat → (List Int) → Bool → Int → Option (List Int)
  | 0, _, _, _ => N
  | h + 1, d, e, c =>
    if decide (c < (p0.z_.j_.length : Int)) then (idx p0.z_.j_ c).bind fun a => (jk (cl.mk d e) a.H_).bind fun f => (rC a.T_).bind fun g => (bO f ([g] : List Int)).bind fun f => (jk f a.w_).bind fun f => (ij f a.K_.r_).bind fun f => (ij f a.K_.s_).bind fun a => (fV p0 h) a.U_ a.C_ (J.wrap (c + 1)) else eY p0 aI 0 d e
noncomputable def fi (p0 : ao) : Option (List Int) :=
  (nw p0).bind fun a => if (!a) then U ([] : List Int) else (app ([83, 80, 78] : List Int) ([1] : List Int)).bind fun a => (lV p0.a_.g_).bind fun c => (pr c).bind fun c => (app a c).bind fun a => (rC p0.a_.b_.Q_).bind fun c => (bO (cl.mk a n) ([p0.a_.b_.L_, p0.a_.b_.N_, p0.a_.b_.M_, p0.a_.b_.h_, p0.a_.b_.e_, p0.a_.b_.E_, c] : List Int)).bind fun a => (bO a ([p0.a_.j_, p0.a_.O_, p0.a_.P_, p0.a_.r_, p0.a_.s_] : List Int)).bind fun a => fV p0 aI a.U_ a.C_ 0
noncomputable def kf (p0 : List Int) : Option (ao × Int) :=
  if decide ((p0.length : Int) < 8) then U ((ao.mk (aR.mk (aj.mk ([] : List ap) ([] : List (List UInt8))) (bw.mk 0 0 0 0 0 0 n) 0 0 0 0 0) (be.mk ([] : List au)) (aZ.mk ([] : List (List Int)) ([] : List aC))), 1) else (sub p0 0 3).bind fun a => if (!((dw a) == ([83, 80, 78] : List UInt8))) then U ((ao.mk (aR.mk (aj.mk ([] : List ap) ([] : List (List UInt8))) (bw.mk 0 0 0 0 0 0 n) 0 0 0 0 0) (be.mk ([] : List au)) (aZ.mk ([] : List (List Int)) ([] : List aC))), 2) else (idx p0 3).bind fun a => if (a != 1) then U ((ao.mk (aR.mk (aj.mk ([] : List ap) ([] : List (List UInt8))) (bw.mk 0 0 0 0 0 0 n) 0 0 0 0 0) (be.mk ([] : List au)) (aZ.mk ([] : List (List Int)) ([] : List aC))), 3) else (sub p0 (J.wrap ((p0.length : Int) - 4)) (p0.length : Int)).bind fun a => (sub p0 0 (J.wrap ((p0.length : Int) - 4))).bind fun c => (fL c).bind fun c => (gV a c).bind fun a => if (!a) then U ((ao.mk (aR.mk (aj.mk ([] : List ap) ([] : List (List UInt8))) (bw.mk 0 0 0 0 0 0 n) 0 0 0 0 0) (be.mk ([] : List au)) (aZ.mk ([] : List (List Int)) ([] : List aC))), 4) else (sub p0 0 (J.wrap ((p0.length : Int) - 4))).bind fun a => (dS a).bind fun a => (if (!a.2) then U y else (fi a.1).bind fun c => (gV c p0).bind fun c => U (!c)).bind fun c => if c then U ((ao.mk (aR.mk (aj.mk ([] : List ap) ([] : List (List UInt8))) (bw.mk 0 0 0 0 0 0 n) 0 0 0 0 0) (be.mk ([] : List au)) (aZ.mk ([] : List (List Int)) ([] : List aC))), 5) else U (a.1, 0)
noncomputable def mS (p0 : List Int) (p1 : List Int) : Nat → Int → Option (Bool)
  | 0, _ => N
  | e + 1, a =>
    if decide (a < (p0.length : Int)) then (idx p0 a).bind fun c => (idx p1 a).bind fun d => if (c != d) then U n else (mS p0 p1 e) (J.wrap (a + 1)) else U y
noncomputable def jc (p0 : List Int) (p1 : List Int) : Option (Bool) :=
  if ((p0.length : Int) != (p1.length : Int)) then U n else mS p0 p1 aI 0
noncomputable def kg (p0 : List (List UInt8)) (p1 : List (List UInt8)) : Nat → Int → Option (Bool)
  | 0, _ => N
  | e + 1, a =>
    if decide (a < (p0.length : Int)) then (idx p0 a).bind fun c => (idx p1 a).bind fun d => if (!(c == d)) then U n else (kg p0 p1 e) (J.wrap (a + 1)) else U y
noncomputable def kM (p0 : List (List UInt8)) (p1 : List (List UInt8)) : Option (Bool) :=
  if ((p0.length : Int) != (p1.length : Int)) then U n else kg p0 p1 aI 0
noncomputable def oT (p0 : ap) (p1 : ap) : Option (Bool) :=
  if (!(p0.D_ == p1.D_)) then U n else (jc p0.x_ p1.x_).bind fun a => if (!a) then U n else (kM p0.F_ p1.F_).bind fun a => if (!a) then U n else U y
noncomputable def lK (p0 : List ap) (p1 : List ap) : Nat → Int → Option (Bool)
  | 0, _ => N
  | e + 1, a =>
    if decide (a < (p0.length : Int)) then (idx p0 a).bind fun c => (idx p1 a).bind fun d => (oT c d).bind fun c => if (!c) then U n else (lK p0 p1 e) (J.wrap (a + 1)) else U y
noncomputable def pz (p0 : List ap) (p1 : List ap) : Option (Bool) :=
  if ((p0.length : Int) != (p1.length : Int)) then U n else lK p0 p1 aI 0
noncomputable def ov (p0 : aj) (p1 : aj) : Option (Bool) :=
  (pz p0.d_ p1.d_).bind fun a => if (!a) then U n else (kM p0.f_ p1.f_).bind fun a => if (!a) then U n else U y
noncomputable def qK (p0 : bw) (p1 : bw) : Option (Bool) :=
  if (p0.L_ != p1.L_) then U n else if (p0.N_ != p1.N_) then U n else if (p0.M_ != p1.M_) then U n else if (p0.h_ != p1.h_) then U n else if (p0.e_ != p1.e_) then U n else if (p0.E_ != p1.E_) then U n else if (p0.Q_ != p1.Q_) then U n else U y
noncomputable def qH (p0 : aR) (p1 : aR) : Option (Bool) :=
  (ov p0.g_ p1.g_).bind fun a => if (!a) then U n else (qK p0.b_ p1.b_).bind fun a => if (!a) then U n else if (p0.j_ != p1.j_) then U n else if (p0.O_ != p1.O_) then U n else if (p0.P_ != p1.P_) then U n else if (p0.r_ != p1.r_) then U n else if (p0.s_ != p1.s_) then U n else U y
noncomputable def qE (p0 : bD) (p1 : bD) : Option (Bool) :=
  if (p0.t_ != p1.t_) then U n else if (p0.u_ != p1.u_) then U n else U y
noncomputable def lM (p0 : List (List Int)) (p1 : List (List Int)) : Nat → Int → Option (Bool)
  | 0, _ => N
  | e + 1, a =>
    if decide (a < (p0.length : Int)) then (idx p0 a).bind fun c => (idx p1 a).bind fun d => (jc c d).bind fun c => if (!c) then U n else (lM p0 p1 e) (J.wrap (a + 1)) else U y
noncomputable def lB (p0 : List (List Int)) (p1 : List (List Int)) : Option (Bool) :=
  if ((p0.length : Int) != (p1.length : Int)) then U n else lM p0 p1 aI 0
noncomputable def pi (p0 : bl) (p1 : bl) : Option (Bool) :=
  (jc p0.q_ p1.q_).bind fun a => if (!a) then U n else (lB p0.l_ p1.l_).bind fun a => if (!a) then U n else U y
noncomputable def oU (p0 : az) (p1 : az) : Option (Bool) :=
  if (p0.B_ != p1.B_) then U n else (qE p0.i_ p1.i_).bind fun a => if (!a) then U n else (jc p0.v_ p1.v_).bind fun a => if (!a) then U n else if (p0.I_ != p1.I_) then U n else (pi p0.k_ p1.k_).bind fun a => if (!a) then U n else if (p0.J_ != p1.J_) then U n else (jc p0.d_ p1.d_).bind fun a => if (!a) then U n else if (p0.h_ != p1.h_) then U n else if (p0.A_ != p1.A_) then U n else if (p0.G_ != p1.G_) then U n else U y
noncomputable def lX (p0 : List az) (p1 : List az) : Nat → Int → Option (Bool)
  | 0, _ => N
  | e + 1, a =>
    if decide (a < (p0.length : Int)) then (idx p0 a).bind fun d => (idx p1 a).bind fun c => (oU d c).bind fun c => if (!c) then U n else (lX p0 p1 e) (J.wrap (a + 1)) else U y
noncomputable def pE (p0 : List az) (p1 : List az) : Option (Bool) :=
  if ((p0.length : Int) != (p1.length : Int)) then U n else lX p0 p1 aI 0
noncomputable def oS (p0 : ax) (p1 : ax) : Option (Bool) :=
  (pE p0.e_ p1.e_).bind fun a => if (!a) then U n else if (p0.y_ != p1.y_) then U n else U y
noncomputable def mn (p0 : aJ) (p1 : aJ) : Option (Bool) :=
  (lB p0.p_ p1.p_).bind fun a => if (!a) then U n else U y
noncomputable def rQ (p0 : dg) (p1 : dg) : Option (Bool) :=
  (mn p0.r_ p1.r_).bind fun a => if (!a) then U n else (mn p0.s_ p1.s_).bind fun a => if (!a) then U n else U y
noncomputable def mi (p0 : au) (p1 : au) : Option (Bool) :=
  (oS p0.H_ p1.H_).bind fun a => if (!a) then U n else if (p0.T_ != p1.T_) then U n else (oS p0.w_ p1.w_).bind fun a => if (!a) then U n else (rQ p0.K_ p1.K_).bind fun a => if (!a) then U n else U y
noncomputable def kj (p0 : List au) (p1 : List au) : Nat → Int → Option (Bool)
  | 0, _ => N
  | e + 1, a =>
    if decide (a < (p0.length : Int)) then (idx p0 a).bind fun d => (idx p1 a).bind fun c => (mi d c).bind fun c => if (!c) then U n else (kj p0 p1 e) (J.wrap (a + 1)) else U y
noncomputable def nc (p0 : List au) (p1 : List au) : Option (Bool) :=
  if ((p0.length : Int) != (p1.length : Int)) then U n else kj p0 p1 aI 0
noncomputable def nP (p0 : be) (p1 : be) : Option (Bool) :=
  (nc p0.j_ p1.j_).bind fun a => if (!a) then U n else U y
noncomputable def pc (p0 : aC) (p1 : aC) : Option (Bool) :=
  if (p0.R_ != p1.R_) then U n else if (p0.S_ != p1.S_) then U n else U y
noncomputable def ma (p0 : List aC) (p1 : List aC) : Nat → Int → Option (Bool)
  | 0, _ => N
  | e + 1, a =>
    if decide (a < (p0.length : Int)) then (idx p0 a).bind fun c => (idx p1 a).bind fun d => (pc c d).bind fun c => if (!c) then U n else (ma p0 p1 e) (J.wrap (a + 1)) else U y
noncomputable def pN (p0 : List aC) (p1 : List aC) : Option (Bool) :=
  if ((p0.length : Int) != (p1.length : Int)) then U n else ma p0 p1 aI 0
noncomputable def pP (p0 : aZ) (p1 : aZ) : Option (Bool) :=
  (lB p0.o_ p1.o_).bind fun a => if (!a) then U n else (pN p0.n_ p1.n_).bind fun a => if (!a) then U n else U y
noncomputable def lp (p0 : ao) (p1 : ao) : Option (Bool) :=
  (qH p0.a_ p1.a_).bind fun a => if (!a) then U n else (nP p0.z_ p1.z_).bind fun a => if (!a) then U n else (pP p0.m_ p1.m_).bind fun a => if (!a) then U n else U y
noncomputable def lR (p0 : List Int) (p1 : List Int) : Nat → Int → Option (Bool)
  | 0, _ => N
  | e + 1, a =>
    if decide (a < (p0.length : Int)) then (idx p0 a).bind fun c => (idx p1 a).bind fun d => if (c != d) then U n else (lR p0 p1 e) (J.wrap (a + 1)) else U y
noncomputable def pg (p0 : List Int) (p1 : List Int) : Option (Bool) :=
  if ((p0.length : Int) != (p1.length : Int)) then U n else lR p0 p1 aI 0
noncomputable def gA (p0 : List Int) : Nat → (List Int) → Int → Int → Option (Int × (List Int))
  | 0, _, _, _ => N
  | e + 1, c, d, a =>
    if decide (a < (p0.length : Int)) then (idx c a).bind fun _ => (gA p0 e) (c.set a.toNat (K.wrap d)) (J.wrap (d + 1)) (J.wrap (a + 1)) else U (d, c)
noncomputable def kB (p0 : List Int) (p1 : Int) : Option (Int × (List Int)) :=
  gA p0 aI p0 p1 0
noncomputable def ii  : Nat → Int → (List UInt8) → Option (List UInt8)
  | 0, _, _ => N
  | e + 1, a, c =>
    if decide (a > 0) then (mB (dw ([K.wrap (J.wrap (48 + (Int.tmod a 10)))] : List Int)) c).bind fun d => (ii e) (J.wrap (Int.tdiv a 10)) d else (mB ([109] : List UInt8) c).bind fun a => U a
noncomputable def jg (p0 : Int) : Option (List UInt8) :=
  if decide (p0 ≤ 0) then U ([109, 48] : List UInt8) else ii aI p0 ([] : List UInt8)
noncomputable def hZ (p0 : List Int) : Nat → (List Int) → Int → Int → Option (Int × (List Int))
  | 0, _, _, _ => N
  | e + 1, c, d, a =>
    if decide (a < (p0.length : Int)) then (idx c a).bind fun _ => (hZ p0 e) (c.set a.toNat d) (J.wrap (d + 1)) (J.wrap (a + 1)) else U (d, c)
noncomputable def iw (p0 : List Int) (p1 : Int) : Option (Int × (List Int)) :=
  hZ p0 aI p0 p1 0
noncomputable def fA (p0 : List (List UInt8)) : Nat → (List (List UInt8)) → Int → Int → Option (Int × (List (List UInt8)))
  | 0, _, _, _ => N
  | f + 1, c, d, a =>
    if decide (a < (p0.length : Int)) then (jg d).bind fun e => (idx c a).bind fun _ => (fA p0 f) (c.set a.toNat e) (J.wrap (d + 1)) (J.wrap (a + 1)) else U (d, c)
noncomputable def jr (p0 : List (List UInt8)) (p1 : Int) : Option (Int × (List (List UInt8))) :=
  fA p0 aI p0 p1 0
noncomputable def gv (p0 : List ap) : Nat → (List ap) → Int → Int → Option (Int × (List ap))
  | 0, _, _, _ => N
  | h + 1, c, d, a =>
    if decide (a < (p0.length : Int)) then (jg d).bind fun g => (idx c a).bind fun f => (iw f.x_ (J.wrap (d + 1))).bind fun e => (jr f.F_ e.1).bind fun f => (gv p0 h) (c.set a.toNat (ap.mk g e.2 f.2)) f.1 (J.wrap (a + 1)) else U (d, c)
noncomputable def mV (p0 : List ap) (p1 : Int) : Option (Int × (List ap)) :=
  gv p0 aI p0 p1 0
noncomputable def lG (p0 : aj) (p1 : Int) : Option (Int × aj) :=
  (mV p0.d_ p1).bind fun a => (jr p0.f_ a.1).bind fun c => U (c.1, (aj.mk a.2 c.2))
noncomputable def ko (p0 : aR) (p1 : Int) : Option (Int × aR) :=
  (lG p0.g_ p1).bind fun a => U (a.1, ({ p0 with g_ := a.2 }))
noncomputable def gu (p0 : List (List Int)) : Nat → (List (List Int)) → Int → Int → Option (Int × (List (List Int)))
  | 0, _, _, _ => N
  | f + 1, c, d, a =>
    if decide (a < (p0.length : Int)) then (idx c a).bind fun e => (iw e d).bind fun e => (gu p0 f) (c.set a.toNat e.2) e.1 (J.wrap (a + 1)) else U (d, c)
noncomputable def iA (p0 : List (List Int)) (p1 : Int) : Option (Int × (List (List Int))) :=
  gu p0 aI p0 p1 0
noncomputable def go (p0 : List az) : Nat → (List az) → Int → Int → Option (Int × (List az))
  | 0, _, _, _ => N
  | i + 1, g, c, f =>
    if decide (f < (p0.length : Int)) then (idx g f).bind fun a => (iw a.v_ (J.wrap ((J.wrap ((J.wrap (c + 1)) + 1)) + 1))).bind fun d => (iw a.k_.q_ (J.wrap (d.1 + 1))).bind fun h => (iA a.k_.l_ h.1).bind fun e => (iw a.d_ (J.wrap (e.1 + 1))).bind fun a => (go p0 i) (g.set f.toNat (az.mk ((Int.tmod c 3) == 0) (bD.mk (J.wrap (c + 1)) (J.wrap ((J.wrap (c + 1)) + 1))) d.2 d.1 (bl.mk h.2 e.2) e.1 a.2 a.1 (J.wrap (a.1 + 1)) (J.wrap ((J.wrap (a.1 + 1)) + 1)))) (J.wrap ((J.wrap ((J.wrap (a.1 + 1)) + 1)) + 1)) (J.wrap (f + 1)) else U (c, g)
noncomputable def kU (p0 : List az) (p1 : Int) : Option (Int × (List az)) :=
  go p0 aI p0 p1 0
noncomputable def fD (p0 : List au) : Nat → (List au) → Int → Int → Option (Int × (List au))
  | 0, _, _, _ => N
  | i + 1, f, h, e =>
    if decide (e < (p0.length : Int)) then (idx f e).bind fun a => (kU a.H_.e_ h).bind fun c => (kU a.w_.e_ (J.wrap ((J.wrap (c.1 + 1)) + 1))).bind fun d => (iA a.K_.r_.p_ (J.wrap (d.1 + 1))).bind fun g => (iA a.K_.s_.p_ g.1).bind fun a => (fD p0 i) (f.set e.toNat (au.mk (ax.mk c.2 c.1) ((Int.tmod (J.wrap (c.1 + 1)) 3) == 0) (ax.mk d.2 d.1) (dg.mk (aJ.mk g.2) (aJ.mk a.2)))) a.1 (J.wrap (e + 1)) else U (h, f)
noncomputable def kL (p0 : List au) (p1 : Int) : Option (Int × (List au)) :=
  fD p0 aI p0 p1 0
noncomputable def lE (p0 : be) (p1 : Int) : Option (Int × be) :=
  (kL p0.j_ p1).bind fun a => U (a.1, (be.mk a.2))
noncomputable def gD (p0 : List aC) : Nat → (List aC) → Int → Int → Option (Int × (List aC))
  | 0, _, _, _ => N
  | e + 1, d, a, c =>
    if decide (c < (p0.length : Int)) then (idx d c).bind fun _ => (gD p0 e) (d.set c.toNat (aC.mk a (J.wrap (a + 1)))) (J.wrap ((J.wrap (a + 1)) + 1)) (J.wrap (c + 1)) else U (a, d)
noncomputable def ni (p0 : List aC) (p1 : Int) : Option (Int × (List aC)) :=
  gD p0 aI p0 p1 0
noncomputable def mD (p0 : aZ) (p1 : Int) : Option (Int × aZ) :=
  (iA p0.o_ p1).bind fun a => (ni p0.n_ a.1).bind fun c => U (c.1, (aZ.mk a.2 c.2))
noncomputable def iy (p0 : ao) (p1 : Int) : Option (Int × ao) :=
  (ko p0.a_ p1).bind fun a => (lE p0.z_ a.1).bind fun c => (mD p0.m_ c.1).bind fun d => U (d.1, (ao.mk ({ p0.a_ with g_ := a.2.g_ }) c.2 d.2))
noncomputable def ie (p0 : List Int) : Nat → Int → Int → Option (Int)
  | 0, _, _ => N
  | e + 1, a, c =>
    if decide (c < (p0.length : Int)) then (idx p0 c).bind fun d => if (d != a) then U (-1) else (ie p0 e) (J.wrap (a + 1)) (J.wrap (c + 1)) else U a
noncomputable def ir (p0 : List Int) (p1 : Int) : Option (Int) :=
  ie p0 aI p1 0
noncomputable def fE (p0 : List (List UInt8)) : Nat → Int → Int → Option (Int)
  | 0, _, _ => N
  | f + 1, a, c =>
    if decide (c < (p0.length : Int)) then (idx p0 c).bind fun d => (jg a).bind fun e => if (!(d == e)) then U (-1) else (fE p0 f) (J.wrap (a + 1)) (J.wrap (c + 1)) else U a
noncomputable def jm (p0 : List (List UInt8)) (p1 : Int) : Option (Int) :=
  fE p0 aI p1 0
noncomputable def gj (p0 : List ap) : Nat → Int → Int → Option (Int)
  | 0, _, _ => N
  | f + 1, c, a =>
    if decide (a < (p0.length : Int)) then (idx p0 a).bind fun d => (jg c).bind fun e => if (!(d.D_ == e)) then U (-1) else (idx p0 a).bind fun d => (ir d.x_ (J.wrap (c + 1))).bind fun d => if decide (d < 0) then U (-1) else (idx p0 a).bind fun e => (jm e.F_ d).bind fun d => if decide (d < 0) then U (-1) else (gj p0 f) d (J.wrap (a + 1)) else U c
noncomputable def mO (p0 : List ap) (p1 : Int) : Option (Int) :=
  gj p0 aI p1 0
noncomputable def lO (p0 : aj) (p1 : Int) : Option (Int) :=
  (mO p0.d_ p1).bind fun a => if decide (a < 0) then U (-1) else (jm p0.f_ a).bind fun a => if decide (a < 0) then U (-1) else U a
noncomputable def og (p0 : aR) (p1 : Int) : Option (Int) :=
  (lO p0.g_ p1).bind fun a => if decide (a < 0) then U (-1) else U a
noncomputable def gy (p0 : List (List Int)) : Nat → Int → Int → Option (Int)
  | 0, _, _ => N
  | e + 1, c, a =>
    if decide (a < (p0.length : Int)) then (idx p0 a).bind fun d => (ir d c).bind fun d => if decide (d < 0) then U (-1) else (gy p0 e) d (J.wrap (a + 1)) else U c
noncomputable def iB (p0 : List (List Int)) (p1 : Int) : Option (Int) :=
  gy p0 aI p1 0
noncomputable def gB (p0 : List az) : Nat → Int → Int → Option (Int)
  | 0, _, _ => N
  | f + 1, c, a =>
    if decide (a < (p0.length : Int)) then (idx p0 a).bind fun d => if (d.B_ != ((Int.tmod c 3) == 0)) then U (-1) else (idx p0 a).bind fun d => if (d.i_.t_ != (J.wrap (c + 1))) then U (-1) else (idx p0 a).bind fun d => if (d.i_.u_ != (J.wrap ((J.wrap (c + 1)) + 1))) then U (-1) else (idx p0 a).bind fun d => (ir d.v_ (J.wrap ((J.wrap ((J.wrap (c + 1)) + 1)) + 1))).bind fun d => if decide (d < 0) then U (-1) else (idx p0 a).bind fun e => if (e.I_ != d) then U (-1) else (idx p0 a).bind fun e => (ir e.k_.q_ (J.wrap (d + 1))).bind fun d => if decide (d < 0) then U (-1) else (idx p0 a).bind fun e => (iB e.k_.l_ d).bind fun d => if decide (d < 0) then U (-1) else (idx p0 a).bind fun e => if (e.J_ != d) then U (-1) else (idx p0 a).bind fun e => (ir e.d_ (J.wrap (d + 1))).bind fun d => if decide (d < 0) then U (-1) else (idx p0 a).bind fun e => if (e.h_ != d) then U (-1) else (idx p0 a).bind fun e => if (e.A_ != (J.wrap (d + 1))) then U (-1) else (idx p0 a).bind fun e => if (e.G_ != (J.wrap ((J.wrap (d + 1)) + 1))) then U (-1) else (gB p0 f) (J.wrap ((J.wrap ((J.wrap (d + 1)) + 1)) + 1)) (J.wrap (a + 1)) else U c
noncomputable def kT (p0 : List az) (p1 : Int) : Option (Int) :=
  gB p0 aI p1 0
noncomputable def fC (p0 : List au) : Nat → Int → Int → Option (Int)
  | 0, _, _ => N
  | f + 1, d, a =>
    if decide (a < (p0.length : Int)) then (idx p0 a).bind fun c => (kT c.H_.e_ d).bind fun c => if decide (c < 0) then U (-1) else (idx p0 a).bind fun e => if (e.H_.y_ != c) then U (-1) else (idx p0 a).bind fun e => if (e.T_ != ((Int.tmod (J.wrap (c + 1)) 3) == 0)) then U (-1) else (idx p0 a).bind fun e => (kT e.w_.e_ (J.wrap ((J.wrap (c + 1)) + 1))).bind fun c => if decide (c < 0) then U (-1) else (idx p0 a).bind fun e => if (e.w_.y_ != c) then U (-1) else (idx p0 a).bind fun e => (iB e.K_.r_.p_ (J.wrap (c + 1))).bind fun c => if decide (c < 0) then U (-1) else (idx p0 a).bind fun e => (iB e.K_.s_.p_ c).bind fun c => if decide (c < 0) then U (-1) else (fC p0 f) c (J.wrap (a + 1)) else U d
noncomputable def kE (p0 : List au) (p1 : Int) : Option (Int) :=
  fC p0 aI p1 0
noncomputable def me (p0 : be) (p1 : Int) : Option (Int) :=
  (kE p0.j_ p1).bind fun a => if decide (a < 0) then U (-1) else U a
noncomputable def gr (p0 : List aC) : Nat → Int → Int → Option (Int)
  | 0, _, _ => N
  | e + 1, a, c =>
    if decide (c < (p0.length : Int)) then (idx p0 c).bind fun d => if (d.R_ != a) then U (-1) else (idx p0 c).bind fun d => if (d.S_ != (J.wrap (a + 1))) then U (-1) else (gr p0 e) (J.wrap ((J.wrap (a + 1)) + 1)) (J.wrap (c + 1)) else U a
noncomputable def na (p0 : List aC) (p1 : Int) : Option (Int) :=
  gr p0 aI p1 0
noncomputable def mN (p0 : aZ) (p1 : Int) : Option (Int) :=
  (iB p0.o_ p1).bind fun a => if decide (a < 0) then U (-1) else (na p0.n_ a).bind fun a => if decide (a < 0) then U (-1) else U a
noncomputable def jF (p0 : ao) (p1 : Int) : Option (Int) :=
  (og p0.a_ p1).bind fun a => if decide (a < 0) then U (-1) else (me p0.z_ a).bind fun a => if decide (a < 0) then U (-1) else (mN p0.m_ a).bind fun a => if decide (a < 0) then U (-1) else U a
noncomputable def ky (p0 : List Int) : Option (Bool) :=
  if decide ((p0.length : Int) > 1048576) then U y else (jW p0).bind fun a => (ly a).bind fun d => (jW p0).bind fun a => (kf a).bind fun c => (lp c.1 d.1).bind fun e => if ((!e) || (c.2 != d.2)) then U n else (jW p0).bind fun e => (pg a e).bind fun e => if (!e) then U n else (kB a 1).bind fun a => (if decide (a.1 < 0) then U y else (lp c.1 d.1).bind fun a => U (!a)).bind fun a => if (a || (c.2 != d.2)) then U n else (iy c.1 1).bind fun a => (jF ({ a.2 with a_ := ({ c.1.a_ with g_ := a.2.a_.g_ }) }) 1).bind fun e => if decide (e < 0) then U n else if (e != a.1) then U n else (jW p0).bind fun e => (kf e).bind fun e => (lp e.1 d.1).bind fun f => if ((!f) || (e.2 != d.2)) then U n else (jF ({ a.2 with a_ := ({ c.1.a_ with g_ := a.2.a_.g_ }) }) 1).bind fun c => if decide (c < 0) then U n else if (c != a.1) then U n else U y
end Go.Vk
