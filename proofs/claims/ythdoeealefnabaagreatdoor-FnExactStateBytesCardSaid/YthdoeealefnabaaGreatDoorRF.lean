/- The functions of the code, as functions of data. Printed by program. -/
import Derived.Test.YthdoeealefnabaaGreatDoorVkU
namespace Go.Vk
open Value renaming int → I, slice → S, pointer → O, bool → B
open IntKind renaming i64 → J, u8 → K
open Bool renaming true → y, false → n
open Option renaming some → U, none → N
theorem z {α : Sort _} {a : α} : a = a := Eq.refl a
theorem Y : True := True.intro
structure ch where
  E_ : List UInt8
  z_ : List Int
  I_ : List (List UInt8)
  deriving DecidableEq, Inhabited
structure db where
  d_ : List ch
  m_ : List (List UInt8)
  deriving DecidableEq, Inhabited
structure ii where
  L_ : Int
  K_ : Int
  M_ : Int
  f_ : Int
  b_ : Int
  G_ : Int
  P_ : Bool
  deriving DecidableEq, Inhabited
structure eG where
  p_ : db
  c_ : ii
  j_ : Int
  N_ : Int
  O_ : Int
  s_ : Int
  t_ : Int
  deriving DecidableEq, Inhabited
structure cr where
  k_ : List Int
  h_ : List (List Int)
  deriving DecidableEq, Inhabited
structure dD where
  q_ : Int
  u_ : Int
  deriving DecidableEq, Inhabited
structure bN where
  y_ : Bool
  g_ : dD
  r_ : List Int
  C_ : Int
  i_ : cr
  D_ : Int
  d_ : List Int
  f_ : Int
  x_ : Int
  B_ : Int
  deriving DecidableEq, Inhabited
structure cW where
  b_ : List bN
  A_ : Int
  deriving DecidableEq, Inhabited
structure cc where
  o_ : List (List Int)
  deriving DecidableEq, Inhabited
structure eM where
  s_ : cc
  t_ : cc
  deriving DecidableEq, Inhabited
structure bJ where
  F_ : cW
  S_ : Bool
  w_ : cW
  H_ : eM
  deriving DecidableEq, Inhabited
structure dj where
  j_ : List bJ
  deriving DecidableEq, Inhabited
structure cY where
  Q_ : Int
  R_ : Int
  deriving DecidableEq, Inhabited
structure dM where
  n_ : List (List Int)
  l_ : List cY
  deriving DecidableEq, Inhabited
structure dz where
  a_ : eG
  J_ : dj
  v_ : dM
  deriving DecidableEq, Inhabited
structure aB where
  E_ : List UInt8
  z_ : List Int
  I_ : List (List UInt8)
  deriving DecidableEq, Inhabited
structure am where
  d_ : List aB
  m_ : List (List UInt8)
  deriving DecidableEq, Inhabited
structure cO where
  L_ : Int
  K_ : Int
  M_ : Int
  f_ : Int
  b_ : Int
  G_ : Int
  P_ : Bool
  deriving DecidableEq, Inhabited
structure bi where
  p_ : am
  c_ : cO
  j_ : Int
  N_ : Int
  O_ : Int
  s_ : Int
  t_ : Int
  deriving DecidableEq, Inhabited
structure bC where
  q_ : Int
  u_ : Int
  deriving DecidableEq, Inhabited
structure aV where
  k_ : List Int
  h_ : List (List Int)
  deriving DecidableEq, Inhabited
structure au where
  y_ : Bool
  g_ : bC
  r_ : List Int
  C_ : Int
  i_ : aV
  D_ : Int
  d_ : List Int
  f_ : Int
  x_ : Int
  B_ : Int
  deriving DecidableEq, Inhabited
structure ap where
  b_ : List au
  A_ : Int
  deriving DecidableEq, Inhabited
structure aA where
  o_ : List (List Int)
  deriving DecidableEq, Inhabited
structure cf where
  s_ : aA
  t_ : aA
  deriving DecidableEq, Inhabited
structure az where
  F_ : ap
  S_ : Bool
  w_ : ap
  H_ : cf
  deriving DecidableEq, Inhabited
structure bP where
  j_ : List az
  deriving DecidableEq, Inhabited
structure aM where
  Q_ : Int
  R_ : Int
  deriving DecidableEq, Inhabited
structure bo where
  n_ : List (List Int)
  l_ : List aM
  deriving DecidableEq, Inhabited
structure aP where
  a_ : bi
  J_ : bP
  v_ : bo
  deriving DecidableEq, Inhabited
structure bG where
  T_ : List Int
  U_ : Bool
  deriving DecidableEq, Inhabited
noncomputable def jC (p0 : List Int) (p1 : Int) : Option (Int) :=
  if decide ((J.wrap (p1 - (p0.length : Int))) < 0) then U (-1) else U (J.wrap (p1 - (p0.length : Int)))
noncomputable def gR (p0 : List (List UInt8)) : Nat → Int → Int → Option (Int)
  | 0, _, _ => N
  | k1 + 1, a, c =>
    if decide (c < (p0.length : Int)) then (idx p0 c).bind fun d => if decide ((J.wrap (a - (d.length : Int))) < 0) then U (-1) else (gR p0 k1) (J.wrap (a - (d.length : Int))) (J.wrap (c + 1)) else U a
noncomputable def ka (p0 : List (List UInt8)) (p1 : Int) : Option (Int) :=
  if decide ((J.wrap (p1 - (p0.length : Int))) < 0) then U (-1) else gR p0 aK (J.wrap (p1 - (p0.length : Int))) 0
noncomputable def nC (p0 : ch) (p1 : Int) : Option (Int) :=
  if decide ((J.wrap (p1 - (p0.E_.length : Int))) < 0) then U (-1) else (jC p0.z_ (J.wrap (p1 - (p0.E_.length : Int)))).bind fun a => if decide (a < 0) then U (-1) else (ka p0.I_ a).bind fun c => if decide (c < 0) then U (-1) else U c
noncomputable def jt (p0 : List ch) : Nat → Int → Int → Option (Int)
  | 0, _, _ => N
  | k1 + 1, c, a =>
    if decide (a < (p0.length : Int)) then (idx p0 a).bind fun e => (nC e c).bind fun d => if decide (d < 0) then U (-1) else (jt p0 k1) d (J.wrap (a + 1)) else U c
noncomputable def oC (p0 : List ch) (p1 : Int) : Option (Int) :=
  if decide ((J.wrap (p1 - (p0.length : Int))) < 0) then U (-1) else jt p0 aK (J.wrap (p1 - (p0.length : Int))) 0
noncomputable def mI (p0 : db) (p1 : Int) : Option (Int) :=
  (oC p0.d_ p1).bind fun a => if decide (a < 0) then U (-1) else (ka p0.m_ a).bind fun c => if decide (c < 0) then U (-1) else U c
noncomputable def qb (p0 : eG) (p1 : Int) : Option (Int) :=
  (mI p0.p_ p1).bind fun a => if decide (a < 0) then U (-1) else U a
noncomputable def je (p0 : List (List Int)) : Nat → Int → Int → Option (Int)
  | 0, _, _ => N
  | k1 + 1, c, a =>
    if decide (a < (p0.length : Int)) then (idx p0 a).bind fun e => (jC e c).bind fun d => if decide (d < 0) then U (-1) else (je p0 k1) d (J.wrap (a + 1)) else U c
noncomputable def kq (p0 : List (List Int)) (p1 : Int) : Option (Int) :=
  if decide ((J.wrap (p1 - (p0.length : Int))) < 0) then U (-1) else je p0 aK (J.wrap (p1 - (p0.length : Int))) 0
noncomputable def oe (p0 : cr) (p1 : Int) : Option (Int) :=
  (jC p0.k_ p1).bind fun a => if decide (a < 0) then U (-1) else (kq p0.h_ a).bind fun c => if decide (c < 0) then U (-1) else U c
noncomputable def nA (p0 : bN) (p1 : Int) : Option (Int) :=
  (jC p0.r_ p1).bind fun a => if decide (a < 0) then U (-1) else (oe p0.i_ a).bind fun c => if decide (c < 0) then U (-1) else (jC p0.d_ c).bind fun d => if decide (d < 0) then U (-1) else U d
noncomputable def jr (p0 : List bN) : Nat → Int → Int → Option (Int)
  | 0, _, _ => N
  | k1 + 1, d, a =>
    if decide (a < (p0.length : Int)) then (idx p0 a).bind fun e => (nA e d).bind fun c => if decide (c < 0) then U (-1) else (jr p0 k1) c (J.wrap (a + 1)) else U d
noncomputable def oJ (p0 : List bN) (p1 : Int) : Option (Int) :=
  if decide ((J.wrap (p1 - (p0.length : Int))) < 0) then U (-1) else jr p0 aK (J.wrap (p1 - (p0.length : Int))) 0
noncomputable def ny (p0 : cW) (p1 : Int) : Option (Int) :=
  (oJ p0.b_ p1).bind fun a => if decide (a < 0) then U (-1) else U a
noncomputable def kV (p0 : cc) (p1 : Int) : Option (Int) :=
  (kq p0.o_ p1).bind fun a => if decide (a < 0) then U (-1) else U a
noncomputable def rn (p0 : eM) (p1 : Int) : Option (Int) :=
  (kV p0.s_ p1).bind fun a => if decide (a < 0) then U (-1) else (kV p0.t_ a).bind fun c => if decide (c < 0) then U (-1) else U c
noncomputable def la (p0 : bJ) (p1 : Int) : Option (Int) :=
  (ny p0.F_ p1).bind fun a => if decide (a < 0) then U (-1) else (ny p0.w_ a).bind fun c => if decide (c < 0) then U (-1) else (rn p0.H_ c).bind fun d => if decide (d < 0) then U (-1) else U d
noncomputable def gU (p0 : List bJ) : Nat → Int → Int → Option (Int)
  | 0, _, _ => N
  | k1 + 1, d, a =>
    if decide (a < (p0.length : Int)) then (idx p0 a).bind fun e => (la e d).bind fun c => if decide (c < 0) then U (-1) else (gU p0 k1) c (J.wrap (a + 1)) else U d
noncomputable def ly (p0 : List bJ) (p1 : Int) : Option (Int) :=
  if decide ((J.wrap (p1 - (p0.length : Int))) < 0) then U (-1) else gU p0 aK (J.wrap (p1 - (p0.length : Int))) 0
noncomputable def mH (p0 : dj) (p1 : Int) : Option (Int) :=
  (ly p0.j_ p1).bind fun a => if decide (a < 0) then U (-1) else U a
noncomputable def qx (p0 : List cY) (p1 : Int) : Option (Int) :=
  if decide ((J.wrap (p1 - (p0.length : Int))) < 0) then U (-1) else U (J.wrap (p1 - (p0.length : Int)))
noncomputable def oD (p0 : dM) (p1 : Int) : Option (Int) :=
  (kq p0.n_ p1).bind fun a => if decide (a < 0) then U (-1) else (qx p0.l_ a).bind fun c => if decide (c < 0) then U (-1) else U c
noncomputable def lY (p0 : dz) (p1 : Int) : Option (Int) :=
  (qb p0.a_ p1).bind fun a => if decide (a < 0) then U (-1) else (mH p0.J_ a).bind fun c => if decide (c < 0) then U (-1) else (oD p0.v_ c).bind fun d => if decide (d < 0) then U (-1) else U d
noncomputable def jY (p0 : List Int) : Nat → (List Int) → Int → Option (List Int)
  | 0, _, _ => N
  | k1 + 1, c, a =>
    if decide (a < (p0.length : Int)) then (idx p0 a).bind fun d => (idx c a).bind fun _ => (jY p0 k1) (c.set a.toNat d) (J.wrap (a + 1)) else U c
noncomputable def iy (p0 : List Int) : Option (List Int) :=
  (mk (0 : Int) (p0.length : Int)).bind fun a => jY p0 aK a 0
noncomputable def gW (p0 : List (List UInt8)) : Nat → (List (List UInt8)) → Int → Option (List (List UInt8))
  | 0, _, _ => N
  | k1 + 1, c, a =>
    if decide (a < (p0.length : Int)) then (idx p0 a).bind fun d => (idx c a).bind fun _ => (gW p0 k1) (c.set a.toNat d) (J.wrap (a + 1)) else U c
noncomputable def jZ (p0 : List (List UInt8)) : Option (List (List UInt8)) :=
  (mk ([] : List UInt8) (p0.length : Int)).bind fun a => gW p0 aK a 0
noncomputable def nk (p0 : ch) : Option (aB) :=
  (iy p0.z_).bind fun a => (jZ p0.I_).bind fun c => U (aB.mk p0.E_ a c)
noncomputable def jp (p0 : List ch) : Nat → (List aB) → Int → Option (List aB)
  | 0, _, _ => N
  | k1 + 1, c, a =>
    if decide (a < (p0.length : Int)) then (idx p0 a).bind fun d => (nk d).bind fun e => (idx c a).bind fun _ => (jp p0 k1) (c.set a.toNat e) (J.wrap (a + 1)) else U c
noncomputable def oN (p0 : List ch) : Option (List aB) :=
  (mk ((aB.mk [] [] []) : aB) (p0.length : Int)).bind fun a => jp p0 aK a 0
noncomputable def mx (p0 : db) : Option (am) :=
  (oN p0.d_).bind fun a => (jZ p0.m_).bind fun c => U (am.mk a c)
noncomputable def pE (p0 : ii) : Option (cO) :=
  U (cO.mk p0.L_ p0.K_ p0.M_ p0.f_ p0.b_ p0.G_ p0.P_)
noncomputable def pQ (p0 : eG) : Option (bi) :=
  (mx p0.p_).bind fun a => (pE p0.c_).bind fun c => U (bi.mk a c p0.j_ p0.N_ p0.O_ p0.s_ p0.t_)
noncomputable def pT (p0 : dD) : Option (bC) :=
  U (bC.mk p0.q_ p0.u_)
noncomputable def jn (p0 : List (List Int)) : Nat → (List (List Int)) → Int → Option (List (List Int))
  | 0, _, _ => N
  | k1 + 1, c, a =>
    if decide (a < (p0.length : Int)) then (idx p0 a).bind fun d => (iy d).bind fun e => (idx c a).bind fun _ => (jn p0 k1) (c.set a.toNat e) (J.wrap (a + 1)) else U c
noncomputable def kv (p0 : List (List Int)) : Option (List (List Int)) :=
  (mk ([] : List Int) (p0.length : Int)).bind fun a => jn p0 aK a 0
noncomputable def oT (p0 : cr) : Option (aV) :=
  (iy p0.k_).bind fun a => (kv p0.h_).bind fun c => U (aV.mk a c)
noncomputable def nB (p0 : bN) : Option (au) :=
  (pT p0.g_).bind fun a => (iy p0.r_).bind fun c => (oT p0.i_).bind fun d => (iy p0.d_).bind fun e => U (au.mk p0.y_ a c p0.C_ d p0.D_ e p0.f_ p0.x_ p0.B_)
noncomputable def jo (p0 : List bN) : Nat → (List au) → Int → Option (List au)
  | 0, _, _ => N
  | k1 + 1, c, a =>
    if decide (a < (p0.length : Int)) then (idx p0 a).bind fun d => (nB d).bind fun e => (idx c a).bind fun _ => (jo p0 k1) (c.set a.toNat e) (J.wrap (a + 1)) else U c
noncomputable def oK (p0 : List bN) : Option (List au) :=
  (mk ((au.mk n (bC.mk 0 0) [] 0 (aV.mk [] []) 0 [] 0 0 0) : au) (p0.length : Int)).bind fun a => jo p0 aK a 0
noncomputable def nD (p0 : cW) : Option (ap) :=
  (oK p0.b_).bind fun a => U (ap.mk a p0.A_)
noncomputable def kX (p0 : cc) : Option (aA) :=
  (kv p0.o_).bind fun a => U (aA.mk a)
noncomputable def qT (p0 : eM) : Option (cf) :=
  (kX p0.s_).bind fun a => (kX p0.t_).bind fun c => U (cf.mk a c)
noncomputable def kW (p0 : bJ) : Option (az) :=
  (nD p0.F_).bind fun a => (nD p0.w_).bind fun c => (qT p0.H_).bind fun d => U (az.mk a p0.S_ c d)
noncomputable def hH (p0 : List bJ) : Nat → (List az) → Int → Option (List az)
  | 0, _, _ => N
  | k1 + 1, c, a =>
    if decide (a < (p0.length : Int)) then (idx p0 a).bind fun d => (kW d).bind fun e => (idx c a).bind fun _ => (hH p0 k1) (c.set a.toNat e) (J.wrap (a + 1)) else U c
noncomputable def lT (p0 : List bJ) : Option (List az) :=
  (mk ((az.mk (ap.mk [] 0) n (ap.mk [] 0) (cf.mk (aA.mk []) (aA.mk []))) : az) (p0.length : Int)).bind fun a => hH p0 aK a 0
noncomputable def mL (p0 : dj) : Option (bP) :=
  (lT p0.j_).bind fun a => U (bP.mk a)
noncomputable def nz (p0 : cY) : Option (aM) :=
  U (aM.mk p0.Q_ p0.R_)
noncomputable def js (p0 : List cY) : Nat → (List aM) → Int → Option (List aM)
  | 0, _, _ => N
  | k1 + 1, c, a =>
    if decide (a < (p0.length : Int)) then (idx p0 a).bind fun d => (nz d).bind fun e => (idx c a).bind fun _ => (js p0 k1) (c.set a.toNat e) (J.wrap (a + 1)) else U c
noncomputable def oM (p0 : List cY) : Option (List aM) :=
  (mk ((aM.mk 0 0) : aM) (p0.length : Int)).bind fun a => js p0 aK a 0
noncomputable def oA (p0 : dM) : Option (bo) :=
  (kv p0.n_).bind fun a => (oM p0.l_).bind fun c => U (bo.mk a c)
noncomputable def jA (p0 : dz) : Option (aP) :=
  (pQ p0.a_).bind fun a => (mL p0.J_).bind fun c => (oA p0.v_).bind fun d => U (aP.mk a c d)
noncomputable def bn (p0 : Int) (p1 : Int) (p2 : Int) : Option (Bool) :=
  U ((decide (p0 ≥ p1)) && (decide (p0 ≤ p2)))
noncomputable def iV (p0 : List UInt8) : Nat → Int → Option (Bool)
  | 0, _ => N
  | k1 + 1, a =>
    if decide (a < (p0.length : Int)) then (idx p0 a).bind fun c => (if decide ((c.toNat : Int) < 97) then U y else (idx p0 a).bind fun d => U (decide ((d.toNat : Int) > 122))).bind fun e => if e then U n else (iV p0 k1) (J.wrap (a + 1)) else U y
noncomputable def nJ (p0 : List UInt8) : Option (Bool) :=
  (bn (p0.length : Int) 1 8).bind fun a => if (!a) then U n else iV p0 aK 0
noncomputable def fD (a : Int) (p0 : List (List UInt8)) (R1 : Int → Option (Bool)) : Nat → Int → Option (Bool)
  | 0, _ => N
  | k2 + 1, c =>
    if decide (c < a) then (idx p0 a).bind fun d => (idx p0 c).bind fun e => if (d == e) then U n else (fD a p0 R1 k2) (J.wrap (c + 1)) else R1 (J.wrap (a + 1))
noncomputable def ef (p0 : List (List UInt8)) : Nat → Int → Option (Bool)
  | 0, _ => N
  | k1 + 1, a =>
    if decide (a < (p0.length : Int)) then (idx p0 a).bind fun c => (nJ c).bind fun d => if (!d) then U n else fD a p0 (ef p0 k1) aK 0 else U y
noncomputable def mf (p0 : List (List UInt8)) : Option (Bool) :=
  ef p0 aK 0
noncomputable def gO (p0 : aB) : Nat → Int → Option (Bool)
  | 0, _ => N
  | k1 + 1, a =>
    if decide (a < (p0.z_.length : Int)) then (idx p0.z_ a).bind fun c => (bn c (-9999) 9998).bind fun d => (if (!d) then U y else (if decide (a > 0) then (idx p0.z_ a).bind fun e => (idx p0.z_ (J.wrap (a - 1))).bind fun f => U (decide (e ≤ f)) else U n).bind fun g => U g).bind fun h => if h then U n else (gO p0 k1) (J.wrap (a + 1)) else U y
noncomputable def lB (p0 : aB) : Option (Bool) :=
  (nJ p0.E_).bind fun a => if (!a) then U n else if ((p0.z_.length : Int) == 0) then (bn (p0.I_.length : Int) 2 4).bind fun c => (if c then (mf p0.I_).bind fun d => U d else U n).bind fun e => U e else if ((decide ((p0.I_.length : Int) > 0)) || (decide ((p0.z_.length : Int) > 3))) then U n else gO p0 aK 0
noncomputable def eZ (a : Int) (p0 : am) (R1 : Int → Option (Bool)) : Nat → Int → Option (Bool)
  | 0, _ => N
  | k2 + 1, c =>
    if decide (c < a) then (idx p0.d_ a).bind fun d => (idx p0.d_ c).bind fun e => if (d.E_ == e.E_) then U n else (eZ a p0 R1 k2) (J.wrap (c + 1)) else R1 (J.wrap (a + 1))
noncomputable def dv (p0 : am) : Nat → Int → Option (Bool)
  | 0, _ => N
  | k1 + 1, a =>
    if decide (a < (p0.d_.length : Int)) then (idx p0.d_ a).bind fun c => (lB c).bind fun d => if (!d) then U n else eZ a p0 (dv p0 k1) aK 0 else U y
noncomputable def fU (p0 : am) : Option (Bool) :=
  (bn (p0.d_.length : Int) 1 5).bind fun a => (if (!a) then U y else (bn (p0.m_.length : Int) 2 3).bind fun c => U (!c)).bind fun d => (if d then U y else (mf p0.m_).bind fun e => U (!e)).bind fun f => if f then U n else dv p0 aK 0
noncomputable def nH (p0 : cO) : Option (Bool) :=
  (bn p0.L_ 1 9).bind fun a => (if a then (bn p0.K_ 0 999).bind fun c => U c else U n).bind fun d => (if d then (bn p0.M_ 1 200).bind fun e => U e else U n).bind fun f => (if f then (bn p0.f_ 0 6).bind fun g => U g else U n).bind fun h => (if h then (bn p0.b_ 1 31).bind fun i => U i else U n).bind fun j => (if j then (bn p0.G_ 62 2000).bind fun k => U k else U n).bind fun l => U l
noncomputable def kG (p0 : Int) : Option (List Int) :=
  if (p0 == 1) then U ([24109, 48218, 60273, 64291, 65296, 65497, 65530] : List Int) else if (p0 == 6) then U ([162, 1137, 4061, 9909, 18681, 29208, 39734] : List Int) else U ([] : List Int)
noncomputable def nI (p0 : bi) : Option (Bool) :=
  (fU p0.p_).bind fun a => (if a then (nH p0.c_).bind fun c => U c else U n).bind fun d => (if d then (bn p0.j_ 1 4).bind fun e => U e else U n).bind fun f => (if f then (bn p0.N_ 1 (p0.p_.d_.length : Int)).bind fun g => U g else U n).bind fun h => (if h then (kG p0.O_).bind fun i => U (decide ((i.length : Int) > 0)) else U n).bind fun j => (if j then (bn p0.s_ 1 9).bind fun k => U k else U n).bind fun l => (if l then (bn p0.t_ 1 9).bind fun m => U m else U n).bind fun o => U (o && (decide (p0.s_ ≤ p0.t_)))
noncomputable def lW (p0 : aB) : Option (Int) :=
  (lB p0).bind fun a => if (!a) then U 0 else if decide ((p0.z_.length : Int) > 0) then U (J.wrap ((p0.z_.length : Int) + 1)) else U (p0.I_.length : Int)
noncomputable def dh (d : Int) (p1 : aV) (e : Int) (p0 : am) (a : Int) (R3 : Int → Option (Bool)) : Nat → Int → Int → Option (Bool)
  | 0, _, _ => N
  | k4 + 1, f, c =>
    if decide (c < d) then (idx p1.h_ e).bind fun h => (idx h (J.wrap ((J.wrap (c * (p0.m_.length : Int))) + a))).bind fun g => (bn g 0 999).bind fun i => if (!i) then U n else (dh d p1 e p0 a R3 k4) (J.wrap (f + g)) (J.wrap (c + 1)) else (idx p1.k_ a).bind fun j => if decide (f > j) then U n else R3 (J.wrap (a + 1))
noncomputable def bR (p0 : am) (c : Int) (p1 : aV) (a : Int) (R2 : Int → Option (Bool)) : Nat → Int → Option (Bool)
  | 0, _ => N
  | k3 + 1, d =>
    if decide (d < (p0.m_.length : Int)) then dh c p1 a p0 d (bR p0 c p1 a R2 k3) aK 0 0 else R2 (J.wrap (a + 1))
noncomputable def cK (p1 : aV) (p0 : am) : Nat → Int → Option (Bool)
  | 0, _ => N
  | k2 + 1, a =>
    if decide (a < (p1.h_.length : Int)) then (idx p0.d_ a).bind fun d => (lW d).bind fun c => (idx p1.h_ a).bind fun e => if ((e.length : Int) != (J.wrap (c * (p0.m_.length : Int)))) then U n else bR p0 c p1 a (cK p1 p0 k2) aK 0 else U y
noncomputable def dR (p1 : aV) (p0 : am) : Nat → Int → Int → Option (Bool)
  | 0, _, _ => N
  | k1 + 1, c, a =>
    if decide (a < (p1.k_.length : Int)) then (idx p1.k_ a).bind fun d => (bn d 0 999).bind fun e => if (!e) then U n else (idx p1.k_ a).bind fun f => (dR p1 p0 k1) (J.wrap (c + f)) (J.wrap (a + 1)) else if decide (c > 999) then U n else if ((p1.h_.length : Int) == 0) then U y else if ((p1.h_.length : Int) != (p0.d_.length : Int)) then U n else cK p1 p0 aK 0
noncomputable def kB (p0 : am) (p1 : aV) : Option (Bool) :=
  (fU p0).bind fun a => if ((!a) || ((p1.k_.length : Int) != (p0.m_.length : Int))) then U n else dR p1 p0 aK 0 0
noncomputable def ik (p1 : List Int) (p0 : am) : Nat → Int → Option (Bool)
  | 0, _ => N
  | k1 + 1, a =>
    if decide (a < (p1.length : Int)) then (idx p1 a).bind fun c => (bn c 0 (J.wrap ((p0.d_.length : Int) - 1))).bind fun d => (if (!d) then U y else (if decide (a > 0) then (idx p1 a).bind fun e => (idx p1 (J.wrap (a - 1))).bind fun f => U (decide (e ≤ f)) else U n).bind fun g => U g).bind fun h => if h then U n else (ik p1 p0 k1) (J.wrap (a + 1)) else U y
noncomputable def lX (p0 : am) (p1 : List Int) : Option (Bool) :=
  (fU p0).bind fun a => if ((!a) || ((p1.length : Int) == 0)) then U n else ik p1 p0 aK 0
noncomputable def fH (p1 : aV) : Nat → Int → Int → Option (Int)
  | 0, _, _ => N
  | k1 + 1, c, a =>
    if decide (a < (p1.k_.length : Int)) then (idx p1.k_ a).bind fun d => (fH p1 k1) (J.wrap (c + d)) (J.wrap (a + 1)) else U c
noncomputable def kL (p0 : am) (p1 : aV) : Option (Int) :=
  (kB p0 p1).bind fun a => if (!a) then U 0 else fH p1 aK 0 0
noncomputable def km (p0 : am) (p1 : au) : Option (Bool) :=
  (if (((!(p1.g_.q_ == 0 && (p1.g_.u_ == 0 && y))) || (decide ((p1.r_.length : Int) > 0))) || (p1.C_ != 0)) then U y else (kB p0 p1.i_).bind fun a => U (!a)).bind fun c => (if c then U y else (lX p0 p1.d_).bind fun d => U (!d)).bind fun e => if e then U n else if ((p1.i_.h_.length : Int) == 0) then U (p1.D_ == 0) else (kL p0 p1.i_).bind fun f => (bn p1.D_ 0 f).bind fun g => U g
noncomputable def np (p0 : am) (p1 : bC) : Option (Bool) :=
  (fU p0).bind fun a => (if (!a) then U y else (bn p1.q_ 0 (J.wrap ((p0.d_.length : Int) - 1))).bind fun c => U (!c)).bind fun d => if d then U n else (idx p0.d_ p1.q_).bind fun e => if decide ((e.z_.length : Int) > 0) then (idx p0.d_ p1.q_).bind fun f => (lW f).bind fun g => (bn p1.u_ (-1) (J.wrap (g - 2))).bind fun h => U h else (idx p0.d_ p1.q_).bind fun i => (lW i).bind fun j => (bn p1.u_ (-1) (J.wrap (j - 1))).bind fun k => U k
noncomputable def mA (p0 : am) (p1 : bC) : Option (Int) :=
  (np p0 p1).bind fun a => if (!a) then U 0 else if (p1.u_ == (-1)) then (idx p0.d_ p1.q_).bind fun c => (lW c).bind fun d => U d else U 2
noncomputable def gv (c : au) (p2 : Int) (p1 : ap) : Nat → Int → Option (Bool)
  | 0, _ => N
  | k1 + 1, a =>
    if decide (a < (c.r_.length : Int)) then (idx c.r_ a).bind fun d => (bn d (J.wrap (p2 + 1)) (J.wrap ((p1.b_.length : Int) - 1))).bind fun e => (if (!e) then U y else (idx c.r_ a).bind fun f => (idx p1.b_ f).bind fun g => U (g.x_ != p2)).bind fun h => (if h then U y else (if decide (a > 0) then (idx c.r_ a).bind fun i => (idx c.r_ (J.wrap (a - 1))).bind fun j => U (decide (i ≤ j)) else U n).bind fun k => U k).bind fun l => if l then U n else (gv c p2 p1 k1) (J.wrap (a + 1)) else U y
noncomputable def jH (p0 : am) (p1 : ap) (p2 : Int) : Option (Bool) :=
  (idx p1.b_ p2).bind fun a => (np p0 a.g_).bind fun c => (if (!c) then U y else (mA p0 a.g_).bind fun d => U ((a.r_.length : Int) != d)).bind fun e => (if e then U y else (bn a.C_ 0 (J.wrap ((a.r_.length : Int) - 1))).bind fun f => U (!f)).bind fun g => (if g then U y else (kB p0 a.i_).bind fun h => U (!h)).bind fun i => (if ((i || (decide ((a.i_.h_.length : Int) > 0))) || (a.D_ != 0)) then U y else (lX p0 a.d_).bind fun j => U (!j)).bind fun k => if k then U n else gv a p2 p1 aK 0
noncomputable def cU (p0 : List Int) (p1 : Int) : Nat → Int → Option (Bool)
  | 0, _ => N
  | k1 + 1, a =>
    if decide (a < (p0.length : Int)) then (idx p0 a).bind fun c => if (c == p1) then U y else (cU p0 p1 k1) (J.wrap (a + 1)) else U n
noncomputable def mE (p0 : List Int) (p1 : Int) : Option (Bool) :=
  cU p0 p1 aK 0
noncomputable def dU (p1 : ap) (p0 : am) : Nat → Int → Option (Bool)
  | 0, _ => N
  | k1 + 1, c =>
    if decide (c < (p1.b_.length : Int)) then (idx p1.b_ c).bind fun a => (bn a.f_ 0 6).bind fun e => (if (!e) then U y else (bn a.B_ 0 p1.A_).bind fun f => U (!f)).bind fun g => if g then U n else (if a.y_ then (km p0 ({ a with y_ := y })).bind fun h => U (!h) else U n).bind fun i => (if i then U y else (if (!a.y_) then (jH p0 p1 c).bind fun j => U (!j) else U n).bind fun k => U k).bind fun l => if l then U n else if (c == 0) then if (((a.x_ != (-1)) || (a.f_ != 0)) || (a.B_ != 0)) then U n else (dU p1 p0 k1) (J.wrap (c + 1)) else (bn a.x_ 0 (J.wrap (c - 1))).bind fun m => if (!m) then U n else (idx p1.b_ a.x_).bind fun d => (if d.y_ then U y else (mE d.r_ c).bind fun o => U (!o)).bind fun p => if ((p || ((J.wrap (d.f_ + 1)) != a.f_)) || (decide (d.B_ > a.B_))) then U n else (dU p1 p0 k1) (J.wrap (c + 1)) else U y
noncomputable def pS (p0 : am) (p1 : ap) : Option (Bool) :=
  (fU p0).bind fun a => (if (!a) then U y else (bn (p1.b_.length : Int) 1 31).bind fun c => U (!c)).bind fun d => (if d then U y else (bn p1.A_ 0 99999).bind fun e => U (!e)).bind fun f => if f then U n else dU p1 p0 aK 0
noncomputable def dQ (p0 : ap) : Nat → Int → Int → Option (Int)
  | 0, _, _ => N
  | k1 + 1, c, a =>
    if decide (a < (p0.b_.length : Int)) then (if (a == 0) then U y else (idx p0.b_ a).bind fun d => U (decide (d.f_ > c))).bind fun e => if e then (idx p0.b_ a).bind fun f => (dQ p0 k1) f.f_ (J.wrap (a + 1)) else (dQ p0 k1) c (J.wrap (a + 1)) else U c
noncomputable def ov (p0 : ap) : Option (Int) :=
  dQ p0 aK 0 0
noncomputable def ic (p0 : au) : Nat → Int → Int → Option (Int)
  | 0, _, _ => N
  | k1 + 1, c, a =>
    if decide (a < (p0.i_.h_.length : Int)) then (idx p0.i_.h_ a).bind fun d => (ic p0 k1) (J.wrap (c + (d.length : Int))) (J.wrap (a + 1)) else U c
noncomputable def oo (p0 : au) : Option (Int) :=
  if (!p0.y_) then U 1 else ic p0 aK 2 0
noncomputable def gg (p0 : ap) : Nat → Int → Int → Option (Int)
  | 0, _, _ => N
  | k1 + 1, c, a =>
    if decide (a < (p0.b_.length : Int)) then (idx p0.b_ a).bind fun d => (oo d).bind fun e => (gg p0 k1) (J.wrap (c + e)) (J.wrap (a + 1)) else U c
noncomputable def lI (p0 : ap) : Option (Int) :=
  gg p0 aK 0 0
noncomputable def qL (p0 : am) (p1 : cO) (p2 : ap) : Option (Bool) :=
  (pS p0 p2).bind fun a => (if a then (nH p1).bind fun c => U c else U n).bind fun d => (if (d && (decide ((p2.b_.length : Int) ≤ p1.b_))) then (ov p2).bind fun e => U (decide (e ≤ p1.f_)) else U n).bind fun f => (if f then (lI p2).bind fun g => U (decide (g ≤ p1.G_)) else U n).bind fun h => U h
noncomputable def fP (p0 : Int) : Nat → Int → Int → Option (Int)
  | 0, _, _ => N
  | k1 + 1, a, c =>
    if decide (c < p0) then (fP p0 k1) (J.wrap (a * 2)) (J.wrap (c + 1)) else U a
noncomputable def mz (p0 : Int) : Option (Int) :=
  fP p0 aK 1 0
noncomputable def fM (p0 : aA) (a : Int) (R1 : Int → Option (Bool)) : Nat → Int → Option (Bool)
  | 0, _ => N
  | k2 + 1, c =>
    (idx p0.o_ a).bind fun d => if decide (c < (d.length : Int)) then (idx p0.o_ a).bind fun e => (idx e c).bind fun f => (mz a).bind fun g => (bn f 0 g).bind fun h => if (!h) then U n else (fM p0 a R1 k2) (J.wrap (c + 1)) else R1 (J.wrap (a + 1))
noncomputable def cJ (p0 : aA) : Nat → Int → Option (Bool)
  | 0, _ => N
  | k1 + 1, a =>
    if decide (a < (p0.o_.length : Int)) then (idx p0.o_ a).bind fun c => (bn (c.length : Int) 1 3).bind fun d => if (!d) then U n else fM p0 a (cJ p0 k1) aK 0 else U y
noncomputable def kY (p0 : aA) : Option (Bool) :=
  if decide ((p0.o_.length : Int) > 8) then U n else cJ p0 aK 0
noncomputable def qO (p0 : cf) : Option (Bool) :=
  (kY p0.s_).bind fun a => (if a then (kY p0.t_).bind fun c => U c else U n).bind fun d => U d
noncomputable def mM (p0 : bi) (p1 : az) : Option (Bool) :=
  (nI p0).bind fun a => (if (!a) then U y else (qL p0.p_ p0.c_ p1.F_).bind fun c => U (!c)).bind fun d => (if d then U y else (qO p1.H_).bind fun e => U (!e)).bind fun f => if f then U n else if p1.S_ then (qL p0.p_ p0.c_ p1.w_).bind fun g => U g else U (((p1.w_.b_.length : Int) == 0) && (p1.w_.A_ == 0))
noncomputable def gq (p1 : bP) (p0 : bi) : Nat → Int → Option (Bool)
  | 0, _ => N
  | k1 + 1, a =>
    if decide (a < (p1.j_.length : Int)) then (idx p1.j_ a).bind fun c => (mM p0 c).bind fun d => if (!d) then U n else (gq p1 p0 k1) (J.wrap (a + 1)) else U y
noncomputable def mu (p0 : bi) (p1 : bP) : Option (Bool) :=
  (nI p0).bind fun a => if ((!a) || ((p1.j_.length : Int) != p0.j_)) then U n else gq p1 p0 aK 0
noncomputable def du (p0 : List aM) (p1 : Int) (p2 : Int) : Nat → Int → Int → Option (Int)
  | 0, _, _ => N
  | k1 + 1, c, a =>
    if decide (a < (p0.length : Int)) then (idx p0 a).bind fun d => (if (d.Q_ == p1) then (idx p0 a).bind fun e => U (e.R_ == p2) else U n).bind fun f => if f then (du p0 p1 p2 k1) (J.wrap (c + 1)) (J.wrap (a + 1)) else (du p0 p1 p2 k1) c (J.wrap (a + 1)) else U c
noncomputable def mK (p0 : List aM) (p1 : Int) (p2 : Int) : Option (Int) :=
  du p0 p1 p2 aK 0 0
noncomputable def sZ (p0 : Int) (p1 : Int) : Option (Int) :=
  if decide (p0 < p1) then U p0 else U p1
noncomputable def dO (p0 : Int) (p1 : bo) (a : Int) (R1 : Int → Int → Option (Bool)) : Nat → Int → Int → Option (Bool)
  | 0, _, _ => N
  | k2 + 1, d, c =>
    if decide (c < p0) then (idx p1.n_ a).bind fun e => (idx e c).bind fun f => (bn f 0 9999).bind fun g => (if (!g) then U y else (mK p1.l_ a c).bind fun h => (idx p1.n_ a).bind fun i => (idx i c).bind fun j => U (decide (h > j))).bind fun k => if k then U n else (idx p1.n_ a).bind fun l => (idx l c).bind fun m => (dO p0 p1 a R1 k2) (J.wrap (d + m)) (J.wrap (c + 1)) else R1 d (J.wrap (a + 1))
noncomputable def dq (p1 : bo) (p0 : Int) : Nat → Int → Option (Bool)
  | 0, _ => N
  | k3 + 1, a =>
    if decide (a < (p1.l_.length : Int)) then (idx p1.l_ a).bind fun c => (bn c.Q_ 0 (J.wrap (p0 - 1))).bind fun d => (if (!d) then U y else (idx p1.l_ a).bind fun e => (bn e.R_ 0 (J.wrap (p0 - 1))).bind fun f => U (!f)).bind fun g => if g then U n else (dq p1 p0 k3) (J.wrap (a + 1)) else U y
noncomputable def cX (p0 : Int) (p1 : bo) : Nat → Int → Int → Option (Bool)
  | 0, _, _ => N
  | k1 + 1, a, c =>
    if decide (c < p0) then (idx p1.n_ c).bind fun d => if ((d.length : Int) != p0) then U n else dO p0 p1 c (cX p0 p1 k1) aK a 0 else (if decide (a > 9999) then U y else (sZ a 20).bind fun e => U ((p1.l_.length : Int) != e)).bind fun f => if f then U n else dq p1 p0 aK 0
noncomputable def oc (p0 : Int) (p1 : bo) : Option (Bool) :=
  (bn p0 2 3).bind fun a => if ((!a) || ((p1.n_.length : Int) != p0)) then U n else cX p0 p1 aK 0 0
noncomputable def oz (p0 : aP) : Option (Bool) :=
  (mu p0.a_ p0.J_).bind fun a => (if a then (oc (p0.a_.p_.m_.length : Int) p0.v_).bind fun c => U c else U n).bind fun d => U d
noncomputable def jO (p0 : List (List UInt8)) (a : Int) (R1 : (List UInt8) → Int → Option (List UInt8)) (c : List UInt8) : Option (List UInt8) :=
  (idx p0 a).bind fun d => (lp c d).bind fun e => R1 e (J.wrap (a + 1))
noncomputable def dB (p0 : List (List UInt8)) (p1 : List UInt8) : Nat → (List UInt8) → Int → Option (List UInt8)
  | 0, _, _ => N
  | k1 + 1, c, a =>
    if decide (a < (p0.length : Int)) then if decide (a > 0) then (lp c p1).bind fun d => jO p0 a (dB p0 p1 k1) d else jO p0 a (dB p0 p1 k1) c else U c
noncomputable def gJ (p0 : List (List UInt8)) (p1 : List UInt8) : Option (List UInt8) :=
  dB p0 p1 aK ([] : List UInt8) 0
noncomputable def iJ (a : List UInt8) (R1 : Int → (List UInt8) → Option (List UInt8)) (c : Int) (d : Int) : Option (List UInt8) :=
  (lp (qz ([K.wrap (J.wrap (48 + d))] : List Int)) a).bind fun e => R1 (J.wrap (Int.tdiv c 10)) e
noncomputable def dA (p0 : Int) : Nat → Int → (List UInt8) → Option (List UInt8)
  | 0, _, _ => N
  | k1 + 1, a, c =>
    if (a != 0) then if decide ((Int.tmod a 10) < 0) then iJ c (dA p0 k1) a (J.wrap (0 - (Int.tmod a 10))) else iJ c (dA p0 k1) a (Int.tmod a 10) else if decide (p0 < 0) then (lp ([45] : List UInt8) c).bind fun d => U d else U c
noncomputable def pY (p0 : Int) : Option (List UInt8) :=
  if (p0 == 0) then U ([48] : List UInt8) else dA p0 aK p0 ([] : List UInt8)
noncomputable def ep (p0 : aB) : Nat → (List (List UInt8)) → Int → Option (List UInt8)
  | 0, _, _ => N
  | k1 + 1, c, a =>
    if decide (a < (p0.z_.length : Int)) then (idx p0.z_ a).bind fun d => (pY d).bind fun e => (app c ([e] : List (List UInt8))).bind fun f => (ep p0 k1) f (J.wrap (a + 1)) else (lp p0.E_ ([58] : List UInt8)).bind fun g => (gJ c ([44] : List UInt8)).bind fun h => (lp g h).bind fun i => U i
noncomputable def lh (p0 : aB) : Option (List UInt8) :=
  (lB p0).bind fun a => if (!a) then U ([] : List UInt8) else if decide ((p0.I_.length : Int) > 0) then (lp p0.E_ ([61] : List UInt8)).bind fun c => (gJ p0.I_ ([44] : List UInt8)).bind fun d => (lp c d).bind fun e => U e else ep p0 aK ([] : List (List UInt8)) 0
noncomputable def dH (p0 : am) : Nat → (List (List UInt8)) → Int → Option (List UInt8)
  | 0, _, _ => N
  | k1 + 1, c, a =>
    if decide (a < (p0.d_.length : Int)) then (idx p0.d_ a).bind fun j => (lh j).bind fun d => (app c ([d] : List (List UInt8))).bind fun e => (dH p0 k1) e (J.wrap (a + 1)) else (gJ c ([59] : List UInt8)).bind fun f => (lp f ([124] : List UInt8)).bind fun g => (gJ p0.m_ ([44] : List UInt8)).bind fun h => (lp g h).bind fun i => U i
noncomputable def kJ (p0 : am) : Option (List UInt8) :=
  (fU p0).bind fun a => if (!a) then U ([] : List UInt8) else dH p0 aK ([] : List (List UInt8)) 0
noncomputable def gH  : Nat → Int → (List Int) → Option (List Int)
  | 0, _, _ => N
  | k1 + 1, a, c =>
    if decide (a > 127) then (app c ([K.wrap (J.wrap ((Int.tmod a 128) + 128))] : List Int)).bind fun d => (gH k1) (J.wrap (Int.tdiv a 128)) d else (app c ([K.wrap a] : List Int)).bind fun e => U e
noncomputable def lF (p0 : Int) : Option (List Int) :=
  (bn p0 0 2147483647).bind fun a => if (!a) then U ([] : List Int) else gH aK p0 ([] : List Int)
noncomputable def oh (p0 : List UInt8) : Option (List Int) :=
  (lF (p0.length : Int)).bind fun a => (vq p0).bind fun c => (app a c).bind fun d => U d
noncomputable def pe (p0 : Bool) : Option (Int) :=
  if p0 then U 1 else U 0
noncomputable def cQ (p0 : Int) : Option (List Int) :=
  (bn p0 (-1000000000) 1000000000).bind fun a => if (!a) then U ([] : List Int) else if decide (p0 < 0) then (lF (J.wrap ((J.wrap (0 - (J.wrap (2 * p0)))) - 1))).bind fun c => U c else (lF (J.wrap (2 * p0))).bind fun d => U d
noncomputable def jv (p0 : List Int) : Nat → Int → Option (Bool)
  | 0, _ => N
  | k1 + 1, a =>
    if decide (a < (p0.length : Int)) then (idx p0 a).bind fun c => (bn c (-1000000000) 1000000000).bind fun d => if (!d) then U n else (jv p0 k1) (J.wrap (a + 1)) else U y
noncomputable def eX (p0 : List Int) : Option (Bool) :=
  jv p0 aK 0
noncomputable def fg (p0 : au) : Nat → Int → Option (Bool)
  | 0, _ => N
  | k1 + 1, a =>
    if decide (a < (p0.i_.h_.length : Int)) then (idx p0.i_.h_ a).bind fun c => (eX c).bind fun d => if (!d) then U n else (fg p0 k1) (J.wrap (a + 1)) else U y
noncomputable def jP (p0 : au) : Option (Bool) :=
  (eX ([p0.g_.q_, p0.g_.u_, p0.C_, p0.D_, p0.f_, p0.x_, p0.B_] : List Int)).bind fun a => (if (!a) then U y else (eX p0.r_).bind fun c => U (!c)).bind fun d => (if d then U y else (eX p0.d_).bind fun e => U (!e)).bind fun f => (if f then U y else (eX p0.i_.k_).bind fun g => U (!g)).bind fun h => if h then U n else fg p0 aK 0
noncomputable def ia (p0 : List Int) : Nat → (List Int) → Int → Option (List Int)
  | 0, _, _ => N
  | k1 + 1, c, a =>
    if decide (a < (p0.length : Int)) then (idx p0 a).bind fun d => (cQ d).bind fun e => (app c e).bind fun f => (ia p0 k1) f (J.wrap (a + 1)) else U c
noncomputable def gz (p0 : List Int) : Option (List Int) :=
  (eX p0).bind fun a => if (!a) then U ([] : List Int) else (cQ (p0.length : Int)).bind fun c => ia p0 aK c 0
noncomputable def gj (p0 : List (List Int)) : Nat → (List Int) → Int → Option (List Int)
  | 0, _, _ => N
  | k1 + 1, c, a =>
    if decide (a < (p0.length : Int)) then (idx p0 a).bind fun d => (gz d).bind fun e => (app c e).bind fun f => (gj p0 k1) f (J.wrap (a + 1)) else U c
noncomputable def gw (p0 : List (List Int)) : Option (List Int) :=
  (cQ (p0.length : Int)).bind fun a => gj p0 aK a 0
noncomputable def kI (p0 : au) : Option (List Int) :=
  (pe p0.y_).bind fun r => (cQ r).bind fun s => (cQ p0.g_.q_).bind fun t => (app s t).bind fun u => (cQ p0.g_.u_).bind fun v => (app u v).bind fun w => (gz p0.r_).bind fun x => (app w x).bind fun A => (cQ p0.C_).bind fun C => (app A C).bind fun a => (gz p0.i_.k_).bind fun c => (app a c).bind fun d => (gw p0.i_.h_).bind fun e => (app d e).bind fun f => (cQ p0.D_).bind fun g => (app f g).bind fun h => (gz p0.d_).bind fun i => (app h i).bind fun j => (cQ p0.f_).bind fun k => (app j k).bind fun l => (cQ p0.x_).bind fun m => (app l m).bind fun o => (cQ p0.B_).bind fun p => (app o p).bind fun q => U q
noncomputable def jf (p0 : ap) : Nat → (List Int) → Int → Option (List Int)
  | 0, _, _ => N
  | k1 + 1, c, a =>
    if decide (a < (p0.b_.length : Int)) then (idx p0.b_ a).bind fun d => (jP d).bind fun e => if (!e) then U ([] : List Int) else (idx p0.b_ a).bind fun f => (kI f).bind fun g => (app c g).bind fun h => (jf p0 k1) h (J.wrap (a + 1)) else U c
noncomputable def ku (p0 : ap) : Option (List Int) :=
  (eX ([p0.A_] : List Int)).bind fun a => if (!a) then U ([] : List Int) else (cQ p0.A_).bind fun c => (cQ (p0.b_.length : Int)).bind fun d => (app c d).bind fun e => jf p0 aK e 0
noncomputable def gY (p0 : aA) : Nat → Int → Option (List Int)
  | 0, _ => N
  | k1 + 1, a =>
    if decide (a < (p0.o_.length : Int)) then (idx p0.o_ a).bind fun c => (eX c).bind fun d => if (!d) then U ([] : List Int) else (gY p0 k1) (J.wrap (a + 1)) else (gw p0.o_).bind fun e => U e
noncomputable def iO (p0 : aA) : Option (List Int) :=
  gY p0 aK 0
noncomputable def jD (R1 : Int → Int → Option (Int)) (c : Int) : Nat → Int → Int → Option (Int)
  | 0, _, _ => N
  | k2 + 1, a, d =>
    if decide (d < 8) then if ((Int.tmod a 2) == 1) then (jD R1 c k2) (io .xor J (J.wrap (Int.tdiv a 2)) 3988292384) (J.wrap (d + 1)) else (jD R1 c k2) (J.wrap (Int.tdiv a 2)) (J.wrap (d + 1)) else R1 a (J.wrap (c + 1))
noncomputable def iB (p0 : List Int) : Nat → Int → Int → Option (Int)
  | 0, _, _ => N
  | k1 + 1, c, a =>
    if decide (a < (p0.length : Int)) then (idx p0 a).bind fun d => jD (iB p0 k1) a aK (io .xor J c (J.wrap d)) 0 else U (io .xor J c 4294967295)
noncomputable def wa (p0 : List Int) : Option (Int) :=
  iB p0 aK 4294967295 0
noncomputable def jB (p0 : List Int) : Option (List Int) :=
  (wa p0).bind fun a => U ([K.wrap (J.wrap (Int.tdiv a 16777216)), K.wrap (Int.tmod (J.wrap (Int.tdiv a 65536)) 256), K.wrap (Int.tmod (J.wrap (Int.tdiv a 256)) 256), K.wrap (Int.tmod a 256)] : List Int)
noncomputable def eN (p0 : aP) : Nat → Int → (List Int) → Option (List Int)
  | 0, _, _ => N
  | k4 + 1, a, c =>
    if decide (a < (p0.v_.l_.length : Int)) then (idx p0.v_.l_ a).bind fun d => (cQ d.Q_).bind fun e => (app c e).bind fun f => (idx p0.v_.l_ a).bind fun g => (cQ g.R_).bind fun h => (app f h).bind fun i => (eN p0 k4) (J.wrap (a + 1)) i else (jB c).bind fun j => (app c j).bind fun k => U k
noncomputable def dZ (p0 : aP) : Nat → (List Int) → Int → Option (List Int)
  | 0, _, _ => N
  | k3 + 1, c, a =>
    if decide (a < (p0.v_.n_.length : Int)) then (idx p0.v_.n_ a).bind fun d => (gz d).bind fun e => (app c e).bind fun f => (dZ p0 k3) f (J.wrap (a + 1)) else (cQ (p0.v_.l_.length : Int)).bind fun g => (app c g).bind fun h => eN p0 aK 0 h
noncomputable def ea (p0 : aP) : Nat → (List Int) → Int → Option (List Int)
  | 0, _, _ => N
  | k2 + 1, d, c =>
    if decide (c < (p0.J_.j_.length : Int)) then (idx p0.J_.j_ c).bind fun a => (ku a.F_).bind fun e => (app d e).bind fun f => (pe a.S_).bind fun g => (cQ g).bind fun h => (app f h).bind fun i => (ku a.w_).bind fun j => (app i j).bind fun k => (iO a.H_.s_).bind fun l => (app k l).bind fun m => (iO a.H_.t_).bind fun o => (app m o).bind fun p => (ea p0 k2) p (J.wrap (c + 1)) else dZ p0 aK d 0
noncomputable def go (p0 : aP) (c : Int) : Nat → (List Int) → Int → Option (List Int)
  | 0, _, _ => N
  | k1 + 1, d, a =>
    if decide (a < (([p0.a_.c_.L_, p0.a_.c_.K_, p0.a_.c_.M_, p0.a_.c_.f_, p0.a_.c_.b_, p0.a_.c_.G_, c, p0.a_.j_, p0.a_.N_, p0.a_.O_, p0.a_.s_, p0.a_.t_] : List Int).length : Int)) then (idx ([p0.a_.c_.L_, p0.a_.c_.K_, p0.a_.c_.M_, p0.a_.c_.f_, p0.a_.c_.b_, p0.a_.c_.G_, c, p0.a_.j_, p0.a_.N_, p0.a_.O_, p0.a_.s_, p0.a_.t_] : List Int) a).bind fun e => (cQ e).bind fun f => (app d f).bind fun g => (go p0 c k1) g (J.wrap (a + 1)) else ea p0 aK d 0
noncomputable def ju (p0 : aP) : Option (List Int) :=
  (oz p0).bind fun a => if (!a) then U ([] : List Int) else (kJ p0.a_.p_).bind fun c => (oh c).bind fun d => (app ([83, 80, 78, 1] : List Int) d).bind fun e => (pe p0.a_.c_.P_).bind fun f => go p0 f aK e 0
noncomputable def aZ (p0 : Int) (p1 : Int) (p2 : Int) : Option (Bool) :=
  U ((decide (p0 ≥ p1)) && (decide (p0 ≤ p2)))
noncomputable def iN (p0 : List UInt8) : Nat → Int → Option (Bool)
  | 0, _ => N
  | k1 + 1, a =>
    if decide (a < (p0.length : Int)) then (idx p0 a).bind fun c => (if decide ((c.toNat : Int) < 97) then U y else (idx p0 a).bind fun d => U (decide ((d.toNat : Int) > 122))).bind fun e => if e then U n else (iN p0 k1) (J.wrap (a + 1)) else U y
noncomputable def nG (p0 : List UInt8) : Option (Bool) :=
  (aZ (p0.length : Int) 1 8).bind fun a => if (!a) then U n else iN p0 aK 0
noncomputable def cg (p0 : List (List UInt8)) (p1 : List UInt8) : Nat → Int → Option (Int)
  | 0, _ => N
  | k1 + 1, a =>
    if decide (a < (p0.length : Int)) then (idx p0 a).bind fun c => if (p1 == c) then U a else (cg p0 p1 k1) (J.wrap (a + 1)) else U (-1)
noncomputable def eo (p0 : List (List UInt8)) (p1 : List UInt8) : Option (Int) :=
  cg p0 p1 aK 0
noncomputable def dN (p0 : List (List UInt8)) (p1 : List UInt8) : Option (Bool) :=
  (eo p0 p1).bind fun a => U (decide (a ≥ 0))
noncomputable def eD (p0 : List (List UInt8)) : Nat → Int → Option (Bool)
  | 0, _ => N
  | k1 + 1, a =>
    if decide (a < (p0.length : Int)) then (idx p0 a).bind fun c => (nG c).bind fun d => (if (!d) then U y else (sub p0 0 a).bind fun e => (dN e c).bind fun f => U f).bind fun g => if g then U n else (eD p0 k1) (J.wrap (a + 1)) else U y
noncomputable def eQ (p0 : List (List UInt8)) : Option (Bool) :=
  eD p0 aK 0
noncomputable def eJ (p0 : List Int) : Nat → Int → Option (Bool)
  | 0, _ => N
  | k1 + 1, a =>
    if decide (a < (p0.length : Int)) then (idx p0 a).bind fun c => (idx p0 (J.wrap (a - 1))).bind fun d => if decide (c ≤ d) then U n else (eJ p0 k1) (J.wrap (a + 1)) else U y
noncomputable def gc (p0 : List Int) : Option (Bool) :=
  eJ p0 aK 1
noncomputable def tn (p0 : Int) : Option (Bool) :=
  (aZ p0 (-9999) 9998).bind fun a => U a
noncomputable def pr (p0 : Int) : Option (Bool) :=
  (tn p0).bind fun a => U (!a)
noncomputable def bz (p0 : List Int) : Nat → Int → Option (Int)
  | 0, _ => N
  | k1 + 1, a =>
    if decide (a < (p0.length : Int)) then (idx p0 a).bind fun c => (pr c).bind fun d => if d then U a else (bz p0 k1) (J.wrap (a + 1)) else U (-1)
noncomputable def cN (p0 : List Int) : Option (Int) :=
  bz p0 aK 0
noncomputable def cA (p0 : List Int) : Option (Bool) :=
  (cN p0).bind fun a => U (decide (a ≥ 0))
noncomputable def pR (p0 : List Int) : Option (Bool) :=
  (aZ (p0.length : Int) 1 3).bind fun a => (if a then (gc p0).bind fun c => U c else U n).bind fun d => (if d then (cA p0).bind fun e => U (!e) else U n).bind fun f => U f
noncomputable def nx (p0 : aB) : Option (Bool) :=
  (nG p0.E_).bind fun a => if (!a) then U n else if ((p0.z_.length : Int) == 0) then (aZ (p0.I_.length : Int) 2 4).bind fun c => (if c then (eQ p0.I_).bind fun d => U d else U n).bind fun e => U e else (if ((p0.I_.length : Int) == 0) then (pR p0.z_).bind fun f => U f else U n).bind fun g => U g
noncomputable def ex (p0 : am) : Nat → Int → (List (List UInt8)) → Option (Bool)
  | 0, _, _ => N
  | k1 + 1, a, d =>
    if decide (a < (p0.d_.length : Int)) then (idx p0.d_ a).bind fun c => (nx c).bind fun e => if (!e) then U n else (app d ([c.E_] : List (List UInt8))).bind fun f => (ex p0 k1) (J.wrap (a + 1)) f else (eQ d).bind fun g => U g
noncomputable def fW (p0 : am) : Option (Bool) :=
  (aZ (p0.d_.length : Int) 1 5).bind fun a => (if (!a) then U y else (aZ (p0.m_.length : Int) 2 3).bind fun c => U (!c)).bind fun d => (if d then U y else (eQ p0.m_).bind fun e => U (!e)).bind fun f => if f then U n else ex p0 aK 0 ([] : List (List UInt8))
noncomputable def nE (p0 : cO) : Option (Bool) :=
  (aZ p0.L_ 1 9).bind fun a => (if a then (aZ p0.K_ 0 999).bind fun c => U c else U n).bind fun d => (if d then (aZ p0.M_ 1 200).bind fun e => U e else U n).bind fun f => (if f then (aZ p0.f_ 0 6).bind fun g => U g else U n).bind fun h => (if h then (aZ p0.b_ 1 31).bind fun i => U i else U n).bind fun j => (if j then (aZ p0.G_ 62 2000).bind fun k => U k else U n).bind fun l => U l
noncomputable def kE (p0 : Int) : Option ((List Int) × Bool) :=
  if (p0 == 1) then U (([24109, 48218, 60273, 64291, 65296, 65497, 65530] : List Int), n) else if (p0 == 6) then U (([162, 1137, 4061, 9909, 18681, 29208, 39734] : List Int), n) else U (([] : List Int), y)
noncomputable def nq (p0 : bi) : Option (Bool) :=
  (fW p0.p_).bind fun a => (if a then (nE p0.c_).bind fun c => U c else U n).bind fun d => (if d then (aZ p0.j_ 1 4).bind fun e => U e else U n).bind fun f => (if f then (aZ p0.N_ 1 (p0.p_.d_.length : Int)).bind fun g => U g else U n).bind fun h => (if h then (kE p0.O_).bind fun i => U (!i.2) else U n).bind fun j => (if j then (aZ p0.s_ 1 9).bind fun k => U k else U n).bind fun l => (if l then (aZ p0.t_ 1 9).bind fun m => U m else U n).bind fun o => U (o && (decide (p0.s_ ≤ p0.t_)))
noncomputable def oQ (p0 : Int) : Option (Bool) :=
  (aZ p0 0 999).bind fun a => U (!a)
noncomputable def bv (p0 : List Int) : Nat → Int → Option (Int)
  | 0, _ => N
  | k1 + 1, a =>
    if decide (a < (p0.length : Int)) then (idx p0 a).bind fun c => (oQ c).bind fun d => if d then U a else (bv p0 k1) (J.wrap (a + 1)) else U (-1)
noncomputable def cG (p0 : List Int) : Option (Int) :=
  bv p0 aK 0
noncomputable def bZ (p0 : List Int) : Option (Bool) :=
  (cG p0).bind fun a => U (decide (a ≥ 0))
noncomputable def lU (p0 : List Int) (p1 : Int) : Option (Bool) :=
  (if ((p0.length : Int) == p1) then (bZ p0).bind fun a => U (!a) else U n).bind fun c => U c
noncomputable def eV (p0 : List Int) : Nat → Int → Int → Option (Int)
  | 0, _, _ => N
  | k1 + 1, c, a =>
    if decide (a < (p0.length : Int)) then (idx p0 a).bind fun d => (eV p0 k1) (J.wrap (c + d)) (J.wrap (a + 1)) else U c
noncomputable def kC (p0 : List Int) : Option (Int) :=
  eV p0 aK 0 0
noncomputable def mh (p0 : aB) : Option (Int) :=
  if decide ((p0.z_.length : Int) > 0) then U (J.wrap ((p0.z_.length : Int) + 1)) else U (p0.I_.length : Int)
noncomputable def sW (p0 : Int) : Option (List Int) :=
  (mk (0 : Int) p0).bind fun a => U a
noncomputable def dp (e : List Int) (p0 : am) (p1 : aV) (R1 : Int → Option (Bool)) (f : Int) : Nat → Int → (List Int) → Option (Bool)
  | 0, _, _ => N
  | k2 + 1, a, c =>
    if decide (a < (e.length : Int)) then (idx e a).bind fun g => (rem a (p0.m_.length : Int)).bind fun d => (idx c d).bind fun h => (idx c d).bind fun _ => (rem a (p0.m_.length : Int)).bind fun i => (idx (c.set d.toNat (J.wrap (h + g))) i).bind fun j => (rem a (p0.m_.length : Int)).bind fun k => (idx p1.k_ k).bind fun l => if decide (j > l) then U n else (dp e p0 p1 R1 f k2) (J.wrap (a + 1)) (c.set d.toNat (J.wrap (h + g))) else R1 (J.wrap (f + 1))
noncomputable def de (p1 : aV) (p0 : am) : Nat → Int → Option (Bool)
  | 0, _ => N
  | k1 + 1, a =>
    if decide (a < (p1.h_.length : Int)) then (idx p1.h_ a).bind fun c => (idx p0.d_ a).bind fun d => (mh d).bind fun e => (lU c (J.wrap (e * (p0.m_.length : Int)))).bind fun f => if (!f) then U n else (sW (p0.m_.length : Int)).bind fun g => dp c p0 p1 (de p1 p0 k1) a aK 0 g else U y
noncomputable def oH (p0 : am) (p1 : aV) : Option (Bool) :=
  (fW p0).bind fun a => (if (!a) then U y else (lU p1.k_ (p0.m_.length : Int)).bind fun c => U (!c)).bind fun d => (if d then U y else (kC p1.k_).bind fun e => U (decide (e > 999))).bind fun f => if f then U n else if ((p1.h_.length : Int) == 0) then U y else if ((p1.h_.length : Int) != (p0.d_.length : Int)) then U n else de p1 p0 aK 0
noncomputable def nW (p0 : am) (p1 : List Int) : Option (Bool) :=
  (fW p0).bind fun a => (if (a && (decide ((p1.length : Int) > 0))) then (gc p1).bind fun c => U c else U n).bind fun d => (if d then (idx p1 0).bind fun e => U (decide (e ≥ 0)) else U n).bind fun f => (if f then (idx p1 (J.wrap ((p1.length : Int) - 1))).bind fun g => U (decide (g < (p0.d_.length : Int))) else U n).bind fun h => U h
noncomputable def pJ (p0 : am) (p1 : bC) : Option (Bool) :=
  (fW p0).bind fun d => (if (!d) then U y else (aZ p1.q_ 0 (J.wrap ((p0.d_.length : Int) - 1))).bind fun e => U (!e)).bind fun f => if f then U n else (idx p0.d_ p1.q_).bind fun a => (mh a).bind fun c => if decide ((a.z_.length : Int) > 0) then (aZ p1.u_ (-1) (J.wrap ((J.wrap (c - 1)) - 1))).bind fun g => U g else (aZ p1.u_ (-1) (J.wrap (c - 1))).bind fun h => U h
noncomputable def jK (p0 : am) (p1 : bC) : Option (Int) :=
  (pJ p0 p1).bind fun a => if (!a) then U 0 else if (p1.u_ == (-1)) then (idx p0.d_ p1.q_).bind fun c => (mh c).bind fun d => U d else U 2
noncomputable def my (p0 : Int) (p1 : Int) (p2 : ap) : Option (Bool) :=
  (aZ p0 (J.wrap (p1 + 1)) (J.wrap ((p2.b_.length : Int) - 1))).bind fun a => (if (!a) then U y else (idx p2.b_ p0).bind fun c => U (c.x_ != p1)).bind fun d => U d
noncomputable def bx (p0 : List Int) (p1_0 : Int) (p1_1 : ap) : Nat → Int → Option (Int)
  | 0, _ => N
  | k1 + 1, a =>
    if decide (a < (p0.length : Int)) then (idx p0 a).bind fun c => (my c p1_0 p1_1).bind fun d => if d then U a else (bx p0 p1_0 p1_1 k1) (J.wrap (a + 1)) else U (-1)
noncomputable def cM (p0 : List Int) (p1_0 : Int) (p1_1 : ap) : Option (Int) :=
  bx p0 p1_0 p1_1 aK 0
noncomputable def cb (p0 : List Int) (p1_0 : Int) (p1_1 : ap) : Option (Bool) :=
  (cM p0 p1_0 p1_1).bind fun a => U (decide (a ≥ 0))
noncomputable def ke (a : au) (c : Int) : Option (Bool) :=
  (if (((a.g_.q_ == 0 && (a.g_.u_ == 0 && y)) && ((a.r_.length : Int) == 0)) && (a.C_ == 0)) then (aZ a.D_ 0 c).bind fun d => U d else U n).bind fun e => U e
noncomputable def pz (p0 : am) (p1 : ap) (p2 : Int) : Option (Bool) :=
  (idx p1.b_ p2).bind fun a => (aZ a.f_ 0 6).bind fun h => (if (!h) then U y else (aZ a.B_ 0 p1.A_).bind fun i => U (!i)).bind fun j => (if j then U y else (oH p0 a.i_).bind fun k => U (!k)).bind fun l => (if l then U y else (nW p0 a.d_).bind fun m => U (!m)).bind fun o => if o then U n else if a.y_ then (kC a.i_.k_).bind fun p => if ((a.i_.h_.length : Int) == 0) then ke a 0 else ke a p else (jK p0 a.g_).bind fun c => (if ((c == 0) || ((a.r_.length : Int) != c)) then U y else (gc a.r_).bind fun d => U (!d)).bind fun q => (if q then U y else (aZ a.C_ 0 (J.wrap (c - 1))).bind fun e => U (!e)).bind fun f => if ((f || ((a.i_.h_.length : Int) != 0)) || (a.D_ != 0)) then U n else (cb a.r_ p2 p1).bind fun g => U (!g)
noncomputable def cH (p0 : List Int) (p1 : Int) : Nat → Int → Option (Int)
  | 0, _ => N
  | k1 + 1, a =>
    if decide (a < (p0.length : Int)) then (idx p0 a).bind fun c => if (p1 == c) then U a else (cH p0 p1 k1) (J.wrap (a + 1)) else U (-1)
noncomputable def fQ (p0 : List Int) (p1 : Int) : Option (Int) :=
  cH p0 p1 aK 0
noncomputable def dW (p0 : List Int) (p1 : Int) : Option (Bool) :=
  (fQ p0 p1).bind fun a => U (decide (a ≥ 0))
noncomputable def dT (p1 : ap) (p0 : am) : Nat → Int → Option (Bool)
  | 0, _ => N
  | k1 + 1, a =>
    if decide (a < (p1.b_.length : Int)) then (idx p1.b_ a).bind fun c => (pz p0 p1 a).bind fun e => if (!e) then U n else if (a == 0) then if (((c.x_ != (-1)) || (c.f_ != 0)) || (c.B_ != 0)) then U n else (dT p1 p0 k1) (J.wrap (a + 1)) else (aZ c.x_ 0 (J.wrap (a - 1))).bind fun f => if (!f) then U n else (idx p1.b_ c.x_).bind fun d => (if d.y_ then U y else (dW d.r_ a).bind fun g => U (!g)).bind fun h => if ((h || (d.f_ != (J.wrap (c.f_ - 1)))) || (decide (d.B_ > c.B_))) then U n else (dT p1 p0 k1) (J.wrap (a + 1)) else U y
noncomputable def pM (p0 : am) (p1 : ap) : Option (Bool) :=
  (fW p0).bind fun a => (if (!a) then U y else (aZ (p1.b_.length : Int) 1 31).bind fun c => U (!c)).bind fun d => (if d then U y else (aZ p1.A_ 0 99999).bind fun e => U (!e)).bind fun f => if f then U n else dT p1 p0 aK 0
noncomputable def ej (p0 : ap) : Nat → Int → Int → Option (Int)
  | 0, _, _ => N
  | k1 + 1, a, c =>
    if decide (a < (p0.b_.length : Int)) then (idx p0.b_ a).bind fun d => (ej p0 k1) (J.wrap (a + 1)) (if c < d.f_ then d.f_ else c) else U c
noncomputable def oR (p0 : ap) : Option (Int) :=
  if ((p0.b_.length : Int) == 0) then U 0 else (idx p0.b_ 0).bind fun a => ej p0 aK 0 a.f_
noncomputable def fC (p0 : au) : Nat → Int → Int → Option (Int)
  | 0, _, _ => N
  | k1 + 1, a, c =>
    if decide (a < (p0.i_.h_.length : Int)) then (idx p0.i_.h_ a).bind fun d => (fC p0 k1) (J.wrap (a + 1)) (J.wrap (c + (d.length : Int))) else U c
noncomputable def oE (p0 : au) : Option (Int) :=
  if (!p0.y_) then U 1 else fC p0 aK 0 2
noncomputable def gd (p0 : ap) : Nat → Int → Int → Option (Int)
  | 0, _, _ => N
  | k1 + 1, c, a =>
    if decide (a < (p0.b_.length : Int)) then (idx p0.b_ a).bind fun d => (oE d).bind fun e => (gd p0 k1) (J.wrap (c + e)) (J.wrap (a + 1)) else U c
noncomputable def lM (p0 : ap) : Option (Int) :=
  gd p0 aK 0 0
noncomputable def qE (p0 : am) (p1 : cO) (p2 : ap) : Option (Bool) :=
  (pM p0 p2).bind fun a => (if a then (nE p1).bind fun c => U c else U n).bind fun d => (if (d && (decide ((p2.b_.length : Int) ≤ p1.b_))) then (oR p2).bind fun e => U (decide (e ≤ p1.f_)) else U n).bind fun f => (if f then (lM p2).bind fun g => U (decide (g ≤ p1.G_)) else U n).bind fun h => U h
noncomputable def mQ (p0 : Int) (p1 : Int) : Option (Bool) :=
  (shl J 1 p1).bind fun x10 => (aZ p0 0 x10).bind fun a => U (!a)
noncomputable def bq (p0 : List Int) (p1_0 : Int) : Nat → Int → Option (Int)
  | 0, _ => N
  | k1 + 1, a =>
    if decide (a < (p0.length : Int)) then (idx p0 a).bind fun c => (mQ c p1_0).bind fun d => if d then U a else (bq p0 p1_0 k1) (J.wrap (a + 1)) else U (-1)
noncomputable def cC (p0 : List Int) (p1_0 : Int) : Option (Int) :=
  bq p0 p1_0 aK 0
noncomputable def bX (p0 : List Int) (p1_0 : Int) : Option (Bool) :=
  (cC p0 p1_0).bind fun a => U (decide (a ≥ 0))
noncomputable def dw (p0 : aA) : Nat → Int → Option (Bool)
  | 0, _ => N
  | k1 + 1, a =>
    if decide (a < (p0.o_.length : Int)) then (idx p0.o_ a).bind fun c => (aZ (c.length : Int) 1 3).bind fun d => (if (!d) then U y else (bX c a).bind fun e => U e).bind fun f => if f then U n else (dw p0 k1) (J.wrap (a + 1)) else U y
noncomputable def kU (p0 : aA) : Option (Bool) :=
  if decide ((p0.o_.length : Int) > 8) then U n else dw p0 aK 0
noncomputable def ra (p0 : cf) : Option (Bool) :=
  (kU p0.s_).bind fun a => (if a then (kU p0.t_).bind fun c => U c else U n).bind fun d => U d
noncomputable def dS (p0 : List Int) (p1 : List Int) : Nat → Int → Option (Bool)
  | 0, _ => N
  | k1 + 1, a =>
    if decide (a < (p0.length : Int)) then (idx p0 a).bind fun c => (idx p1 a).bind fun d => if (c != d) then U n else (dS p0 p1 k1) (J.wrap (a + 1)) else U y
noncomputable def dI (p0 : List Int) (p1 : List Int) : Option (Bool) :=
  if ((p0.length : Int) != (p1.length : Int)) then U n else dS p0 p1 aK 0
noncomputable def pc (p0 : List Int) (p1 : List Int) : Option (Bool) :=
  (dI p0 p1).bind fun a => U a
noncomputable def bm (p0 : List (List Int)) (p1 : List (List Int)) : Nat → Int → Option (Bool)
  | 0, _ => N
  | k1 + 1, a =>
    if decide (a < (p0.length : Int)) then (idx p0 a).bind fun c => (idx p1 a).bind fun d => (pc c d).bind fun e => if (!e) then U n else (bm p0 p1 k1) (J.wrap (a + 1)) else U y
noncomputable def cj (p0 : List (List Int)) (p1 : List (List Int)) : Option (Bool) :=
  if ((p0.length : Int) != (p1.length : Int)) then U n else bm p0 p1 aK 0
noncomputable def rg (p0 : List (List Int)) (p1 : List (List Int)) : Option (Bool) :=
  (cj p0 p1).bind fun a => U a
noncomputable def qU (p0 : aV) (p1 : aV) : Option (Bool) :=
  (dI p0.k_ p1.k_).bind fun a => (if a then (rg p0.h_ p1.h_).bind fun c => U c else U n).bind fun d => U d
noncomputable def rU (p0 : au) (p1 : au) : Option (Bool) :=
  (if ((p0.y_ == p1.y_) && (p0.g_.q_ == p1.g_.q_ && (p0.g_.u_ == p1.g_.u_ && y))) then (dI p0.r_ p1.r_).bind fun a => U a else U n).bind fun c => (if (c && (p0.C_ == p1.C_)) then (qU p0.i_ p1.i_).bind fun d => U d else U n).bind fun e => (if (e && (p0.D_ == p1.D_)) then (dI p0.d_ p1.d_).bind fun f => U f else U n).bind fun g => U (((g && (p0.f_ == p1.f_)) && (p0.x_ == p1.x_)) && (p0.B_ == p1.B_))
noncomputable def aN (p0 : List au) (p1 : List au) : Nat → Int → Option (Bool)
  | 0, _ => N
  | k1 + 1, a =>
    if decide (a < (p0.length : Int)) then (idx p0 a).bind fun c => (idx p1 a).bind fun d => (rU c d).bind fun e => if (!e) then U n else (aN p0 p1 k1) (J.wrap (a + 1)) else U y
noncomputable def bt (p0 : List au) (p1 : List au) : Option (Bool) :=
  if ((p0.length : Int) != (p1.length : Int)) then U n else aN p0 p1 aK 0
noncomputable def mG (p0 : ap) (p1 : ap) : Option (Bool) :=
  (if (p0.A_ == p1.A_) then (bt p0.b_ p1.b_).bind fun a => U a else U n).bind fun c => U c
noncomputable def mv (p0 : bi) (p1 : az) : Option (Bool) :=
  (nq p0).bind fun a => (if (!a) then U y else (qE p0.p_ p0.c_ p1.F_).bind fun c => U (!c)).bind fun d => (if d then U y else (ra p1.H_).bind fun e => U (!e)).bind fun f => if f then U n else if p1.S_ then (qE p0.p_ p0.c_ p1.w_).bind fun g => U g else (mG p1.w_ (ap.mk ([] : List au) 0)).bind fun h => U h
noncomputable def mY (p0 : az) (p1 : bi) : Option (Bool) :=
  (mv p1 p0).bind fun a => U (!a)
noncomputable def aS (p0 : List az) (p1_0 : bi) : Nat → Int → Option (Int)
  | 0, _ => N
  | k1 + 1, a =>
    if decide (a < (p0.length : Int)) then (idx p0 a).bind fun c => (mY c p1_0).bind fun d => if d then U a else (aS p0 p1_0 k1) (J.wrap (a + 1)) else U (-1)
noncomputable def bT (p0 : List az) (p1_0 : bi) : Option (Int) :=
  aS p0 p1_0 aK 0
noncomputable def br (p0 : List az) (p1_0 : bi) : Option (Bool) :=
  (bT p0 p1_0).bind fun a => U (decide (a ≥ 0))
noncomputable def mD (p0 : bi) (p1 : bP) : Option (Bool) :=
  (nq p0).bind fun a => (if (a && ((p1.j_.length : Int) == p0.j_)) then (br p1.j_ p0).bind fun c => U (!c) else U n).bind fun d => U d
noncomputable def ox (p0 : Int) : Option (Bool) :=
  (aZ p0 0 9999).bind fun a => U (!a)
noncomputable def ew (p0 : List (List Int)) : Nat → Int → Int → Option (Int)
  | 0, _, _ => N
  | k1 + 1, c, a =>
    if decide (a < (p0.length : Int)) then (idx p0 a).bind fun d => (kC d).bind fun e => (ew p0 k1) (J.wrap (c + e)) (J.wrap (a + 1)) else U c
noncomputable def mN (p0 : List (List Int)) : Option (Int) :=
  ew p0 aK 0 0
noncomputable def bw (p0 : List Int) : Nat → Int → Option (Int)
  | 0, _ => N
  | k1 + 1, a =>
    if decide (a < (p0.length : Int)) then (idx p0 a).bind fun c => (ox c).bind fun d => if d then U a else (bw p0 k1) (J.wrap (a + 1)) else U (-1)
noncomputable def cF (p0 : List Int) : Option (Int) :=
  bw p0 aK 0
noncomputable def bY (p0 : List Int) : Option (Bool) :=
  (cF p0).bind fun a => U (decide (a ≥ 0))
noncomputable def dt (p1 : bo) (p0 : Int) : Nat → Int → (List (aM × Int)) → Option (Bool)
  | 0, _, _ => N
  | k2 + 1, d, c =>
    if decide (d < (p1.l_.length : Int)) then (idx p1.l_ d).bind fun a => (aZ a.Q_ 0 (J.wrap (p0 - 1))).bind fun e => (if (!e) then U y else (aZ a.R_ 0 (J.wrap (p0 - 1))).bind fun f => U (!f)).bind fun g => (if g then U y else (idx p1.n_ a.Q_).bind fun h => (idx h a.R_).bind fun i => U (decide ((gr (vy c a (J.wrap ((gr c a) + 1))) a) > i))).bind fun j => if j then U n else (dt p1 p0 k2) (J.wrap (d + 1)) (vy c a (J.wrap ((gr c a) + 1))) else U y
noncomputable def dP (p1 : bo) (p0 : Int) : Nat → Int → Option (Bool)
  | 0, _ => N
  | k1 + 1, a =>
    if decide (a < (p1.n_.length : Int)) then (idx p1.n_ a).bind fun d => (if ((d.length : Int) != p0) then U y else (bY d).bind fun e => U e).bind fun f => if f then U n else (dP p1 p0 k1) (J.wrap (a + 1)) else (mN p1.n_).bind fun c => if ((decide (c > 9999)) || ((p1.l_.length : Int) != (if 20 < c then 20 else c))) then U n else dt p1 p0 aK 0 ([] : List (aM × Int))
noncomputable def om (p0 : Int) (p1 : bo) : Option (Bool) :=
  (aZ p0 2 3).bind fun a => if ((!a) || ((p1.n_.length : Int) != p0)) then U n else dP p1 p0 aK 0
noncomputable def mj (p0 : aP) : Option (Bool) :=
  (mD p0.a_ p0.J_).bind fun a => (if a then (om (p0.a_.p_.m_.length : Int) p0.v_).bind fun c => U c else U n).bind fun d => U d
noncomputable def pH (p0 : Int) : Option (List UInt8) :=
  (GU p0).bind fun a => U a
noncomputable def dk (p0 : List Int) (p1 : List UInt8) : Nat → Int → (List (List UInt8)) → Option (List UInt8)
  | 0, _, _ => N
  | k1 + 1, a, c =>
    if decide (a < (p0.length : Int)) then (idx p0 a).bind fun d => (pH d).bind fun e => (app c ([e] : List (List UInt8))).bind fun f => (dk p0 p1 k1) (J.wrap (a + 1)) f else (uD c p1).bind fun g => U g
noncomputable def ki (p0 : List Int) (p1 : List UInt8) : Option (List UInt8) :=
  dk p0 p1 aK 0 ([] : List (List UInt8))
noncomputable def lc (p0 : aB) : Option (List UInt8) :=
  (nx p0).bind fun a => if (!a) then U ([] : List UInt8) else if decide ((p0.z_.length : Int) > 0) then (lp p0.E_ ([58] : List UInt8)).bind fun c => (ki p0.z_ ([44] : List UInt8)).bind fun d => (lp c d).bind fun e => U e else (lp p0.E_ ([61] : List UInt8)).bind fun f => (uD p0.I_ ([44] : List UInt8)).bind fun g => (lp f g).bind fun h => U h
noncomputable def dG (p0 : am) : Nat → Int → (List (List UInt8)) → Option (List UInt8)
  | 0, _, _ => N
  | k1 + 1, a, c =>
    if decide (a < (p0.d_.length : Int)) then (idx p0.d_ a).bind fun j => (lc j).bind fun d => (app c ([d] : List (List UInt8))).bind fun e => (dG p0 k1) (J.wrap (a + 1)) e else (uD c ([59] : List UInt8)).bind fun f => (lp f ([124] : List UInt8)).bind fun g => (uD p0.m_ ([44] : List UInt8)).bind fun h => (lp g h).bind fun i => U i
noncomputable def kM (p0 : am) : Option (List UInt8) :=
  (fW p0).bind fun a => if (!a) then U ([] : List UInt8) else dG p0 aK 0 ([] : List (List UInt8))
noncomputable def gL  : Nat → Int → (List Int) → Option ((List Int) × Bool)
  | 0, _, _ => N
  | k1 + 1, a, c =>
    if decide (a ≥ 128) then (app c ([K.wrap (io .or J (io .and J a 127) 128)] : List Int)).bind fun d => (gL k1) (nO J a 7) d else (app c ([K.wrap a] : List Int)).bind fun e => U (e, n)
noncomputable def lR (p0 : Int) : Option ((List Int) × Bool) :=
  (aZ p0 0 2147483647).bind fun a => if (!a) then U (([] : List Int), y) else gL aK p0 ([] : List Int)
noncomputable def ot (p0 : List UInt8) : Option (List Int) :=
  (lR (p0.length : Int)).bind fun a => (vq p0).bind fun c => (app a.1 c).bind fun d => U d
noncomputable def qH (p0 : Bool) : Option (Int) :=
  if p0 then U 1 else U 0
noncomputable def qd (p0 : Int) : Option ((List Int) × Bool) :=
  (aZ p0 (-1000000000) 1000000000).bind fun d => if (!d) then U (([] : List Int), y) else if decide (p0 < 0) then (lR (J.wrap ((J.wrap ((-2) * p0)) - 1))).bind fun a => U (a.1, a.2) else (lR (J.wrap (2 * p0))).bind fun c => U (c.1, c.2)
noncomputable def ey (p1 : List Int) : Nat → (List Int) → Bool → Int → Option (bG)
  | 0, _, _, _ => N
  | k1 + 1, c, d, a =>
    if decide (a < (p1.length : Int)) then (idx p1 a).bind fun f => (qd f).bind fun e => (app c e.1).bind fun g => (ey p1 k1) g (d || e.2) (J.wrap (a + 1)) else U (bG.mk c d)
noncomputable def bM (p0 : bG) (p1 : List Int) : Option (bG) :=
  ey p1 aK p0.T_ p0.U_ 0
noncomputable def dr (p0 : bG) (p1 : List Int) : Option (bG) :=
  (bM p0 ([(p1.length : Int)] : List Int)).bind fun a => (bM a p1).bind fun c => U c
noncomputable def gi (a : au) (R1 : (List Int) → Bool → Int → Option (bG)) (d : Int) : Nat → (List Int) → Bool → Int → Option (bG)
  | 0, _, _, _ => N
  | k2 + 1, e, f, c =>
    if decide (c < (a.i_.h_.length : Int)) then (idx a.i_.h_ c).bind fun i => (dr (bG.mk e f) i).bind fun g => (gi a R1 d k2) g.T_ g.U_ (J.wrap (c + 1)) else (bM (bG.mk e f) ([a.D_] : List Int)).bind fun j => (dr j a.d_).bind fun k => (bM k ([a.f_, a.x_, a.B_] : List Int)).bind fun h => R1 h.T_ h.U_ (J.wrap (d + 1))
noncomputable def dl (p1 : ap) : Nat → (List Int) → Bool → Int → Option (bG)
  | 0, _, _, _ => N
  | k1 + 1, d, e, c =>
    if decide (c < (p1.b_.length : Int)) then (idx p1.b_ c).bind fun a => (qH a.y_).bind fun g => (bM (bG.mk d e) ([g, a.g_.q_, a.g_.u_] : List Int)).bind fun h => (dr h a.r_).bind fun i => (bM i ([a.C_] : List Int)).bind fun j => (dr j a.i_.k_).bind fun k => (bM k ([(a.i_.h_.length : Int)] : List Int)).bind fun f => gi a (dl p1 k1) c aK f.T_ f.U_ 0 else U (bG.mk d e)
noncomputable def iD (p0 : bG) (p1 : ap) : Option (bG) :=
  (bM p0 ([p1.A_, (p1.b_.length : Int)] : List Int)).bind fun a => dl p1 aK a.T_ a.U_ 0
noncomputable def fv (p1 : aA) : Nat → (List Int) → Bool → Int → Option (bG)
  | 0, _, _, _ => N
  | k1 + 1, c, d, a =>
    if decide (a < (p1.o_.length : Int)) then (idx p1.o_ a).bind fun f => (dr (bG.mk c d) f).bind fun e => (fv p1 k1) e.T_ e.U_ (J.wrap (a + 1)) else U (bG.mk c d)
noncomputable def gu (p0 : bG) (p1 : aA) : Option (bG) :=
  (bM p0 ([(p1.o_.length : Int)] : List Int)).bind fun a => fv p1 aK a.T_ a.U_ 0
noncomputable def jz (R1 : Int → Int → Option (Int)) (c : Int) : Nat → Int → Int → Option (Int)
  | 0, _, _ => N
  | k2 + 1, d, a =>
    if decide (d < 8) then if ((io .and J a 1) == 1) then (jz R1 c k2) (J.wrap (d + 1)) (io .xor J (nO J a 1) 3988292384) else (jz R1 c k2) (J.wrap (d + 1)) (nO J a 1) else R1 a (J.wrap (c + 1))
noncomputable def iw (p0 : List Int) : Nat → Int → Int → Option (Int)
  | 0, _, _ => N
  | k1 + 1, c, a =>
    if decide (a < (p0.length : Int)) then (idx p0 a).bind fun d => jz (iw p0 k1) a aK 0 (io .xor J c (J.wrap d)) else U (io .xor J c 4294967295)
noncomputable def wo (p0 : List Int) : Option (Int) :=
  iw p0 aK 4294967295 0
noncomputable def gC (p0 : List Int) : Option (List Int) :=
  (wo p0).bind fun a => U ([K.wrap (nO J a 24), K.wrap (nO J a 16), K.wrap (nO J a 8), K.wrap a] : List Int)
noncomputable def eO (p0 : aP) : Nat → Int → (List Int) → Bool → Option (List Int)
  | 0, _, _, _ => N
  | k3 + 1, a, c, f =>
    if decide (a < (p0.v_.l_.length : Int)) then (idx p0.v_.l_ a).bind fun d => (bM (bG.mk c f) ([d.Q_, d.R_] : List Int)).bind fun e => (eO p0 k3) (J.wrap (a + 1)) e.T_ e.U_ else (gC c).bind fun g => (app c g).bind fun h => U h
noncomputable def ec (p0 : aP) : Nat → Int → (List Int) → Bool → Option (List Int)
  | 0, _, _, _ => N
  | k2 + 1, a, c, d =>
    if decide (a < (p0.v_.n_.length : Int)) then (idx p0.v_.n_ a).bind fun g => (dr (bG.mk c d) g).bind fun e => (ec p0 k2) (J.wrap (a + 1)) e.T_ e.U_ else (bM (bG.mk c d) ([(p0.v_.l_.length : Int)] : List Int)).bind fun f => eO p0 aK 0 f.T_ f.U_
noncomputable def eS (p0 : aP) : Nat → (List Int) → Bool → Int → Option (List Int)
  | 0, _, _, _ => N
  | k1 + 1, d, e, c =>
    if decide (c < (p0.J_.j_.length : Int)) then (idx p0.J_.j_ c).bind fun a => (iD (bG.mk d e) a.F_).bind fun g => (qH a.S_).bind fun h => (bM g ([h] : List Int)).bind fun i => (iD i a.w_).bind fun j => (gu j a.H_.s_).bind fun k => (gu k a.H_.t_).bind fun f => (eS p0 k1) f.T_ f.U_ (J.wrap (c + 1)) else ec p0 aK 0 d e
noncomputable def ig (p0 : aP) : Option (List Int) :=
  (mj p0).bind fun d => if (!d) then U ([] : List Int) else (app ([83, 80, 78] : List Int) ([1] : List Int)).bind fun e => (kM p0.a_.p_).bind fun f => (ot f).bind fun g => (app e g).bind fun h => (qH p0.a_.c_.P_).bind fun i => (bM (bG.mk h n) ([p0.a_.c_.L_, p0.a_.c_.K_, p0.a_.c_.M_, p0.a_.c_.f_, p0.a_.c_.b_, p0.a_.c_.G_, i] : List Int)).bind fun c => (bM c ([p0.a_.j_, p0.a_.N_, p0.a_.O_, p0.a_.s_, p0.a_.t_] : List Int)).bind fun a => eS p0 aK a.T_ a.U_ 0
noncomputable def jk (p0 : List Int) (p1 : List Int) : Nat → Int → Option (Bool)
  | 0, _ => N
  | k1 + 1, a =>
    if decide (a < (p0.length : Int)) then (idx p0 a).bind fun c => (idx p1 a).bind fun d => if (c != d) then U n else (jk p0 p1 k1) (J.wrap (a + 1)) else U y
noncomputable def kl (p0 : List Int) (p1 : List Int) : Option (Bool) :=
  if ((p0.length : Int) != (p1.length : Int)) then U n else jk p0 p1 aK 0
noncomputable def jQ (p0 : List Int) (p1 : List Int) : Nat → Int → Option (Bool)
  | 0, _ => N
  | k1 + 1, a =>
    if decide (a < (p0.length : Int)) then (idx p0 a).bind fun c => (idx p1 a).bind fun d => if (c != d) then U n else (jQ p0 p1 k1) (J.wrap (a + 1)) else U y
noncomputable def iz (p0 : List Int) (p1 : List Int) : Option (Bool) :=
  if ((p0.length : Int) != (p1.length : Int)) then U n else jQ p0 p1 aK 0
noncomputable def gV (p0 : List (List UInt8)) (p1 : List (List UInt8)) : Nat → Int → Option (Bool)
  | 0, _ => N
  | k1 + 1, a =>
    if decide (a < (p0.length : Int)) then (idx p0 a).bind fun c => (idx p1 a).bind fun d => if (!(c == d)) then U n else (gV p0 p1 k1) (J.wrap (a + 1)) else U y
noncomputable def jN (p0 : List (List UInt8)) (p1 : List (List UInt8)) : Option (Bool) :=
  if ((p0.length : Int) != (p1.length : Int)) then U n else gV p0 p1 aK 0
noncomputable def nL (p0 : aB) (p1 : aB) : Option (Bool) :=
  if (!(p0.E_ == p1.E_)) then U n else (iz p0.z_ p1.z_).bind fun a => if (!a) then U n else (jN p0.I_ p1.I_).bind fun c => if (!c) then U n else U y
noncomputable def jl (p0 : List aB) (p1 : List aB) : Nat → Int → Option (Bool)
  | 0, _ => N
  | k1 + 1, a =>
    if decide (a < (p0.length : Int)) then (idx p0 a).bind fun d => (idx p1 a).bind fun e => (nL d e).bind fun c => if (!c) then U n else (jl p0 p1 k1) (J.wrap (a + 1)) else U y
noncomputable def nZ (p0 : List aB) (p1 : List aB) : Option (Bool) :=
  if ((p0.length : Int) != (p1.length : Int)) then U n else jl p0 p1 aK 0
noncomputable def mB (p0 : am) (p1 : am) : Option (Bool) :=
  (nZ p0.d_ p1.d_).bind fun a => if (!a) then U n else (jN p0.m_ p1.m_).bind fun c => if (!c) then U n else U y
noncomputable def pN (p0 : cO) (p1 : cO) : Option (Bool) :=
  if (p0.L_ != p1.L_) then U n else if (p0.K_ != p1.K_) then U n else if (p0.M_ != p1.M_) then U n else if (p0.f_ != p1.f_) then U n else if (p0.b_ != p1.b_) then U n else if (p0.G_ != p1.G_) then U n else if (p0.P_ != p1.P_) then U n else U y
noncomputable def pL (p0 : bi) (p1 : bi) : Option (Bool) :=
  (mB p0.p_ p1.p_).bind fun a => if (!a) then U n else (pN p0.c_ p1.c_).bind fun c => if (!c) then U n else if (p0.j_ != p1.j_) then U n else if (p0.N_ != p1.N_) then U n else if (p0.O_ != p1.O_) then U n else if (p0.s_ != p1.s_) then U n else if (p0.t_ != p1.t_) then U n else U y
noncomputable def pU (p0 : bC) (p1 : bC) : Option (Bool) :=
  if (p0.q_ != p1.q_) then U n else if (p0.u_ != p1.u_) then U n else U y
noncomputable def jm (p0 : List (List Int)) (p1 : List (List Int)) : Nat → Int → Option (Bool)
  | 0, _ => N
  | k1 + 1, a =>
    if decide (a < (p0.length : Int)) then (idx p0 a).bind fun c => (idx p1 a).bind fun d => (iz c d).bind fun e => if (!e) then U n else (jm p0 p1 k1) (J.wrap (a + 1)) else U y
noncomputable def ko (p0 : List (List Int)) (p1 : List (List Int)) : Option (Bool) :=
  if ((p0.length : Int) != (p1.length : Int)) then U n else jm p0 p1 aK 0
noncomputable def ow (p0 : aV) (p1 : aV) : Option (Bool) :=
  (iz p0.k_ p1.k_).bind fun a => if (!a) then U n else (ko p0.h_ p1.h_).bind fun c => if (!c) then U n else U y
noncomputable def nF (p0 : au) (p1 : au) : Option (Bool) :=
  if (p0.y_ != p1.y_) then U n else (pU p0.g_ p1.g_).bind fun a => if (!a) then U n else (iz p0.r_ p1.r_).bind fun c => if (!c) then U n else if (p0.C_ != p1.C_) then U n else (ow p0.i_ p1.i_).bind fun d => if (!d) then U n else if (p0.D_ != p1.D_) then U n else (iz p0.d_ p1.d_).bind fun e => if (!e) then U n else if (p0.f_ != p1.f_) then U n else if (p0.x_ != p1.x_) then U n else if (p0.B_ != p1.B_) then U n else U y
noncomputable def jh (p0 : List au) (p1 : List au) : Nat → Int → Option (Bool)
  | 0, _ => N
  | k1 + 1, a =>
    if decide (a < (p0.length : Int)) then (idx p0 a).bind fun c => (idx p1 a).bind fun d => (nF c d).bind fun e => if (!e) then U n else (jh p0 p1 k1) (J.wrap (a + 1)) else U y
noncomputable def oU (p0 : List au) (p1 : List au) : Option (Bool) :=
  if ((p0.length : Int) != (p1.length : Int)) then U n else jh p0 p1 aK 0
noncomputable def nu (p0 : ap) (p1 : ap) : Option (Bool) :=
  (oU p0.b_ p1.b_).bind fun a => if (!a) then U n else if (p0.A_ != p1.A_) then U n else U y
noncomputable def lf (p0 : aA) (p1 : aA) : Option (Bool) :=
  (ko p0.o_ p1.o_).bind fun a => if (!a) then U n else U y
noncomputable def rh (p0 : cf) (p1 : cf) : Option (Bool) :=
  (lf p0.s_ p1.s_).bind fun a => if (!a) then U n else (lf p0.t_ p1.t_).bind fun c => if (!c) then U n else U y
noncomputable def lg (p0 : az) (p1 : az) : Option (Bool) :=
  (nu p0.F_ p1.F_).bind fun a => if (!a) then U n else if (p0.S_ != p1.S_) then U n else (nu p0.w_ p1.w_).bind fun c => if (!c) then U n else (rh p0.H_ p1.H_).bind fun d => if (!d) then U n else U y
noncomputable def gZ (p0 : List az) (p1 : List az) : Nat → Int → Option (Bool)
  | 0, _ => N
  | k1 + 1, a =>
    if decide (a < (p0.length : Int)) then (idx p0 a).bind fun c => (idx p1 a).bind fun d => (lg c d).bind fun e => if (!e) then U n else (gZ p0 p1 k1) (J.wrap (a + 1)) else U y
noncomputable def lS (p0 : List az) (p1 : List az) : Option (Bool) :=
  if ((p0.length : Int) != (p1.length : Int)) then U n else gZ p0 p1 aK 0
noncomputable def mP (p0 : bP) (p1 : bP) : Option (Bool) :=
  (lS p0.j_ p1.j_).bind fun a => if (!a) then U n else U y
noncomputable def nK (p0 : aM) (p1 : aM) : Option (Bool) :=
  if (p0.Q_ != p1.Q_) then U n else if (p0.R_ != p1.R_) then U n else U y
noncomputable def jg (p0 : List aM) (p1 : List aM) : Nat → Int → Option (Bool)
  | 0, _ => N
  | k1 + 1, a =>
    if decide (a < (p0.length : Int)) then (idx p0 a).bind fun c => (idx p1 a).bind fun d => (nK c d).bind fun e => if (!e) then U n else (jg p0 p1 k1) (J.wrap (a + 1)) else U y
noncomputable def oa (p0 : List aM) (p1 : List aM) : Option (Bool) :=
  if ((p0.length : Int) != (p1.length : Int)) then U n else jg p0 p1 aK 0
noncomputable def nV (p0 : bo) (p1 : bo) : Option (Bool) :=
  (ko p0.n_ p1.n_).bind fun a => if (!a) then U n else (oa p0.l_ p1.l_).bind fun c => if (!c) then U n else U y
noncomputable def oS (p0 : aP) (p1 : aP) : Option (Bool) :=
  (pL p0.a_ p1.a_).bind fun a => if (!a) then U n else (mP p0.J_ p1.J_).bind fun c => if (!c) then U n else (nV p0.v_ p1.v_).bind fun d => if (!d) then U n else U y
noncomputable def fL  : Nat → Int → (List UInt8) → Option (List UInt8)
  | 0, _, _ => N
  | k1 + 1, a, c =>
    if decide (a > 0) then (lp (qz ([K.wrap (J.wrap (48 + (Int.tmod a 10)))] : List Int)) c).bind fun d => (fL k1) (J.wrap (Int.tdiv a 10)) d else (lp ([109] : List UInt8) c).bind fun e => U e
noncomputable def kZ (p0 : Int) : Option (List UInt8) :=
  if decide (p0 ≤ 0) then U ([109, 48] : List UInt8) else fL aK p0 ([] : List UInt8)
noncomputable def fK (p0 : List Int) : Nat → (List Int) → Int → Int → Option (Int × (List Int))
  | 0, _, _, _ => N
  | k1 + 1, c, d, a =>
    if decide (a < (p0.length : Int)) then (idx c a).bind fun _ => (fK p0 k1) (c.set a.toNat d) (J.wrap (d + 1)) (J.wrap (a + 1)) else U (d, c)
noncomputable def gE (p0 : List Int) (p1 : Int) : Option (Int × (List Int)) :=
  fK p0 aK p0 p1 0
noncomputable def eA (p0 : List (List UInt8)) : Nat → (List (List UInt8)) → Int → Int → Option (Int × (List (List UInt8)))
  | 0, _, _, _ => N
  | k1 + 1, c, d, a =>
    if decide (a < (p0.length : Int)) then (kZ d).bind fun e => (idx c a).bind fun _ => (eA p0 k1) (c.set a.toNat e) (J.wrap (d + 1)) (J.wrap (a + 1)) else U (d, c)
noncomputable def iF (p0 : List (List UInt8)) (p1 : Int) : Option (Int × (List (List UInt8))) :=
  eA p0 aK p0 p1 0
noncomputable def fp (p0 : List aB) : Nat → (List aB) → Int → Int → Option (Int × (List aB))
  | 0, _, _, _ => N
  | k1 + 1, c, d, a =>
    if decide (a < (p0.length : Int)) then (kZ d).bind fun h => (idx c a).bind fun g => (gE g.z_ (J.wrap (d + 1))).bind fun e => (iF g.I_ e.1).bind fun f => (fp p0 k1) (c.set a.toNat (aB.mk h e.2 f.2)) f.1 (J.wrap (a + 1)) else U (d, c)
noncomputable def lP (p0 : List aB) (p1 : Int) : Option (Int × (List aB)) :=
  fp p0 aK p0 p1 0
noncomputable def kD (p0 : am) (p1 : Int) : Option (Int × am) :=
  (lP p0.d_ p1).bind fun a => (iF p0.m_ a.1).bind fun c => U (c.1, (am.mk a.2 c.2))
noncomputable def jJ (p0 : bi) (p1 : Int) : Option (Int × bi) :=
  (kD p0.p_ p1).bind fun a => U (a.1, ({ p0 with p_ := a.2 }))
noncomputable def fu (p0 : List (List Int)) : Nat → (List (List Int)) → Int → Int → Option (Int × (List (List Int)))
  | 0, _, _, _ => N
  | k1 + 1, c, d, a =>
    if decide (a < (p0.length : Int)) then (idx c a).bind fun f => (gE f d).bind fun e => (fu p0 k1) (c.set a.toNat e.2) e.1 (J.wrap (a + 1)) else U (d, c)
noncomputable def gP (p0 : List (List Int)) (p1 : Int) : Option (Int × (List (List Int))) :=
  fu p0 aK p0 p1 0
noncomputable def fj (p0 : List au) : Nat → (List au) → Int → Int → Option (Int × (List au))
  | 0, _, _, _ => N
  | k1 + 1, h, d, g =>
    if decide (g < (p0.length : Int)) then (idx h g).bind fun c => (gE c.r_ (J.wrap ((J.wrap ((J.wrap (d + 1)) + 1)) + 1))).bind fun e => (gE c.i_.k_ (J.wrap (e.1 + 1))).bind fun i => (gP c.i_.h_ i.1).bind fun f => (gE c.d_ (J.wrap (f.1 + 1))).bind fun a => (fj p0 k1) (h.set g.toNat (au.mk ((Int.tmod d 3) == 0) (bC.mk (J.wrap (d + 1)) (J.wrap ((J.wrap (d + 1)) + 1))) e.2 e.1 (aV.mk i.2 f.2) f.1 a.2 a.1 (J.wrap (a.1 + 1)) (J.wrap ((J.wrap (a.1 + 1)) + 1)))) (J.wrap ((J.wrap ((J.wrap (a.1 + 1)) + 1)) + 1)) (J.wrap (g + 1)) else U (d, h)
noncomputable def jR (p0 : List au) (p1 : Int) : Option (Int × (List au)) :=
  fj p0 aK p0 p1 0
noncomputable def eB (p0 : List az) : Nat → (List az) → Int → Int → Option (Int × (List az))
  | 0, _, _, _ => N
  | k1 + 1, f, i, e =>
    if decide (e < (p0.length : Int)) then (idx f e).bind fun a => (jR a.F_.b_ i).bind fun c => (jR a.w_.b_ (J.wrap ((J.wrap (c.1 + 1)) + 1))).bind fun d => (gP a.H_.s_.o_ (J.wrap (d.1 + 1))).bind fun g => (gP a.H_.t_.o_ g.1).bind fun h => (eB p0 k1) (f.set e.toNat (az.mk (ap.mk c.2 c.1) ((Int.tmod (J.wrap (c.1 + 1)) 3) == 0) (ap.mk d.2 d.1) (cf.mk (aA.mk g.2) (aA.mk h.2)))) h.1 (J.wrap (e + 1)) else U (i, f)
noncomputable def kc (p0 : List az) (p1 : Int) : Option (Int × (List az)) :=
  eB p0 aK p0 p1 0
noncomputable def kQ (p0 : bP) (p1 : Int) : Option (Int × bP) :=
  (kc p0.j_ p1).bind fun a => U (a.1, (bP.mk a.2))
noncomputable def fq (p0 : List aM) : Nat → (List aM) → Int → Int → Option (Int × (List aM))
  | 0, _, _, _ => N
  | k1 + 1, d, a, c =>
    if decide (c < (p0.length : Int)) then (idx d c).bind fun _ => (fq p0 k1) (d.set c.toNat (aM.mk a (J.wrap (a + 1)))) (J.wrap ((J.wrap (a + 1)) + 1)) (J.wrap (c + 1)) else U (a, d)
noncomputable def lQ (p0 : List aM) (p1 : Int) : Option (Int × (List aM)) :=
  fq p0 aK p0 p1 0
noncomputable def lH (p0 : bo) (p1 : Int) : Option (Int × bo) :=
  (gP p0.n_ p1).bind fun a => (lQ p0.l_ a.1).bind fun c => U (c.1, (bo.mk a.2 c.2))
noncomputable def jX (p0 : aP) (p1 : Int) : Option (Int × aP) :=
  (jJ p0.a_ p1).bind fun a => (kQ p0.J_ a.1).bind fun c => (lH p0.v_ c.1).bind fun d => U (d.1, (aP.mk ({ p0.a_ with p_ := a.2.p_ }) c.2 d.2))
noncomputable def fk (p0 : List Int) : Nat → (List Int) → Int → Int → Option (Int × (List Int))
  | 0, _, _, _ => N
  | k1 + 1, c, d, a =>
    if decide (a < (p0.length : Int)) then (idx c a).bind fun _ => (fk p0 k1) (c.set a.toNat (K.wrap d)) (J.wrap (d + 1)) (J.wrap (a + 1)) else U (d, c)
noncomputable def jL (p0 : List Int) (p1 : Int) : Option (Int × (List Int)) :=
  fk p0 aK p0 p1 0
noncomputable def ft (p0 : List Int) : Nat → Int → Int → Option (Int)
  | 0, _, _ => N
  | k1 + 1, a, c =>
    if decide (c < (p0.length : Int)) then (idx p0 c).bind fun d => if (d != (K.wrap a)) then U (-1) else (ft p0 k1) (J.wrap (a + 1)) (J.wrap (c + 1)) else U a
noncomputable def iR (p0 : List Int) (p1 : Int) : Option (Int) :=
  ft p0 aK p1 0
noncomputable def iq (p0 : dz) : Option (Bool) :=
  (lY p0 1048576).bind fun r => if decide (r < 0) then U y else (jA p0).bind fun s => (ju s).bind fun d => (jA p0).bind fun e => (ig e).bind fun c => (kl c d).bind fun h => if (!h) then U n else (jA p0).bind fun i => (oS e i).bind fun j => if (!j) then U n else (jX e 1).bind fun k => (if decide (k.1 < 0) then U y else (kl c d).bind fun l => U (!l)).bind fun m => if m then U n else (jL c 1).bind fun a => (iR a.2 1).bind fun f => if decide (f < 0) then U n else if (f != a.1) then U n else (jA p0).bind fun o => (ig o).bind fun p => (kl p d).bind fun q => if (!q) then U n else (iR a.2 1).bind fun g => if decide (g < 0) then U n else if (g != a.1) then U n else U y
end Go.Vk
