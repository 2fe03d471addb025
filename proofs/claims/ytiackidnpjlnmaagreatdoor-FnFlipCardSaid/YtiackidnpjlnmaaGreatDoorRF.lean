/- The functions of the code, as functions of data. Printed by program. -/
import Derived.Test.YtiackidnpjlnmaaGreatDoorVkCu
import Derived.Test.YtiackidnpjlnmaaGreatDoorVkBs
import Derived.Test.YtiackidnpjlnmaaGreatDoorVkBr
namespace Go.Vk
open Value renaming int → I, slice → S, pointer → O, bool → B
open IntKind renaming i64 → J, u8 → K
open Bool renaming true → y, false → n
open Option renaming some → U, none → N
noncomputable section
theorem z {α:Sort _} {a:α}:a=a:=Eq.refl a
theorem Y:True:=True.intro
structure ak where
 i_:Int
 h_:Int
 deriving DecidableEq,Inhabited
structure aK where
 H_:List UInt8
 B_:List Int
 O_:List (List UInt8)
 deriving DecidableEq,Inhabited
structure ae where
 c_:List aK
 g_:List (List UInt8)
 deriving DecidableEq,Inhabited
structure bZ where
 U_:Int
 T_:Int
 V_:Int
 r_:Int
 a_:Int
 K_:Int
 R_:Bool
 deriving DecidableEq,Inhabited
structure bh where
 y_:ae
 k_:bZ
 u_:Int
 W_:Int
 Y_:Int
 w_:Int
 x_:Int
 deriving DecidableEq,Inhabited
structure bn where
 v_:List Int
 f_:Int
 deriving DecidableEq,Inhabited
structure aE where
 j_:List Int
 d_:List (List Int)
 deriving DecidableEq,Inhabited
structure aB where
 p_:Int
 f_:Int
 deriving DecidableEq,Inhabited
structure aA where
 A_:Bool
 n_:aB
 z_:List Int
 J_:Int
 o_:aE
 I_:Int
 c_:List Int
 r_:Int
 F_:Int
 E_:Int
 deriving DecidableEq,Inhabited
structure ao where
 a_:List aA
 m_:Int
 deriving DecidableEq,Inhabited
structure aw where
 e_:List (List Int)
 deriving DecidableEq,Inhabited
structure cW where
 w_:aw
 x_:aw
 deriving DecidableEq,Inhabited
structure aF where
 D_:ao
 Q_:Bool
 t_:ao
 C_:cW
 deriving DecidableEq,Inhabited
structure bA where
 u_:List aF
 deriving DecidableEq,Inhabited
structure bW where
 M_:List Int
 S_:Int
 deriving DecidableEq,Inhabited
structure bT where
 G_:Int
 X_:Int
 deriving DecidableEq,Inhabited
structure cg where
 n_:aB
 P_:bT
 deriving DecidableEq,Inhabited
structure cL where
 af_:Int
 ac_:Int
 deriving DecidableEq,Inhabited
structure dB where
 aa_:Int
 ae_:Int
 ag_:Int
 ai_:Int
 t_:Int
 C_:Int
 ah_:Bool
 aj_:Bool
 deriving DecidableEq,Inhabited
structure aS where
 Z_:Int
 aa_:Int
 deriving DecidableEq,Inhabited
structure bc where
 q_:List (List Int)
 s_:List aS
 deriving DecidableEq,Inhabited
structure aM where
 l_:bh
 ab_:bA
 N_:bc
 deriving DecidableEq,Inhabited
structure cZ where
 ad_:List Int
 L_:Bool
 deriving DecidableEq,Inhabited
structure aq where
 b_:Int
 L_:Bool
 deriving DecidableEq,Inhabited
def Hc (p0:List Int):Option Bool :=
 U (decide ((p0.length:Int)>1048576))
def oo (p0:List Int):Nat→Int→Int→Option ak
 | 0,_,_=>N
 | e+1,c,a =>
  if ((decide (a<(p0.length:Int)))&&(decide (a<4000))) then (idx p0 a).bind fun d=>(oo p0 e) (fv .and J (J.wrap ((J.wrap ((J.wrap (c*131))+(J.wrap d)))+7)) 1073741823) (J.wrap (a+1)) else U (ak.mk 0 c)
def yF (p0:List Int):Option ak :=
 oo p0 bb (J.wrap (26583+(p0.length:Int))) 0
def mz (p0b:List Int) (p0:ak):Option (Int×ak) :=
 if decide (p0.i_<(p0b.length:Int)) then (idx p0b p0.i_).bind fun a=>U (fv .and J (J.wrap ((fv .and J (fv .xor J (uJ J (J.wrap ((J.wrap (p0.h_*6364136223846793005))+1442695040888963407)) 33) (uJ J (J.wrap ((J.wrap (p0.h_*6364136223846793005))+1442695040888963407)) 45)) 255)+(J.wrap a))) 255,(ak.mk (J.wrap (p0.i_+1)) (J.wrap ((J.wrap (p0.h_*6364136223846793005))+1442695040888963407)))) else U (fv .and J (fv .xor J (uJ J (J.wrap ((J.wrap (p0.h_*6364136223846793005))+1442695040888963407)) 33) (uJ J (J.wrap ((J.wrap (p0.h_*6364136223846793005))+1442695040888963407)) 45)) 255,(ak.mk p0.i_ (J.wrap ((J.wrap (p0.h_*6364136223846793005))+1442695040888963407))))
def bz (p0b:List Int) (p0:ak) (p1:Int):Option (Int×ak) :=
 if decide (p1≤0) then U (0,p0) else if decide (p1≤256) then (mz p0b p0).bind fun a=>(rem a.1 p1).bind fun c=>U (c,a.2) else (mz p0b p0).bind fun a=>(mz p0b a.2).bind fun c=>(mz p0b c.2).bind fun d=>(mz p0b d.2).bind fun e=>(rem (J.wrap ((J.wrap ((J.wrap ((J.wrap (a.1*16777216))+(J.wrap (c.1*65536))))+(J.wrap (d.1*256))))+e.1)) p1).bind fun a=>U (a,e.2)
def fj (p0b:List Int) (p0:ak) (p1:Int):Option (Bool×ak) :=
 (bz p0b p0 p1).bind fun a=>U ((a.1==0),a.2)
def aZ (p0b:List Int) (p0:ak) (p1:List Int):Option (Int×ak) :=
 (bz p0b p0 (p1.length:Int)).bind fun a=>(idx p1 a.1).bind fun c=>U (c,a.2)
def du (c:Int×ak) (p0b:List Int) (d:List UInt8):Nat→Int→Int→(List Int)→Int→Int→Option (aK×ak)
 | 0,_,_,_,_,_=>N
 | k+1,e,f,g,h,i =>
  if decide (i<(J.wrap (1+c.1))) then (app g ([h]:List Int)).bind fun j=>(bz p0b (ak.mk e f) 6).bind fun a=>(du c p0b d k) a.2.i_ a.2.h_ j (J.wrap ((J.wrap (h+1))+a.1)) (J.wrap (i+1)) else U ((aK.mk d g ([]:List (List UInt8))),(ak.mk e f))
def dw (c:Int×ak) (e:List UInt8):Nat→Int→(List (List UInt8))→Option (aK×ak)
 | 0,_,_=>N
 | g+1,a,d =>
  if decide (a<(J.wrap (2+c.1))) then (idx ([([114,101,100]:List UInt8),([98,108,117,101]:List UInt8),([120]:List UInt8),([103,114,101,101,110]:List UInt8)]:List (List UInt8)) a).bind fun f=>(app d ([f]:List (List UInt8))).bind fun f=>(dw c e g) (J.wrap (a+1)) f else U ((aK.mk e ([]:List Int) d),c.2)
def jS (p0b:List Int) (p0:ak) (p1:Int):Option (aK×ak) :=
 (idx ([([97,103,101]:List UInt8),([115,105,122,101]:List UInt8),([99,111,108,111,117,114]:List UInt8),([107]:List UInt8),([108,111,110,103,110,97,109,101]:List UInt8)]:List (List UInt8)) (Int.tmod p1 5)).bind fun d=>(fj p0b p0 2).bind fun a=>if a.1 then (bz p0b a.2 3).bind fun e=>(aZ p0b e.2 ([(-9999),(-7),0,3,20]:List Int)).bind fun c=>du e p0b d bb c.2.i_ c.2.h_ ([]:List Int) c.1 0 else (bz p0b a.2 3).bind fun a=>dw a d bb 0 ([]:List (List UInt8))
def jC (d:Int×ak) (p0b:List Int) (e:List (List UInt8)):Nat→Int→Int→(List aK)→Int→Option (ae×ak)
 | 0,_,_,_,_=>N
 | j+1,f,g,h,c =>
  if decide (c<(J.wrap (1+d.1))) then (jS p0b (ak.mk f g) c).bind fun a=>(app h [a.1]).bind fun i=>(jC d p0b e j) a.2.i_ a.2.h_ i (J.wrap (c+1)) else U ((ae.mk h e),(ak.mk f g))
def mi (p0b:List Int) (a:Int) (c:Int) (d:List (List UInt8)):Option (ae×ak) :=
 (bz p0b (ak.mk a c) 5).bind fun a=>jC a p0b d bb a.2.i_ a.2.h_ ([]:List aK) 0
def rY (p0b:List Int) (p0:ak):Option (ae×ak) :=
 (fj p0b p0 3).bind fun a=>if a.1 then (app ([([110,111]:List UInt8),([121,101,115]:List UInt8)]:List (List UInt8)) ([([112,101,114,104,97,112,115]:List UInt8)]:List (List UInt8))).bind fun c=>mi p0b a.2.i_ a.2.h_ c else mi p0b a.2.i_ a.2.h_ ([([110,111]:List UInt8),([121,101,115]:List UInt8)]:List (List UInt8))
def li (p0b:List Int) (p0:ak):Option (bZ×ak) :=
 (aZ p0b p0 ([1,1,2,3,9]:List Int)).bind fun a=>(aZ p0b a.2 ([0,50,200,500,999]:List Int)).bind fun c=>(aZ p0b c.2 ([1,4,10,25,200]:List Int)).bind fun d=>(aZ p0b d.2 ([0,1,2,4,6,6]:List Int)).bind fun e=>(aZ p0b e.2 ([1,3,7,15,31,31]:List Int)).bind fun f=>(aZ p0b f.2 ([62,63,80,100,150,2000]:List Int)).bind fun g=>(fj p0b g.2 2).bind fun h=>U ((bZ.mk a.1 c.1 d.1 e.1 f.1 g.1 h.1),h.2)
def mb (p0b:List Int) (d:ae×ak) (a:bZ×ak) (c:Int) (e:Int) (i:Int) (j:Int) (k:Int) (l:Int):Option (bh×ak) :=
 (bz p0b (ak.mk c e) 3).bind fun e=>(bz p0b e.2 (d.1.c_.length:Int)).bind fun f=>(aZ p0b f.2 ([1,6,6]:List Int)).bind fun g=>(bz p0b g.2 2).bind fun c=>(bz p0b c.2 3).bind fun h=>U ((bh.mk d.1 (bZ.mk i a.1.T_ j k l a.1.K_ a.1.R_) (J.wrap (1+e.1)) (J.wrap (1+f.1)) g.1 (J.wrap (1+c.1)) (J.wrap ((J.wrap (1+c.1))+h.1))),h.2)
def rT (p0b:List Int) (p0:ak):Option (bh×ak) :=
 (rY p0b p0).bind fun e=>(li p0b e.2).bind fun a=>(fj p0b a.2 2).bind fun c=>if c.1 then (aZ p0b c.2 ([4,10]:List Int)).bind fun d=>mb p0b e a d.2.i_ d.2.h_ 1 d.1 6 31 else mb p0b e a c.2.i_ c.2.h_ a.1.U_ a.1.V_ a.1.r_ a.1.a_
def iL (p1:Int) (p0b:List Int):Nat→Int→Int→(List Int)→Int→Option ((List Int)×ak)
 | 0,_,_,_,_=>N
 | h+1,c,d,e,f =>
  if decide (f<p1) then (mz p0b (ak.mk c d)).bind fun a=>(app e ([K.wrap a.1]:List Int)).bind fun g=>(iL p1 p0b h) a.2.i_ a.2.h_ g (J.wrap (f+1)) else U (e,(ak.mk c d))
def lr (p0b:List Int) (p0:ak) (p1:Int):Option ((List Int)×ak) :=
 iL p1 p0b bb p0.i_ p0.h_ ([]:List Int) 0
def cT (p0:bn):Option bn :=
 (app ([]:List Int) p0.v_).bind fun a=>U (bn.mk a p0.f_)
def aV (p0:Int) (p1:Int) (p2:Int):Option Bool :=
 U ((decide (p0≥p1))&&(decide (p0≤p2)))
def pw (p0:List UInt8):Nat→Int→Option Bool
 | 0,_=>N
 | d+1,a =>
  if decide (a<(p0.length:Int)) then (idx p0 a).bind fun c=>(if decide ((c.toNat:Int)<97) then U y else (idx p0 a).bind fun c=>U (decide ((c.toNat:Int)>122))).bind fun c=>if c then U n else (pw p0 d) (J.wrap (a+1)) else U y
def uA (p0:List UInt8):Option Bool :=
 (aV (p0.length:Int) 1 8).bind fun a=>if (!a) then U n else pw p0 bb 0
def kO (a:Int) (p0:List (List UInt8)) (d:Int→Option Bool):Nat→Int→Option Bool
 | 0,_=>N
 | g+1,c =>
  if decide (c<a) then (idx p0 a).bind fun e=>(idx p0 c).bind fun f=>if (e==f) then U n else (kO a p0 d g) (J.wrap (c+1)) else d (J.wrap (a+1))
def ir (p0:List (List UInt8)):Nat→Int→Option Bool
 | 0,_=>N
 | d+1,a =>
  if decide (a<(p0.length:Int)) then (idx p0 a).bind fun c=>(uA c).bind fun c=>if (!c) then U n else kO a p0 (ir p0 d) bb 0 else U y
def sw (p0:List (List UInt8)):Option Bool :=
 ir p0 bb 0
def mZ (p0:aK):Nat→Int→Option Bool
 | 0,_=>N
 | e+1,a =>
  if decide (a<(p0.B_.length:Int)) then (idx p0.B_ a).bind fun c=>(aV c (-9999) 9998).bind fun c=>(if (!c) then U y else (if decide (a>0) then (idx p0.B_ a).bind fun c=>(idx p0.B_ (J.wrap (a-1))).bind fun d=>U (decide (c≤d)) else U n).bind fun c=>U c).bind fun c=>if c then U n else (mZ p0 e) (J.wrap (a+1)) else U y
def nL (p0:aK):Option Bool :=
 (uA p0.H_).bind fun a=>if (!a) then U n else if ((p0.B_.length:Int)==0) then (aV (p0.O_.length:Int) 2 4).bind fun a=>(if a then (sw p0.O_).bind fun a=>U a else U n).bind fun u21=>U u21 else if ((decide ((p0.O_.length:Int)>0))||(decide ((p0.B_.length:Int)>3))) then U n else mZ p0 bb 0
def jI (a:Int) (p0:ae) (f:Int→Option Bool):Nat→Int→Option Bool
 | 0,_=>N
 | g+1,c =>
  if decide (c<a) then (idx p0.c_ a).bind fun d=>(idx p0.c_ c).bind fun e=>if (d.H_==e.H_) then U n else (jI a p0 f g) (J.wrap (c+1)) else f (J.wrap (a+1))
def fK (p0:ae):Nat→Int→Option Bool
 | 0,_=>N
 | d+1,a =>
  if decide (a<(p0.c_.length:Int)) then (idx p0.c_ a).bind fun c=>(nL c).bind fun c=>if (!c) then U n else jI a p0 (fK p0 d) bb 0 else U y
def fG (p0:ae):Option Bool :=
 (aV (p0.c_.length:Int) 1 5).bind fun a=>(if (!a) then U y else (aV (p0.g_.length:Int) 2 3).bind fun a=>U (!a)).bind fun u19=>(if u19 then U y else (sw p0.g_).bind fun a=>U (!a)).bind fun a=>if a then U n else fK p0 bb 0
def oQ (p0:bZ):Option Bool :=
 (aV p0.U_ 1 9).bind fun a=>(if a then (aV p0.T_ 0 999).bind fun a=>U a else U n).bind fun u13=>(if u13 then (aV p0.V_ 1 200).bind fun a=>U a else U n).bind fun u18=>(if u18 then (aV p0.r_ 0 6).bind fun a=>U a else U n).bind fun a=>(if a then (aV p0.a_ 1 31).bind fun a=>U a else U n).bind fun a=>(if a then (aV p0.K_ 62 2000).bind fun a=>U a else U n).bind fun a=>U a
def kN (p0:Int):Option (List Int) :=
 if (p0==1) then U ([24109,48218,60273,64291,65296,65497,65530]:List Int) else if (p0==6) then U ([162,1137,4061,9909,18681,29208,39734]:List Int) else U ([]:List Int)
def pt (p0:bh):Option Bool :=
 (fG p0.y_).bind fun a=>(if a then (oQ p0.k_).bind fun a=>U a else U n).bind fun u19=>(if u19 then (aV p0.u_ 1 4).bind fun a=>U a else U n).bind fun a=>(if a then (aV p0.W_ 1 (p0.y_.c_.length:Int)).bind fun a=>U a else U n).bind fun a=>(if a then (kN p0.Y_).bind fun a=>U (decide ((a.length:Int)>0)) else U n).bind fun a=>(if a then (aV p0.w_ 1 9).bind fun a=>U a else U n).bind fun a=>(if a then (aV p0.x_ 1 9).bind fun a=>U a else U n).bind fun a=>U (a&&(decide (p0.w_≤p0.x_)))
def lE (c:List Int) (h:(List Int)→Int→Option Int) (d:Int):Nat→(List Int)→Int→Option Int
 | 0,_,_=>N
 | i+1,e,a =>
  if decide (a<(c.length:Int)) then (idx c (J.wrap (a-1))).bind fun f=>(idx c a).bind fun g=>(app e ([J.wrap (f+g)]:List Int)).bind fun f=>(lE c h d i) f (J.wrap (a+1)) else (app e ([1]:List Int)).bind fun a=>h a (J.wrap (d+1))
def ep (p0:Int) (p1:Int):Nat→(List Int)→Int→Option Int
 | 0,_,_=>N
 | d+1,c,a =>
  if decide (a<p0) then lE c (ep p0 p1 d) a bb ([1]:List Int) 1 else (idx c p1).bind fun a=>U a
def oy (p0:Int) (p1:Int):Option Int :=
 (aV p0 0 20).bind fun a=>(if (!a) then U y else (aV p1 0 p0).bind fun a=>U (!a)).bind fun u12=>if u12 then U 0 else ep p0 p1 bb ([1]:List Int) 0
def pg (p0:bn):Option Bool :=
 (if decide ((p0.v_.length:Int)≤600) then (aV p0.f_ 0 (p0.v_.length:Int)).bind fun a=>U a else U n).bind fun u14=>U u14
def xO (p0:bn):Option Int :=
 (pg p0).bind fun a=>if (!a) then U 0 else U (J.wrap ((p0.v_.length:Int)-p0.f_))
def xU (p0:bn):Option (bn×Int×Bool) :=
 (cT p0).bind fun a=>(xO p0).bind fun c=>if decide (c<2) then U (a,0,n) else (idx p0.v_ p0.f_).bind fun c=>(idx p0.v_ (J.wrap (p0.f_+1))).bind fun d=>U ((bn.mk a.v_ (J.wrap (p0.f_+2))),J.wrap ((J.wrap ((J.wrap c)*256))+(J.wrap d)),y)
def wA (p0:bn) (p1:Int):Option (bn×Int×Bool) :=
 (xU p0).bind fun a=>(if (!a.2.2) then U y else (aV p1 1 65536).bind fun c=>U (!c)).bind fun c=>if c then (cT p0).bind fun c=>U (c,0,n) else (rem a.2.1 p1).bind fun c=>U (a.1,c,y)
def jY (p1:Int) (p0:Int):Nat→Int→(List Int)→Int→Option (List Int)
 | 0,_,_,_=>N
 | f+1,d,a,c =>
  if decide ((a.length:Int)<p1) then (oy (J.wrap ((J.wrap (p0-c))-1)) (J.wrap ((J.wrap (p1-(a.length:Int)))-1))).bind fun e=>if decide (d<e) then (app a ([c]:List Int)).bind fun g=>(jY p1 p0 f) d g (J.wrap (c+1)) else (jY p1 p0 f) (J.wrap (d-e)) a (J.wrap (c+1)) else U a
def oh (p0:Int) (p1:Int) (p2:Int):Option (List Int) :=
 (oy p0 p1).bind fun a=>(aV p2 0 (J.wrap (a-1))).bind fun a=>if (!a) then U ([]:List Int) else jY p1 p0 bb p2 ([]:List Int) 0
def nY (p0:bn) (p1:Int) (p2:Int):Option (bn×(List Int)×Bool) :=
 (oy p1 p2).bind fun a=>(wA p0 a).bind fun a=>if (!a.2.2) then (cT p0).bind fun c=>U (c,([]:List Int),n) else (oh p1 p2 a.2.1).bind fun c=>U (a.1,c,y)
def nV (p1:List Int) (p0:ae):Nat→Int→Option Bool
 | 0,_=>N
 | e+1,a =>
  if decide (a<(p1.length:Int)) then (idx p1 a).bind fun c=>(aV c 0 (J.wrap ((p0.c_.length:Int)-1))).bind fun c=>(if (!c) then U y else (if decide (a>0) then (idx p1 a).bind fun c=>(idx p1 (J.wrap (a-1))).bind fun d=>U (decide (c≤d)) else U n).bind fun c=>U c).bind fun c=>if c then U n else (nV p1 p0 e) (J.wrap (a+1)) else U y
def lf (p0:ae) (p1:List Int):Option Bool :=
 (fG p0).bind fun a=>if ((!a)||((p1.length:Int)==0)) then U n else nV p1 p0 bb 0
def kb (p0:aK):Option Int :=
 (nL p0).bind fun a=>if (!a) then U 0 else if decide ((p0.B_.length:Int)>0) then U (J.wrap ((p0.B_.length:Int)+1)) else U (p0.O_.length:Int)
def lx (p0:ae) (c:List Int):Nat→(List (List Int))→Int→Option aE
 | 0,_,_=>N
 | f+1,d,a =>
  if decide (a<(p0.c_.length:Int)) then (idx p0.c_ a).bind fun e=>(kb e).bind fun e=>(mk (0:Int) (J.wrap (e*(p0.g_.length:Int)))).bind fun e=>(app d [e]).bind fun e=>(lx p0 c f) e (J.wrap (a+1)) else U (aE.mk c d)
def ls (p0:ae):Option aE :=
 (fG p0).bind fun a=>if (!a) then U (aE.mk ([]:List Int) ([]:List (List Int))) else (mk (0:Int) (p0.g_.length:Int)).bind fun a=>lx p0 a bb ([]:List (List Int)) 0
def nP (p0:ae) (p1:List Int):Option ao :=
 (lf p0 p1).bind fun a=>if (!a) then U (ao.mk ([]:List aA) 0) else (ls p0).bind fun a=>(app ([]:List Int) p1).bind fun c=>U (ao.mk [(aA.mk y (aB.mk 0 0) ([]:List Int) 0 a 0 c 0 (-1) 0)] 0)
def pO (p0:bh) (p1:bn):Option (ao×bn×Bool) :=
 (nY p1 (p0.y_.c_.length:Int) p0.W_).bind fun a=>if (!a.2.2) then (cT p1).bind fun c=>U ((ao.mk ([]:List aA) 0),c,n) else (nP p0.y_ a.2.1).bind fun c=>U (c,a.1,y)
def pk (p0:bh) (p1:bn):Option (aF×bn×Bool) :=
 (pt p0).bind fun a=>if (!a) then (cT p1).bind fun a=>U ((aF.mk (ao.mk ([]:List aA) 0) n (ao.mk ([]:List aA) 0) (cW.mk (aw.mk ([]:List (List Int))) (aw.mk ([]:List (List Int))))),a,n) else (pO p0 p1).bind fun a=>if (!a.2.2) then (cT p1).bind fun c=>U ((aF.mk (ao.mk ([]:List aA) 0) n (ao.mk ([]:List aA) 0) (cW.mk (aw.mk ([]:List (List Int))) (aw.mk ([]:List (List Int))))),c,n) else U ((aF.mk a.1 n (ao.mk ([]:List aA) 0) (cW.mk (aw.mk ([]:List (List Int))) (aw.mk ([]:List (List Int))))),a.2.1,y)
def gV (p0:bh) (p1:bn):Nat→(List aF)→(List Int)→Int→Int→Option (bA×bn×Bool)
 | 0,_,_,_,_=>N
 | h+1,c,d,e,f =>
  if decide (f<p0.u_) then (pk p0 (bn.mk d e)).bind fun a=>if (!a.2.2) then (cT p1).bind fun g=>U ((bA.mk ([]:List aF)),g,n) else (app c [a.1]).bind fun g=>(gV p0 p1 h) g a.2.1.v_ a.2.1.f_ (J.wrap (f+1)) else U ((bA.mk c),(bn.mk d e),y)
def sF (p0:bh) (p1:bn):Option (bA×bn×Bool) :=
 (cT p1).bind fun a=>(pt p0).bind fun c=>if (!c) then U ((bA.mk ([]:List aF)),a,n) else gV p0 p1 bb ([]:List aF) a.v_ a.f_ 0
def mj (e:List Int) (g:Int→Int→(List Int)→Int→Option (bW×ak)) (f:Int) (a:Int) (c:Int) (d:Int):Option (bW×ak) :=
 (app e ([d]:List Int)).bind fun d=>g a c d (J.wrap (f+1))
def fB (p1:ae) (p0b:List Int):Nat→Int→Int→(List Int)→Int→Option (bW×ak)
 | 0,_,_,_,_=>N
 | h+1,f,g,c,d =>
  if decide (d<(p1.c_.length:Int)) then (idx p1.c_ d).bind fun a=>(kb a).bind fun a=>(bz p0b (ak.mk f g) a).bind fun e=>(fj p0b e.2 9).bind fun a=>if a.1 then mj c (fB p1 p0b h) d a.2.i_ a.2.h_ (-1) else mj c (fB p1 p0b h) d a.2.i_ a.2.h_ e.1 else (bz p0b (ak.mk f g) (p1.g_.length:Int)).bind fun d=>(if decide ((c.length:Int)>0) then (fj p0b d.2 5).bind fun a=>U ((!a.1),a.2.i_,a.2.h_) else U (n,d.2.i_,d.2.h_)).bind fun a=>if (a.1&&(decide ((p1.g_.length:Int)>0))) then (idx c 0).bind fun e=>(rem (J.wrap (e+1)) (p1.g_.length:Int)).bind fun e=>U ((bW.mk c e),(ak.mk a.2.1 a.2.2)) else U ((bW.mk c d.1),(ak.mk a.2.1 a.2.2))
def pZ (p0b:List Int) (p0:ak) (p1:ae):Option (bW×ak) :=
 fB p1 p0b bb p0.i_ p0.h_ ([]:List Int) 0
def oZ (p0b:List Int) (p0:ak) (p1:bh) (p2:Int) (p3:Int):Option (bW×ak) :=
 (pZ p0b p0 p1.y_).bind fun a=>if decide (p2≥p3) then (rem (J.wrap (a.1.S_+1)) (p1.y_.g_.length:Int)).bind fun c=>U ((bW.mk a.1.M_ c),a.2) else U (a.1,a.2)
def eT (d:Int) (p1:aE) (e:Int) (p0:ae) (a:Int) (i:Int→Option Bool):Nat→Int→Int→Option Bool
 | 0,_,_=>N
 | j+1,f,c =>
  if decide (c<d) then (idx p1.d_ e).bind fun g=>(idx g (J.wrap ((J.wrap (c*(p0.g_.length:Int)))+a))).bind fun g=>(aV g 0 999).bind fun h=>if (!h) then U n else (eT d p1 e p0 a i j) (J.wrap (f+g)) (J.wrap (c+1)) else (idx p1.j_ a).bind fun c=>if decide (f>c) then U n else i (J.wrap (a+1))
def cG (p0:ae) (c:Int) (p1:aE) (a:Int) (e:Int→Option Bool):Nat→Int→Option Bool
 | 0,_=>N
 | f+1,d =>
  if decide (d<(p0.g_.length:Int)) then eT c p1 a p0 d (cG p0 c p1 a e f) bb 0 0 else e (J.wrap (a+1))
def ee (p1:aE) (p0:ae):Nat→Int→Option Bool
 | 0,_=>N
 | e+1,a =>
  if decide (a<(p1.d_.length:Int)) then (idx p0.c_ a).bind fun c=>(kb c).bind fun c=>(idx p1.d_ a).bind fun d=>if ((d.length:Int) != (J.wrap (c*(p0.g_.length:Int)))) then U n else cG p0 c p1 a (ee p1 p0 e) bb 0 else U y
def gA (p1:aE) (p0:ae):Nat→Int→Int→Option Bool
 | 0,_,_=>N
 | e+1,c,a =>
  if decide (a<(p1.j_.length:Int)) then (idx p1.j_ a).bind fun d=>(aV d 0 999).bind fun d=>if (!d) then U n else (idx p1.j_ a).bind fun d=>(gA p1 p0 e) (J.wrap (c+d)) (J.wrap (a+1)) else if decide (c>999) then U n else if ((p1.d_.length:Int)==0) then U y else if ((p1.d_.length:Int) != (p0.c_.length:Int)) then U n else ee p1 p0 bb 0
def il (p0:ae) (p1:aE):Option Bool :=
 (fG p0).bind fun a=>if ((!a)||((p1.j_.length:Int) != (p0.g_.length:Int))) then U n else gA p1 p0 bb 0 0
def lP (p1:aE):Nat→Int→Int→Option Int
 | 0,_,_=>N
 | e+1,c,a =>
  if decide (a<(p1.j_.length:Int)) then (idx p1.j_ a).bind fun d=>(lP p1 e) (J.wrap (c+d)) (J.wrap (a+1)) else U c
def fu (p0:ae) (p1:aE):Option Int :=
 (il p0 p1).bind fun a=>if (!a) then U 0 else lP p1 bb 0 0
def pS (p0:ae) (p1:aA):Option Bool :=
 (if (((!(p1.n_.p_==0&&(p1.n_.f_==0&&y)))||(decide ((p1.z_.length:Int)>0)))||(p1.J_ != 0)) then U y else (il p0 p1.o_).bind fun a=>U (!a)).bind fun a=>(if a then U y else (lf p0 p1.c_).bind fun a=>U (!a)).bind fun a=>if a then U n else if ((p1.o_.d_.length:Int)==0) then U (p1.I_==0) else (fu p0 p1.o_).bind fun a=>(aV p1.I_ 0 a).bind fun a=>U a
def kG (p0:ae) (p1:aB):Option Bool :=
 (fG p0).bind fun a=>(if (!a) then U y else (aV p1.p_ 0 (J.wrap ((p0.c_.length:Int)-1))).bind fun a=>U (!a)).bind fun u20=>if u20 then U n else (idx p0.c_ p1.p_).bind fun a=>if decide ((a.B_.length:Int)>0) then (idx p0.c_ p1.p_).bind fun a=>(kb a).bind fun a=>(aV p1.f_ (-1) (J.wrap (a-2))).bind fun a=>U a else (idx p0.c_ p1.p_).bind fun a=>(kb a).bind fun a=>(aV p1.f_ (-1) (J.wrap (a-1))).bind fun a=>U a
def fH (p0:ae) (p1:aB):Option Int :=
 (kG p0 p1).bind fun a=>if (!a) then U 0 else if (p1.f_==(-1)) then (idx p0.c_ p1.p_).bind fun a=>(kb a).bind fun a=>U a else U 2
def nh (c:aA) (p2:Int) (p1:ao):Nat→Int→Option Bool
 | 0,_=>N
 | f+1,a =>
  if decide (a<(c.z_.length:Int)) then (idx c.z_ a).bind fun d=>(aV d (J.wrap (p2+1)) (J.wrap ((p1.a_.length:Int)-1))).bind fun d=>(if (!d) then U y else (idx c.z_ a).bind fun d=>(idx p1.a_ d).bind fun d=>U (d.F_ != p2)).bind fun d=>(if d then U y else (if decide (a>0) then (idx c.z_ a).bind fun d=>(idx c.z_ (J.wrap (a-1))).bind fun e=>U (decide (d≤e)) else U n).bind fun d=>U d).bind fun d=>if d then U n else (nh c p2 p1 f) (J.wrap (a+1)) else U y
def og (p0:ae) (p1:ao) (p2:Int):Option Bool :=
 (idx p1.a_ p2).bind fun a=>(kG p0 a.n_).bind fun c=>(if (!c) then U y else (fH p0 a.n_).bind fun c=>U ((a.z_.length:Int) != c)).bind fun c=>(if c then U y else (aV a.J_ 0 (J.wrap ((a.z_.length:Int)-1))).bind fun c=>U (!c)).bind fun c=>(if c then U y else (il p0 a.o_).bind fun c=>U (!c)).bind fun c=>(if ((c||(decide ((a.o_.d_.length:Int)>0)))||(a.I_ != 0)) then U y else (lf p0 a.c_).bind fun c=>U (!c)).bind fun c=>if c then U n else nh a p2 p1 bb 0
def ex (p0:List Int) (p1:Int):Nat→Int→Option Bool
 | 0,_=>N
 | d+1,a =>
  if decide (a<(p0.length:Int)) then (idx p0 a).bind fun c=>if (c==p1) then U y else (ex p0 p1 d) (J.wrap (a+1)) else U n
def tI (p0:List Int) (p1:Int):Option Bool :=
 ex p0 p1 bb 0
def gk (p1:ao) (p0:ae):Nat→Int→Option Bool
 | 0,_=>N
 | f+1,c =>
  if decide (c<(p1.a_.length:Int)) then (idx p1.a_ c).bind fun a=>(aV a.r_ 0 6).bind fun d=>(if (!d) then U y else (aV a.E_ 0 p1.m_).bind fun d=>U (!d)).bind fun d=>if d then U n else (if a.A_ then (pS p0 ({a with A_:=y})).bind fun d=>U (!d) else U n).bind fun d=>(if d then U y else (if (!a.A_) then (og p0 p1 c).bind fun d=>U (!d) else U n).bind fun d=>U d).bind fun d=>if d then U n else if (c==0) then if (((a.F_ != (-1))||(a.r_ != 0))||(a.E_ != 0)) then U n else (gk p1 p0 f) (J.wrap (c+1)) else (aV a.F_ 0 (J.wrap (c-1))).bind fun d=>if (!d) then U n else (idx p1.a_ a.F_).bind fun d=>(if d.A_ then U y else (tI d.z_ c).bind fun e=>U (!e)).bind fun e=>if ((e||((J.wrap (d.r_+1)) != a.r_))||(decide (d.E_>a.E_))) then U n else (gk p1 p0 f) (J.wrap (c+1)) else U y
def nF (p0:ae) (p1:ao):Option Bool :=
 (fG p0).bind fun a=>(if (!a) then U y else (aV (p1.a_.length:Int) 1 31).bind fun a=>U (!a)).bind fun a=>(if a then U y else (aV p1.m_ 0 99999).bind fun a=>U (!a)).bind fun a=>if a then U n else gk p1 p0 bb 0
def ew (p0:ao):Nat→Int→Int→Option Int
 | 0,_,_=>N
 | e+1,c,a =>
  if decide (a<(p0.a_.length:Int)) then (if (a==0) then U y else (idx p0.a_ a).bind fun d=>U (decide (d.r_>c))).bind fun d=>if d then (idx p0.a_ a).bind fun d=>(ew p0 e) d.r_ (J.wrap (a+1)) else (ew p0 e) c (J.wrap (a+1)) else U c
def qe (p0:ao):Option Int :=
 ew p0 bb 0 0
def ju (p0:aA):Nat→Int→Int→Option Int
 | 0,_,_=>N
 | e+1,c,a =>
  if decide (a<(p0.o_.d_.length:Int)) then (idx p0.o_.d_ a).bind fun d=>(ju p0 e) (J.wrap (c+(d.length:Int))) (J.wrap (a+1)) else U c
def pX (p0:aA):Option Int :=
 if (!p0.A_) then U 1 else ju p0 bb 2 0
def gR (p0:ao):Nat→Int→Int→Option Int
 | 0,_,_=>N
 | e+1,c,a =>
  if decide (a<(p0.a_.length:Int)) then (idx p0.a_ a).bind fun d=>(pX d).bind fun d=>(gR p0 e) (J.wrap (c+d)) (J.wrap (a+1)) else U c
def lH (p0:ao):Option Int :=
 gR p0 bb 0 0
def rj (p0:ae) (p1:bZ) (p2:ao):Option Bool :=
 (nF p0 p2).bind fun a=>(if a then (oQ p1).bind fun a=>U a else U n).bind fun a=>(if (a&&(decide ((p2.a_.length:Int)≤p1.a_))) then (qe p2).bind fun a=>U (decide (a≤p1.r_)) else U n).bind fun a=>(if a then (lH p2).bind fun a=>U (decide (a≤p1.K_)) else U n).bind fun a=>U a
def ly (p0:Int):Nat→Int→Int→Option Int
 | 0,_,_=>N
 | d+1,a,c =>
  if decide (c<p0) then (ly p0 d) (J.wrap (a*2)) (J.wrap (c+1)) else U a
def mI (p0:Int):Option Int :=
 ly p0 bb 1 0
def lC (p0:aw) (a:Int) (f:Int→Option Bool):Nat→Int→Option Bool
 | 0,_=>N
 | g+1,c =>
  (idx p0.e_ a).bind fun d=>if decide (c<(d.length:Int)) then (idx p0.e_ a).bind fun d=>(idx d c).bind fun d=>(mI a).bind fun e=>(aV d 0 e).bind fun d=>if (!d) then U n else (lC p0 a f g) (J.wrap (c+1)) else f (J.wrap (a+1))
def eb (p0:aw):Nat→Int→Option Bool
 | 0,_=>N
 | d+1,a =>
  if decide (a<(p0.e_.length:Int)) then (idx p0.e_ a).bind fun c=>(aV (c.length:Int) 1 3).bind fun c=>if (!c) then U n else lC p0 a (eb p0 d) bb 0 else U y
def lj (p0:aw):Option Bool :=
 if decide ((p0.e_.length:Int)>8) then U n else eb p0 bb 0
def zc (p0:cW):Option Bool :=
 (lj p0.w_).bind fun a=>(if a then (lj p0.x_).bind fun a=>U a else U n).bind fun u19=>U u19
def qG (p0:bh) (p1:aF):Option Bool :=
 (pt p0).bind fun a=>(if (!a) then U y else (rj p0.y_ p0.k_ p1.D_).bind fun a=>U (!a)).bind fun a=>(if a then U y else (zc p1.C_).bind fun a=>U (!a)).bind fun a=>if a then U n else if p1.Q_ then (rj p0.y_ p0.k_ p1.t_).bind fun a=>U a else U (((p1.t_.a_.length:Int)==0)&&(p1.t_.m_==0))
def nw (p1:bA) (p0:bh):Nat→Int→Option Bool
 | 0,_=>N
 | d+1,a =>
  if decide (a<(p1.u_.length:Int)) then (idx p1.u_ a).bind fun c=>(qG p0 c).bind fun c=>if (!c) then U n else (nw p1 p0 d) (J.wrap (a+1)) else U y
def qB (p0:bh) (p1:bA):Option Bool :=
 (pt p0).bind fun a=>if ((!a)||((p1.u_.length:Int) != p0.u_)) then U n else nw p1 p0 bb 0
def pK (p1:bW) (p0:ae):Nat→Int→Option Bool
 | 0,_=>N
 | e+1,a =>
  if decide (a<(p1.M_.length:Int)) then (idx p1.M_ a).bind fun c=>(idx p0.c_ a).bind fun d=>(kb d).bind fun d=>(aV c (-1) (J.wrap (d-1))).bind fun c=>if (!c) then U n else (pK p1 p0 e) (J.wrap (a+1)) else U y
def ro (p0:ae) (p1:bW):Option Bool :=
 (fG p0).bind fun a=>(if ((!a)||((p1.M_.length:Int) != (p0.c_.length:Int))) then U y else (aV p1.S_ (-1) (J.wrap ((p0.g_.length:Int)-1))).bind fun a=>U (!a)).bind fun a=>if a then U n else pK p1 p0 bb 0
def nr (p0:aE) (c:List Int):Nat→(List (List Int))→Int→Option aE
 | 0,_,_=>N
 | f+1,d,a =>
  if decide (a<(p0.d_.length:Int)) then (idx p0.d_ a).bind fun e=>(app ([]:List Int) e).bind fun e=>(app d [e]).bind fun e=>(nr p0 c f) e (J.wrap (a+1)) else U (aE.mk c d)
def ux (p0:aE):Option aE :=
 (app ([]:List Int) p0.j_).bind fun a=>nr p0 a bb ([]:List (List Int)) 0
def nx (p0:aA):Option aA :=
 (app ([]:List Int) p0.z_).bind fun a=>(app ([]:List Int) p0.c_).bind fun c=>(ux p0.o_).bind fun d=>U ({p0 with z_:=a,o_:=d,c_:=c})
def me (p0:ao):Nat→(List aA)→Int→Option ao
 | 0,_,_=>N
 | e+1,c,a =>
  if decide (a<(p0.a_.length:Int)) then (idx p0.a_ a).bind fun d=>(nx d).bind fun d=>(app c [d]).bind fun d=>(me p0 e) d (J.wrap (a+1)) else U (ao.mk c p0.m_)
def jf (p0:ao):Option ao :=
 me p0 bb ([]:List aA) 0
def mn (p0:aw):Nat→(List (List Int))→Int→Option aw
 | 0,_,_=>N
 | e+1,c,a =>
  if decide (a<(p0.e_.length:Int)) then (idx p0.e_ a).bind fun d=>(app ([]:List Int) d).bind fun d=>(app c [d]).bind fun d=>(mn p0 e) d (J.wrap (a+1)) else U (aw.mk c)
def lb (p0:aw):Option aw :=
 mn p0 bb ([]:List (List Int)) 0
def sI (p0:cW):Option cW :=
 (lb p0.w_).bind fun a=>(lb p0.x_).bind fun c=>U (cW.mk a c)
def jk (p0:aF):Option aF :=
 (jf p0.D_).bind fun a=>(jf p0.t_).bind fun c=>(sI p0.C_).bind fun d=>U (aF.mk a p0.Q_ c d)
def mr (p0:bA):Nat→(List aF)→Int→Option bA
 | 0,_,_=>N
 | e+1,c,a =>
  if decide (a<(p0.u_.length:Int)) then (idx p0.u_ a).bind fun d=>(jk d).bind fun d=>(app c [d]).bind fun d=>(mr p0 e) d (J.wrap (a+1)) else U (bA.mk c)
def sn (p0:bA):Option bA :=
 mr p0 bb ([]:List aF) 0
def gQ (p0:Bool):Option Int :=
 if p0 then U 1 else U 0
def qD (p0:ae) (p1:aB) (p2:Int):Option Int :=
 (kG p0 p1).bind fun a=>(if (!a) then U y else (idx p0.c_ p1.p_).bind fun a=>(kb a).bind fun a=>(aV p2 0 (J.wrap (a-1))).bind fun a=>U (!a)).bind fun u20=>if u20 then U (-1) else if (p1.f_==(-1)) then U p2 else (idx p0.c_ p1.p_).bind fun a=>if decide ((a.B_.length:Int)>0) then (gQ (decide (p2>p1.f_))).bind fun a=>U a else (gQ (p2 != p1.f_)).bind fun a=>U a
def mh (p1:ao) (p2:bW) (p0:ae):Nat→(List Int)→Int→Option (List Int)
 | 0,_,_=>N
 | g+1,e,c =>
  (idx p1.a_ c).bind fun a=>if (!a.A_) then (app e ([c]:List Int)).bind fun d=>(idx p1.a_ c).bind fun a=>(idx p2.M_ a.n_.p_).bind fun f=>if decide (f≥0) then (idx p2.M_ a.n_.p_).bind fun f=>(qD p0 a.n_ f).bind fun f=>(idx a.z_ f).bind fun f=>(mh p1 p2 p0 g) d f else (idx a.z_ a.J_).bind fun a=>(mh p1 p2 p0 g) d a else (app e ([c]:List Int)).bind fun a=>U a
def yt (p0:ae) (p1:ao) (p2:bW):Option (List Int) :=
 mh p1 p2 p0 bb ([]:List Int) 0
def ui (p0:ae) (p1:ao) (p2:bW):Option (List Int) :=
 (nF p0 p1).bind fun a=>(if (!a) then U y else (ro p0 p2).bind fun a=>U (!a)).bind fun a=>if a then U ([]:List Int) else (yt p0 p1 p2).bind fun a=>U a
def lv (d:List Int) (p1:ao) (p0:ae):Nat→Int→Option (List Int)
 | 0,_=>N
 | f+1,a =>
  if decide (a≥0) then (idx d a).bind fun c=>(idx p1.a_ c).bind fun c=>(fu p0 c.o_).bind fun e=>if decide (e>0) then (app ([]:List Int) c.o_.j_).bind fun c=>U c else (lv d p1 p0 f) (J.wrap (a-1)) else (mk (0:Int) (p0.g_.length:Int)).bind fun a=>U a
def xD (p0:ae) (p1:ao) (p2:bW):Option (List Int) :=
 (ui p0 p1 p2).bind fun a=>if ((a.length:Int)==0) then U ([]:List Int) else lv a p1 p0 bb (J.wrap ((a.length:Int)-1))
def mJ (p0:List Int):Nat→Int→Int→Option Int
 | 0,_,_=>N
 | d+1,c,a =>
  if decide (a<(p0.length:Int)) then (if decide (c<0) then U y else (idx p0 a).bind fun e=>(idx p0 c).bind fun f=>U (decide (e>f))).bind fun e=>if e then (mJ p0 d) a (J.wrap (a+1)) else (mJ p0 d) c (J.wrap (a+1)) else U c
def tf (p0:List Int):Option Int :=
 mJ p0 bb (-1) 0
def tL (p0:ae) (p1:ao) (p2:bW):Option Int :=
 (xD p0 p1 p2).bind fun a=>(tf a).bind fun a=>U a
def gE (a:List Int) (p1:Int):Nat→Int→Int→Option Int
 | 0,_,_=>N
 | e+1,d,c =>
  if decide (c<(a.length:Int)) then (idx a c).bind fun f=>if decide (f≤p1) then (gE a p1 e) (J.wrap (d+1)) (J.wrap (c+1)) else (gE a p1 e) d (J.wrap (c+1)) else U d
def tG (p0:Int) (p1:Int):Option Int :=
 (kN p0).bind fun a=>(if ((a.length:Int)==0) then U y else (aV p1 0 65535).bind fun c=>U (!c)).bind fun u19=>if u19 then U (-1) else gE a p1 bb 0 0
def vF (p0:ae) (p1:ao) (p2:bW):Option Int :=
 (ui p0 p1 p2).bind fun a=>if ((a.length:Int)==0) then U (-1) else (idx a (J.wrap ((a.length:Int)-1))).bind fun a=>U a
def ke (e:aE) (p2:bW) (p0:ae) (p3:Int) (g:Int):Nat→(List (List Int))→Int→Option (aE×Bool)
 | 0,_,_=>N
 | i+1,f,a =>
  if decide (a<(e.d_.length:Int)) then (idx p2.M_ a).bind fun c=>if decide (c≥0) then (idx p2.M_ a).bind fun c=>(idx f a).bind fun d=>(idx d (J.wrap ((J.wrap (c*(p0.g_.length:Int)))+p2.S_))).bind fun h=>(idx d (J.wrap ((J.wrap (c*(p0.g_.length:Int)))+p2.S_))).bind fun _=>(ke e p2 p0 p3 g i) (f.set a.toNat (d.set (J.wrap ((J.wrap (c*(p0.g_.length:Int)))+p2.S_)).toNat (J.wrap (h+p3)))) (J.wrap (a+1)) else (ke e p2 p0 p3 g i) f (J.wrap (a+1)) else U ((aE.mk (e.j_.set p2.S_.toNat (J.wrap (g+p3))) f),y)
def mN (p0:ae) (p1:aE) (p2:bW) (p3:Int):Option (aE×Bool) :=
 (ux p1).bind fun a=>(il p0 p1).bind fun c=>(if (!c) then U y else (ro p0 p2).bind fun c=>U (!c)).bind fun c=>(if (c||(decide (p2.S_<0))) then U y else (aV p3 1 7).bind fun c=>U (!c)).bind fun c=>(if c then U y else (fu p0 p1).bind fun c=>U (decide ((J.wrap (c+p3))>999))).bind fun c=>if c then U (a,n) else (idx a.j_ p2.S_).bind fun c=>(idx a.j_ p2.S_).bind fun _=>ke a p2 p0 p3 c bb a.d_ 0
def fm (p1:List Int) (c:Int) (p0:ae) (f:(List aB)→Int→Option (List aB)):Nat→(List aB)→Int→Option (List aB)
 | 0,_,_=>N
 | h+1,d,a =>
  if decide (a<4) then (idx p1 c).bind fun e=>(kG p0 (aB.mk e a)).bind fun g=>if g then (app d ([(aB.mk e a)]:List aB)).bind fun e=>(fm p1 c p0 f h) e (J.wrap (a+1)) else (fm p1 c p0 f h) d (J.wrap (a+1)) else f d (J.wrap (c+1))
def fq (p1:List Int) (p0:ae) (p2:Bool):Nat→(List aB)→Int→Option (List aB)
 | 0,_,_=>N
 | e+1,c,a =>
  if decide (a<(p1.length:Int)) then (idx p1 a).bind fun d=>(idx p0.c_ d).bind fun d=>if (((d.B_.length:Int)==0)&&(!p2)) then (idx p1 a).bind fun d=>(app c ([(aB.mk d (-1))]:List aB)).bind fun d=>(fq p1 p0 p2 e) d (J.wrap (a+1)) else fm p1 a p0 (fq p1 p0 p2 e) bb c 0 else U c
def qI (p0:ae) (p1:List Int) (p2:Bool):Option (List aB) :=
 (lf p0 p1).bind fun a=>if (!a) then U ([]:List aB) else fq p1 p0 p2 bb ([]:List aB) 0
def fh (e:List Int) (p1:aE) (p2:aB) (d:Int) (p0:ae) (h:Int→(List Int)→Option (List Int)):Nat→Int→(List Int)→Option (List Int)
 | 0,_,_=>N
 | i+1,a,c =>
  if decide (a<(e.length:Int)) then (idx c a).bind fun f=>(idx p1.d_ p2.p_).bind fun g=>(idx g (J.wrap ((J.wrap (d*(p0.g_.length:Int)))+a))).bind fun g=>(idx c a).bind fun _=>(fh e p1 p2 d p0 h i) (J.wrap (a+1)) (c.set a.toNat (J.wrap (f+g))) else h (J.wrap (d+1)) c
def dJ (p0:ae) (p2:aB) (p3:Int) (d:List Int) (p1:aE):Nat→Int→(List Int)→Option (List Int)
 | 0,_,_=>N
 | f+1,a,c =>
  (idx p0.c_ p2.p_).bind fun e=>(kb e).bind fun e=>if decide (a<e) then (qD p0 p2 a).bind fun e=>if (e==p3) then fh d p1 p2 a p0 (dJ p0 p2 p3 d p1 f) bb 0 c else (dJ p0 p2 p3 d p1 f) (J.wrap (a+1)) c else U c
def mv (p0:ae) (p1:aE) (p2:aB) (p3:Int):Option (List Int) :=
 (il p0 p1).bind fun a=>(if ((!a)||((p1.d_.length:Int)==0)) then U y else (kG p0 p2).bind fun a=>U (!a)).bind fun a=>(if a then U y else (fH p0 p2).bind fun a=>(aV p3 0 (J.wrap (a-1))).bind fun a=>U (!a)).bind fun a=>if a then U ([]:List Int) else (mk (0:Int) (p0.g_.length:Int)).bind fun a=>dJ p0 p2 p3 a p1 bb 0 a
def nj (p0:List Int):Nat→Int→Int→Option Int
 | 0,_,_=>N
 | e+1,c,a =>
  if decide (a<(p0.length:Int)) then (idx p0 a).bind fun d=>(nj p0 e) (J.wrap (c+d)) (J.wrap (a+1)) else U c
def nH (p0:List Int):Option Int :=
 nj p0 bb 0 0
def mc (p0:List Int):Nat→Int→Int→Option Int
 | 0,_,_=>N
 | f+1,c,a =>
  if decide (a<(p0.length:Int)) then (idx p0 a).bind fun d=>(aV d 0 999).bind fun d=>if (!d) then U (-1) else (idx p0 a).bind fun d=>(idx p0 a).bind fun e=>(mc p0 f) (J.wrap (c+(J.wrap (d*e)))) (J.wrap (a+1)) else U c
def su (p0:List Int):Option Int :=
 if decide ((p0.length:Int)>3) then U (-1) else mc p0 bb 0 0
def mD (p0:bT):Option Bool :=
 (aV p0.G_ 0 4000000000000000).bind fun a=>(if a then (aV p0.X_ 1 4000000000000000).bind fun a=>U a else U n).bind fun u13=>U u13
def oY  : Nat→Int→Int→Option Int
 | 0,_,_=>N
 | e+1,c,a =>
  if decide (a>0) then (rem c a).bind fun d=>(oY e) a d else U c
def Di (p0:Int) (p1:Int):Option Int :=
 if ((decide (p0<0))||(decide (p1<0))) then U (-1) else oY bb p0 p1
def vm (p0:bT):Option bT :=
 (mD p0).bind fun a=>if (!a) then U (bT.mk 0 0) else (Di p0.G_ p0.X_).bind fun a=>(quo J p0.G_ a).bind fun c=>(quo J p0.X_ a).bind fun a=>U (bT.mk c a)
def ll (a:List Int) (e:List Int) (f:List Int) (h:Int→(List Int)→(List Int)→(List Int)→Option bT) (g:Int):Nat→Int→(List Int)→Option bT
 | 0,_,_=>N
 | k+1,c,d =>
  if decide (c<(a.length:Int)) then (idx d c).bind fun i=>(idx a c).bind fun j=>(idx d c).bind fun _=>(ll a e f h g k) (J.wrap (c+1)) (d.set c.toNat (J.wrap (i+j))) else (nH a).bind fun c=>if decide (c>0) then (nH a).bind fun c=>(app e ([c]:List Int)).bind fun c=>(su a).bind fun a=>(app f ([a]:List Int)).bind fun a=>h (J.wrap (g+1)) d c a else h (J.wrap (g+1)) d e f
def oe (e:List Int) (f:List Int) (a:Int) (c:Int) (g:List Int):Nat→Int→Int→Option bT
 | 0,_,_=>N
 | k+1,h,d =>
  if decide (d<(e.length:Int)) then (idx f d).bind fun i=>(idx e d).bind fun j=>(quo J a j).bind fun j=>(oe e f a c g k) (J.wrap (h+(J.wrap ((J.wrap (i*c))*j)))) (J.wrap (d+1)) else (su g).bind fun d=>(vm (bT.mk (J.wrap (h-(J.wrap (d*a)))) (J.wrap ((J.wrap (c*c))*a)))).bind fun a=>U a
def ou (a:List Int) (d:List Int) (e:Int) (f:List Int):Nat→Int→Int→Option bT
 | 0,_,_=>N
 | i+1,g,c =>
  if decide (c<(a.length:Int)) then (idx a c).bind fun h=>(ou a d e f i) (J.wrap (g*h)) (J.wrap (c+1)) else oe a d g e f bb 0 0
def ja (p0:ae) (p2:aB) (p1:aE):Nat→Int→(List Int)→(List Int)→(List Int)→Option bT
 | 0,_,_,_,_=>N
 | g+1,a,c,d,e =>
  (fH p0 p2).bind fun f=>if decide (a<f) then (mv p0 p1 p2 a).bind fun f=>ll f d e (ja p0 p2 p1 g) a bb 0 c else (nH c).bind fun a=>if (a==0) then U (bT.mk 0 1) else ou d e a c bb 1 0
def vX (p0:ae) (p1:aE) (p2:aB):Option bT :=
 (il p0 p1).bind fun a=>(if ((!a)||((p1.d_.length:Int)==0)) then U y else (kG p0 p2).bind fun a=>U (!a)).bind fun a=>if a then U (bT.mk 0 0) else (mk (0:Int) (p0.g_.length:Int)).bind fun a=>ja p0 p2 p1 bb 0 a ([]:List Int) ([]:List Int)
def ol  : Nat→Int→(List Int)→Option ((List Int)×Bool)
 | 0,_,_=>N
 | e+1,a,c =>
  if decide (a>0) then (app c ([Int.tmod a 16777216]:List Int)).bind fun d=>(ol e) (J.wrap (Int.tdiv a 16777216)) d else U (c,y)
def wd (p0:Int):Option ((List Int)×Bool) :=
 if decide (p0<0) then U (([]:List Int),n) else ol bb p0 ([]:List Int)
def lm (p0:List Int):Nat→Int→Option Bool
 | 0,_=>N
 | d+1,a =>
  if decide (a<(p0.length:Int)) then (idx p0 a).bind fun c=>(aV c 0 16777215).bind fun c=>if (!c) then U n else (lm p0 d) (J.wrap (a+1)) else (if ((p0.length:Int)==0) then U y else (idx p0 (J.wrap ((p0.length:Int)-1))).bind fun a=>U (a != 0)).bind fun a=>U a
def nN (p0:List Int):Option Bool :=
 if decide ((p0.length:Int)>16) then U n else lm p0 bb 0
def nk (p0:List Int):Nat→Int→Option (List Int)
 | 0,_=>N
 | d+1,a =>
  (if decide (a>0) then (idx p0 (J.wrap (a-1))).bind fun c=>U (c==0) else U n).bind fun c=>if c then (nk p0 d) (J.wrap (a-1)) else (sub p0 0 a).bind fun a=>(app ([]:List Int) a).bind fun a=>U a
def ug (p0:List Int):Option (List Int) :=
 nk p0 bb (p0.length:Int)
def kC (p1:List Int) (a:Int) (p0:List Int) (i:(List Int)→Int→Option ((List Int)×Bool)):Nat→(List Int)→Int→Int→Option ((List Int)×Bool)
 | 0,_,_,_=>N
 | j+1,c,e,d =>
  if decide (d<(p1.length:Int)) then (idx c (J.wrap (a+d))).bind fun f=>(idx p0 a).bind fun g=>(idx p1 d).bind fun h=>(idx c (J.wrap (a+d))).bind fun _=>(kC p1 a p0 i j) (c.set (J.wrap (a+d)).toNat (Int.tmod (J.wrap ((J.wrap (f+(J.wrap (g*h))))+e)) 16777216)) (J.wrap (Int.tdiv (J.wrap ((J.wrap (f+(J.wrap (g*h))))+e)) 16777216)) (J.wrap (d+1)) else (idx c (J.wrap (a+(p1.length:Int)))).bind fun d=>(idx c (J.wrap (a+(p1.length:Int)))).bind fun _=>i (c.set (J.wrap (a+(p1.length:Int))).toNat (J.wrap (d+e))) (J.wrap (a+1))
def kH (p0:List Int) (p1:List Int):Nat→(List Int)→Int→Option ((List Int)×Bool)
 | 0,_,_=>N
 | d+1,a,c =>
  if decide (c<(p0.length:Int)) then kC p1 c p0 (kH p0 p1 d) bb a 0 0 else (ug a).bind fun a=>if decide ((a.length:Int)>16) then U (([]:List Int),n) else U (a,y)
def nK (p0:List Int) (p1:List Int):Option ((List Int)×Bool) :=
 (nN p0).bind fun a=>(if (!a) then U y else (nN p1).bind fun a=>U (!a)).bind fun u12=>if u12 then U (([]:List Int),n) else (mk (0:Int) (J.wrap ((J.wrap ((p0.length:Int)+(p1.length:Int)))+1))).bind fun a=>kH p0 p1 bb a 0
def kn (p0:Int) (p1:Int):Option (List Int) :=
 (wd p0).bind fun a=>(wd p1).bind fun c=>(nK a.1 c.1).bind fun a=>U a.1
def yI (p0:Int) (p1:Int):Option Int :=
 if decide (p0>p1) then U p0 else U p1
def ry (p0:List Int) (p1:Int):Option Int :=
 if decide (p1<(p0.length:Int)) then (idx p0 p1).bind fun a=>U a else U 0
def nz (p0:List Int) (p1:List Int):Nat→Int→Option Int
 | 0,_=>N
 | e+1,a =>
  if decide (a≥0) then (ry p0 a).bind fun c=>(ry p1 a).bind fun d=>if decide (c<d) then U (-1) else if decide (c>d) then U 1 else (nz p0 p1 e) (J.wrap (a-1)) else U 0
def rB (p0:List Int) (p1:List Int):Option Int :=
 (nN p0).bind fun a=>(if (!a) then U y else (nN p1).bind fun a=>U (!a)).bind fun u12=>if u12 then U (-2) else (yI (p0.length:Int) (p1.length:Int)).bind fun a=>nz p0 p1 bb (J.wrap (a-1))
def mB (p0:bT) (p1:bT):Option Int :=
 (mD p0).bind fun a=>(if (!a) then U y else (mD p1).bind fun a=>U (!a)).bind fun u14=>if u14 then U (-2) else (kn p0.G_ p1.X_).bind fun a=>(kn p1.G_ p0.X_).bind fun c=>(rB a c).bind fun a=>U a
def lL (a:List aB) (p0:ae) (p1:aE):Nat→Int→Int→Int→Int→Int→Option (aB×bT)
 | 0,_,_,_,_,_=>N
 | j+1,h,i,e,f,c =>
  if decide (c<(a.length:Int)) then (idx a c).bind fun d=>(vX p0 p1 d).bind fun d=>(mB d (bT.mk e f)).bind fun g=>if decide (g>0) then (idx a c).bind fun g=>(lL a p0 p1 j) g.p_ g.f_ d.G_ d.X_ (J.wrap (c+1)) else (lL a p0 p1 j) h i e f (J.wrap (c+1)) else U ((aB.mk h i),(bT.mk e f))
def wM (p0:ae) (p1:aE) (p2:Int) (p3:Bool):Option (aB×bT) :=
 (il p0 p1).bind fun a=>(if ((!a)||((p1.d_.length:Int)==0)) then U y else (aV p2 0 (J.wrap ((p0.c_.length:Int)-1))).bind fun a=>U (!a)).bind fun a=>if a then U ((aB.mk 0 0),(bT.mk 0 0)) else (qI p0 ([p2]:List Int) p3).bind fun c=>(idx c 0).bind fun a=>(vX p0 p1 a).bind fun d=>lL c p0 p1 bb a.p_ a.f_ d.G_ d.X_ 1
def BC (p0:cg) (p1:cg):Option Bool :=
 (mB p0.P_ p1.P_).bind fun a=>U (a==1)
def pP (a:List cg) (c:aB×bT) (g:Int→(List cg)→Option (List cg)) (e:Int):Nat→Int→Option (List cg)
 | 0,_=>N
 | h+1,d =>
  (if decide (d>0) then (idx a (J.wrap (d-1))).bind fun f=>(BC (cg.mk c.1 c.2) f).bind fun f=>U f else U n).bind fun f=>if f then (pP a c g e h) (J.wrap (d-1)) else (sub a 0 d).bind fun f=>(app ([]:List cg) f).bind fun f=>(app f ([(cg.mk c.1 c.2)]:List cg)).bind fun c=>(sub a d (a.length:Int)).bind fun a=>(app c a).bind fun a=>g (J.wrap (e+1)) a
def jl (p2:List Int) (p0:ae) (p1:aE) (p3:Bool):Nat→Int→(List cg)→Option (List cg)
 | 0,_,_=>N
 | e+1,a,c =>
  if decide (a<(p2.length:Int)) then (idx p2 a).bind fun d=>(wM p0 p1 d p3).bind fun d=>pP c d (jl p2 p0 p1 p3 e) a bb (c.length:Int) else U c
def AL (p0:ae) (p1:aE) (p2:List Int) (p3:Bool):Option (List cg) :=
 (il p0 p1).bind fun a=>(if ((!a)||((p1.d_.length:Int)==0)) then U y else (lf p0 p2).bind fun a=>U (!a)).bind fun a=>if a then U ([]:List cg) else jl p2 p0 p1 p3 bb 0 ([]:List cg)
def nu (a:List cg) (c:Int) (d:Int):Option (cg×bT×Bool) :=
 (idx a 0).bind fun a=>U (a,(bT.mk c d),y)
def tT (p0:ae) (p1:aE) (p2:List Int) (p3:Bool):Option (cg×bT×Bool) :=
 (AL p0 p1 p2 p3).bind fun a=>if ((a.length:Int)==0) then U ((cg.mk (aB.mk 0 0) (bT.mk 0 0)),(bT.mk 0 0),n) else if decide ((a.length:Int)>1) then (idx a 1).bind fun c=>nu a c.P_.G_ c.P_.X_ else nu a 0 1
def mF (p0:bT):Option Bool :=
 (mD p0).bind fun a=>U (a&&(decide (p0.G_≤p0.X_)))
def ph (a:List Int) (f:(List Int)→Int→Int→Option ((List Int)×Bool)) (c:Int) (d:Int) (e:Int):Option ((List Int)×Bool) :=
 (app a ([e]:List Int)).bind fun a=>f a d (J.wrap (c+1))
def hZ (p0:List Int) (p1:List Int):Nat→(List Int)→Int→Int→Option ((List Int)×Bool)
 | 0,_,_,_=>N
 | g+1,c,d,a =>
  if decide (a<(p0.length:Int)) then (idx p0 a).bind fun e=>(ry p1 a).bind fun f=>if decide ((J.wrap ((J.wrap (e-f))-d))<0) then ph c (hZ p0 p1 g) a 1 (J.wrap ((J.wrap ((J.wrap (e-f))-d))+16777216)) else ph c (hZ p0 p1 g) a 0 (J.wrap ((J.wrap (e-f))-d)) else (ug c).bind fun a=>U (a,y)
def xr (p0:List Int) (p1:List Int):Option ((List Int)×Bool) :=
 (nN p0).bind fun a=>(if (!a) then U y else (nN p1).bind fun a=>U (!a)).bind fun u13=>(if u13 then U y else (rB p0 p1).bind fun a=>U (decide (a<0))).bind fun u18=>if u18 then U (([]:List Int),n) else hZ p0 p1 bb ([]:List Int) 0 0
def vx (p0:bT) (p1:bT):Option ((List Int)×(List Int)×Bool) :=
 (mD p0).bind fun a=>(if (!a) then U y else (mD p1).bind fun a=>U (!a)).bind fun u14=>(if u14 then U y else (mB p0 p1).bind fun a=>U (decide (a<0))).bind fun u19=>if u19 then U (([]:List Int),([]:List Int),n) else (kn p0.G_ p1.X_).bind fun a=>(kn p1.G_ p0.X_).bind fun c=>(xr a c).bind fun a=>(kn p0.X_ p1.X_).bind fun c=>U (a.1,c,y)
def vL (p0:Int):Option Int :=
 (aV p0 1 9).bind fun a=>if (!a) then U 0 else U (J.wrap (Int.tdiv (J.wrap ((J.wrap (p0*2302585))+999)) 1000))
def xt (p0:bT) (p1:bT) (p2:Int) (p3:Int):Option Bool :=
 (mF p0).bind fun a=>(if (!a) then U y else (mF p1).bind fun a=>U (!a)).bind fun u14=>(if u14 then U y else (mB p0 p1).bind fun a=>U (decide (a<0))).bind fun u19=>(if u19 then U y else (aV p2 1 999).bind fun a=>U (!a)).bind fun a=>(if a then U y else (aV p3 1 9).bind fun a=>U (!a)).bind fun a=>if a then U n else (vx p0 p1).bind fun a=>(nK a.1 a.1).bind fun c=>(kn 2000 p2).bind fun d=>(nK c.1 d).bind fun c=>(nK a.2.1 a.2.1).bind fun a=>(vL p3).bind fun d=>(kn d 1).bind fun d=>(nK a.1 d).bind fun a=>(rB c.1 a.1).bind fun a=>U (decide (a>0))
def AP (p0:bZ) (p1:Int):Option Bool :=
 (oQ p0).bind fun a=>(if a then (aV p1 1 999).bind fun a=>U a else U n).bind fun u13=>(if u13 then (vL p0.U_).bind fun a=>U (decide ((J.wrap (1000*a))<(J.wrap ((J.wrap ((J.wrap (2*p1))*p0.T_))*p0.T_)))) else U n).bind fun u18=>U u18
def vd (p0:bZ) (p1:bT) (p2:bT) (p3:Int):Option Int :=
 (oQ p0).bind fun a=>(if (!a) then U y else (aV p3 1 999).bind fun a=>U (!a)).bind fun u15=>(if u15 then U y else (mF p1).bind fun a=>U (!a)).bind fun u20=>(if u20 then U y else (mF p2).bind fun a=>U (!a)).bind fun a=>(if a then U y else (mB p1 p2).bind fun a=>U (decide (a<0))).bind fun a=>if a then U 4 else if (p1.G_==0) then U 3 else (xt p1 p2 p3 p0.U_).bind fun a=>if a then U 1 else (AP p0 p3).bind fun a=>if a then U 2 else U 0
def zf (p0:ae) (p1:bZ) (p2:aA):Option (aB×Int) :=
 (tT p0 p2.o_ p2.c_ p1.R_).bind fun a=>if ((!p2.A_)||(!a.2.2)) then U ((aB.mk 0 0),4) else (fu p0 p2.o_).bind fun c=>(vd p1 a.1.P_ a.2.1 c).bind fun c=>if ((c==1)||(c==2)) then U (a.1.n_,c) else U ((aB.mk 0 0),c)
def iz (p0:ae) (p2:aB) (p1:aE):Nat→(List Int)→Int→Option Int
 | 0,_,_=>N
 | e+1,c,a =>
  (fH p0 p2).bind fun d=>if decide (a<d) then (mv p0 p1 p2 a).bind fun d=>if ((d.length:Int)==0) then U (-1) else (nH d).bind fun d=>(app c ([d]:List Int)).bind fun d=>(iz p0 p2 p1 e) d (J.wrap (a+1)) else (tf c).bind fun a=>U a
def tU (p0:ae) (p1:aE) (p2:aB):Option Int :=
 iz p0 p2 p1 bb ([]:List Int) 0
def vM (p0:aE):Option aE :=
 (app ([]:List Int) p0.j_).bind fun a=>U (aE.mk a ([]:List (List Int)))
def js (l:List (List Int)) (p0:ae) (c:aA) (p2:Int) (p1:ao) (p3:aB) (e:Int) (f:aE) (g:List Int) (h:aA) (i:aA) (k:ao):Nat→(List aA)→(List Int)→Int→Option (ao×Bool)
 | 0,_,_,_=>N
 | q+1,a,j,d =>
  if decide (d<(l.length:Int)) then (app j ([(a.length:Int)]:List Int)).bind fun m=>(idx l d).bind fun o=>(ls p0).bind fun p=>(app ([]:List Int) o).bind fun o=>(app a [(aA.mk y (aB.mk 0 0) ([]:List Int) 0 p 0 o (J.wrap (c.r_+1)) p2 p1.m_)]).bind fun o=>(js l p0 c p2 p1 p3 e f g h i k q) o m (J.wrap (d+1)) else (idx a p2).bind fun _=>U ((ao.mk (a.set p2.toNat (aA.mk n p3 j e f 0 g c.r_ h.F_ i.E_)) k.m_),y)
def jz (d:List (List Int)) (p0:ae) (a:ao) (p1:ao) (p2:Int) (p3:aB):Nat→Int→Option (ao×Bool)
 | 0,_=>N
 | f+1,c =>
  if decide (c<(d.length:Int)) then (idx d c).bind fun e=>(lf p0 e).bind fun e=>if (!e) then U (a,n) else (jz d p0 a p1 p2 p3 f) (J.wrap (c+1)) else (idx p1.a_ p2).bind fun c=>if ((c.r_==6)||(decide ((J.wrap ((p1.a_.length:Int)+(d.length:Int)))>31))) then U (a,n) else (idx p1.a_ p2).bind fun c=>(idx p1.a_ p2).bind fun e=>(idx p1.a_ p2).bind fun f=>(idx p1.a_ p2).bind fun g=>(idx p1.a_ p2).bind fun h=>(idx p1.a_ p2).bind fun i=>(tU p0 c.o_ p3).bind fun c=>(vM e.o_).bind fun e=>(app ([]:List Int) f.c_).bind fun f=>js d p0 g p2 p1 p3 c e f h i a bb a.a_ ([]:List Int) 0
def vE (p0:ae) (p1:ao) (p2:Int) (p3:aB) (c:List (List Int)):Option (ao×Bool) :=
 (jf p1).bind fun a=>(nF p0 p1).bind fun d=>(if (!d) then U y else (aV p2 0 (J.wrap ((p1.a_.length:Int)-1))).bind fun d=>U (!d)).bind fun d=>(if d then U y else (idx p1.a_ p2).bind fun d=>U (!d.A_)).bind fun d=>(if d then U y else (idx p1.a_ p2).bind fun d=>U ((d.o_.d_.length:Int)==0)).bind fun d=>(if d then U y else (kG p0 p3).bind fun d=>U (!d)).bind fun d=>(if d then U y else (fH p0 p3).bind fun d=>U ((c.length:Int) != d)).bind fun d=>if d then U (a,n) else jz c p0 a p1 p2 p3 bb 0
def gq (p0:ao):Nat→(List Int)→Int→Option (List Int)
 | 0,_,_=>N
 | e+1,c,a =>
  if decide (a<(p0.a_.length:Int)) then (idx p0.a_ a).bind fun d=>(if d.A_ then (idx p0.a_ a).bind fun d=>U (decide ((d.o_.d_.length:Int)>0)) else U n).bind fun d=>if d then (app c ([a]:List Int)).bind fun d=>(gq p0 e) d (J.wrap (a+1)) else (gq p0 e) c (J.wrap (a+1)) else U c
def oH (p0:ao):Option (List Int) :=
 gq p0 bb ([]:List Int) 0
def sP (p0:ae) (p1:aE):Option Int :=
 (il p0 p1).bind fun a=>if (!a) then U 0 else (fu p0 p1).bind fun a=>(tf p1.j_).bind fun c=>(idx p1.j_ c).bind fun c=>U (J.wrap (a-c))
def kM (a:List Int) (p1:ao) (p0:ae):Nat→Int→Int→Option Int
 | 0,_,_=>N
 | g+1,d,c =>
  if decide (c<(a.length:Int)) then (if decide (d<0) then U y else (idx a c).bind fun e=>(idx p1.a_ e).bind fun e=>(sP p0 e.o_).bind fun e=>(idx p1.a_ d).bind fun f=>(sP p0 f.o_).bind fun f=>U (decide (e<f))).bind fun e=>if e then (idx a c).bind fun e=>(kM a p1 p0 g) e (J.wrap (c+1)) else (kM a p1 p0 g) d (J.wrap (c+1)) else U d
def rL (p0:ae) (p1:ao):Option Int :=
 (nF p0 p1).bind fun a=>if (!a) then U (-1) else (oH p1).bind fun a=>kM a p1 p0 bb (-1) 0
def oa (c:ao) (p2:Int) (p0:ae):Nat→(List aA)→(List Int)→Option (ao×(List Int))
 | 0,_,_=>N
 | i+1,a,e =>
  (lH (ao.mk a c.m_)).bind fun d=>(if decide (d>p2) then (rL p0 (ao.mk a c.m_)).bind fun d=>U (decide (d≥0)) else U n).bind fun d=>if d then (rL p0 (ao.mk a c.m_)).bind fun d=>(idx a d).bind fun f=>(vM f.o_).bind fun g=>(app e ([d]:List Int)).bind fun h=>(oa c p2 p0 i) (a.set d.toNat ({f with o_:=g,I_:=0})) h else U ((ao.mk a c.m_),e)
def vh (p0:ae) (p1:ao) (p2:Int):Option (ao×(List Int)) :=
 (jf p1).bind fun a=>(nF p0 p1).bind fun c=>if (!c) then U (a,([]:List Int)) else oa a p2 p0 bb a.a_ ([]:List Int)
def gU (p0:ae) (c:aB×Int) (p:Int) (p2:ao) (q:bn) (d:ao) (e:Int) (f:aA) (g:aE×Bool) (h:Int) (p1:bZ):Nat→(List (List Int))→(List Int)→Int→Int→Option (ao×bn×Int)
 | 0,_,_,_,_=>N
 | r+1,i,j,k,l =>
  (fH p0 c.1).bind fun a=>if decide (l<a) then (nY (bn.mk j k) (p0.c_.length:Int) p).bind fun a=>if (!a.2.2) then (jf p2).bind fun m=>(cT q).bind fun o=>U (m,o,4) else (app i [a.2.1]).bind fun m=>(gU p0 c p p2 q d e f g h p1 r) m a.1.v_ a.1.f_ (J.wrap (l+1)) else (vE p0 (ao.mk (d.a_.set e.toNat ({f with o_:=g.1,I_:=h})) (J.wrap (p2.m_+1))) e c.1 i).bind fun a=>(vh p0 a.1 p1.K_).bind fun a=>U (a.1,(bn.mk j k),1)
def jc (a:ao) (g:Int) (i:bn) (c:aA) (d:aE×Bool) (p2:ao) (p0:ae) (p1:bZ) (j:Int) (e:Int) (f:Bool):Option (ao×bn×Int) :=
 (idx a.a_ g).bind fun _=>if (!f) then (cT i).bind fun f=>U ((ao.mk (a.a_.set g.toNat ({c with o_:=d.1,I_:=e})) (J.wrap (p2.m_+1))),f,0) else (zf p0 p1 ({c with o_:=d.1,I_:=e})).bind fun f=>(if (((f.2 != 1)&&(f.2 != 2))||(decide (c.r_≥p1.r_))) then U y else (fH p0 f.1).bind fun h=>U (decide ((J.wrap ((a.a_.length:Int)+h))>p1.a_))).bind fun h=>if h then (cT i).bind fun h=>U ((ao.mk (a.a_.set g.toNat ({c with o_:=d.1,I_:=e})) (J.wrap (p2.m_+1))),h,0) else (cT i).bind fun h=>gU p0 f j p2 i a g c d e p1 bb ([]:List (List Int)) h.v_ h.f_ 0
def nD (p0:ae) (p1:bZ) (p2:ao) (p3:bW) (g:Int) (f:bn) (h:Int):Option (ao×bn×Int) :=
 (rj p0 p1 p2).bind fun a=>(if (!a) then U y else (ro p0 p3).bind fun a=>U (!a)).bind fun a=>(if (a||(decide (p3.S_<0))) then U y else (aV g 1 7).bind fun a=>U (!a)).bind fun a=>(if a then U y else (pg f).bind fun a=>U (!a)).bind fun a=>(if a then U y else (aV h 1 (p0.c_.length:Int)).bind fun a=>U (!a)).bind fun a=>if a then (jf p2).bind fun a=>(cT f).bind fun c=>U (a,c,2) else (vF p0 p2 p3).bind fun d=>(if (p2.m_==99999) then U y else (idx p2.a_ d).bind fun a=>(fu p0 a.o_).bind fun a=>U (decide (a>(J.wrap (999-g))))).bind fun a=>if a then (jf p2).bind fun a=>(cT f).bind fun c=>U (a,c,3) else (jf p2).bind fun e=>(idx p2.a_ d).bind fun a=>(nx a).bind fun a=>(mN p0 a.o_ p3 g).bind fun c=>if decide ((c.1.d_.length:Int)>0) then if decide ((J.wrap (a.I_+g))≥p1.V_) then jc e d f a c p2 p0 p1 h 0 y else jc e d f a c p2 p0 p1 h (J.wrap (a.I_+g)) n else jc e d f a c p2 p0 p1 h a.I_ n
def kJ (a:Int) (d:Int) (e:Int) (g:(List (List Int))→Int→Option (aw×Bool)) (c:List (List Int)):Option (aw×Bool) :=
 (idx c (J.wrap (a+1))).bind fun f=>(app f ([J.wrap (d+e)]:List Int)).bind fun d=>g (c.set (J.wrap (a+1)).toNat d) (J.wrap (a+1))
def eF  : Nat→(List (List Int))→Int→Option (aw×Bool)
 | 0,_,_=>N
 | h+1,c,a =>
  if decide (a<8) then (if decide (a≥(c.length:Int)) then U y else (idx c a).bind fun d=>U (decide ((d.length:Int)≤3))).bind fun d=>if d then U ((aw.mk c),y) else if (a==7) then (idx c a).bind fun d=>(sub d 1 (d.length:Int)).bind fun d=>(app ([]:List Int) d).bind fun d=>U ((aw.mk (c.set a.toNat d)),y) else (idx c a).bind fun d=>(idx d 0).bind fun e=>(idx d 1).bind fun f=>(sub d 2 (d.length:Int)).bind fun d=>(app ([]:List Int) d).bind fun d=>if ((J.wrap (a+1))==(c.length:Int)) then (app (c.set a.toNat d) [([]:List Int)]).bind fun g=>kJ a e f (eF h) g else kJ a e f (eF h) (c.set a.toNat d) else U ((aw.mk c),y)
def kI (p1:Int) (a:List (List Int)):Option (aw×Bool) :=
 (idx a 0).bind fun c=>(app c ([p1]:List Int)).bind fun c=>eF bb (a.set (0:Int).toNat c) 0
def pl (p0:aw) (p1:Int):Option (aw×Bool) :=
 (lb p0).bind fun a=>(lj p0).bind fun c=>(if (!c) then U y else (aV p1 0 1).bind fun c=>U (!c)).bind fun c=>if c then U (a,n) else if ((a.e_.length:Int)==0) then (app a.e_ [([]:List Int)]).bind fun c=>kI p1 c else kI p1 a.e_
def ml (p0:aw) (a:Int) (g:(List cL)→Int→Option (List cL)):Nat→(List cL)→Int→Option (List cL)
 | 0,_,_=>N
 | h+1,d,c =>
  (idx p0.e_ a).bind fun e=>if decide (c<(e.length:Int)) then (idx p0.e_ a).bind fun e=>(idx e c).bind fun e=>(mI a).bind fun f=>(app d ([(cL.mk f e)]:List cL)).bind fun e=>(ml p0 a g h) e (J.wrap (c+1)) else g d (J.wrap (a-1))
def iq (p0:aw):Nat→(List cL)→Int→Option (List cL)
 | 0,_,_=>N
 | d+1,a,c =>
  if decide (c≥0) then ml p0 c (iq p0 d) bb a 0 else U a
def pT (p0:aw):Option (List cL) :=
 (lj p0).bind fun a=>if (!a) then U ([]:List cL) else iq p0 bb ([]:List cL) (J.wrap ((p0.e_.length:Int)-1))
def fQ (a:List cL):Nat→Int→Int→Option Int
 | 0,_,_=>N
 | f+1,d,c =>
  if decide (c<(a.length:Int)) then (idx a c).bind fun e=>(fQ a f) (J.wrap (d+e.af_)) (J.wrap (c+1)) else U d
def lw (p0:aw):Option Int :=
 (pT p0).bind fun a=>fQ a bb 0 0
def gi (a:List cL):Nat→Int→Int→Option Int
 | 0,_,_=>N
 | f+1,d,c =>
  if decide (c<(a.length:Int)) then (idx a c).bind fun e=>(gi a f) (J.wrap (d+e.ac_)) (J.wrap (c+1)) else U d
def mg (p0:aw):Option Int :=
 (pT p0).bind fun a=>gi a bb 0 0
def vD (p0:Int) (p1:Int) (p2:Int) (p3:Int) (a:Int):Option Bool :=
 (aV p0 5 1000).bind fun c=>(if (!c) then U y else (aV p2 5 1000).bind fun c=>U (!c)).bind fun u12=>(if u12 then U y else (aV p1 0 p0).bind fun c=>U (!c)).bind fun u17=>(if u17 then U y else (aV p3 0 p2).bind fun c=>U (!c)).bind fun u22=>(if u22 then U y else (aV a 1 9).bind fun c=>U (!c)).bind fun c=>if c then U n else (vL a).bind fun a=>U (decide ((J.wrap ((J.wrap ((J.wrap ((J.wrap (p1*p2))-(J.wrap (p3*p0))))*(J.wrap ((J.wrap (p1*p2))-(J.wrap (p3*p0))))))*2000))>(J.wrap ((J.wrap ((J.wrap (a*(J.wrap (p0+p2))))*p0))*p2))))
def lq (c:List cL) (h:Int) (i:Int) (p1:Int):Nat→Int→Int→Int→Option Int
 | 0,_,_,_=>N
 | k+1,a,d,e =>
  if decide (a<(J.wrap ((c.length:Int)-1))) then (idx c a).bind fun f=>(idx c a).bind fun g=>(vD (J.wrap (d+f.af_)) (J.wrap (e+g.ac_)) (J.wrap (h-(J.wrap (d+f.af_)))) (J.wrap (i-(J.wrap (e+g.ac_)))) p1).bind fun j=>if j then U (J.wrap (a+1)) else (lq c h i p1 k) (J.wrap (a+1)) (J.wrap (d+f.af_)) (J.wrap (e+g.ac_)) else U 0
def yL (p0:aw) (p1:Int):Option Int :=
 (pT p0).bind fun a=>(lw p0).bind fun c=>(mg p0).bind fun d=>lq a c d p1 bb 0 0 0
def qK (p0:aw):Option (aw×Bool) :=
 (lb p0).bind fun a=>(lj p0).bind fun c=>if ((!c)||((p0.e_.length:Int)==0)) then U (a,n) else (idx a.e_ (J.wrap ((a.e_.length:Int)-1))).bind fun c=>(sub c 1 (c.length:Int)).bind fun c=>(app ([]:List Int) c).bind fun c=>if ((c.length:Int)==0) then (sub (a.e_.set (J.wrap ((a.e_.length:Int)-1)).toNat c) 0 (J.wrap ((a.e_.length:Int)-1))).bind fun d=>U ((aw.mk d),y) else U ((aw.mk (a.e_.set (J.wrap ((a.e_.length:Int)-1)).toNat c)),y)
def oM (p1:Int):Nat→(List (List Int))→Int→Option (aw×Int)
 | 0,_,_=>N
 | e+1,a,c =>
  (yL (aw.mk a) p1).bind fun d=>if decide (d>0) then (qK (aw.mk a)).bind fun d=>(oM p1 e) d.1.e_ (J.wrap (c+1)) else U ((aw.mk a),c)
def xf (p0:aw) (p1:Int):Option (aw×Int) :=
 (lb p0).bind fun a=>oM p1 bb a.e_ 0
def oc (p0:aw) (p1:Int) (p2:Int):Option (aw×Bool×Bool) :=
 (pl p0 p1).bind fun a=>(if (!a.2) then U y else (aV p2 1 9).bind fun c=>U (!c)).bind fun c=>if c then (lb p0).bind fun c=>U (c,n,n) else (xf a.1 p2).bind fun c=>(if decide (c.2>0) then (mg c.1).bind fun d=>(lw a.1).bind fun e=>(mg a.1).bind fun a=>(lw c.1).bind fun f=>U (decide ((J.wrap (d*e))>(J.wrap (a*f)))) else U n).bind fun a=>U (c.1,a,y)
def rW (p0:cW) (p1:Int) (p2:Int) (p3:Int):Option (cW×Int) :=
 (oc p0.w_ p1 p2).bind fun a=>(oc p0.x_ p1 p3).bind fun c=>if ((!a.2.2)||(!c.2.2)) then (sI p0).bind fun d=>U (d,3) else if c.2.1 then U ((cW.mk (aw.mk ([]:List (List Int))) (aw.mk ([]:List (List Int)))),2) else if a.2.1 then U ((cW.mk a.1 c.1),1) else U ((cW.mk a.1 c.1),0)
def jT (a:cW×Int) (c:Int) (d:Int) (e:Int) (f:Int) (g:Int) (h:Bool) (i:List aA) (j:Int) (k:Bool) (l:List aA) (m:Int) (o:Bool) (p:List Int) (q:Int):Option (aF×bn×dB×Bool) :=
 U ((aF.mk (ao.mk i j) k (ao.mk l m) a.1),(bn.mk p q),(dB.mk c d e f g a.2 h o),y)
def jW (c:cW×Int) (d:Int) (e:Int) (f:Int) (g:Int) (h:Int) (p0:bh) (p1:aF) (p3:bn) (p:List aA) (q:Int) (l:Bool) (m:List aA) (o:Int) (i:Bool) (j:List Int) (k:Int):Option (aF×bn×dB×Bool) :=
 if (c.2==2) then if l then jT c d e f g h i m o n ([]:List aA) 0 y j k else (pO p0 (bn.mk j k)).bind fun a=>if (!a.2.2) then (jk p1).bind fun r=>(cT p3).bind fun s=>U (r,s,(dB.mk 0 0 0 0 0 0 n n),n) else jT c d e f g h i a.1.a_ a.1.m_ n ([]:List aA) 0 y a.2.1.v_ a.2.1.f_ else jT c d e f g h i p q l m o n j k
def iw (p1:aF) (c:Int) (p0:bh) (e:aF) (p3:bn) (f:Int) (g:Int) (h:List aA) (i:Int) (o:List aA) (p:Int) (j:Int) (k:Int) (l:List Int) (m:Int):Option (aF×bn×dB×Bool) :=
 (rW p1.C_ c p0.w_ p0.x_).bind fun d=>if ((d.2==1)&&(!e.Q_)) then (pO p0 (bn.mk l m)).bind fun a=>if (!a.2.2) then (jk p1).bind fun q=>(cT p3).bind fun r=>U (q,r,(dB.mk 0 0 0 0 0 0 n n),n) else jW d f c g j k p0 p1 p3 h i y a.1.a_ a.1.m_ y a.2.1.v_ a.2.1.f_ else jW d f c g j k p0 p1 p3 h i e.Q_ o p n l m
def nZ (p0:bh) (p1:aF) (p2:bW) (p3:bn):Option (aF×bn×dB×Bool) :=
 (qG p0 p1).bind fun a=>(if (!a) then U y else (ro p0.y_ p2).bind fun a=>U (!a)).bind fun a=>(if (a||(decide (p2.S_<0))) then U y else (pg p3).bind fun a=>U (!a)).bind fun a=>if a then (jk p1).bind fun c=>(cT p3).bind fun a=>U (c,a,(dB.mk 0 0 0 0 0 0 n n),n) else (jk p1).bind fun c=>(tL p0.y_ p1.D_ p2).bind fun g=>(gQ (g != p2.S_)).bind fun h=>(xU p3).bind fun f=>if (!f.2.2) then (jk p1).bind fun a=>(cT p3).bind fun d=>U (a,d,(dB.mk 0 0 0 0 0 0 n n),n) else (tG p0.Y_ f.2.1).bind fun d=>if decide (d>0) then (nD p0.y_ p0.k_ p1.D_ p2 d f.1 p0.W_).bind fun a=>if (a.2.2==4) then (jk p1).bind fun e=>(cT p3).bind fun i=>U (e,i,(dB.mk 0 0 0 0 0 0 n n),n) else if p1.Q_ then (nD p0.y_ p0.k_ p1.t_ p2 d a.2.1 p0.W_).bind fun e=>if (e.2.2==4) then (jk p1).bind fun i=>(cT p3).bind fun j=>U (i,j,(dB.mk 0 0 0 0 0 0 n n),n) else iw p1 h p0 c p3 g d a.1.a_ a.1.m_ e.1.a_ e.1.m_ a.2.2 e.2.2 e.2.1.v_ e.2.1.f_ else iw p1 h p0 c p3 g d a.1.a_ a.1.m_ c.t_.a_ c.t_.m_ a.2.2 (-1) a.2.1.v_ a.2.1.f_ else iw p1 h p0 c p3 g d c.D_.a_ c.D_.m_ c.t_.a_ c.t_.m_ (-1) (-1) f.1.v_ f.1.f_
def gp (p1:bA) (p0:bh) (p2:bW) (p3:bn):Nat→(List aF)→(List Int)→Int→(List dB)→Int→Option (bA×bn×(List dB)×Int)
 | 0,_,_,_,_,_=>N
 | j+1,d,e,f,g,c =>
  if decide (c<(p1.u_.length:Int)) then (idx p1.u_ c).bind fun a=>(nZ p0 a p2 (bn.mk e f)).bind fun a=>if (!a.2.2.2) then (sn p1).bind fun h=>(cT p3).bind fun i=>U (h,i,([]:List dB),2) else (app d [a.1]).bind fun h=>(app g ([a.2.2.1]:List dB)).bind fun i=>(gp p1 p0 p2 p3 j) h a.2.1.v_ a.2.1.f_ i (J.wrap (c+1)) else U ((bA.mk d),(bn.mk e f),g,0)
def qN (p0:bh) (p1:bA) (p2:bW) (p3:bn):Option (bA×bn×(List dB)×Int) :=
 (qB p0 p1).bind fun a=>(if (!a) then U y else (ro p0.y_ p2).bind fun a=>U (!a)).bind fun a=>(if (a||(decide (p2.S_<0))) then U y else (pg p3).bind fun a=>U (!a)).bind fun a=>if a then (sn p1).bind fun a=>(cT p3).bind fun c=>U (a,c,([]:List dB),1) else (cT p3).bind fun a=>gp p1 p0 p2 p3 bb ([]:List aF) a.v_ a.f_ ([]:List dB) 0
def iM (p2:Int) (p0b:List Int) (p1:bh) (h:Int×ak):Nat→Int→Int→Int→(List aF)→Option (bA×ak)
 | 0,_,_,_,_=>N
 | i+1,d,e,a,f =>
  if decide (a<p2) then (oZ p0b (ak.mk d e) p1 a h.1).bind fun g=>(lr p0b g.2 80).bind fun c=>(qN p1 (bA.mk f) g.1 (bn.mk c.1 0)).bind fun g=>(iM p2 p0b p1 h i) c.2.i_ c.2.h_ (J.wrap (a+1)) g.1.u_ else U ((bA.mk f),(ak.mk d e))
def qr (p0b:List Int) (p0:ak) (p1:bh) (p2:Int):Option (bA×ak) :=
 (lr p0b p0 8).bind fun a=>(sF p1 (bn.mk a.1 0)).bind fun c=>(bz p0b a.2 (J.wrap (p2+1))).bind fun a=>iM p2 p0b p1 a bb a.2.i_ a.2.h_ 0 c.1.u_
def iS (p0:Int):Nat→(List (List Int))→Int→Option bc
 | 0,_,_=>N
 | e+1,a,c =>
  if decide (c<p0) then (mk (0:Int) p0).bind fun d=>(app a [d]).bind fun d=>(iS p0 e) d (J.wrap (c+1)) else U (bc.mk a ([]:List aS))
def tJ (p0:Int):Option bc :=
 (aV p0 2 3).bind fun a=>if (!a) then U (bc.mk ([]:List (List Int)) ([]:List aS)) else iS p0 bb ([]:List (List Int)) 0
def jt (p0:bc) (c:List aS):Nat→(List (List Int))→Int→Option bc
 | 0,_,_=>N
 | f+1,d,a =>
  if decide (a<(p0.q_.length:Int)) then (idx p0.q_ a).bind fun e=>(app ([]:List Int) e).bind fun e=>(app d [e]).bind fun e=>(jt p0 c f) e (J.wrap (a+1)) else U (bc.mk d c)
def vi (p0:bc):Option bc :=
 (app ([]:List aS) p0.s_).bind fun a=>jt p0 a bb ([]:List (List Int)) 0
def fL (p0:List aS) (p1:Int) (p2:Int):Nat→Int→Int→Option Int
 | 0,_,_=>N
 | d+1,c,a =>
  if decide (a<(p0.length:Int)) then (idx p0 a).bind fun e=>(if (e.Z_==p1) then (idx p0 a).bind fun e=>U (e.aa_==p2) else U n).bind fun e=>if e then (fL p0 p1 p2 d) (J.wrap (c+1)) (J.wrap (a+1)) else (fL p0 p1 p2 d) c (J.wrap (a+1)) else U c
def tQ (p0:List aS) (p1:Int) (p2:Int):Option Int :=
 fL p0 p1 p2 bb 0 0
def BF (p0:Int) (p1:Int):Option Int :=
 if decide (p0<p1) then U p0 else U p1
def gx (p0:Int) (p1:bc) (a:Int) (g:Int→Int→Option Bool):Nat→Int→Int→Option Bool
 | 0,_,_=>N
 | h+1,d,c =>
  if decide (c<p0) then (idx p1.q_ a).bind fun e=>(idx e c).bind fun e=>(aV e 0 9999).bind fun e=>(if (!e) then U y else (tQ p1.s_ a c).bind fun e=>(idx p1.q_ a).bind fun f=>(idx f c).bind fun f=>U (decide (e>f))).bind fun e=>if e then U n else (idx p1.q_ a).bind fun e=>(idx e c).bind fun e=>(gx p0 p1 a g h) (J.wrap (d+e)) (J.wrap (c+1)) else g d (J.wrap (a+1))
def ft (p1:bc) (p0:Int):Nat→Int→Option Bool
 | 0,_=>N
 | d+1,a =>
  if decide (a<(p1.s_.length:Int)) then (idx p1.s_ a).bind fun c=>(aV c.Z_ 0 (J.wrap (p0-1))).bind fun c=>(if (!c) then U y else (idx p1.s_ a).bind fun c=>(aV c.aa_ 0 (J.wrap (p0-1))).bind fun c=>U (!c)).bind fun c=>if c then U n else (ft p1 p0 d) (J.wrap (a+1)) else U y
def er (p0:Int) (p1:bc):Nat→Int→Int→Option Bool
 | 0,_,_=>N
 | e+1,a,c =>
  if decide (c<p0) then (idx p1.q_ c).bind fun d=>if ((d.length:Int) != p0) then U n else gx p0 p1 c (er p0 p1 e) bb a 0 else (if decide (a>9999) then U y else (BF a 20).bind fun a=>U ((p1.s_.length:Int) != a)).bind fun a=>if a then U n else ft p1 p0 bb 0
def pR (p0:Int) (p1:bc):Option Bool :=
 (aV p0 2 3).bind fun a=>if ((!a)||((p1.q_.length:Int) != p0)) then U n else er p0 p1 bb 0 0
def lk (p0:Int) (p1:bc):Nat→Int→Int→Option Int
 | 0,_,_=>N
 | e+1,c,a =>
  if decide (a<p0) then (idx p1.q_ a).bind fun d=>(nH d).bind fun d=>(lk p0 p1 e) (J.wrap (c+d)) (J.wrap (a+1)) else U c
def yS (p0:Int) (p1:bc):Option Int :=
 (pR p0 p1).bind fun a=>if (!a) then U 0 else lk p0 p1 bb 0 0
def tH (p0:Int) (p1:bc) (p2:Int) (p3:Int):Option (bc×Bool) :=
 (vi p1).bind fun a=>(pR p0 p1).bind fun c=>(if (!c) then U y else (aV p2 0 (J.wrap (p0-1))).bind fun c=>U (!c)).bind fun c=>(if c then U y else (aV p3 0 (J.wrap (p0-1))).bind fun c=>U (!c)).bind fun c=>(if c then U y else (yS p0 p1).bind fun c=>U (c==9999)).bind fun c=>if c then U (a,n) else (idx a.q_ p2).bind fun c=>(idx c p3).bind fun e=>(idx c p3).bind fun _=>(app a.s_ ([(aS.mk p2 p3)]:List aS)).bind fun d=>if decide ((d.length:Int)>20) then (sub d 1 (d.length:Int)).bind fun f=>(app ([]:List aS) f).bind fun f=>U ((bc.mk (a.q_.set p2.toNat (c.set p3.toNat (J.wrap (e+1)))) f),y) else U ((bc.mk (a.q_.set p2.toNat (c.set p3.toNat (J.wrap (e+1)))) d),y)
def iC (c:bc) (d:List Int) (a:Int×ak):Nat→(List aS)→Int→Option (bc×ak)
 | 0,_,_=>N
 | h+1,e,f =>
  if decide (f<20) then (app e ([(aS.mk 0 0)]:List aS)).bind fun g=>(iC c d a h) g (J.wrap (f+1)) else U ((bc.mk (c.q_.set (0:Int).toNat (d.set (0:Int).toNat (J.wrap (9999-a.1)))) e),a.2)
def iK (i:Int×ak) (p0b:List Int) (p1:Int):Nat→Int→Int→(List (List Int))→(List aS)→Int→Option (bc×ak)
 | 0,_,_,_,_,_=>N
 | j+1,c,d,e,f,g =>
  if decide (g<i.1) then (bz p0b (ak.mk c d) p1).bind fun h=>(bz p0b h.2 p1).bind fun a=>(tH p1 (bc.mk e f) h.1 a.1).bind fun h=>(iK i p0b p1 j) a.2.i_ a.2.h_ h.1.q_ h.1.s_ (J.wrap (g+1)) else U ((bc.mk e f),(ak.mk c d))
def qE (p0b:List Int) (p0:ak) (p1:Int):Option (bc×ak) :=
 (tJ p1).bind fun a=>(fj p0b p0 6).bind fun c=>if c.1 then (idx a.q_ 0).bind fun d=>(bz p0b c.2 2).bind fun e=>(idx d 0).bind fun _=>iC a d e bb a.s_ 0 else (aZ p0b c.2 ([0,1,5,20,30]:List Int)).bind fun c=>iK c p0b p1 bb c.2.i_ c.2.h_ a.q_ a.s_ 0
def ub (p0b:List Int) (p0:ak):Option (aM×ak) :=
 (rT p0b p0).bind fun a=>(aZ p0b a.2 ([0,4,16,30]:List Int)).bind fun c=>(qr p0b c.2 a.1 c.1).bind fun c=>(qE p0b c.2 (a.1.y_.g_.length:Int)).bind fun d=>U ((aM.mk a.1 c.1 d.1),d.2)
def vo (p0b:List Int) (p0:ak):Option (bZ×ak) :=
 (li p0b p0).bind fun c=>(bz p0b c.2 18).bind fun a=>if (a.1==0) then (aZ p0b a.2 ([0,10]:List Int)).bind fun d=>U (({c.1 with U_:=d.1}),d.2) else if (a.1==1) then (aZ p0b a.2 ([(-1),1000,9223372036854775807]:List Int)).bind fun d=>U (({c.1 with T_:=d.1}),d.2) else if (a.1==2) then (aZ p0b a.2 ([0,201]:List Int)).bind fun d=>U (({c.1 with V_:=d.1}),d.2) else if (a.1==3) then (aZ p0b a.2 ([(-1),7]:List Int)).bind fun d=>U (({c.1 with r_:=d.1}),d.2) else if (a.1==4) then (aZ p0b a.2 ([0,32]:List Int)).bind fun d=>U (({c.1 with a_:=d.1}),d.2) else if (a.1==5) then (aZ p0b a.2 ([61,2001]:List Int)).bind fun d=>U (({c.1 with K_:=d.1}),d.2) else U (c.1,a.2)
def rt (p0b:List Int) (p0:ak) (p1:List (List UInt8)):Option ((List UInt8)×ak) :=
 (bz p0b p0 (p1.length:Int)).bind fun a=>(idx p1 a.1).bind fun c=>U (c,a.2)
def qJ (p0b:List Int) (p0:ak):Option (aK×ak) :=
 (bz p0b p0 5).bind fun a=>(jS p0b a.2 a.1).bind fun c=>(bz p0b c.2 14).bind fun a=>if (a.1==0) then (rt p0b a.2 ([([]:List UInt8),([85,112,112,101,114]:List UInt8),([119,97,121,116,111,111,108,111,110,103]:List UInt8),([97,32,98]:List UInt8)]:List (List UInt8))).bind fun d=>U (({c.1 with H_:=d.1}),d.2) else if (a.1==1) then (aZ p0b a.2 ([(-10000),9999,9998,0]:List Int)).bind fun d=>(app c.1.B_ ([d.1]:List Int)).bind fun e=>U (({c.1 with B_:=e}),d.2) else if (a.1==2) then (rt p0b a.2 ([([114,101,100]:List UInt8),([102,105,102,116,104]:List UInt8),([]:List UInt8)]:List (List UInt8))).bind fun d=>(app c.1.O_ ([d.1]:List (List UInt8))).bind fun e=>U (({c.1 with O_:=e}),d.2) else if (a.1==3) then U (({c.1 with B_:=([]:List Int)}),a.2) else if (a.1==4) then U ((aK.mk c.1.H_ ([9998]:List Int) ([]:List (List UInt8))),a.2) else U (c.1,a.2)
def wS (p0b:List Int) (p0:ak):Option (ae×ak) :=
 (rY p0b p0).bind fun a=>(bz p0b a.2 12).bind fun c=>if (c.1==0) then (qJ p0b c.2).bind fun d=>(app a.1.c_ [d.1]).bind fun e=>U ((ae.mk e a.1.g_),d.2) else if (c.1==1) then (rt p0b c.2 ([([110,111]:List UInt8),([111,116,104,101,114]:List UInt8),([]:List UInt8)]:List (List UInt8))).bind fun d=>(app a.1.g_ ([d.1]:List (List UInt8))).bind fun e=>U ((ae.mk a.1.c_ e),d.2) else if (c.1==2) then U ((ae.mk ([]:List aK) a.1.g_),c.2) else if (c.1==3) then (sub a.1.g_ 0 1).bind fun d=>U ((ae.mk a.1.c_ d),c.2) else U (a.1,c.2)
def vz (p0b:List Int) (p0:ak):Option (bh×ak) :=
 (rT p0b p0).bind fun c=>(bz p0b c.2 16).bind fun a=>if (a.1==0) then (aZ p0b a.2 ([0,4,5]:List Int)).bind fun d=>U (({c.1 with u_:=d.1}),d.2) else if (a.1==1) then (aZ p0b a.2 ([0,6,5]:List Int)).bind fun d=>U (({c.1 with W_:=d.1}),d.2) else if (a.1==2) then (aZ p0b a.2 ([0,2]:List Int)).bind fun d=>U (({c.1 with Y_:=d.1}),d.2) else if (a.1==3) then (aZ p0b a.2 ([0,9,10]:List Int)).bind fun d=>U (({c.1 with w_:=d.1}),d.2) else if (a.1==4) then (aZ p0b a.2 ([0,9,10]:List Int)).bind fun d=>U (({c.1 with x_:=d.1}),d.2) else if (a.1==5) then (vo p0b a.2).bind fun d=>U (({c.1 with k_:=d.1}),d.2) else if (a.1==6) then (wS p0b a.2).bind fun d=>U (({c.1 with y_:=d.1}),d.2) else U (c.1,a.2)
def iG (p2:Int) (p0b:List Int) (p1:bh) (o:Int×ak):Nat→Int→Int→Int→(List aA)→Int→Bool→(List aA)→Int→(List (List Int))→(List (List Int))→Option (aF×ak)
 | 0,_,_,_,_,_,_,_,_,_,_=>N
 | p+1,e,f,c,g,h,i,j,k,l,m =>
  if decide (c<p2) then (oZ p0b (ak.mk e f) p1 c o.1).bind fun a=>(lr p0b a.2 24).bind fun d=>(nZ p1 (aF.mk (ao.mk g h) i (ao.mk j k) (cW.mk (aw.mk l) (aw.mk m))) a.1 (bn.mk d.1 0)).bind fun a=>(iG p2 p0b p1 o p) d.2.i_ d.2.h_ (J.wrap (c+1)) a.1.D_.a_ a.1.D_.m_ a.1.Q_ a.1.t_.a_ a.1.t_.m_ a.1.C_.w_.e_ a.1.C_.x_.e_ else U ((aF.mk (ao.mk g h) i (ao.mk j k) (cW.mk (aw.mk l) (aw.mk m))),(ak.mk e f))
def tX (p0b:List Int) (p0:ak) (p1:bh) (p2:Int):Option (aF×ak) :=
 (lr p0b p0 4).bind fun c=>(pk p1 (bn.mk c.1 0)).bind fun a=>(bz p0b c.2 (J.wrap (p2+1))).bind fun c=>iG p2 p0b p1 c bb c.2.i_ c.2.h_ 0 a.1.D_.a_ a.1.D_.m_ a.1.Q_ a.1.t_.a_ a.1.t_.m_ a.1.C_.w_.e_ a.1.C_.x_.e_
def eH (p1:ae) (p0b:List Int):Nat→Int→Int→(List Int)→Int→Option ((List Int)×ak)
 | 0,_,_,_,_=>N
 | g+1,e,f,c,d =>
  if decide (d<(p1.c_.length:Int)) then (fj p0b (ak.mk e f) 4).bind fun a=>if (!a.1) then (app c ([d]:List Int)).bind fun h=>(eH p1 p0b g) a.2.i_ a.2.h_ h (J.wrap (d+1)) else (eH p1 p0b g) a.2.i_ a.2.h_ c (J.wrap (d+1)) else if ((c.length:Int)==0) then U (([0]:List Int),(ak.mk e f)) else U (c,(ak.mk e f))
def mE (p0b:List Int) (p0:ak) (p1:ae):Option ((List Int)×ak) :=
 eH p1 p0b bb p0.i_ p0.h_ ([]:List Int) 0
def iI (p3:Int) (p0b:List Int) (p1:ae) (p2:bZ) (k:Int×ak):Nat→Int→Int→(List aA)→Int→(List bW)→Int→Option (ao×(List bW)×ak)
 | 0,_,_,_,_,_,_=>N
 | l+1,d,e,f,g,h,i =>
  if decide (i<p3) then (pZ p0b (ak.mk d e) p1).bind fun a=>(lr p0b a.2 8).bind fun j=>(aZ p0b j.2 ([1,3,7,7]:List Int)).bind fun c=>(nD p1 p2 (ao.mk f g) a.1 c.1 (bn.mk j.1 0) (J.wrap (1+k.1))).bind fun j=>(app h [a.1]).bind fun a=>(iI p3 p0b p1 p2 k l) c.2.i_ c.2.h_ j.1.a_ j.1.m_ a (J.wrap (i+1)) else U ((ao.mk f g),h,(ak.mk d e))
def tO (p0b:List Int) (p0:ak) (p1:ae) (p2:bZ) (p3:Int):Option (ao×(List bW)×ak) :=
 (mE p0b p0 p1).bind fun a=>(nP p1 a.1).bind fun c=>(bz p0b a.2 (p1.c_.length:Int)).bind fun a=>iI p3 p0b p1 p2 a bb a.2.i_ a.2.h_ c.a_ c.m_ ([]:List bW) 0
def lu (p0b:List Int) (p1:ae) (c:bZ×ak) (a:Int) (d:Int) (e:Int):Option (ao×ak) :=
 (aZ p0b (ak.mk a d) ([0,2,12,40,60]:List Int)).bind fun a=>(tO p0b a.2 p1 ({c.1 with K_:=e}) a.1).bind fun a=>U (a.1,a.2.2)
def tZ (p0b:List Int) (p0:ak) (p1:ae):Option (ao×ak) :=
 (li p0b p0).bind fun c=>(fj p0b c.2 3).bind fun a=>if a.1 then (aZ p0b a.2 ([62,80,120]:List Int)).bind fun d=>lu p0b p1 c d.2.i_ d.2.h_ d.1 else lu p0b p1 c a.2.i_ a.2.h_ 2000
def gz (p1:ae) (c:Int) (e:(List aB)→Int→Option (aB×ak)):Nat→(List aB)→Int→Option (aB×ak)
 | 0,_,_=>N
 | g+1,d,a =>
  if decide (a<4) then (kG p1 (aB.mk c a)).bind fun f=>if f then (app d ([(aB.mk c a)]:List aB)).bind fun f=>(gz p1 c e g) f (J.wrap (a+1)) else (gz p1 c e g) d (J.wrap (a+1)) else e d (J.wrap (c+1))
def fy (p1:ae) (p0:ak) (p0b:List Int):Nat→(List aB)→Int→Option (aB×ak)
 | 0,_,_=>N
 | d+1,a,c =>
  if decide (c<(p1.c_.length:Int)) then gz p1 c (fy p1 p0 p0b d) bb a (-1) else if ((a.length:Int)==0) then U ((aB.mk 0 0),p0) else (bz p0b p0 (a.length:Int)).bind fun c=>(idx a c.1).bind fun a=>U (a,c.2)
def vy (p0b:List Int) (p0:ak) (p1:ae):Option (aB×ak) :=
 fy p1 p0 p0b bb ([]:List aB) 0
def wN (p0b:List Int) (p0:ak) (p1:ae):Option (aB×ak) :=
 (vy p0b p0 p1).bind fun c=>(bz p0b c.2 10).bind fun a=>if (a.1==0) then (aZ p0b a.2 ([(-2),1,2,3,4,9223372036854775807]:List Int)).bind fun d=>U ((aB.mk c.1.p_ d.1),d.2) else if (a.1==1) then (aZ p0b a.2 ([(-1),5,4,9223372036854775807]:List Int)).bind fun d=>U ((aB.mk d.1 c.1.f_),d.2) else U (c.1,a.2)
def vC (p0b:List Int) (p0:ak) (p1:ae):Option ((List Int)×ak) :=
 (mE p0b p0 p1).bind fun c=>(bz p0b c.2 10).bind fun a=>if (a.1==0) then (aZ p0b a.2 ([0,5,4,(-1)]:List Int)).bind fun d=>(app c.1 ([d.1]:List Int)).bind fun e=>U (e,d.2) else if (a.1==1) then U (([]:List Int),a.2) else U (c.1,a.2)
def jx (i:Int×ak) (p0b:List Int) (p1:ae):Nat→Int→Int→(List Int)→(List (List Int))→Int→Option (aE×ak)
 | 0,_,_,_,_,_=>N
 | j+1,e,f,a,c,g =>
  if decide (g<i.1) then (pZ p0b (ak.mk e f) p1).bind fun h=>(aZ p0b h.2 ([1,2,7]:List Int)).bind fun d=>(mN p1 (aE.mk a c) h.1 d.1).bind fun h=>(jx i p0b p1 j) d.2.i_ d.2.h_ h.1.j_ h.1.d_ (J.wrap (g+1)) else (fj p0b (ak.mk e f) 8).bind fun d=>if d.1 then (vM (aE.mk a c)).bind fun e=>U (e,d.2) else U ((aE.mk a c),d.2)
def vH (p0b:List Int) (p0:ak) (p1:ae):Option (aE×ak) :=
 (ls p1).bind fun c=>(aZ p0b p0 ([0,1,3,12,30,60]:List Int)).bind fun a=>jx a p0b p1 bb a.2.i_ a.2.h_ c.j_ c.d_ 0
def xk (p0b:List Int) (p0:ak) (p1:ae):Option (aE×ak) :=
 (vH p0b p0 p1).bind fun a=>(bz p0b a.2 14).bind fun c=>if (c.1==0) then if decide ((a.1.j_.length:Int)>0) then (aZ p0b c.2 ([(-1),999,998,1000,9223372036854775807]:List Int)).bind fun d=>(idx a.1.j_ 0).bind fun _=>U ((aE.mk (a.1.j_.set (0:Int).toNat d.1) a.1.d_),d.2) else U (a.1,c.2) else if (c.1==1) then (app a.1.j_ ([0]:List Int)).bind fun d=>U ((aE.mk d a.1.d_),c.2) else if (c.1==2) then (if decide ((a.1.d_.length:Int)>0) then (idx a.1.d_ 0).bind fun d=>U (decide ((d.length:Int)>0)) else U n).bind fun d=>if d then (idx a.1.d_ 0).bind fun d=>(aZ p0b c.2 ([(-1),500,1000]:List Int)).bind fun e=>(idx d 0).bind fun _=>U ((aE.mk a.1.j_ (a.1.d_.set (0:Int).toNat (d.set (0:Int).toNat e.1))),e.2) else U (a.1,c.2) else if (c.1==3) then if decide ((a.1.d_.length:Int)>0) then (idx a.1.d_ 0).bind fun d=>(app d ([0]:List Int)).bind fun d=>U ((aE.mk a.1.j_ (a.1.d_.set (0:Int).toNat d)),c.2) else U (a.1,c.2) else U (a.1,c.2)
def sa (p0b:List Int) (p0:ak) (p1:ae):Option (ao×ak) :=
 (tZ p0b p0 p1).bind fun a=>if ((a.1.a_.length:Int)==0) then U (a.1,a.2) else (bz p0b a.2 (a.1.a_.length:Int)).bind fun d=>(bz p0b d.2 22).bind fun c=>if (c.1==0) then (aZ p0b c.2 ([(-1),0,99999,100000]:List Int)).bind fun e=>U ((ao.mk a.1.a_ e.1),e.2) else if (c.1==1) then (bz p0b c.2 8).bind fun e=>(idx a.1.a_ d.1).bind fun f=>U ((ao.mk (a.1.a_.set d.1.toNat ({f with r_:=e.1})) a.1.m_),e.2) else if (c.1==2) then (aZ p0b c.2 ([(-1),0,1,d.1,9223372036854775807]:List Int)).bind fun e=>(idx a.1.a_ d.1).bind fun f=>U ((ao.mk (a.1.a_.set d.1.toNat ({f with F_:=e.1})) a.1.m_),e.2) else if (c.1==3) then (idx a.1.a_ d.1).bind fun e=>(aZ p0b c.2 ([(-1),d.1,J.wrap (d.1+1),40]:List Int)).bind fun f=>(app e.z_ ([f.1]:List Int)).bind fun g=>U ((ao.mk (a.1.a_.set d.1.toNat ({e with z_:=g})) a.1.m_),f.2) else if (c.1==4) then (aZ p0b c.2 ([(-1),1,2,4]:List Int)).bind fun e=>(idx a.1.a_ d.1).bind fun f=>U ((ao.mk (a.1.a_.set d.1.toNat ({f with J_:=e.1})) a.1.m_),e.2) else if (c.1==5) then (aZ p0b c.2 ([(-1),1,900,9223372036854775807]:List Int)).bind fun e=>(idx a.1.a_ d.1).bind fun f=>U ((ao.mk (a.1.a_.set d.1.toNat ({f with I_:=e.1})) a.1.m_),e.2) else if (c.1==6) then (aZ p0b c.2 ([(-1),0,1,a.1.m_,J.wrap (a.1.m_+1)]:List Int)).bind fun e=>(idx a.1.a_ d.1).bind fun f=>U ((ao.mk (a.1.a_.set d.1.toNat ({f with E_:=e.1})) a.1.m_),e.2) else if (c.1==7) then (idx a.1.a_ d.1).bind fun e=>U ((ao.mk (a.1.a_.set d.1.toNat ({e with A_:=(!e.A_)})) a.1.m_),c.2) else if (c.1==8) then (wN p0b c.2 p1).bind fun e=>(idx a.1.a_ d.1).bind fun f=>U ((ao.mk (a.1.a_.set d.1.toNat ({f with n_:=e.1})) a.1.m_),e.2) else if (c.1==9) then (vC p0b c.2 p1).bind fun e=>(idx a.1.a_ d.1).bind fun f=>U ((ao.mk (a.1.a_.set d.1.toNat ({f with c_:=e.1})) a.1.m_),e.2) else if (c.1==10) then (xk p0b c.2 p1).bind fun e=>(idx a.1.a_ d.1).bind fun f=>U ((ao.mk (a.1.a_.set d.1.toNat ({f with o_:=e.1})) a.1.m_),e.2) else if (c.1==11) then (sub a.1.a_ 0 (J.wrap ((a.1.a_.length:Int)-1))).bind fun d=>U ((ao.mk d a.1.m_),c.2) else U (a.1,c.2)
def gr (d:Int×ak) (e:Int×ak) (p0b:List Int) (f:Int×ak):Nat→Int→Int→(List Int)→Int→Option ((List Int)×ak)
 | 0,_,_,_,_=>N
 | k+1,g,h,i,c =>
  if decide (c<d.1) then if decide (c<e.1) then (fj p0b (ak.mk g h) f.1).bind fun a=>(gQ a.1).bind fun j=>(app i ([j]:List Int)).bind fun j=>(gr d e p0b f k) a.2.i_ a.2.h_ j (J.wrap (c+1)) else (fj p0b (ak.mk g h) 5).bind fun a=>(gQ (!a.1)).bind fun j=>(app i ([j]:List Int)).bind fun j=>(gr d e p0b f k) a.2.i_ a.2.h_ j (J.wrap (c+1)) else U (i,(ak.mk g h))
def rM (p0b:List Int) (p0:ak) (p1:Int):Option ((List Int)×ak) :=
 (bz p0b p0 (J.wrap (p1+1))).bind fun c=>(bz p0b c.2 (J.wrap (p1+1))).bind fun d=>(aZ p0b d.2 ([2,8,200]:List Int)).bind fun a=>gr c d p0b a bb a.2.i_ a.2.h_ ([]:List Int) 0
def kF (p0:List Int) (p1:Int) (p2:Int):Nat→Int→(List (List Int))→(List (List Int))→(List Int)→Option (cW×(List Int))
 | 0,_,_,_,_=>N
 | h+1,c,d,e,f =>
  if decide (c<(p0.length:Int)) then (idx p0 c).bind fun a=>(rW (cW.mk (aw.mk d) (aw.mk e)) a p1 p2).bind fun a=>(app f ([a.2]:List Int)).bind fun g=>(kF p0 p1 p2 h) (J.wrap (c+1)) a.1.w_.e_ a.1.x_.e_ g else U ((cW.mk (aw.mk d) (aw.mk e)),f)
def wK (p0:List Int) (p1:Int) (p2:Int):Option (cW×(List Int)) :=
 kF p0 p1 p2 bb 0 ([]:List (List Int)) ([]:List (List Int)) ([]:List Int)
def iH (d:Int×ak) (a:Int) (p0b:List Int) (e:List (List Int)) (k:Int→Int→(List (List Int))→Int→Option (aw×ak)):Nat→Int→Int→(List Int)→Int→Option (aw×ak)
 | 0,_,_,_,_=>N
 | l+1,f,g,h,i =>
  if decide (i<(J.wrap (1+d.1))) then (mI a).bind fun j=>(mI a).bind fun c=>(bz p0b (ak.mk f g) (J.wrap (c+1))).bind fun c=>(aZ p0b c.2 ([0,j,c.1]:List Int)).bind fun c=>(app h ([c.1]:List Int)).bind fun j=>(iH d a p0b e k l) c.2.i_ c.2.h_ j (J.wrap (i+1)) else (app e [h]).bind fun c=>k f g c (J.wrap (a+1))
def fJ (g:Int×ak) (p0b:List Int):Nat→Int→Int→(List (List Int))→Int→Option (aw×ak)
 | 0,_,_,_,_=>N
 | h+1,c,d,e,f =>
  if decide (f<g.1) then (bz p0b (ak.mk c d) 3).bind fun a=>iH a f p0b e (fJ g p0b h) bb a.2.i_ a.2.h_ ([]:List Int) 0 else U ((aw.mk e),(ak.mk c d))
def iP (a:(List Int)×ak):Nat→Int→(List (List Int))→Option (aw×ak)
 | 0,_,_=>N
 | f+1,c,d =>
  if decide (c<(a.1.length:Int)) then (idx a.1 c).bind fun e=>(pl (aw.mk d) e).bind fun e=>(iP a f) (J.wrap (c+1)) e.1.e_ else U ((aw.mk d),a.2)
def tF (p0b:List Int) (p0:ak):Option (aw×ak) :=
 (fj p0b p0 5).bind fun a=>if a.1 then (aZ p0b a.2 ([1,4,7,8]:List Int)).bind fun c=>fJ c p0b bb c.2.i_ c.2.h_ ([]:List (List Int)) 0 else (aZ p0b a.2 ([0,6,30,90]:List Int)).bind fun a=>(rM p0b a.2 a.1).bind fun a=>iP a bb 0 ([]:List (List Int))
def ma (c:Int×ak):Nat→(List (List Int))→Option (aw×ak)
 | 0,_=>N
 | e+1,a =>
  if decide ((a.length:Int)<9) then (app a [([1]:List Int)]).bind fun d=>(ma c e) d else U ((aw.mk a),c.2)
def sd (p0b:List Int) (p0:ak):Option (aw×ak) :=
 (tF p0b p0).bind fun c=>(bz p0b c.2 12).bind fun a=>if (a.1==0) then (app c.1.e_ [([]:List Int)]).bind fun d=>U ((aw.mk d),a.2) else if (a.1==1) then if decide ((c.1.e_.length:Int)>0) then (idx c.1.e_ 0).bind fun e=>(aZ p0b a.2 ([2,(-1),1,1]:List Int)).bind fun d=>(app e ([d.1]:List Int)).bind fun e=>U ((aw.mk (c.1.e_.set (0:Int).toNat e)),d.2) else U (c.1,a.2) else if (a.1==2) then ma a bb c.1.e_ else if (a.1==3) then (aZ p0b a.2 ([256,257,1,(-1)]:List Int)).bind fun d=>(app c.1.e_ [([d.1]:List Int)]).bind fun e=>U ((aw.mk e),d.2) else U (c.1,a.2)
def vv (p0b:List Int) (p0:ak):Option (cW×ak) :=
 (fj p0b p0 2).bind fun a=>if a.1 then (rM p0b a.2 60).bind fun c=>(aZ p0b c.2 ([1,2,3]:List Int)).bind fun d=>(wK c.1 1 d.1).bind fun c=>U (c.1,d.2) else (sd p0b a.2).bind fun a=>(sd p0b a.2).bind fun c=>U ((cW.mk a.1 c.1),c.2)
def sq (p0b:List Int) (p0:ak) (p1:bh):Option (aF×ak) :=
 (aZ p0b p0 ([0,4,20,40,40]:List Int)).bind fun a=>(tX p0b a.2 p1 a.1).bind fun c=>(bz p0b c.2 14).bind fun a=>if (a.1==0) then U (({c.1 with Q_:=(!c.1.Q_)}),a.2) else if (a.1==1) then (sa p0b a.2 p1.y_).bind fun d=>U (({c.1 with D_:=d.1}),d.2) else if (a.1==2) then (sa p0b a.2 p1.y_).bind fun d=>U (({c.1 with t_:=d.1}),d.2) else if (a.1==3) then (vv p0b a.2).bind fun d=>U (({c.1 with C_:=d.1}),d.2) else U (c.1,a.2)
def vk (p0b:List Int) (p0:ak) (p1:bh):Option (bA×ak) :=
 (aZ p0b p0 ([0,5,20,36]:List Int)).bind fun a=>(qr p0b a.2 p1 a.1).bind fun a=>(bz p0b a.2 14).bind fun c=>if (c.1==0) then (sq p0b c.2 p1).bind fun d=>(app a.1.u_ [d.1]).bind fun e=>U ((bA.mk e),d.2) else if (c.1==1) then if decide ((a.1.u_.length:Int)>0) then (sub a.1.u_ 0 (J.wrap ((a.1.u_.length:Int)-1))).bind fun d=>U ((bA.mk d),c.2) else U (a.1,c.2) else if (c.1==2) then if decide ((a.1.u_.length:Int)>0) then (sq p0b c.2 p1).bind fun d=>(idx a.1.u_ 0).bind fun _=>U ((bA.mk (a.1.u_.set (0:Int).toNat d.1)),d.2) else U (a.1,c.2) else U (a.1,c.2)
def vI (p0b:List Int) (p0:ak) (p1:Int):Option (bc×ak) :=
 (qE p0b p0 p1).bind fun a=>(bz p0b a.2 12).bind fun c=>if (c.1==0) then (idx a.1.q_ 0).bind fun d=>(idx d 0).bind fun e=>(idx d 0).bind fun _=>U ((bc.mk (a.1.q_.set (0:Int).toNat (d.set (0:Int).toNat (J.wrap (e+1)))) a.1.s_),c.2) else if (c.1==1) then (idx a.1.q_ 1).bind fun d=>(aZ p0b c.2 ([(-1),10000,9223372036854775807]:List Int)).bind fun e=>(idx d 0).bind fun _=>U ((bc.mk (a.1.q_.set (1:Int).toNat (d.set (0:Int).toNat e.1)) a.1.s_),e.2) else if (c.1==2) then (bz p0b c.2 4).bind fun d=>(app a.1.s_ ([(aS.mk (J.wrap (d.1-1)) 0)]:List aS)).bind fun e=>U ((bc.mk a.1.q_ e),d.2) else if (c.1==3) then (app a.1.q_ [([0]:List Int)]).bind fun d=>U ((bc.mk d a.1.s_),c.2) else if (c.1==4) then if decide ((a.1.s_.length:Int)>0) then (bz p0b c.2 5).bind fun d=>(idx a.1.s_ 0).bind fun e=>U ((bc.mk a.1.q_ (a.1.s_.set (0:Int).toNat (aS.mk e.Z_ (J.wrap (d.1-1))))),d.2) else U (a.1,c.2) else U (a.1,c.2)
def vf (p0b:List Int) (p0:ak):Option (aM×ak) :=
 (ub p0b p0).bind fun c=>(bz p0b c.2 14).bind fun a=>if (a.1==0) then (vz p0b a.2).bind fun d=>U (({c.1 with l_:=d.1}),d.2) else if (a.1==1) then (vk p0b a.2 c.1.l_).bind fun d=>U (({c.1 with ab_:=d.1}),d.2) else if (a.1==2) then (vI p0b a.2 2).bind fun d=>U (({c.1 with N_:=d.1}),d.2) else U (c.1,a.2)
def mT (p0:List Int):Option aM :=
 (yF p0).bind fun a=>(vf p0 a).bind fun a=>U a.1
def bf (p0:Int) (p1:Int) (p2:Int):Option Bool :=
 U ((decide (p0≥p1))&&(decide (p0≤p2)))
def oU (p0:List UInt8):Nat→Int→Option Bool
 | 0,_=>N
 | d+1,a =>
  if decide (a<(p0.length:Int)) then (idx p0 a).bind fun c=>(if decide ((c.toNat:Int)<97) then U y else (idx p0 a).bind fun c=>U (decide ((c.toNat:Int)>122))).bind fun c=>if c then U n else (oU p0 d) (J.wrap (a+1)) else U y
def ue (p0:List UInt8):Option Bool :=
 (bf (p0.length:Int) 1 8).bind fun a=>if (!a) then U n else oU p0 bb 0
def dS (p0:List (List UInt8)) (p1:List UInt8):Nat→Int→Option Int
 | 0,_=>N
 | d+1,a =>
  if decide (a<(p0.length:Int)) then (idx p0 a).bind fun c=>if (p1==c) then U a else (dS p0 p1 d) (J.wrap (a+1)) else U (-1)
def iW (p0:List (List UInt8)) (p1:List UInt8):Option Int :=
 dS p0 p1 bb 0
def gP (p0:List (List UInt8)) (p1:List UInt8):Option Bool :=
 (iW p0 p1).bind fun a=>U (decide (a≥0))
def jG (p0:List (List UInt8)):Nat→Int→Option Bool
 | 0,_=>N
 | e+1,a =>
  if decide (a<(p0.length:Int)) then (idx p0 a).bind fun c=>(ue c).bind fun d=>(if (!d) then U y else (sub p0 0 a).bind fun d=>(gP d c).bind fun c=>U c).bind fun c=>if c then U n else (jG p0 e) (J.wrap (a+1)) else U y
def iv (p0:List (List UInt8)):Option Bool :=
 jG p0 bb 0
def jg (p0:List Int):Nat→Int→Option Bool
 | 0,_=>N
 | e+1,a =>
  if decide (a<(p0.length:Int)) then (idx p0 a).bind fun c=>(idx p0 (J.wrap (a-1))).bind fun d=>if decide (c≤d) then U n else (jg p0 e) (J.wrap (a+1)) else U y
def kq (p0:List Int):Option Bool :=
 jg p0 bb 1
def BP (p0:Int):Option Bool :=
 (bf p0 (-9999) 9998).bind fun a=>U a
def xM (p0:Int):Option Bool :=
 (BP p0).bind fun a=>U (!a)
def cH (p0:List Int):Nat→Int→Option Int
 | 0,_=>N
 | d+1,a =>
  if decide (a<(p0.length:Int)) then (idx p0 a).bind fun c=>(xM c).bind fun c=>if c then U a else (cH p0 d) (J.wrap (a+1)) else U (-1)
def eN (p0:List Int):Option Int :=
 cH p0 bb 0
def ei (p0:List Int):Option Bool :=
 (eN p0).bind fun a=>U (decide (a≥0))
def wV (p0:List Int):Option Bool :=
 (bf (p0.length:Int) 1 3).bind fun a=>(if a then (kq p0).bind fun a=>U a else U n).bind fun u12=>(if u12 then (ei p0).bind fun a=>U (!a) else U n).bind fun u17=>U u17
def nJ (p0:aK):Option Bool :=
 (ue p0.H_).bind fun a=>if (!a) then U n else if ((p0.B_.length:Int)==0) then (bf (p0.O_.length:Int) 2 4).bind fun a=>(if a then (iv p0.O_).bind fun a=>U a else U n).bind fun u21=>U u21 else (if ((p0.O_.length:Int)==0) then (wV p0.B_).bind fun a=>U a else U n).bind fun a=>U a
def iQ (p0:ae):Nat→Int→(List (List UInt8))→Option Bool
 | 0,_,_=>N
 | f+1,a,c =>
  if decide (a<(p0.c_.length:Int)) then (idx p0.c_ a).bind fun d=>(nJ d).bind fun e=>if (!e) then U n else (app c ([d.H_]:List (List UInt8))).bind fun d=>(iQ p0 f) (J.wrap (a+1)) d else (iv c).bind fun a=>U a
def gv (p0:ae):Option Bool :=
 (bf (p0.c_.length:Int) 1 5).bind fun a=>(if (!a) then U y else (bf (p0.g_.length:Int) 2 3).bind fun a=>U (!a)).bind fun u19=>(if u19 then U y else (iv p0.g_).bind fun a=>U (!a)).bind fun a=>if a then U n else iQ p0 bb 0 ([]:List (List UInt8))
def uj (p0:bZ):Option Bool :=
 (bf p0.U_ 1 9).bind fun a=>(if a then (bf p0.T_ 0 999).bind fun a=>U a else U n).bind fun u13=>(if u13 then (bf p0.V_ 1 200).bind fun a=>U a else U n).bind fun u18=>(if u18 then (bf p0.r_ 0 6).bind fun a=>U a else U n).bind fun a=>(if a then (bf p0.a_ 1 31).bind fun a=>U a else U n).bind fun a=>(if a then (bf p0.K_ 62 2000).bind fun a=>U a else U n).bind fun a=>U a
def qO (p0:Int):Option ((List Int)×Bool) :=
 if (p0==1) then U (([24109,48218,60273,64291,65296,65497,65530]:List Int),n) else if (p0==6) then U (([162,1137,4061,9909,18681,29208,39734]:List Int),n) else U (([]:List Int),y)
def oW (p0:bh):Option Bool :=
 (gv p0.y_).bind fun a=>(if a then (uj p0.k_).bind fun a=>U a else U n).bind fun u19=>(if u19 then (bf p0.u_ 1 4).bind fun a=>U a else U n).bind fun a=>(if a then (bf p0.W_ 1 (p0.y_.c_.length:Int)).bind fun a=>U a else U n).bind fun a=>(if a then (qO p0.Y_).bind fun a=>U (!a.2) else U n).bind fun a=>(if a then (bf p0.w_ 1 9).bind fun a=>U a else U n).bind fun a=>(if a then (bf p0.x_ 1 9).bind fun a=>U a else U n).bind fun a=>U (a&&(decide (p0.w_≤p0.x_)))
def vW (p0:Int):Option Bool :=
 (bf p0 0 999).bind fun a=>U (!a)
def cD (p0:List Int):Nat→Int→Option Int
 | 0,_=>N
 | d+1,a =>
  if decide (a<(p0.length:Int)) then (idx p0 a).bind fun c=>(vW c).bind fun c=>if c then U a else (cD p0 d) (J.wrap (a+1)) else U (-1)
def eE (p0:List Int):Option Int :=
 cD p0 bb 0
def dp (p0:List Int):Option Bool :=
 (eE p0).bind fun a=>U (decide (a≥0))
def so (p0:List Int) (p1:Int):Option Bool :=
 (if ((p0.length:Int)==p1) then (dp p0).bind fun a=>U (!a) else U n).bind fun u10=>U u10
def iZ (p0:List Int):Nat→Int→Int→Option Int
 | 0,_,_=>N
 | e+1,c,a =>
  if decide (a<(p0.length:Int)) then (idx p0 a).bind fun d=>(iZ p0 e) (J.wrap (c+d)) (J.wrap (a+1)) else U c
def nO (p0:List Int):Option Int :=
 iZ p0 bb 0 0
def lF (p0:aK):Option Int :=
 if decide ((p0.B_.length:Int)>0) then U (J.wrap ((p0.B_.length:Int)+1)) else U (p0.O_.length:Int)
def Bt (p0:Int):Option (List Int) :=
 (mk (0:Int) p0).bind fun a=>U a
def fA (e:List Int) (p0:ae) (p1:aE) (k:Int→Option Bool) (f:Int):Nat→Int→(List Int)→Option Bool
 | 0,_,_=>N
 | l+1,a,c =>
  if decide (a<(e.length:Int)) then (idx e a).bind fun g=>(rem a (p0.g_.length:Int)).bind fun d=>(idx c d).bind fun h=>(idx c d).bind fun _=>(rem a (p0.g_.length:Int)).bind fun i=>(idx (c.set d.toNat (J.wrap (h+g))) i).bind fun i=>(rem a (p0.g_.length:Int)).bind fun j=>(idx p1.j_ j).bind fun j=>if decide (i>j) then U n else (fA e p0 p1 k f l) (J.wrap (a+1)) (c.set d.toNat (J.wrap (h+g))) else k (J.wrap (f+1))
def eU (p1:aE) (p0:ae):Nat→Int→Option Bool
 | 0,_=>N
 | e+1,a =>
  if decide (a<(p1.d_.length:Int)) then (idx p1.d_ a).bind fun c=>(idx p0.c_ a).bind fun d=>(lF d).bind fun d=>(so c (J.wrap (d*(p0.g_.length:Int)))).bind fun d=>if (!d) then U n else (Bt (p0.g_.length:Int)).bind fun d=>fA c p0 p1 (eU p1 p0 e) a bb 0 d else U y
def sj (p0:ae) (p1:aE):Option Bool :=
 (gv p0).bind fun a=>(if (!a) then U y else (so p1.j_ (p0.g_.length:Int)).bind fun a=>U (!a)).bind fun a=>(if a then U y else (nO p1.j_).bind fun a=>U (decide (a>999))).bind fun a=>if a then U n else if ((p1.d_.length:Int)==0) then U y else if ((p1.d_.length:Int) != (p0.c_.length:Int)) then U n else eU p1 p0 bb 0
def vn (p0:ae) (p1:List Int):Option Bool :=
 (gv p0).bind fun a=>(if (a&&(decide ((p1.length:Int)>0))) then (kq p1).bind fun a=>U a else U n).bind fun u21=>(if u21 then (idx p1 0).bind fun a=>U (decide (a≥0)) else U n).bind fun a=>(if a then (idx p1 (J.wrap ((p1.length:Int)-1))).bind fun a=>U (decide (a<(p0.c_.length:Int))) else U n).bind fun a=>U a
def uf (p0:ae) (p1:aB):Option Bool :=
 (gv p0).bind fun a=>(if (!a) then U y else (bf p1.p_ 0 (J.wrap ((p0.c_.length:Int)-1))).bind fun a=>U (!a)).bind fun u20=>if u20 then U n else (idx p0.c_ p1.p_).bind fun a=>(lF a).bind fun c=>if decide ((a.B_.length:Int)>0) then (bf p1.f_ (-1) (J.wrap ((J.wrap (c-1))-1))).bind fun a=>U a else (bf p1.f_ (-1) (J.wrap (c-1))).bind fun a=>U a
def ov (p0:ae) (p1:aB):Option Int :=
 (uf p0 p1).bind fun a=>if (!a) then U 0 else if (p1.f_==(-1)) then (idx p0.c_ p1.p_).bind fun a=>(lF a).bind fun a=>U a else U 2
def tD (p0:Int) (p1:Int) (p2:ao):Option Bool :=
 (bf p0 (J.wrap (p1+1)) (J.wrap ((p2.a_.length:Int)-1))).bind fun a=>(if (!a) then U y else (idx p2.a_ p0).bind fun a=>U (a.F_ != p1)).bind fun u15=>U u15
def cK (p0:List Int) (p1_0:Int) (p1_1:ao):Nat→Int→Option Int
 | 0,_=>N
 | d+1,a =>
  if decide (a<(p0.length:Int)) then (idx p0 a).bind fun c=>(tD c p1_0 p1_1).bind fun c=>if c then U a else (cK p0 p1_0 p1_1 d) (J.wrap (a+1)) else U (-1)
def eM (p0:List Int) (p1_0:Int) (p1_1:ao):Option Int :=
 cK p0 p1_0 p1_1 bb 0
def dA (p0:List Int) (p1_0:Int) (p1_1:ao):Option Bool :=
 (eM p0 p1_0 p1_1).bind fun a=>U (decide (a≥0))
def nf (a:aA) (c:Int):Option Bool :=
 (if (((a.n_.p_==0&&(a.n_.f_==0&&y))&&((a.z_.length:Int)==0))&&(a.J_==0)) then (bf a.I_ 0 c).bind fun a=>U a else U n).bind fun a=>U a
def xj (p0:ae) (p1:ao) (p2:Int):Option Bool :=
 (idx p1.a_ p2).bind fun a=>(bf a.r_ 0 6).bind fun c=>(if (!c) then U y else (bf a.E_ 0 p1.m_).bind fun c=>U (!c)).bind fun c=>(if c then U y else (sj p0 a.o_).bind fun c=>U (!c)).bind fun c=>(if c then U y else (vn p0 a.c_).bind fun c=>U (!c)).bind fun c=>if c then U n else if a.A_ then (nO a.o_.j_).bind fun c=>if ((a.o_.d_.length:Int)==0) then nf a 0 else nf a c else (ov p0 a.n_).bind fun c=>(if ((c==0)||((a.z_.length:Int) != c)) then U y else (kq a.z_).bind fun d=>U (!d)).bind fun d=>(if d then U y else (bf a.J_ 0 (J.wrap (c-1))).bind fun c=>U (!c)).bind fun c=>if ((c||((a.o_.d_.length:Int) != 0))||(a.I_ != 0)) then U n else (dA a.z_ p2 p1).bind fun a=>U (!a)
def eX (p0:List Int) (p1:Int):Nat→Int→Option Int
 | 0,_=>N
 | d+1,a =>
  if decide (a<(p0.length:Int)) then (idx p0 a).bind fun c=>if (p1==c) then U a else (eX p0 p1 d) (J.wrap (a+1)) else U (-1)
def ld (p0:List Int) (p1:Int):Option Int :=
 eX p0 p1 bb 0
def gD (p0:List Int) (p1:Int):Option Bool :=
 (ld p0 p1).bind fun a=>U (decide (a≥0))
def gm (p1:ao) (p0:ae):Nat→Int→Option Bool
 | 0,_=>N
 | f+1,c =>
  if decide (c<(p1.a_.length:Int)) then (idx p1.a_ c).bind fun a=>(xj p0 p1 c).bind fun d=>if (!d) then U n else if (c==0) then if (((a.F_ != (-1))||(a.r_ != 0))||(a.E_ != 0)) then U n else (gm p1 p0 f) (J.wrap (c+1)) else (bf a.F_ 0 (J.wrap (c-1))).bind fun d=>if (!d) then U n else (idx p1.a_ a.F_).bind fun d=>(if d.A_ then U y else (gD d.z_ c).bind fun e=>U (!e)).bind fun e=>if ((e||(d.r_ != (J.wrap (a.r_-1))))||(decide (d.E_>a.E_))) then U n else (gm p1 p0 f) (J.wrap (c+1)) else U y
def wZ (p0:ae) (p1:ao):Option Bool :=
 (gv p0).bind fun a=>(if (!a) then U y else (bf (p1.a_.length:Int) 1 31).bind fun a=>U (!a)).bind fun a=>(if a then U y else (bf p1.m_ 0 99999).bind fun a=>U (!a)).bind fun a=>if a then U n else gm p1 p0 bb 0
def im (p0:ao):Nat→Int→Int→Option Int
 | 0,_,_=>N
 | e+1,a,c =>
  if decide (a<(p0.a_.length:Int)) then (idx p0.a_ a).bind fun d=>(im p0 e) (J.wrap (a+1)) (if c<d.r_ then d.r_ else c) else U c
def vp (p0:ao):Option Int :=
 if ((p0.a_.length:Int)==0) then U 0 else (idx p0.a_ 0).bind fun a=>im p0 bb 0 a.r_
def kQ (p0:aA):Nat→Int→Int→Option Int
 | 0,_,_=>N
 | e+1,a,c =>
  if decide (a<(p0.o_.d_.length:Int)) then (idx p0.o_.d_ a).bind fun d=>(kQ p0 e) (J.wrap (a+1)) (J.wrap (c+(d.length:Int))) else U c
def vG (p0:aA):Option Int :=
 if (!p0.A_) then U 1 else kQ p0 bb 0 2
def mw (p0:ao):Nat→Int→Int→Option Int
 | 0,_,_=>N
 | e+1,c,a =>
  if decide (a<(p0.a_.length:Int)) then (idx p0.a_ a).bind fun d=>(vG d).bind fun d=>(mw p0 e) (J.wrap (c+d)) (J.wrap (a+1)) else U c
def rQ (p0:ao):Option Int :=
 mw p0 bb 0 0
def xR (p0:ae) (p1:bZ) (p2:ao):Option Bool :=
 (wZ p0 p2).bind fun a=>(if a then (uj p1).bind fun a=>U a else U n).bind fun a=>(if (a&&(decide ((p2.a_.length:Int)≤p1.a_))) then (vp p2).bind fun a=>U (decide (a≤p1.r_)) else U n).bind fun a=>(if a then (rQ p2).bind fun a=>U (decide (a≤p1.K_)) else U n).bind fun a=>U a
def uP (p0:Int) (p1:Int):Option Bool :=
 (shl J 1 p1).bind fun x10=>(bf p0 0 x10).bind fun a=>U (!a)
def cB (p0:List Int) (p1_0:Int):Nat→Int→Option Int
 | 0,_=>N
 | d+1,a =>
  if decide (a<(p0.length:Int)) then (idx p0 a).bind fun c=>(uP c p1_0).bind fun c=>if c then U a else (cB p0 p1_0 d) (J.wrap (a+1)) else U (-1)
def eo (p0:List Int) (p1_0:Int):Option Int :=
 cB p0 p1_0 bb 0
def dj (p0:List Int) (p1_0:Int):Option Bool :=
 (eo p0 p1_0).bind fun a=>U (decide (a≥0))
def fE (p0:aw):Nat→Int→Option Bool
 | 0,_=>N
 | e+1,a =>
  if decide (a<(p0.e_.length:Int)) then (idx p0.e_ a).bind fun c=>(bf (c.length:Int) 1 3).bind fun d=>(if (!d) then U y else (dj c a).bind fun c=>U c).bind fun c=>if c then U n else (fE p0 e) (J.wrap (a+1)) else U y
def qH (p0:aw):Option Bool :=
 if decide ((p0.e_.length:Int)>8) then U n else fE p0 bb 0
def yB (p0:cW):Option Bool :=
 (qH p0.w_).bind fun a=>(if a then (qH p0.x_).bind fun a=>U a else U n).bind fun u19=>U u19
def jU (p0:List Int) (p1:List Int):Nat→Int→Option Bool
 | 0,_=>N
 | e+1,a =>
  if decide (a<(p0.length:Int)) then (idx p0 a).bind fun c=>(idx p1 a).bind fun d=>if (c != d) then U n else (jU p0 p1 e) (J.wrap (a+1)) else U y
def fU (p0:List Int) (p1:List Int):Option Bool :=
 if ((p0.length:Int) != (p1.length:Int)) then U n else jU p0 p1 bb 0
def yl (p0:List Int) (p1:List Int):Option Bool :=
 (fU p0 p1).bind fun a=>U a
def cO (p0:List (List Int)) (p1:List (List Int)):Nat→Int→Option Bool
 | 0,_=>N
 | e+1,a =>
  if decide (a<(p0.length:Int)) then (idx p0 a).bind fun c=>(idx p1 a).bind fun d=>(yl c d).bind fun c=>if (!c) then U n else (cO p0 p1 e) (J.wrap (a+1)) else U y
def ef (p0:List (List Int)) (p1:List (List Int)):Option Bool :=
 if ((p0.length:Int) != (p1.length:Int)) then U n else cO p0 p1 bb 0
def zR (p0:List (List Int)) (p1:List (List Int)):Option Bool :=
 (ef p0 p1).bind fun a=>U a
def Am (p0:aE) (p1:aE):Option Bool :=
 (fU p0.j_ p1.j_).bind fun a=>(if a then (zR p0.d_ p1.d_).bind fun a=>U a else U n).bind fun a=>U a
def Bo (p0:aA) (p1:aA):Option Bool :=
 (if ((p0.A_==p1.A_)&&(p0.n_.p_==p1.n_.p_&&(p0.n_.f_==p1.n_.f_&&y))) then (fU p0.z_ p1.z_).bind fun a=>U a else U n).bind fun a=>(if (a&&(p0.J_==p1.J_)) then (Am p0.o_ p1.o_).bind fun a=>U a else U n).bind fun a=>(if (a&&(p0.I_==p1.I_)) then (fU p0.c_ p1.c_).bind fun a=>U a else U n).bind fun a=>U (((a&&(p0.r_==p1.r_))&&(p0.F_==p1.F_))&&(p0.E_==p1.E_))
def bF (p0:List aA) (p1:List aA):Nat→Int→Option Bool
 | 0,_=>N
 | e+1,a =>
  if decide (a<(p0.length:Int)) then (idx p0 a).bind fun d=>(idx p1 a).bind fun c=>(Bo d c).bind fun c=>if (!c) then U n else (bF p0 p1 e) (J.wrap (a+1)) else U y
def ct (p0:List aA) (p1:List aA):Option Bool :=
 if ((p0.length:Int) != (p1.length:Int)) then U n else bF p0 p1 bb 0
def tW (p0:ao) (p1:ao):Option Bool :=
 (if (p0.m_==p1.m_) then (ct p0.a_ p1.a_).bind fun a=>U a else U n).bind fun u18=>U u18
def tS (p0:bh) (p1:aF):Option Bool :=
 (oW p0).bind fun a=>(if (!a) then U y else (xR p0.y_ p0.k_ p1.D_).bind fun a=>U (!a)).bind fun a=>(if a then U y else (yB p1.C_).bind fun a=>U (!a)).bind fun a=>if a then U n else if p1.Q_ then (xR p0.y_ p0.k_ p1.t_).bind fun a=>U a else (tW p1.t_ (ao.mk ([]:List aA) 0)).bind fun a=>U a
def uQ (p0:aF) (p1:bh):Option Bool :=
 (tS p1 p0).bind fun a=>U (!a)
def bM (p0:List aF) (p1_0:bh):Nat→Int→Option Int
 | 0,_=>N
 | d+1,a =>
  if decide (a<(p0.length:Int)) then (idx p0 a).bind fun c=>(uQ c p1_0).bind fun c=>if c then U a else (bM p0 p1_0 d) (J.wrap (a+1)) else U (-1)
def dh (p0:List aF) (p1_0:bh):Option Int :=
 bM p0 p1_0 bb 0
def cq (p0:List aF) (p1_0:bh):Option Bool :=
 (dh p0 p1_0).bind fun a=>U (decide (a≥0))
def tM (p0:bh) (p1:bA):Option Bool :=
 (oW p0).bind fun a=>(if (a&&((p1.u_.length:Int)==p0.u_)) then (cq p1.u_ p0).bind fun a=>U (!a) else U n).bind fun a=>U a
def wh (p0:Int):Option Bool :=
 (bf p0 0 9999).bind fun a=>U (!a)
def iR (p0:List (List Int)):Nat→Int→Int→Option Int
 | 0,_,_=>N
 | e+1,c,a =>
  if decide (a<(p0.length:Int)) then (idx p0 a).bind fun d=>(nO d).bind fun d=>(iR p0 e) (J.wrap (c+d)) (J.wrap (a+1)) else U c
def tK (p0:List (List Int)):Option Int :=
 iR p0 bb 0 0
def cF (p0:List Int):Nat→Int→Option Int
 | 0,_=>N
 | d+1,a =>
  if decide (a<(p0.length:Int)) then (idx p0 a).bind fun c=>(wh c).bind fun c=>if c then U a else (cF p0 d) (J.wrap (a+1)) else U (-1)
def eC (p0:List Int):Option Int :=
 cF p0 bb 0
def dn (p0:List Int):Option Bool :=
 (eC p0).bind fun a=>U (decide (a≥0))
def fD (p1:bc) (p0:Int):Nat→Int→(List (aS×Int))→Option Bool
 | 0,_,_=>N
 | f+1,d,c =>
  if decide (d<(p1.s_.length:Int)) then (idx p1.s_ d).bind fun a=>(bf a.Z_ 0 (J.wrap (p0-1))).bind fun e=>(if (!e) then U y else (bf a.aa_ 0 (J.wrap (p0-1))).bind fun e=>U (!e)).bind fun e=>(if e then U y else (idx p1.q_ a.Z_).bind fun e=>(idx e a.aa_).bind fun e=>U (decide ((ko (Cr c a (J.wrap ((ko c a)+1))) a)>e))).bind fun e=>if e then U n else (fD p1 p0 f) (J.wrap (d+1)) (Cr c a (J.wrap ((ko c a)+1))) else U y
def gy (p1:bc) (p0:Int):Nat→Int→Option Bool
 | 0,_=>N
 | d+1,a =>
  if decide (a<(p1.q_.length:Int)) then (idx p1.q_ a).bind fun c=>(if ((c.length:Int) != p0) then U y else (dn c).bind fun c=>U c).bind fun c=>if c then U n else (gy p1 p0 d) (J.wrap (a+1)) else (tK p1.q_).bind fun a=>if ((decide (a>9999))||((p1.s_.length:Int) != (if 20<a then 20 else a))) then U n else fD p1 p0 bb 0 ([]:List (aS×Int))
def ve (p0:Int) (p1:bc):Option Bool :=
 (bf p0 2 3).bind fun a=>if ((!a)||((p1.q_.length:Int) != p0)) then U n else gy p1 p0 bb 0
def sx (p0:aM):Option Bool :=
 (tM p0.l_ p0.ab_).bind fun a=>(if a then (ve (p0.l_.y_.g_.length:Int) p0.N_).bind fun a=>U a else U n).bind fun a=>U a
def ud (p0:Int):Option (List UInt8) :=
 (NW p0).bind fun a=>U a
def fN (p0:List Int) (p1:List UInt8):Nat→Int→(List (List UInt8))→Option (List UInt8)
 | 0,_,_=>N
 | e+1,a,c =>
  if decide (a<(p0.length:Int)) then (idx p0 a).bind fun d=>(ud d).bind fun d=>(app c ([d]:List (List UInt8))).bind fun d=>(fN p0 p1 e) (J.wrap (a+1)) d else (zW c p1).bind fun a=>U a
def pM (p0:List Int) (p1:List UInt8):Option (List UInt8) :=
 fN p0 p1 bb 0 ([]:List (List UInt8))
def mM (p0:aK):Option (List UInt8) :=
 (nJ p0).bind fun a=>if (!a) then U ([]:List UInt8) else if decide ((p0.B_.length:Int)>0) then (qw p0.H_ ([58]:List UInt8)).bind fun a=>(pM p0.B_ ([44]:List UInt8)).bind fun c=>(qw a c).bind fun a=>U a else (qw p0.H_ ([61]:List UInt8)).bind fun a=>(zW p0.O_ ([44]:List UInt8)).bind fun c=>(qw a c).bind fun a=>U a
def gd (p0:ae):Nat→Int→(List (List UInt8))→Option (List UInt8)
 | 0,_,_=>N
 | e+1,a,c =>
  if decide (a<(p0.c_.length:Int)) then (idx p0.c_ a).bind fun d=>(mM d).bind fun d=>(app c ([d]:List (List UInt8))).bind fun d=>(gd p0 e) (J.wrap (a+1)) d else (zW c ([59]:List UInt8)).bind fun a=>(qw a ([124]:List UInt8)).bind fun a=>(zW p0.g_ ([44]:List UInt8)).bind fun c=>(qw a c).bind fun a=>U a
def qL (p0:ae):Option (List UInt8) :=
 (gv p0).bind fun a=>if (!a) then U ([]:List UInt8) else gd p0 bb 0 ([]:List (List UInt8))
def mY  : Nat→Int→(List Int)→Option ((List Int)×Bool)
 | 0,_,_=>N
 | e+1,a,c =>
  if decide (a≥128) then (app c ([K.wrap (fv .or J (fv .and J a 127) 128)]:List Int)).bind fun d=>(mY e) (uJ J a 7) d else (app c ([K.wrap a]:List Int)).bind fun a=>U (a,n)
def rn (p0:Int):Option ((List Int)×Bool) :=
 (bf p0 0 2147483647).bind fun a=>if (!a) then U (([]:List Int),y) else mY bb p0 ([]:List Int)
def vt (p0:List UInt8):Option (List Int) :=
 (rn (p0.length:Int)).bind fun a=>(ED p0).bind fun c=>(app a.1 c).bind fun a=>U a
def xY (p0:Bool):Option Int :=
 if p0 then U 1 else U 0
def wX (p0:Int):Option ((List Int)×Bool) :=
 (bf p0 (-1000000000) 1000000000).bind fun a=>if (!a) then U (([]:List Int),y) else if decide (p0<0) then (rn (J.wrap ((J.wrap ((-2)*p0))-1))).bind fun a=>U (a.1,a.2) else (rn (J.wrap (2*p0))).bind fun a=>U (a.1,a.2)
def jq (p1:List Int):Nat→(List Int)→Bool→Int→Option cZ
 | 0,_,_,_=>N
 | g+1,c,d,a =>
  if decide (a<(p1.length:Int)) then (idx p1 a).bind fun e=>(wX e).bind fun e=>(app c e.1).bind fun f=>(jq p1 g) f (d||e.2) (J.wrap (a+1)) else U (cZ.mk c d)
def cx (p0:cZ) (p1:List Int):Option cZ :=
 jq p1 bb p0.ad_ p0.L_ 0
def fb (p0:cZ) (p1:List Int):Option cZ :=
 (cx p0 ([(p1.length:Int)]:List Int)).bind fun a=>(cx a p1).bind fun a=>U a
def mW (a:aA) (h:(List Int)→Bool→Int→Option cZ) (d:Int):Nat→(List Int)→Bool→Int→Option cZ
 | 0,_,_,_=>N
 | i+1,e,f,c =>
  if decide (c<(a.o_.d_.length:Int)) then (idx a.o_.d_ c).bind fun g=>(fb (cZ.mk e f) g).bind fun g=>(mW a h d i) g.ad_ g.L_ (J.wrap (c+1)) else (cx (cZ.mk e f) ([a.I_]:List Int)).bind fun c=>(fb c a.c_).bind fun c=>(cx c ([a.r_,a.F_,a.E_]:List Int)).bind fun a=>h a.ad_ a.L_ (J.wrap (d+1))
def fR (p1:ao):Nat→(List Int)→Bool→Int→Option cZ
 | 0,_,_,_=>N
 | g+1,d,e,c =>
  if decide (c<(p1.a_.length:Int)) then (idx p1.a_ c).bind fun a=>(xY a.A_).bind fun f=>(cx (cZ.mk d e) ([f,a.n_.p_,a.n_.f_]:List Int)).bind fun f=>(fb f a.z_).bind fun f=>(cx f ([a.J_]:List Int)).bind fun f=>(fb f a.o_.j_).bind fun f=>(cx f ([(a.o_.d_.length:Int)]:List Int)).bind fun f=>mW a (fR p1 g) c bb f.ad_ f.L_ 0 else U (cZ.mk d e)
def ny (p0:cZ) (p1:ao):Option cZ :=
 (cx p0 ([p1.m_,(p1.a_.length:Int)]:List Int)).bind fun a=>fR p1 bb a.ad_ a.L_ 0
def lT (p1:aw):Nat→(List Int)→Bool→Int→Option cZ
 | 0,_,_,_=>N
 | f+1,c,d,a =>
  if decide (a<(p1.e_.length:Int)) then (idx p1.e_ a).bind fun e=>(fb (cZ.mk c d) e).bind fun e=>(lT p1 f) e.ad_ e.L_ (J.wrap (a+1)) else U (cZ.mk c d)
def lJ (p0:cZ) (p1:aw):Option cZ :=
 (cx p0 ([(p1.e_.length:Int)]:List Int)).bind fun a=>lT p1 bb a.ad_ a.L_ 0
def pm (e:Int→Int→Option Int) (c:Int):Nat→Int→Int→Option Int
 | 0,_,_=>N
 | f+1,d,a =>
  if decide (d<8) then if ((fv .and J a 1)==1) then (pm e c f) (J.wrap (d+1)) (fv .xor J (uJ J a 1) 3988292384) else (pm e c f) (J.wrap (d+1)) (uJ J a 1) else e a (J.wrap (c+1))
def jv (p0:List Int):Nat→Int→Int→Option Int
 | 0,_,_=>N
 | e+1,c,a =>
  if decide (a<(p0.length:Int)) then (idx p0 a).bind fun d=>pm (jv p0 e) a bb 0 (fv .xor J c (J.wrap d)) else U (fv .xor J c 4294967295)
def ym (p0:List Int):Option Int :=
 jv p0 bb 4294967295 0
def dX (p0:List Int):Option (List Int) :=
 (ym p0).bind fun a=>U ([K.wrap (uJ J a 24),K.wrap (uJ J a 16),K.wrap (uJ J a 8),K.wrap a]:List Int)
def jP (p0:aM):Nat→Int→(List Int)→Bool→Option (List Int)
 | 0,_,_,_=>N
 | f+1,a,c,e =>
  if decide (a<(p0.N_.s_.length:Int)) then (idx p0.N_.s_ a).bind fun d=>(cx (cZ.mk c e) ([d.Z_,d.aa_]:List Int)).bind fun d=>(jP p0 f) (J.wrap (a+1)) d.ad_ d.L_ else (dX c).bind fun a=>(app c a).bind fun a=>U a
def iy (p0:aM):Nat→Int→(List Int)→Bool→Option (List Int)
 | 0,_,_,_=>N
 | f+1,a,c,d =>
  if decide (a<(p0.N_.q_.length:Int)) then (idx p0.N_.q_ a).bind fun e=>(fb (cZ.mk c d) e).bind fun e=>(iy p0 f) (J.wrap (a+1)) e.ad_ e.L_ else (cx (cZ.mk c d) ([(p0.N_.s_.length:Int)]:List Int)).bind fun a=>jP p0 bb 0 a.ad_ a.L_
def jN (p0:aM):Nat→(List Int)→Bool→Int→Option (List Int)
 | 0,_,_,_=>N
 | h+1,d,e,c =>
  if decide (c<(p0.ab_.u_.length:Int)) then (idx p0.ab_.u_ c).bind fun a=>(ny (cZ.mk d e) a.D_).bind fun f=>(xY a.Q_).bind fun g=>(cx f ([g]:List Int)).bind fun f=>(ny f a.t_).bind fun f=>(lJ f a.C_.w_).bind fun f=>(lJ f a.C_.x_).bind fun a=>(jN p0 h) a.ad_ a.L_ (J.wrap (c+1)) else iy p0 bb 0 d e
def iu (p0:aM):Option (List Int) :=
 (sx p0).bind fun a=>if (!a) then U ([]:List Int) else (app ([83,80,78]:List Int) ([1]:List Int)).bind fun a=>(qL p0.l_.y_).bind fun c=>(vt c).bind fun c=>(app a c).bind fun a=>(xY p0.l_.k_.R_).bind fun c=>(cx (cZ.mk a n) ([p0.l_.k_.U_,p0.l_.k_.T_,p0.l_.k_.V_,p0.l_.k_.r_,p0.l_.k_.a_,p0.l_.k_.K_,c]:List Int)).bind fun a=>(cx a ([p0.l_.u_,p0.l_.W_,p0.l_.Y_,p0.l_.w_,p0.l_.x_]:List Int)).bind fun a=>jN p0 bb a.ad_ a.L_ 0
def sN (p0:aM):Option Bool :=
 (qB p0.l_ p0.ab_).bind fun a=>(if a then (pR (p0.l_.y_.g_.length:Int) p0.N_).bind fun a=>U a else U n).bind fun a=>U a
def vT (p0:List Int) (p1:Int):Option Int :=
 if decide (p1<(p0.length:Int)) then (idx p0 p1).bind fun a=>U (J.wrap a) else U (Int.tmod (J.wrap ((J.wrap (p1*7))+(p0.length:Int))) 256)
def rp (p0:Int):Nat→Int→Int→Option Int
 | 0,_,_=>N
 | d+1,a,c =>
  if decide (c<(Int.tmod p0 8)) then (rp p0 d) (J.wrap (2*a)) (J.wrap (c+1)) else U (K.wrap a)
def Gx (p0:Int):Option Int :=
 rp p0 bb 1 0
def qQ (p0:List Int) (p1:List Int):Option Bool :=
 U ((kl p0)==(kl p1))
def ng (p1:Int) (p0:List Int):Nat→Int→Int→Option (Int×Int×Bool)
 | 0,_,_=>N
 | f+1,c,a =>
  if (((decide (a<5))&&(decide ((J.wrap (p1+a))≥0)))&&(decide ((J.wrap (p1+a))<(p0.length:Int)))) then (idx p0 (J.wrap (p1+a))).bind fun d=>(shl J (fv .and J (J.wrap d) 127) (J.wrap (7*a))).bind fun e=>if decide ((J.wrap d)≥128) then (ng p1 p0 f) (fv .or J c e) (J.wrap (a+1)) else if ((((J.wrap d)==0)&&(decide (a>0)))||(decide ((fv .or J c e)>2147483647))) then U (0,0,n) else U (fv .or J c e,J.wrap ((J.wrap (p1+a))+1),y) else U (0,0,n)
def uq (p0:List Int) (p1:Int):Option (Int×Int×Bool) :=
 if decide (p1<0) then U (0,0,n) else ng p1 p0 bb 0 0
def rH (p0:List Int) (p1:Int):Option ((List UInt8)×Int×Bool) :=
 (uq p0 p1).bind fun a=>if ((!a.2.2)||(decide (a.1>(J.wrap ((p0.length:Int)-a.2.1))))) then U (([]:List UInt8),0,n) else (sub p0 a.2.1 (J.wrap (a.2.1+a.1))).bind fun c=>U (kl c,J.wrap (a.2.1+a.1),y)
def mK (p0:List UInt8) (p1:Int):Nat→(List (List UInt8))→Int→Int→Option (List (List UInt8))
 | 0,_,_,_=>N
 | e+1,c,d,a =>
  if decide (a<(p0.length:Int)) then (idx p0 a).bind fun f=>if ((f.toNat:Int)==p1) then (sub p0 d a).bind fun f=>(app c ([f]:List (List UInt8))).bind fun f=>(mK p0 p1 e) f (J.wrap (a+1)) (J.wrap (a+1)) else (mK p0 p1 e) c d (J.wrap (a+1)) else (sub p0 d (p0.length:Int)).bind fun a=>(app c ([a]:List (List UInt8))).bind fun a=>U a
def tc (p0:List UInt8) (p1:Int):Option (List (List UInt8)) :=
 mK p0 p1 bb ([]:List (List UInt8)) 0 0
def yO (p0:List UInt8) (p1:Int) (p2:Int):Option (Int×Bool) :=
 (Mt p0).bind fun a=>(if (!a.2) then U y else (bf a.1 p1 p2).bind fun c=>U (!c)).bind fun u17=>(if u17 then U y else (ud a.1).bind fun c=>U (!(c==p0))).bind fun u22=>if u22 then U (0,n) else U (a.1,y)
def xq (p0:List UInt8):Option (Int×Bool) :=
 (yO p0 (-9999) 9999).bind fun a=>U (a.1,a.2)
def kx (p0:List UInt8) (a:List UInt8) (c:List Int) (d:List (List UInt8)):Option (aK×Bool) :=
 (nJ (aK.mk a c d)).bind fun e=>(if (!e) then U y else (mM (aK.mk a c d)).bind fun e=>U (!(e==p0))).bind fun e=>if e then U ((aK.mk ([]:List UInt8) ([]:List Int) ([]:List (List UInt8))),n) else U ((aK.mk a c d),y)
def je (a:List (List UInt8)) (p0:List UInt8) (d:List UInt8×List UInt8×Bool):Nat→Int→(List Int)→Option (aK×Bool)
 | 0,_,_=>N
 | g+1,c,e =>
  if decide (c<(a.length:Int)) then (idx a c).bind fun f=>(xq f).bind fun f=>if (!f.2) then U ((aK.mk ([]:List UInt8) ([]:List Int) ([]:List (List UInt8))),n) else (app e ([f.1]:List Int)).bind fun f=>(je a p0 d g) (J.wrap (c+1)) f else kx p0 d.1 e ([]:List (List UInt8))
def xz (p0:List UInt8):Option (aK×Bool) :=
 (Px p0 ([61]:List UInt8)).bind fun a=>if a.2.2 then (tc a.2.1 44).bind fun c=>kx p0 a.1 ([]:List Int) c else (Px p0 ([58]:List UInt8)).bind fun a=>if a.2.2 then (tc a.2.1 44).bind fun c=>je c p0 a bb 0 ([]:List Int) else kx p0 ([]:List UInt8) ([]:List Int) ([]:List (List UInt8))
def gF (a:List (List UInt8)) (c:List (List UInt8)):Nat→Int→(List aK)→Option (ae×Bool)
 | 0,_,_=>N
 | g+1,d,e =>
  if decide (d<(a.length:Int)) then (idx a d).bind fun f=>(xz f).bind fun f=>if (!f.2) then U ((ae.mk ([]:List aK) ([]:List (List UInt8))),n) else (app e [f.1]).bind fun f=>(gF a c g) (J.wrap (d+1)) f else (gv (ae.mk e c)).bind fun a=>if (!a) then U ((ae.mk ([]:List aK) ([]:List (List UInt8))),n) else U ((ae.mk e c),y)
def qt (p0:List UInt8):Option (ae×Bool) :=
 (Px p0 ([124]:List UInt8)).bind fun a=>if (!a.2.2) then U ((ae.mk ([]:List aK) ([]:List (List UInt8))),n) else (tc a.2.1 44).bind fun c=>(tc a.1 59).bind fun a=>gF a c bb 0 ([]:List aK)
def ni (a:Int×Int×Bool) (c:Int):Option (Int×Int×Bool) :=
 (if (!a.2.2) then U y else (bf c (-1000000000) 1000000000).bind fun d=>U (!d)).bind fun u13=>if u13 then U (0,0,n) else U (c,a.2.1,y)
def rr (p0:List Int) (p1:Int):Option (Int×Int×Bool) :=
 (uq p0 p1).bind fun a=>if ((Int.tmod a.1 2)==1) then ni a (J.wrap ((J.wrap (0-(J.wrap (Int.tdiv a.1 2))))-1)) else ni a (J.wrap (Int.tdiv a.1 2))
def aW (p0b:List Int) (p0:aq):Option (Int×aq) :=
 if p0.L_ then U (0,p0) else (rr p0b p0.b_).bind fun a=>if (!a.2.2) then U (0,(aq.mk p0.b_ y)) else U (a.1,(aq.mk a.2.1 p0.L_))
def gG (p0b:List Int) (p0:aq):Option (Bool×aq) :=
 (aW p0b p0).bind fun a=>U ((a.1==1),(aq.mk a.2.b_ (a.2.L_||((a.1 != 0)&&(a.1 != 1)))))
def cU (p0b:List Int) (p0:aq):Option (Int×aq) :=
 (aW p0b p0).bind fun a=>if ((decide (a.1<0))||(decide (a.1>(J.wrap ((p0b.length:Int)-a.2.b_))))) then U (0,(aq.mk a.2.b_ y)) else U (a.1,a.2)
def mU (p0b:List Int):Nat→Int→Bool→(List Int)→Int→Option ((List Int)×aq)
 | 0,_,_,_,_=>N
 | h+1,d,a,e,f =>
  if ((decide (f>0))&&(!a)) then (aW p0b (aq.mk d a)).bind fun c=>(app e ([c.1]:List Int)).bind fun g=>(mU p0b h) c.2.b_ c.2.L_ g (J.wrap (f-1)) else U (e,(aq.mk d a))
def dN (p0b:List Int) (p0:aq):Option ((List Int)×aq) :=
 (cU p0b p0).bind fun a=>mU p0b bb a.2.b_ a.2.L_ ([]:List Int) a.1
def kV (p0b:List Int) (d:List aA) (e:Bool×aq) (f:Int×aq) (g:Int×aq) (h:(List Int)×aq) (i:Int×aq) (j:(List Int)×aq) (q:Int→Bool→(List aA)→Int→Option (ao×aq)) (k:Int):Nat→Int→Bool→(List (List Int))→Int→Option (ao×aq)
 | 0,_,_,_,_=>N
 | r+1,l,a,m,o =>
  if ((decide (o>0))&&(!a)) then (dN p0b (aq.mk l a)).bind fun c=>(app m [c.1]).bind fun p=>(kV p0b d e f g h i j q k r) c.2.b_ c.2.L_ p (J.wrap (o-1)) else (aW p0b (aq.mk l a)).bind fun c=>(dN p0b c.2).bind fun l=>(aW p0b l.2).bind fun o=>(aW p0b o.2).bind fun p=>(aW p0b p.2).bind fun a=>(app d [(aA.mk e.1 (aB.mk f.1 g.1) h.1 i.1 (aE.mk j.1 m) c.1 l.1 o.1 p.1 a.1)]).bind fun c=>q a.2.b_ a.2.L_ c (J.wrap (k-1))
def eS (p0b:List Int) (m:Int×aq):Nat→Int→Bool→(List aA)→Int→Option (ao×aq)
 | 0,_,_,_,_=>N
 | o+1,d,a,e,f =>
  if ((decide (f>0))&&(!a)) then (gG p0b (aq.mk d a)).bind fun g=>(aW p0b g.2).bind fun h=>(aW p0b h.2).bind fun i=>(dN p0b i.2).bind fun j=>(aW p0b j.2).bind fun k=>(dN p0b k.2).bind fun l=>(cU p0b l.2).bind fun c=>kV p0b e g h i j k l (eS p0b m o) f bb c.2.b_ c.2.L_ ([]:List (List Int)) c.1 else U ((ao.mk e m.1),(aq.mk d a))
def iB (p0b:List Int) (p0:aq):Option (ao×aq) :=
 (aW p0b p0).bind fun c=>(cU p0b c.2).bind fun a=>eS p0b c bb a.2.b_ a.2.L_ ([]:List aA) a.1
def gY (p0b:List Int):Nat→Int→Bool→(List (List Int))→Int→Option (aw×aq)
 | 0,_,_,_,_=>N
 | h+1,d,c,e,f =>
  if ((decide (f>0))&&(!c)) then (dN p0b (aq.mk d c)).bind fun a=>(app e [a.1]).bind fun g=>(gY p0b h) a.2.b_ a.2.L_ g (J.wrap (f-1)) else U ((aw.mk e),(aq.mk d c))
def fp (p0b:List Int) (p0:aq):Option (aw×aq) :=
 (cU p0b p0).bind fun a=>gY p0b bb a.2.b_ a.2.L_ ([]:List (List Int)) a.1
def gX (p0:List Int) (i:ae×Bool) (j:Int×aq) (k:Int×aq) (l:Int×aq) (m:Int×aq) (o:Int×aq) (p:Int×aq) (q:Bool×aq) (r:Int×aq) (s:Int×aq) (t:Int×aq) (u:Int×aq) (v:Int×aq) (d:List aF) (e:List (List Int)):Nat→Int→(List aS)→Int→Bool→Option (aM×Bool)
 | 0,_,_,_,_=>N
 | w+1,f,g,c,a =>
  if ((decide (f>0))&&(!a)) then (aW p0 (aq.mk c a)).bind fun h=>(aW p0 h.2).bind fun c=>(app g ([(aS.mk h.1 c.1)]:List aS)).bind fun h=>(gX p0 i j k l m o p q r s t u v d e w) (J.wrap (f-1)) h c.2.b_ c.2.L_ else U ((aM.mk (bh.mk i.1 (bZ.mk j.1 k.1 l.1 m.1 o.1 p.1 q.1) r.1 s.1 t.1 u.1 v.1) (bA.mk d) (bc.mk e g)),(!a))
def gS (c:ae×Bool) (p0:List Int) (i:Int×aq) (j:Int×aq) (k:Int×aq) (l:Int×aq) (m:Int×aq) (o:Int×aq) (p:Bool×aq) (q:Int×aq) (r:Int×aq) (s:Int×aq) (t:Int×aq) (u:Int×aq) (d:List aF):Nat→Int→(List (List Int))→Int→Bool→Option (aM×Bool)
 | 0,_,_,_,_=>N
 | w+1,e,f,g,h =>
  if decide (e<(c.1.g_.length:Int)) then (dN p0 (aq.mk g h)).bind fun a=>(app f [a.1]).bind fun v=>(gS c p0 i j k l m o p q r s t u d w) (J.wrap (e+1)) v a.2.b_ a.2.L_ else (cU p0 (aq.mk g h)).bind fun a=>gX p0 c i j k l m o p q r s t u d f bb a.1 ([]:List aS) a.2.b_ a.2.L_
def fX (c:Int×aq) (p0:List Int) (l:ae×Bool) (m:Int×aq) (o:Int×aq) (p:Int×aq) (q:Int×aq) (r:Int×aq) (s:Int×aq) (t:Bool×aq) (u:Int×aq) (v:Int×aq) (w:Int×aq) (x:Int×aq):Nat→Int→(List aF)→Int→Bool→Option (aM×Bool)
 | 0,_,_,_,_=>N
 | A+1,d,e,f,g =>
  if decide (d<c.1) then (iB p0 (aq.mk f g)).bind fun h=>(gG p0 h.2).bind fun i=>(iB p0 i.2).bind fun j=>(fp p0 j.2).bind fun k=>(fp p0 k.2).bind fun a=>(app e [(aF.mk h.1 i.1 j.1 (cW.mk k.1 a.1))]).bind fun h=>(fX c p0 l m o p q r s t u v w x A) (J.wrap (d+1)) h a.2.b_ a.2.L_ else gS l p0 m o p q r s t c u v w x e bb 0 ([]:List (List Int)) f g
def jh (p0:List Int):Option (aM×Bool) :=
 (rH p0 4).bind fun a=>if (!a.2.2) then U ((aM.mk (bh.mk (ae.mk ([]:List aK) ([]:List (List UInt8))) (bZ.mk 0 0 0 0 0 0 n) 0 0 0 0 0) (bA.mk ([]:List aF)) (bc.mk ([]:List (List Int)) ([]:List aS))),n) else (qt a.1).bind fun c=>if (!c.2) then U ((aM.mk (bh.mk (ae.mk ([]:List aK) ([]:List (List UInt8))) (bZ.mk 0 0 0 0 0 0 n) 0 0 0 0 0) (bA.mk ([]:List aF)) (bc.mk ([]:List (List Int)) ([]:List aS))),n) else (aW p0 (aq.mk a.2.1 n)).bind fun d=>(aW p0 d.2).bind fun e=>(aW p0 e.2).bind fun f=>(aW p0 f.2).bind fun g=>(aW p0 g.2).bind fun h=>(aW p0 h.2).bind fun i=>(gG p0 i.2).bind fun j=>(aW p0 j.2).bind fun k=>(aW p0 k.2).bind fun l=>(aW p0 l.2).bind fun m=>(aW p0 m.2).bind fun o=>(aW p0 o.2).bind fun a=>(if a.2.L_ then U y else (oW (bh.mk c.1 (bZ.mk d.1 e.1 f.1 g.1 h.1 i.1 j.1) k.1 l.1 m.1 o.1 a.1)).bind fun p=>U (!p)).bind fun p=>if p then U ((aM.mk (bh.mk (ae.mk ([]:List aK) ([]:List (List UInt8))) (bZ.mk 0 0 0 0 0 0 n) 0 0 0 0 0) (bA.mk ([]:List aF)) (bc.mk ([]:List (List Int)) ([]:List aS))),n) else fX k p0 c d e f g h i j l m o a bb 0 ([]:List aF) a.2.b_ a.2.L_
def vu (p0:List Int):Option (aM×Int) :=
 if decide ((p0.length:Int)<8) then U ((aM.mk (bh.mk (ae.mk ([]:List aK) ([]:List (List UInt8))) (bZ.mk 0 0 0 0 0 0 n) 0 0 0 0 0) (bA.mk ([]:List aF)) (bc.mk ([]:List (List Int)) ([]:List aS))),1) else (sub p0 0 3).bind fun a=>if (!((kl a)==([83,80,78]:List UInt8))) then U ((aM.mk (bh.mk (ae.mk ([]:List aK) ([]:List (List UInt8))) (bZ.mk 0 0 0 0 0 0 n) 0 0 0 0 0) (bA.mk ([]:List aF)) (bc.mk ([]:List (List Int)) ([]:List aS))),2) else (idx p0 3).bind fun a=>if (a != 1) then U ((aM.mk (bh.mk (ae.mk ([]:List aK) ([]:List (List UInt8))) (bZ.mk 0 0 0 0 0 0 n) 0 0 0 0 0) (bA.mk ([]:List aF)) (bc.mk ([]:List (List Int)) ([]:List aS))),3) else (sub p0 (J.wrap ((p0.length:Int)-4)) (p0.length:Int)).bind fun a=>(sub p0 0 (J.wrap ((p0.length:Int)-4))).bind fun c=>(dX c).bind fun c=>(qQ a c).bind fun a=>if (!a) then U ((aM.mk (bh.mk (ae.mk ([]:List aK) ([]:List (List UInt8))) (bZ.mk 0 0 0 0 0 0 n) 0 0 0 0 0) (bA.mk ([]:List aF)) (bc.mk ([]:List (List Int)) ([]:List aS))),4) else (sub p0 0 (J.wrap ((p0.length:Int)-4))).bind fun a=>(jh a).bind fun a=>(if (!a.2) then U y else (iu a.1).bind fun c=>(qQ c p0).bind fun c=>U (!c)).bind fun c=>if c then U ((aM.mk (bh.mk (ae.mk ([]:List aK) ([]:List (List UInt8))) (bZ.mk 0 0 0 0 0 0 n) 0 0 0 0 0) (bA.mk ([]:List aF)) (bc.mk ([]:List (List Int)) ([]:List aS))),5) else U (a.1,0)
def ji (e:List Int) (p0:List Int):Nat→Int→Option Bool
 | 0,_=>N
 | h+1,a =>
  if decide (a<6) then (app ([]:List Int) e).bind fun c=>(vT p0 a).bind fun d=>(vT p0 (J.wrap (a+7))).bind fun f=>(vT p0 (J.wrap (a+14))).bind fun g=>(rem (J.wrap ((J.wrap ((J.wrap (d*65536))+(J.wrap (f*256))))+g)) (e.length:Int)).bind fun d=>(idx c d).bind fun f=>(vT p0 (J.wrap (a+21))).bind fun g=>(Gx g).bind fun g=>(idx c d).bind fun _=>(vu (c.set d.toNat (fv .xor K f g))).bind fun c=>if ((c.2==0)||((c.1.ab_.u_.length:Int) != 0)) then U n else (ji e p0 h) (J.wrap (a+1)) else U y
def zM (p0:List Int):Option Bool :=
 (Hc p0).bind fun a=>if a then U y else (mT p0).bind fun c=>(iu c).bind fun a=>(sN c).bind fun c=>if (!c) then U ((a.length:Int)==0) else if decide ((a.length:Int)<8) then U n else ji a p0 bb 0
end
end Go.Vk
