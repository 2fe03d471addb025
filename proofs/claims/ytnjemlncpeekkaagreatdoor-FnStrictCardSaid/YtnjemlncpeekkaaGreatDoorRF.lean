/- The functions of the code, as functions of data. Printed by program. -/
import Derived.Test.YtnjemlncpeekkaaGreatDoorVkCu
import Derived.Test.YtnjemlncpeekkaaGreatDoorVkBs
import Derived.Test.YtnjemlncpeekkaaGreatDoorVkBr
namespace Go.Vk
open Value renaming int → I, slice → S, pointer → O, bool → B
open IntKind renaming i64 → J, u8 → K, wrap → W
open Decidable renaming decide → D
open Bool renaming true → y, false → n
open Option renaming some → U, none → N, bind → Q
noncomputable section
theorem z {α:Sort _}{a:α}:a=a:=Eq.refl a
theorem Y:True:=True.intro
structure aK where
 i_:Int
 h_:Int
 deriving DecidableEq,Inhabited
structure aD where
 E_:List UInt8
 z_:List Int
 M_:List (List UInt8)
 deriving DecidableEq,Inhabited
structure ae where
 c_:List aD
 f_:List (List UInt8)
 deriving DecidableEq,Inhabited
structure bA where
 T_:Int
 S_:Int
 U_:Int
 o_:Int
 b_:Int
 L_:Int
 P_:Bool
 deriving DecidableEq,Inhabited
structure aU where
 w_:ae
 e_:bA
 t_:Int
 V_:Int
 X_:Int
 x_:Int
 y_:Int
 deriving DecidableEq,Inhabited
structure bp where
 v_:List Int
 j_:Int
 deriving DecidableEq,Inhabited
structure aE where
 l_:List Int
 g_:List (List Int)
 deriving DecidableEq,Inhabited
structure aI where
 q_:Int
 j_:Int
 deriving DecidableEq,Inhabited
structure au where
 D_:Bool
 n_:aI
 A_:List Int
 K_:Int
 m_:aE
 J_:Int
 c_:List Int
 o_:Int
 H_:Int
 F_:Int
 deriving DecidableEq,Inhabited
structure am where
 b_:List au
 p_:Int
 deriving DecidableEq,Inhabited
structure aw where
 k_:List (List Int)
 deriving DecidableEq,Inhabited
structure dd where
 x_:aw
 y_:aw
 deriving DecidableEq,Inhabited
structure av where
 C_:am
 R_:Bool
 u_:am
 G_:dd
 deriving DecidableEq,Inhabited
structure bh where
 t_:List av
 deriving DecidableEq,Inhabited
structure cl where
 O_:List Int
 W_:Int
 deriving DecidableEq,Inhabited
structure bT where
 B_:Int
 ab_:Int
 deriving DecidableEq,Inhabited
structure ca where
 n_:aI
 Q_:bT
 deriving DecidableEq,Inhabited
structure cO where
 af_:Int
 ac_:Int
 deriving DecidableEq,Inhabited
structure dt where
 Y_:Int
 ae_:Int
 ai_:Int
 ag_:Int
 u_:Int
 G_:Int
 ah_:Bool
 aj_:Bool
 deriving DecidableEq,Inhabited
structure aC where
 aa_:Int
 Y_:Int
 deriving DecidableEq,Inhabited
structure aT where
 r_:List (List Int)
 s_:List aC
 deriving DecidableEq,Inhabited
structure az where
 d_:aU
 Z_:bh
 I_:aT
 deriving DecidableEq,Inhabited
structure ao where
 a_:Int
 N_:Bool
 deriving DecidableEq,Inhabited
structure cZ where
 ad_:List Int
 N_:Bool
 deriving DecidableEq,Inhabited
def Ij (p0:List Int):Option Bool :=
 U (D ((p0.length:Int)>1048576))
def oZ (p0:List Int):Nat→Int→Int→Option aK
 | 0,_,_=>N
 | e+1,c,a =>
  if (D (a<(p0.length:Int))&&D (a<4000)) then Q (idx p0 a) fun d=>oZ p0 e (eW .and J (W J (W J (W J (c*131)+W J d)+7)) 1073741823) (W J (a+1)) else U (aK.mk 0 c)
def zj (p0:List Int):Option aK :=
 oZ p0 aY (W J (26583+(p0.length:Int))) 0
def lu (p0b:List Int)(p0:aK):Option (Int×aK) :=
 if D (p0.i_<(p0b.length:Int)) then Q (idx p0b p0.i_) fun a=>U (eW .and J (W J (eW .and J (eW .xor J (vg J (W J (W J (p0.h_*6364136223846793005)+1442695040888963407)) 33) (vg J (W J (W J (p0.h_*6364136223846793005)+1442695040888963407)) 45)) 255+W J a)) 255,aK.mk (W J (p0.i_+1)) (W J (W J (p0.h_*6364136223846793005)+1442695040888963407))) else U (eW .and J (eW .xor J (vg J (W J (W J (p0.h_*6364136223846793005)+1442695040888963407)) 33) (vg J (W J (W J (p0.h_*6364136223846793005)+1442695040888963407)) 45)) 255,aK.mk p0.i_ (W J (W J (p0.h_*6364136223846793005)+1442695040888963407)))
def cV (p0b:List Int)(p0:aK)(p1:Int):Option (Int×aK) :=
 if D (p1≤0) then U (0,p0) else if D (p1≤256) then Q (lu p0b p0) fun a=>Q (rem a.1 p1) fun c=>U (c,a.2) else Q (lu p0b p0) fun a=>Q (lu p0b a.2) fun c=>Q (lu p0b c.2) fun d=>Q (lu p0b d.2) fun e=>Q (rem (W J (W J (W J (W J (a.1*16777216)+W J (c.1*65536))+W J (d.1*256))+e.1)) p1) fun a=>U (a,e.2)
def kD (p0b:List Int)(p0:aK)(p1:Int):Option (Bool×aK) :=
 Q (cV p0b p0 p1) fun a=>U ((a.1==0),a.2)
def eh (p0b:List Int)(p0:aK)(p1:List Int):Option (Int×aK) :=
 Q (cV p0b p0 (p1.length:Int)) fun a=>Q (idx p1 a.1) fun c=>U (c,a.2)
def fT (c:Int×aK)(p0b:List Int)(d:List UInt8):Nat→Int→Int→List Int→Int→Int→Option (aD×aK)
 | 0,_,_,_,_,_=>N
 | k+1,e,f,g,h,i =>
  if D (i<W J (1+c.1)) then Q (app g [h]) fun j=>Q (cV p0b (aK.mk e f) 6) fun a=>fT c p0b d k a.2.i_ a.2.h_ j (W J (W J (h+1)+a.1)) (W J (i+1)) else U (aD.mk d g [],aK.mk e f)
def fU (c:Int×aK)(e:List UInt8):Nat→Int→List (List UInt8)→Option (aD×aK)
 | 0,_,_=>N
 | g+1,a,d =>
  if D (a<W J (2+c.1)) then Q (idx ([[114,101,100],[98,108,117,101],[120],[103,114,101,101,110]]:List (List UInt8)) a) fun f=>Q (app d [f]) fun f=>fU c e g (W J (a+1)) f else U (aD.mk e [] d,c.2)
def qB (p0b:List Int)(p0:aK)(p1:Int):Option (aD×aK) :=
 Q (idx ([[97,103,101],[115,105,122,101],[99,111,108,111,117,114],[107],[108,111,110,103,110,97,109,101]]:List (List UInt8)) (Int.tmod p1 5)) fun d=>Q (kD p0b p0 2) fun a=>if a.1 then Q (cV p0b a.2 3) fun e=>Q (eh p0b e.2 [(-9999),(-7),0,3,20]) fun c=>fT e p0b d aY c.2.i_ c.2.h_ [] c.1 0 else Q (cV p0b a.2 3) fun a=>fU a d aY 0 []
def jw (d:Int×aK)(p0b:List Int)(e:List (List UInt8)):Nat→Int→Int→List aD→Int→Option (ae×aK)
 | 0,_,_,_,_=>N
 | j+1,f,g,h,c =>
  if D (c<W J (1+d.1)) then Q (qB p0b (aK.mk f g) c) fun a=>Q (app h [a.1]) fun i=>jw d p0b e j a.2.i_ a.2.h_ i (W J (c+1)) else U (ae.mk h e,aK.mk f g)
def my (p0b:List Int)(a c:Int)(d:List (List UInt8)):Option (ae×aK) :=
 Q (cV p0b (aK.mk a c) 5) fun a=>jw a p0b d aY a.2.i_ a.2.h_ [] 0
def wb (p0b:List Int)(p0:aK):Option (ae×aK) :=
 Q (kD p0b p0 3) fun a=>if a.1 then Q (app [[110,111],[121,101,115]] [[112,101,114,104,97,112,115]]) fun c=>my p0b a.2.i_ a.2.h_ c else my p0b a.2.i_ a.2.h_ [[110,111],[121,101,115]]
def us (p0b:List Int)(p0:aK):Option (bA×aK) :=
 Q (eh p0b p0 [1,1,2,3,9]) fun a=>Q (eh p0b a.2 [0,50,200,500,999]) fun c=>Q (eh p0b c.2 [1,4,10,25,200]) fun d=>Q (eh p0b d.2 [0,1,2,4,6,6]) fun e=>Q (eh p0b e.2 [1,3,7,15,31,31]) fun f=>Q (eh p0b f.2 [62,63,80,100,150,2000]) fun g=>Q (kD p0b g.2 2) fun h=>U (bA.mk a.1 c.1 d.1 e.1 f.1 g.1 h.1,h.2)
def mz (p0b:List Int)(d:ae×aK)(a:bA×aK)(c e i j k l:Int):Option (aU×aK) :=
 Q (cV p0b (aK.mk c e) 3) fun e=>Q (cV p0b e.2 (d.1.c_.length:Int)) fun f=>Q (eh p0b f.2 [1,6,6]) fun g=>Q (cV p0b g.2 2) fun c=>Q (cV p0b c.2 3) fun h=>U (aU.mk d.1 (bA.mk i a.1.S_ j k l a.1.L_ a.1.P_) (W J (1+e.1)) (W J (1+f.1)) g.1 (W J (1+c.1)) (W J (W J (1+c.1)+h.1)),h.2)
def vW (p0b:List Int)(p0:aK):Option (aU×aK) :=
 Q (wb p0b p0) fun e=>Q (us p0b e.2) fun a=>Q (kD p0b a.2 2) fun c=>if c.1 then Q (eh p0b c.2 [4,10]) fun d=>mz p0b e a d.2.i_ d.2.h_ 1 d.1 6 31 else mz p0b e a c.2.i_ c.2.h_ a.1.T_ a.1.U_ a.1.o_ a.1.b_
def iN (p1:Int)(p0b:List Int):Nat→Int→Int→List Int→Int→Option ((List Int)×aK)
 | 0,_,_,_,_=>N
 | h+1,c,d,e,f =>
  if D (f<p1) then Q (lu p0b (aK.mk c d)) fun a=>Q (app e [W K a.1]) fun g=>iN p1 p0b h a.2.i_ a.2.h_ g (W J (f+1)) else U (e,aK.mk c d)
def qT (p0b:List Int)(p0:aK)(p1:Int):Option ((List Int)×aK) :=
 iN p1 p0b aY p0.i_ p0.h_ [] 0
def cX (p0:bp):Option bp :=
 Q (app [] p0.v_) fun a=>U (bp.mk a p0.j_)
def aM (p0 p1 p2:Int):Option Bool :=
 U (D (p0≥p1)&&D (p0≤p2))
def qd (p0:List UInt8):Nat→Int→Option Bool
 | 0,_=>N
 | d+1,a =>
  if D (a<(p0.length:Int)) then Q (idx p0 a) fun c=>Q (if D ((c.toNat:Int)<97) then U y else Q (idx p0 a) fun c=>U (D ((c.toNat:Int)>122))) fun c=>if c then U n else qd p0 d (W J (a+1)) else U y
def uA (p0:List UInt8):Option Bool :=
 Q (aM (p0.length:Int) 1 8) fun a=>if !a then U n else qd p0 aY 0
def kM (a:Int)(p0:List (List UInt8))(d:Int→Option Bool):Nat→Int→Option Bool
 | 0,_=>N
 | g+1,c =>
  if D (c<a) then Q (idx p0 a) fun e=>Q (idx p0 c) fun f=>if e==f then U n else kM a p0 d g (W J (c+1)) else d (W J (a+1))
def ip (p0:List (List UInt8)):Nat→Int→Option Bool
 | 0,_=>N
 | d+1,a =>
  if D (a<(p0.length:Int)) then Q (idx p0 a) fun c=>Q (uA c) fun c=>if !c then U n else kM a p0 (ip p0 d) aY 0 else U y
def sQ (p0:List (List UInt8)):Option Bool :=
 ip p0 aY 0
def nI (p0:aD):Nat→Int→Option Bool
 | 0,_=>N
 | e+1,a =>
  if D (a<(p0.z_.length:Int)) then Q (idx p0.z_ a) fun c=>Q (aM c (-9999) 9998) fun c=>Q (if !c then U y else Q (if D (a>0) then Q (idx p0.z_ a) fun c=>Q (idx p0.z_ (W J (a-1))) fun d=>U (D (c≤d)) else U n) fun c=>U c) fun c=>if c then U n else nI p0 e (W J (a+1)) else U y
def ol (p0:aD):Option Bool :=
 Q (uA p0.E_) fun a=>if !a then U n else if ((p0.z_.length:Int)==0) then Q (aM (p0.M_.length:Int) 2 4) fun a=>Q (if a then Q (sQ p0.M_) fun a=>U a else U n) fun u21=>U u21 else if (D ((p0.M_.length:Int)>0)||D ((p0.z_.length:Int)>3)) then U n else nI p0 aY 0
def jW (a:Int)(p0:ae)(f:Int→Option Bool):Nat→Int→Option Bool
 | 0,_=>N
 | g+1,c =>
  if D (c<a) then Q (idx p0.c_ a) fun d=>Q (idx p0.c_ c) fun e=>if d.E_==e.E_ then U n else jW a p0 f g (W J (c+1)) else f (W J (a+1))
def fO (p0:ae):Nat→Int→Option Bool
 | 0,_=>N
 | d+1,a =>
  if D (a<(p0.c_.length:Int)) then Q (idx p0.c_ a) fun c=>Q (ol c) fun c=>if !c then U n else jW a p0 (fO p0 d) aY 0 else U y
def eR (p0:ae):Option Bool :=
 Q (aM (p0.c_.length:Int) 1 5) fun a=>Q (if !a then U y else Q (aM (p0.f_.length:Int) 2 3) fun a=>U (!a)) fun u19=>Q (if u19 then U y else Q (sQ p0.f_) fun a=>U (!a)) fun a=>if a then U n else fO p0 aY 0
def pK (p0:bA):Option Bool :=
 Q (aM p0.T_ 1 9) fun a=>Q (if a then Q (aM p0.S_ 0 999) fun a=>U a else U n) fun u13=>Q (if u13 then Q (aM p0.U_ 1 200) fun a=>U a else U n) fun u18=>Q (if u18 then Q (aM p0.o_ 0 6) fun a=>U a else U n) fun a=>Q (if a then Q (aM p0.b_ 1 31) fun a=>U a else U n) fun a=>Q (if a then Q (aM p0.L_ 62 2000) fun a=>U a else U n) fun a=>U a
def kK (p0:Int):Option (List Int) :=
 if p0==1 then U ([24109,48218,60273,64291,65296,65497,65530]:List Int) else if p0==6 then U ([162,1137,4061,9909,18681,29208,39734]:List Int) else U ([]:List Int)
def lx (p0:aU):Option Bool :=
 Q (eR p0.w_) fun a=>Q (if a then Q (pK p0.e_) fun a=>U a else U n) fun u19=>Q (if u19 then Q (aM p0.t_ 1 4) fun a=>U a else U n) fun a=>Q (if a then Q (aM p0.V_ 1 (p0.w_.c_.length:Int)) fun a=>U a else U n) fun a=>Q (if a then Q (kK p0.X_) fun a=>U (D ((a.length:Int)>0)) else U n) fun a=>Q (if a then Q (aM p0.x_ 1 9) fun a=>U a else U n) fun a=>Q (if a then Q (aM p0.y_ 1 9) fun a=>U a else U n) fun a=>U (a&&D (p0.x_≤p0.y_))
def lD (c:List Int)(h:(List Int)→Int→Option Int)(d:Int):Nat→List Int→Int→Option Int
 | 0,_,_=>N
 | i+1,e,a =>
  if D (a<(c.length:Int)) then Q (idx c (W J (a-1))) fun f=>Q (idx c a) fun g=>Q (app e [W J (f+g)]) fun f=>lD c h d i f (W J (a+1)) else Q (app e [1]) fun a=>h a (W J (d+1))
def eJ (p0 p1:Int):Nat→List Int→Int→Option Int
 | 0,_,_=>N
 | d+1,c,a =>
  if D (a<p0) then lD c (eJ p0 p1 d) a aY [1] 1 else Q (idx c p1) fun a=>U a
def pb (p0 p1:Int):Option Int :=
 Q (aM p0 0 20) fun a=>Q (if !a then U y else Q (aM p1 0 p0) fun a=>U (!a)) fun u12=>if u12 then U 0 else eJ p0 p1 aY [1] 0
def qb (p0:bp):Option Bool :=
 Q (if D ((p0.v_.length:Int)≤600) then Q (aM p0.j_ 0 (p0.v_.length:Int)) fun a=>U a else U n) fun u14=>U u14
def xY (p0:bp):Option Int :=
 Q (qb p0) fun a=>if !a then U 0 else U (W J ((p0.v_.length:Int)-p0.j_))
def yo (p0:bp):Option (bp×Int×Bool) :=
 Q (cX p0) fun a=>Q (xY p0) fun c=>if D (c<2) then U (a,0,n) else Q (idx p0.v_ p0.j_) fun c=>Q (idx p0.v_ (W J (p0.j_+1))) fun d=>U (bp.mk a.v_ (W J (p0.j_+2)),W J (W J (W J c*256)+W J d),y)
def wF (p0:bp)(p1:Int):Option (bp×Int×Bool) :=
 Q (yo p0) fun a=>Q (if !a.2.2 then U y else Q (aM p1 1 65536) fun c=>U (!c)) fun c=>if c then Q (cX p0) fun c=>U (c,0,n) else Q (rem a.2.1 p1) fun c=>U (a.1,c,y)
def jQ (p1 p0:Int):Nat→Int→List Int→Int→Option (List Int)
 | 0,_,_,_=>N
 | f+1,d,a,c =>
  if D ((a.length:Int)<p1) then Q (pb (W J (W J (p0-c)-1)) (W J (W J (p1-(a.length:Int))-1))) fun e=>if D (d<e) then Q (app a [c]) fun g=>jQ p1 p0 f d g (W J (c+1)) else jQ p1 p0 f (W J (d-e)) a (W J (c+1)) else U a
def pl (p0 p1 p2:Int):Option (List Int) :=
 Q (pb p0 p1) fun a=>Q (aM p2 0 (W J (a-1))) fun a=>if !a then U ([]:List Int) else jQ p1 p0 aY p2 [] 0
def oQ (p0:bp)(p1 p2:Int):Option (bp×(List Int)×Bool) :=
 Q (pb p1 p2) fun a=>Q (wF p0 a) fun a=>if !a.2.2 then Q (cX p0) fun c=>U (c,[],n) else Q (pl p1 p2 a.2.1) fun c=>U (a.1,c,y)
def oG (p1:List Int)(p0:ae):Nat→Int→Option Bool
 | 0,_=>N
 | e+1,a =>
  if D (a<(p1.length:Int)) then Q (idx p1 a) fun c=>Q (aM c 0 (W J ((p0.c_.length:Int)-1))) fun c=>Q (if !c then U y else Q (if D (a>0) then Q (idx p1 a) fun c=>Q (idx p1 (W J (a-1))) fun d=>U (D (c≤d)) else U n) fun c=>U c) fun c=>if c then U n else oG p1 p0 e (W J (a+1)) else U y
def lf (p0:ae)(p1:List Int):Option Bool :=
 Q (eR p0) fun a=>if ((!a)||((p1.length:Int)==0)) then U n else oG p1 p0 aY 0
def jU (p0:aD):Option Int :=
 Q (ol p0) fun a=>if !a then U 0 else if D ((p0.z_.length:Int)>0) then U (W J ((p0.z_.length:Int)+1)) else U (p0.M_.length:Int)
def lH (p0:ae)(c:List Int):Nat→List (List Int)→Int→Option aE
 | 0,_,_=>N
 | f+1,d,a =>
  if D (a<(p0.c_.length:Int)) then Q (idx p0.c_ a) fun e=>Q (jU e) fun e=>Q (mk (0:Int) (W J (e*(p0.f_.length:Int)))) fun e=>Q (app d [e]) fun e=>lH p0 c f e (W J (a+1)) else U (aE.mk c d)
def mW (p0:ae):Option aE :=
 Q (eR p0) fun a=>if !a then U (aE.mk [] []) else Q (mk (0:Int) (p0.f_.length:Int)) fun a=>lH p0 a aY [] 0
def vE (p0:ae)(p1:List Int):Option am :=
 Q (lf p0 p1) fun a=>if !a then U (am.mk [] 0) else Q (mW p0) fun a=>Q (app [] p1) fun c=>U (am.mk [au.mk y (aI.mk 0 0) [] 0 a 0 c 0 (-1) 0] 0)
def qp (p0:aU)(p1:bp):Option (am×bp×Bool) :=
 Q (oQ p1 (p0.w_.c_.length:Int) p0.V_) fun a=>if !a.2.2 then Q (cX p1) fun c=>U (am.mk [] 0,c,n) else Q (vE p0.w_ a.2.1) fun c=>U (c,a.1,y)
def tg (p0:aU)(p1:bp):Option (av×bp×Bool) :=
 Q (lx p0) fun a=>if !a then Q (cX p1) fun a=>U (av.mk (am.mk [] 0) n (am.mk [] 0) (dd.mk (aw.mk []) (aw.mk [])),a,n) else Q (qp p0 p1) fun a=>if !a.2.2 then Q (cX p1) fun c=>U (av.mk (am.mk [] 0) n (am.mk [] 0) (dd.mk (aw.mk []) (aw.mk [])),c,n) else U (av.mk a.1 n (am.mk [] 0) (dd.mk (aw.mk []) (aw.mk [])),a.2.1,y)
def gW (p0:aU)(p1:bp):Nat→List av→List Int→Int→Int→Option (bh×bp×Bool)
 | 0,_,_,_,_=>N
 | h+1,c,d,e,f =>
  if D (f<p0.t_) then Q (tg p0 (bp.mk d e)) fun a=>if !a.2.2 then Q (cX p1) fun g=>U (bh.mk [],g,n) else Q (app c [a.1]) fun g=>gW p0 p1 h g a.2.1.v_ a.2.1.j_ (W J (f+1)) else U (bh.mk c,bp.mk d e,y)
def tt (p0:aU)(p1:bp):Option (bh×bp×Bool) :=
 Q (cX p1) fun a=>Q (lx p0) fun c=>if !c then U (bh.mk [],a,n) else gW p0 p1 aY [] a.v_ a.j_ 0
def mG (e:List Int)(g:Int→Int→List Int→Int→Option (cl×aK))(f a c d:Int):Option (cl×aK) :=
 Q (app e [d]) fun d=>g a c d (W J (f+1))
def fK (p1:ae)(p0b:List Int):Nat→Int→Int→List Int→Int→Option (cl×aK)
 | 0,_,_,_,_=>N
 | h+1,f,g,c,d =>
  if D (d<(p1.c_.length:Int)) then Q (idx p1.c_ d) fun a=>Q (jU a) fun a=>Q (cV p0b (aK.mk f g) a) fun e=>Q (kD p0b e.2 9) fun a=>if a.1 then mG c (fK p1 p0b h) d a.2.i_ a.2.h_ (-1) else mG c (fK p1 p0b h) d a.2.i_ a.2.h_ e.1 else Q (cV p0b (aK.mk f g) (p1.f_.length:Int)) fun d=>Q (if D ((c.length:Int)>0) then Q (kD p0b d.2 5) fun a=>U ((!a.1),a.2.i_,a.2.h_) else U (n,d.2.i_,d.2.h_)) fun a=>if (a.1&&D ((p1.f_.length:Int)>0)) then Q (idx c 0) fun e=>Q (rem (W J (e+1)) (p1.f_.length:Int)) fun e=>U (cl.mk c e,aK.mk a.2.1 a.2.2) else U (cl.mk c d.1,aK.mk a.2.1 a.2.2)
def vX (p0b:List Int)(p0:aK)(p1:ae):Option (cl×aK) :=
 fK p1 p0b aY p0.i_ p0.h_ [] 0
def tf (p0b:List Int)(p0:aK)(p1:aU)(p2 p3:Int):Option (cl×aK) :=
 Q (vX p0b p0 p1.w_) fun a=>if D (p2≥p3) then Q (rem (W J (a.1.W_+1)) (p1.w_.f_.length:Int)) fun c=>U (cl.mk a.1.O_ c,a.2) else U (a.1,a.2)
def eZ (d:Int)(p1:aE)(e:Int)(p0:ae)(a:Int)(i:Int→Option Bool):Nat→Int→Int→Option Bool
 | 0,_,_=>N
 | j+1,f,c =>
  if D (c<d) then Q (idx p1.g_ e) fun g=>Q (idx g (W J (W J (c*(p0.f_.length:Int))+a))) fun g=>Q (aM g 0 999) fun h=>if !h then U n else eZ d p1 e p0 a i j (W J (f+g)) (W J (c+1)) else Q (idx p1.l_ a) fun c=>if D (f>c) then U n else i (W J (a+1))
def cF (p0:ae)(c:Int)(p1:aE)(a:Int)(e:Int→Option Bool):Nat→Int→Option Bool
 | 0,_=>N
 | f+1,d =>
  if D (d<(p0.f_.length:Int)) then eZ c p1 a p0 d (cF p0 c p1 a e f) aY 0 0 else e (W J (a+1))
def eg (p1:aE)(p0:ae):Nat→Int→Option Bool
 | 0,_=>N
 | e+1,a =>
  if D (a<(p1.g_.length:Int)) then Q (idx p0.c_ a) fun c=>Q (jU c) fun c=>Q (idx p1.g_ a) fun d=>if ((d.length:Int) != W J (c*(p0.f_.length:Int))) then U n else cF p0 c p1 a (eg p1 p0 e) aY 0 else U y
def gx (p1:aE)(p0:ae):Nat→Int→Int→Option Bool
 | 0,_,_=>N
 | e+1,c,a =>
  if D (a<(p1.l_.length:Int)) then Q (idx p1.l_ a) fun d=>Q (aM d 0 999) fun d=>if !d then U n else Q (idx p1.l_ a) fun d=>gx p1 p0 e (W J (c+d)) (W J (a+1)) else if D (c>999) then U n else if ((p1.g_.length:Int)==0) then U y else if ((p1.g_.length:Int) != (p0.c_.length:Int)) then U n else eg p1 p0 aY 0
def ij (p0:ae)(p1:aE):Option Bool :=
 Q (eR p0) fun a=>if ((!a)||((p1.l_.length:Int) != (p0.f_.length:Int))) then U n else gx p1 p0 aY 0 0
def ma (p1:aE):Nat→Int→Int→Option Int
 | 0,_,_=>N
 | e+1,c,a =>
  if D (a<(p1.l_.length:Int)) then Q (idx p1.l_ a) fun d=>ma p1 e (W J (c+d)) (W J (a+1)) else U c
def fG (p0:ae)(p1:aE):Option Int :=
 Q (ij p0 p1) fun a=>if !a then U 0 else ma p1 aY 0 0
def qo (p0:ae)(p1:au):Option Bool :=
 Q (if (((!(p1.n_.q_==0&&(p1.n_.j_==0&&y)))||D ((p1.A_.length:Int)>0))||(p1.K_ != 0)) then U y else Q (ij p0 p1.m_) fun a=>U (!a)) fun a=>Q (if a then U y else Q (lf p0 p1.c_) fun a=>U (!a)) fun a=>if a then U n else if ((p1.m_.g_.length:Int)==0) then U (p1.J_==0) else Q (fG p0 p1.m_) fun a=>Q (aM p1.J_ 0 a) fun a=>U a
def lw (p0:ae)(p1:aI):Option Bool :=
 Q (eR p0) fun a=>Q (if !a then U y else Q (aM p1.q_ 0 (W J ((p0.c_.length:Int)-1))) fun a=>U (!a)) fun u20=>if u20 then U n else Q (idx p0.c_ p1.q_) fun a=>if D ((a.z_.length:Int)>0) then Q (idx p0.c_ p1.q_) fun a=>Q (jU a) fun a=>Q (aM p1.j_ (-1) (W J (a-2))) fun a=>U a else Q (idx p0.c_ p1.q_) fun a=>Q (jU a) fun a=>Q (aM p1.j_ (-1) (W J (a-1))) fun a=>U a
def fM (p0:ae)(p1:aI):Option Int :=
 Q (lw p0 p1) fun a=>if !a then U 0 else if p1.j_==(-1) then Q (idx p0.c_ p1.q_) fun a=>Q (jU a) fun a=>U a else U 2
def od (c:au)(p2:Int)(p1:am):Nat→Int→Option Bool
 | 0,_=>N
 | f+1,a =>
  if D (a<(c.A_.length:Int)) then Q (idx c.A_ a) fun d=>Q (aM d (W J (p2+1)) (W J ((p1.b_.length:Int)-1))) fun d=>Q (if !d then U y else Q (idx c.A_ a) fun d=>Q (idx p1.b_ d) fun d=>U (d.H_ != p2)) fun d=>Q (if d then U y else Q (if D (a>0) then Q (idx c.A_ a) fun d=>Q (idx c.A_ (W J (a-1))) fun e=>U (D (d≤e)) else U n) fun d=>U d) fun d=>if d then U n else od c p2 p1 f (W J (a+1)) else U y
def pm (p0:ae)(p1:am)(p2:Int):Option Bool :=
 Q (idx p1.b_ p2) fun a=>Q (lw p0 a.n_) fun c=>Q (if !c then U y else Q (fM p0 a.n_) fun c=>U ((a.A_.length:Int) != c)) fun c=>Q (if c then U y else Q (aM a.K_ 0 (W J ((a.A_.length:Int)-1))) fun c=>U (!c)) fun c=>Q (if c then U y else Q (ij p0 a.m_) fun c=>U (!c)) fun c=>Q (if ((c||D ((a.m_.g_.length:Int)>0))||(a.J_ != 0)) then U y else Q (lf p0 a.c_) fun c=>U (!c)) fun c=>if c then U n else od a p2 p1 aY 0
def eH (p0:List Int)(p1:Int):Nat→Int→Option Bool
 | 0,_=>N
 | d+1,a =>
  if D (a<(p0.length:Int)) then Q (idx p0 a) fun c=>if c==p1 then U y else eH p0 p1 d (W J (a+1)) else U n
def uu (p0:List Int)(p1:Int):Option Bool :=
 eH p0 p1 aY 0
def gn (p1:am)(p0:ae):Nat→Int→Option Bool
 | 0,_=>N
 | f+1,c =>
  if D (c<(p1.b_.length:Int)) then Q (idx p1.b_ c) fun a=>Q (aM a.o_ 0 6) fun d=>Q (if !d then U y else Q (aM a.F_ 0 p1.p_) fun d=>U (!d)) fun d=>if d then U n else Q (if a.D_ then Q (qo p0 ({a with D_:=y})) fun d=>U (!d) else U n) fun d=>Q (if d then U y else Q (if !a.D_ then Q (pm p0 p1 c) fun d=>U (!d) else U n) fun d=>U d) fun d=>if d then U n else if c==0 then if ((a.H_ != (-1))||(a.o_ != 0))||(a.F_ != 0) then U n else gn p1 p0 f (W J (c+1)) else Q (aM a.H_ 0 (W J (c-1))) fun d=>if !d then U n else Q (idx p1.b_ a.H_) fun d=>Q (if d.D_ then U y else Q (uu d.A_ c) fun e=>U (!e)) fun e=>if (e||(W J (d.o_+1) != a.o_))||D (d.F_>a.F_) then U n else gn p1 p0 f (W J (c+1)) else U y
def oh (p0:ae)(p1:am):Option Bool :=
 Q (eR p0) fun a=>Q (if !a then U y else Q (aM (p1.b_.length:Int) 1 31) fun a=>U (!a)) fun a=>Q (if a then U y else Q (aM p1.p_ 0 99999) fun a=>U (!a)) fun a=>if a then U n else gn p1 p0 aY 0
def eG (p0:am):Nat→Int→Int→Option Int
 | 0,_,_=>N
 | e+1,c,a =>
  if D (a<(p0.b_.length:Int)) then Q (if a==0 then U y else Q (idx p0.b_ a) fun d=>U (D (d.o_>c))) fun d=>if d then Q (idx p0.b_ a) fun d=>eG p0 e d.o_ (W J (a+1)) else eG p0 e c (W J (a+1)) else U c
def qv (p0:am):Option Int :=
 eG p0 aY 0 0
def ju (p0:au):Nat→Int→Int→Option Int
 | 0,_,_=>N
 | e+1,c,a =>
  if D (a<(p0.m_.g_.length:Int)) then Q (idx p0.m_.g_ a) fun d=>ju p0 e (W J (c+(d.length:Int))) (W J (a+1)) else U c
def qD (p0:au):Option Int :=
 if !p0.D_ then U 1 else ju p0 aY 2 0
def gR (p0:am):Nat→Int→Int→Option Int
 | 0,_,_=>N
 | e+1,c,a =>
  if D (a<(p0.b_.length:Int)) then Q (idx p0.b_ a) fun d=>Q (qD d) fun d=>gR p0 e (W J (c+d)) (W J (a+1)) else U c
def lO (p0:am):Option Int :=
 gR p0 aY 0 0
def rZ (p0:ae)(p1:bA)(p2:am):Option Bool :=
 Q (oh p0 p2) fun a=>Q (if a then Q (pK p1) fun a=>U a else U n) fun a=>Q (if (a&&D ((p2.b_.length:Int)≤p1.b_)) then Q (qv p2) fun a=>U (D (a≤p1.o_)) else U n) fun a=>Q (if a then Q (lO p2) fun a=>U (D (a≤p1.L_)) else U n) fun a=>U a
def lz (p0:Int):Nat→Int→Int→Option Int
 | 0,_,_=>N
 | d+1,a,c =>
  if D (c<p0) then lz p0 d (W J (a*2)) (W J (c+1)) else U a
def ll (p0:Int):Option Int :=
 lz p0 aY 1 0
def lI (p0:aw)(a:Int)(f:Int→Option Bool):Nat→Int→Option Bool
 | 0,_=>N
 | g+1,c =>
  Q (idx p0.k_ a) fun d=>if D (c<(d.length:Int)) then Q (idx p0.k_ a) fun d=>Q (idx d c) fun d=>Q (ll a) fun e=>Q (aM d 0 e) fun d=>if !d then U n else lI p0 a f g (W J (c+1)) else f (W J (a+1))
def ee (p0:aw):Nat→Int→Option Bool
 | 0,_=>N
 | d+1,a =>
  if D (a<(p0.k_.length:Int)) then Q (idx p0.k_ a) fun c=>Q (aM (c.length:Int) 1 3) fun c=>if !c then U n else lI p0 a (ee p0 d) aY 0 else U y
def lq (p0:aw):Option Bool :=
 if D ((p0.k_.length:Int)>8) then U n else ee p0 aY 0
def yU (p0:dd):Option Bool :=
 Q (lq p0.x_) fun a=>Q (if a then Q (lq p0.y_) fun a=>U a else U n) fun u19=>U u19
def rc (p0:aU)(p1:av):Option Bool :=
 Q (lx p0) fun a=>Q (if !a then U y else Q (rZ p0.w_ p0.e_ p1.C_) fun a=>U (!a)) fun a=>Q (if a then U y else Q (yU p1.G_) fun a=>U (!a)) fun a=>if a then U n else if p1.R_ then Q (rZ p0.w_ p0.e_ p1.u_) fun a=>U a else U (((p1.u_.b_.length:Int)==0)&&(p1.u_.p_==0))
def nJ (p1:bh)(p0:aU):Nat→Int→Option Bool
 | 0,_=>N
 | d+1,a =>
  if D (a<(p1.t_.length:Int)) then Q (idx p1.t_ a) fun c=>Q (rc p0 c) fun c=>if !c then U n else nJ p1 p0 d (W J (a+1)) else U y
def qX (p0:aU)(p1:bh):Option Bool :=
 Q (lx p0) fun a=>if ((!a)||((p1.t_.length:Int) != p0.t_)) then U n else nJ p1 p0 aY 0
def qH (p1:cl)(p0:ae):Nat→Int→Option Bool
 | 0,_=>N
 | e+1,a =>
  if D (a<(p1.O_.length:Int)) then Q (idx p1.O_ a) fun c=>Q (idx p0.c_ a) fun d=>Q (jU d) fun d=>Q (aM c (-1) (W J (d-1))) fun c=>if !c then U n else qH p1 p0 e (W J (a+1)) else U y
def se (p0:ae)(p1:cl):Option Bool :=
 Q (eR p0) fun a=>Q (if ((!a)||((p1.O_.length:Int) != (p0.c_.length:Int))) then U y else Q (aM p1.W_ (-1) (W J ((p0.f_.length:Int)-1))) fun a=>U (!a)) fun a=>if a then U n else qH p1 p0 aY 0
def oa (p0:aE)(c:List Int):Nat→List (List Int)→Int→Option aE
 | 0,_,_=>N
 | f+1,d,a =>
  if D (a<(p0.g_.length:Int)) then Q (idx p0.g_ a) fun e=>Q (app [] e) fun e=>Q (app d [e]) fun e=>oa p0 c f e (W J (a+1)) else U (aE.mk c d)
def uO (p0:aE):Option aE :=
 Q (app [] p0.l_) fun a=>oa p0 a aY [] 0
def nY (p0:au):Option au :=
 Q (app [] p0.A_) fun a=>Q (app [] p0.c_) fun c=>Q (uO p0.m_) fun d=>U ({p0 with A_:=a,m_:=d,c_:=c})
def mD (p0:am):Nat→List au→Int→Option am
 | 0,_,_=>N
 | e+1,c,a =>
  if D (a<(p0.b_.length:Int)) then Q (idx p0.b_ a) fun d=>Q (nY d) fun d=>Q (app c [d]) fun d=>mD p0 e d (W J (a+1)) else U (am.mk c p0.p_)
def jf (p0:am):Option am :=
 mD p0 aY [] 0
def mv (p0:aw):Nat→List (List Int)→Int→Option aw
 | 0,_,_=>N
 | e+1,c,a =>
  if D (a<(p0.k_.length:Int)) then Q (idx p0.k_ a) fun d=>Q (app [] d) fun d=>Q (app c [d]) fun d=>mv p0 e d (W J (a+1)) else U (aw.mk c)
def kY (p0:aw):Option aw :=
 mv p0 aY [] 0
def tn (p0:dd):Option dd :=
 Q (kY p0.x_) fun a=>Q (kY p0.y_) fun c=>U (dd.mk a c)
def jd (p0:av):Option av :=
 Q (jf p0.C_) fun a=>Q (jf p0.u_) fun c=>Q (tn p0.G_) fun d=>U (av.mk a p0.R_ c d)
def mE (p0:bh):Nat→List av→Int→Option bh
 | 0,_,_=>N
 | e+1,c,a =>
  if D (a<(p0.t_.length:Int)) then Q (idx p0.t_ a) fun d=>Q (jd d) fun d=>Q (app c [d]) fun d=>mE p0 e d (W J (a+1)) else U (bh.mk c)
def sK (p0:bh):Option bh :=
 mE p0 aY [] 0
def lN (p0:Bool):Option Int :=
 if p0 then U 1 else U 0
def qY (p0:ae)(p1:aI)(p2:Int):Option Int :=
 Q (lw p0 p1) fun a=>Q (if !a then U y else Q (idx p0.c_ p1.q_) fun a=>Q (jU a) fun a=>Q (aM p2 0 (W J (a-1))) fun a=>U (!a)) fun u20=>if u20 then U (-1) else if p1.j_==(-1) then U p2 else Q (idx p0.c_ p1.q_) fun a=>if D ((a.z_.length:Int)>0) then Q (lN (D (p2>p1.j_))) fun a=>U a else Q (lN (p2 != p1.j_)) fun a=>U a
def mx (p1:am)(p2:cl)(p0:ae):Nat→List Int→Int→Option (List Int)
 | 0,_,_=>N
 | g+1,e,c =>
  Q (idx p1.b_ c) fun a=>if !a.D_ then Q (app e [c]) fun d=>Q (idx p1.b_ c) fun a=>Q (idx p2.O_ a.n_.q_) fun f=>if D (f≥0) then Q (idx p2.O_ a.n_.q_) fun f=>Q (qY p0 a.n_ f) fun f=>Q (idx a.A_ f) fun f=>mx p1 p2 p0 g d f else Q (idx a.A_ a.K_) fun a=>mx p1 p2 p0 g d a else Q (app e [c]) fun a=>U a
def yY (p0:ae)(p1:am)(p2:cl):Option (List Int) :=
 mx p1 p2 p0 aY [] 0
def uT (p0:ae)(p1:am)(p2:cl):Option (List Int) :=
 Q (oh p0 p1) fun a=>Q (if !a then U y else Q (se p0 p2) fun a=>U (!a)) fun a=>if a then U ([]:List Int) else Q (yY p0 p1 p2) fun a=>U a
def lJ (d:List Int)(p1:am)(p0:ae):Nat→Int→Option (List Int)
 | 0,_=>N
 | f+1,a =>
  if D (a≥0) then Q (idx d a) fun c=>Q (idx p1.b_ c) fun c=>Q (fG p0 c.m_) fun e=>if D (e>0) then Q (app [] c.m_.l_) fun c=>U c else lJ d p1 p0 f (W J (a-1)) else Q (mk (0:Int) (p0.f_.length:Int)) fun a=>U a
def xW (p0:ae)(p1:am)(p2:cl):Option (List Int) :=
 Q (uT p0 p1 p2) fun a=>if ((a.length:Int)==0) then U ([]:List Int) else lJ a p1 p0 aY (W J ((a.length:Int)-1))
def mY (p0:List Int):Nat→Int→Int→Option Int
 | 0,_,_=>N
 | d+1,c,a =>
  if D (a<(p0.length:Int)) then Q (if D (c<0) then U y else Q (idx p0 a) fun e=>Q (idx p0 c) fun f=>U (D (e>f))) fun e=>if e then mY p0 d a (W J (a+1)) else mY p0 d c (W J (a+1)) else U c
def tH (p0:List Int):Option Int :=
 mY p0 aY (-1) 0
def uo (p0:ae)(p1:am)(p2:cl):Option Int :=
 Q (xW p0 p1 p2) fun a=>Q (tH a) fun a=>U a
def gD (a:List Int)(p1:Int):Nat→Int→Int→Option Int
 | 0,_,_=>N
 | e+1,d,c =>
  if D (c<(a.length:Int)) then Q (idx a c) fun f=>if D (f≤p1) then gD a p1 e (W J (d+1)) (W J (c+1)) else gD a p1 e d (W J (c+1)) else U d
def tX (p0 p1:Int):Option Int :=
 Q (kK p0) fun a=>Q (if ((a.length:Int)==0) then U y else Q (aM p1 0 65535) fun c=>U (!c)) fun u19=>if u19 then U (-1) else gD a p1 aY 0 0
def wc (p0:ae)(p1:am)(p2:cl):Option Int :=
 Q (uT p0 p1 p2) fun a=>if ((a.length:Int)==0) then U (-1) else Q (idx a (W J ((a.length:Int)-1))) fun a=>U a
def kb (e:aE)(p2:cl)(p0:ae)(p3 g:Int):Nat→List (List Int)→Int→Option (aE×Bool)
 | 0,_,_=>N
 | i+1,f,a =>
  if D (a<(e.g_.length:Int)) then Q (idx p2.O_ a) fun c=>if D (c≥0) then Q (idx p2.O_ a) fun c=>Q (idx f a) fun d=>Q (idx d (W J (W J (c*(p0.f_.length:Int))+p2.W_))) fun h=>Q (idx d (W J (W J (c*(p0.f_.length:Int))+p2.W_))) fun _=>kb e p2 p0 p3 g i (f.set a.toNat (d.set (W J (W J (c*(p0.f_.length:Int))+p2.W_)).toNat (W J (h+p3)))) (W J (a+1)) else kb e p2 p0 p3 g i f (W J (a+1)) else U (aE.mk (e.l_.set p2.W_.toNat (W J (g+p3))) f,y)
def pd (p0:ae)(p1:aE)(p2:cl)(p3:Int):Option (aE×Bool) :=
 Q (uO p1) fun a=>Q (ij p0 p1) fun c=>Q (if !c then U y else Q (se p0 p2) fun c=>U (!c)) fun c=>Q (if c||D (p2.W_<0) then U y else Q (aM p3 1 7) fun c=>U (!c)) fun c=>Q (if c then U y else Q (fG p0 p1) fun c=>U (D (W J (c+p3)>999))) fun c=>if c then U (a,n) else Q (idx a.l_ p2.W_) fun c=>Q (idx a.l_ p2.W_) fun _=>kb a p2 p0 p3 c aY a.g_ 0
def fu (p1:List Int)(c:Int)(p0:ae)(f:(List aI)→Int→Option (List aI)):Nat→List aI→Int→Option (List aI)
 | 0,_,_=>N
 | h+1,d,a =>
  if D (a<4) then Q (idx p1 c) fun e=>Q (lw p0 (aI.mk e a)) fun g=>if g then Q (app d [aI.mk e a]) fun e=>fu p1 c p0 f h e (W J (a+1)) else fu p1 c p0 f h d (W J (a+1)) else f d (W J (c+1))
def fq (p1:List Int)(p0:ae)(p2:Bool):Nat→List aI→Int→Option (List aI)
 | 0,_,_=>N
 | e+1,c,a =>
  if D (a<(p1.length:Int)) then Q (idx p1 a) fun d=>Q (idx p0.c_ d) fun d=>if (((d.z_.length:Int)==0)&&(!p2)) then Q (idx p1 a) fun d=>Q (app c [aI.mk d (-1)]) fun d=>fq p1 p0 p2 e d (W J (a+1)) else fu p1 a p0 (fq p1 p0 p2 e) aY c 0 else U c
def rC (p0:ae)(p1:List Int)(p2:Bool):Option (List aI) :=
 Q (lf p0 p1) fun a=>if !a then U ([]:List aI) else fq p1 p0 p2 aY [] 0
def fo (e:List Int)(p1:aE)(p2:aI)(d:Int)(p0:ae)(h:Int→List Int→Option (List Int)):Nat→Int→List Int→Option (List Int)
 | 0,_,_=>N
 | i+1,a,c =>
  if D (a<(e.length:Int)) then Q (idx c a) fun f=>Q (idx p1.g_ p2.q_) fun g=>Q (idx g (W J (W J (d*(p0.f_.length:Int))+a))) fun g=>Q (idx c a) fun _=>fo e p1 p2 d p0 h i (W J (a+1)) (c.set a.toNat (W J (f+g))) else h (W J (d+1)) c
def dJ (p0:ae)(p2:aI)(p3:Int)(d:List Int)(p1:aE):Nat→Int→List Int→Option (List Int)
 | 0,_,_=>N
 | f+1,a,c =>
  Q (idx p0.c_ p2.q_) fun e=>Q (jU e) fun e=>if D (a<e) then Q (qY p0 p2 a) fun e=>if e==p3 then fo d p1 p2 a p0 (dJ p0 p2 p3 d p1 f) aY 0 c else dJ p0 p2 p3 d p1 f (W J (a+1)) c else U c
def mQ (p0:ae)(p1:aE)(p2:aI)(p3:Int):Option (List Int) :=
 Q (ij p0 p1) fun a=>Q (if ((!a)||((p1.g_.length:Int)==0)) then U y else Q (lw p0 p2) fun a=>U (!a)) fun a=>Q (if a then U y else Q (fM p0 p2) fun a=>Q (aM p3 0 (W J (a-1))) fun a=>U (!a)) fun a=>if a then U ([]:List Int) else Q (mk (0:Int) (p0.f_.length:Int)) fun a=>dJ p0 p2 p3 a p1 aY 0 a
def nw (p0:List Int):Nat→Int→Int→Option Int
 | 0,_,_=>N
 | e+1,c,a =>
  if D (a<(p0.length:Int)) then Q (idx p0 a) fun d=>nw p0 e (W J (c+d)) (W J (a+1)) else U c
def oe (p0:List Int):Option Int :=
 nw p0 aY 0 0
def mC (p0:List Int):Nat→Int→Int→Option Int
 | 0,_,_=>N
 | f+1,c,a =>
  if D (a<(p0.length:Int)) then Q (idx p0 a) fun d=>Q (aM d 0 999) fun d=>if !d then U (-1) else Q (idx p0 a) fun d=>Q (idx p0 a) fun e=>mC p0 f (W J (c+W J (d*e))) (W J (a+1)) else U c
def sy (p0:List Int):Option Int :=
 if D ((p0.length:Int)>3) then U (-1) else mC p0 aY 0 0
def mP (p0:bT):Option Bool :=
 Q (aM p0.B_ 0 4000000000000000) fun a=>Q (if a then Q (aM p0.ab_ 1 4000000000000000) fun a=>U a else U n) fun u13=>U u13
def pT  : Nat→Int→Int→Option Int
 | 0,_,_=>N
 | e+1,c,a =>
  if D (a>0) then Q (rem c a) fun d=>pT e a d else U c
def DT (p0 p1:Int):Option Int :=
 if D (p0<0)||D (p1<0) then U (-1) else pT aY p0 p1
def vZ (p0:bT):Option bT :=
 Q (mP p0) fun a=>if !a then U (bT.mk 0 0) else Q (DT p0.B_ p0.ab_) fun a=>Q (quo J p0.B_ a) fun c=>Q (quo J p0.ab_ a) fun a=>U (bT.mk c a)
def lr (a e f:List Int)(h:Int→List Int→List Int→List Int→Option bT)(g:Int):Nat→Int→List Int→Option bT
 | 0,_,_=>N
 | k+1,c,d =>
  if D (c<(a.length:Int)) then Q (idx d c) fun i=>Q (idx a c) fun j=>Q (idx d c) fun _=>lr a e f h g k (W J (c+1)) (d.set c.toNat (W J (i+j))) else Q (oe a) fun c=>if D (c>0) then Q (oe a) fun c=>Q (app e [c]) fun c=>Q (sy a) fun a=>Q (app f [a]) fun a=>h (W J (g+1)) d c a else h (W J (g+1)) d e f
def oY (e f:List Int)(a c:Int)(g:List Int):Nat→Int→Int→Option bT
 | 0,_,_=>N
 | k+1,h,d =>
  if D (d<(e.length:Int)) then Q (idx f d) fun i=>Q (idx e d) fun j=>Q (quo J a j) fun j=>oY e f a c g k (W J (h+W J (W J (i*c)*j))) (W J (d+1)) else Q (sy g) fun d=>Q (vZ (bT.mk (W J (h-W J (d*a))) (W J (W J (c*c)*a)))) fun a=>U a
def pg (a d:List Int)(e:Int)(f:List Int):Nat→Int→Int→Option bT
 | 0,_,_=>N
 | i+1,g,c =>
  if D (c<(a.length:Int)) then Q (idx a c) fun h=>pg a d e f i (W J (g*h)) (W J (c+1)) else oY a d g e f aY 0 0
def iZ (p0:ae)(p2:aI)(p1:aE):Nat→Int→List Int→List Int→List Int→Option bT
 | 0,_,_,_,_=>N
 | g+1,a,c,d,e =>
  Q (fM p0 p2) fun f=>if D (a<f) then Q (mQ p0 p1 p2 a) fun f=>lr f d e (iZ p0 p2 p1 g) a aY 0 c else Q (oe c) fun a=>if a==0 then U (bT.mk 0 1) else pg d e a c aY 1 0
def wB (p0:ae)(p1:aE)(p2:aI):Option bT :=
 Q (ij p0 p1) fun a=>Q (if ((!a)||((p1.g_.length:Int)==0)) then U y else Q (lw p0 p2) fun a=>U (!a)) fun a=>if a then U (bT.mk 0 0) else Q (mk (0:Int) (p0.f_.length:Int)) fun a=>iZ p0 p2 p1 aY 0 a [] []
def pc  : Nat→Int→List Int→Option ((List Int)×Bool)
 | 0,_,_=>N
 | e+1,a,c =>
  if D (a>0) then Q (app c [Int.tmod a 16777216]) fun d=>pc e (W J (Int.tdiv a 16777216)) d else U (c,y)
def xa (p0:Int):Option ((List Int)×Bool) :=
 if D (p0<0) then U (([]:List Int),n) else pc aY p0 []
def ly (p0:List Int):Nat→Int→Option Bool
 | 0,_=>N
 | d+1,a =>
  if D (a<(p0.length:Int)) then Q (idx p0 a) fun c=>Q (aM c 0 16777215) fun c=>if !c then U n else ly p0 d (W J (a+1)) else Q (if ((p0.length:Int)==0) then U y else Q (idx p0 (W J ((p0.length:Int)-1))) fun a=>U (a != 0)) fun a=>U a
def oC (p0:List Int):Option Bool :=
 if D ((p0.length:Int)>16) then U n else ly p0 aY 0
def nB (p0:List Int):Nat→Int→Option (List Int)
 | 0,_=>N
 | d+1,a =>
  Q (if D (a>0) then Q (idx p0 (W J (a-1))) fun c=>U (c==0) else U n) fun c=>if c then nB p0 d (W J (a-1)) else Q (sub p0 0 a) fun a=>Q (app [] a) fun a=>U a
def uK (p0:List Int):Option (List Int) :=
 nB p0 aY (p0.length:Int)
def kv (p1:List Int)(a:Int)(p0:List Int)(i:(List Int)→Int→Option ((List Int)×Bool)):Nat→List Int→Int→Int→Option ((List Int)×Bool)
 | 0,_,_,_=>N
 | j+1,c,e,d =>
  if D (d<(p1.length:Int)) then Q (idx c (W J (a+d))) fun f=>Q (idx p0 a) fun g=>Q (idx p1 d) fun h=>Q (idx c (W J (a+d))) fun _=>kv p1 a p0 i j (c.set (W J (a+d)).toNat (Int.tmod (W J (W J (f+W J (g*h))+e)) 16777216)) (W J (Int.tdiv (W J (W J (f+W J (g*h))+e)) 16777216)) (W J (d+1)) else Q (idx c (W J (a+(p1.length:Int)))) fun d=>Q (idx c (W J (a+(p1.length:Int)))) fun _=>i (c.set (W J (a+(p1.length:Int))).toNat (W J (d+e))) (W J (a+1))
def ky (p0 p1:List Int):Nat→List Int→Int→Option ((List Int)×Bool)
 | 0,_,_=>N
 | d+1,a,c =>
  if D (c<(p0.length:Int)) then kv p1 c p0 (ky p0 p1 d) aY a 0 0 else Q (uK a) fun a=>if D ((a.length:Int)>16) then U (([]:List Int),n) else U (a,y)
def oo (p0 p1:List Int):Option ((List Int)×Bool) :=
 Q (oC p0) fun a=>Q (if !a then U y else Q (oC p1) fun a=>U (!a)) fun u12=>if u12 then U (([]:List Int),n) else Q (mk (0:Int) (W J (W J ((p0.length:Int)+(p1.length:Int))+1))) fun a=>ky p0 p1 aY a 0
def kq (p0 p1:Int):Option (List Int) :=
 Q (xa p0) fun a=>Q (xa p1) fun c=>Q (oo a.1 c.1) fun a=>U a.1
def yX (p0 p1:Int):Option Int :=
 if D (p0>p1) then U p0 else U p1
def sc (p0:List Int)(p1:Int):Option Int :=
 if D (p1<(p0.length:Int)) then Q (idx p0 p1) fun a=>U a else U 0
def nz (p0 p1:List Int):Nat→Int→Option Int
 | 0,_=>N
 | e+1,a =>
  if D (a≥0) then Q (sc p0 a) fun c=>Q (sc p1 a) fun d=>if D (c<d) then U (-1) else if D (c>d) then U 1 else nz p0 p1 e (W J (a-1)) else U 0
def rX (p0 p1:List Int):Option Int :=
 Q (oC p0) fun a=>Q (if !a then U y else Q (oC p1) fun a=>U (!a)) fun u12=>if u12 then U (-2) else Q (yX (p0.length:Int) (p1.length:Int)) fun a=>nz p0 p1 aY (W J (a-1))
def mR (p0 p1:bT):Option Int :=
 Q (mP p0) fun a=>Q (if !a then U y else Q (mP p1) fun a=>U (!a)) fun u14=>if u14 then U (-2) else Q (kq p0.B_ p1.ab_) fun a=>Q (kq p1.B_ p0.ab_) fun c=>Q (rX a c) fun a=>U a
def lZ (a:List aI)(p0:ae)(p1:aE):Nat→Int→Int→Int→Int→Int→Option (aI×bT)
 | 0,_,_,_,_,_=>N
 | j+1,h,i,e,f,c =>
  if D (c<(a.length:Int)) then Q (idx a c) fun d=>Q (wB p0 p1 d) fun d=>Q (mR d (bT.mk e f)) fun g=>if D (g>0) then Q (idx a c) fun g=>lZ a p0 p1 j g.q_ g.j_ d.B_ d.ab_ (W J (c+1)) else lZ a p0 p1 j h i e f (W J (c+1)) else U (aI.mk h i,bT.mk e f)
def xx (p0:ae)(p1:aE)(p2:Int)(p3:Bool):Option (aI×bT) :=
 Q (ij p0 p1) fun a=>Q (if ((!a)||((p1.g_.length:Int)==0)) then U y else Q (aM p2 0 (W J ((p0.c_.length:Int)-1))) fun a=>U (!a)) fun a=>if a then U (aI.mk 0 0,bT.mk 0 0) else Q (rC p0 [p2] p3) fun c=>Q (idx c 0) fun a=>Q (wB p0 p1 a) fun d=>lZ c p0 p1 aY a.q_ a.j_ d.B_ d.ab_ 1
def CE (p0 p1:ca):Option Bool :=
 Q (mR p0.Q_ p1.Q_) fun a=>U (a==1)
def qr (a:List ca)(c:aI×bT)(g:Int→List ca→Option (List ca))(e:Int):Nat→Int→Option (List ca)
 | 0,_=>N
 | h+1,d =>
  Q (if D (d>0) then Q (idx a (W J (d-1))) fun f=>Q (CE (ca.mk c.1 c.2) f) fun f=>U f else U n) fun f=>if f then qr a c g e h (W J (d-1)) else Q (sub a 0 d) fun f=>Q (app [] f) fun f=>Q (app f [ca.mk c.1 c.2]) fun c=>Q (sub a d (a.length:Int)) fun a=>Q (app c a) fun a=>g (W J (e+1)) a
def jg (p2:List Int)(p0:ae)(p1:aE)(p3:Bool):Nat→Int→List ca→Option (List ca)
 | 0,_,_=>N
 | e+1,a,c =>
  if D (a<(p2.length:Int)) then Q (idx p2 a) fun d=>Q (xx p0 p1 d p3) fun d=>qr c d (jg p2 p0 p1 p3 e) a aY (c.length:Int) else U c
def Bi (p0:ae)(p1:aE)(p2:List Int)(p3:Bool):Option (List ca) :=
 Q (ij p0 p1) fun a=>Q (if ((!a)||((p1.g_.length:Int)==0)) then U y else Q (lf p0 p2) fun a=>U (!a)) fun a=>if a then U ([]:List ca) else jg p2 p0 p1 p3 aY 0 []
def nF (a:List ca)(c d:Int):Option (ca×bT×Bool) :=
 Q (idx a 0) fun a=>U (a,bT.mk c d,y)
def ur (p0:ae)(p1:aE)(p2:List Int)(p3:Bool):Option (ca×bT×Bool) :=
 Q (Bi p0 p1 p2 p3) fun a=>if ((a.length:Int)==0) then U (ca.mk (aI.mk 0 0) (bT.mk 0 0),bT.mk 0 0,n) else if D ((a.length:Int)>1) then Q (idx a 1) fun c=>nF a c.Q_.B_ c.Q_.ab_ else nF a 0 1
def mU (p0:bT):Option Bool :=
 Q (mP p0) fun a=>U (a&&D (p0.B_≤p0.ab_))
def pQ (a:List Int)(f:(List Int)→Int→Int→Option ((List Int)×Bool))(c d e:Int):Option ((List Int)×Bool) :=
 Q (app a [e]) fun a=>f a d (W J (c+1))
def hZ (p0 p1:List Int):Nat→List Int→Int→Int→Option ((List Int)×Bool)
 | 0,_,_,_=>N
 | g+1,c,d,a =>
  if D (a<(p0.length:Int)) then Q (idx p0 a) fun e=>Q (sc p1 a) fun f=>if D (W J (W J (e-f)-d)<0) then pQ c (hZ p0 p1 g) a 1 (W J (W J (W J (e-f)-d)+16777216)) else pQ c (hZ p0 p1 g) a 0 (W J (W J (e-f)-d)) else Q (uK c) fun a=>U (a,y)
def xl (p0 p1:List Int):Option ((List Int)×Bool) :=
 Q (oC p0) fun a=>Q (if !a then U y else Q (oC p1) fun a=>U (!a)) fun u13=>Q (if u13 then U y else Q (rX p0 p1) fun a=>U (D (a<0))) fun u18=>if u18 then U (([]:List Int),n) else hZ p0 p1 aY [] 0 0
def vJ (p0 p1:bT):Option ((List Int)×(List Int)×Bool) :=
 Q (mP p0) fun a=>Q (if !a then U y else Q (mP p1) fun a=>U (!a)) fun u14=>Q (if u14 then U y else Q (mR p0 p1) fun a=>U (D (a<0))) fun u19=>if u19 then U (([]:List Int),[],n) else Q (kq p0.B_ p1.ab_) fun a=>Q (kq p1.B_ p0.ab_) fun c=>Q (xl a c) fun a=>Q (kq p0.ab_ p1.ab_) fun c=>U (a.1,c,y)
def wg (p0:Int):Option Int :=
 Q (aM p0 1 9) fun a=>if !a then U 0 else U (W J (Int.tdiv (W J (W J (p0*2302585)+999)) 1000))
def xk (p0 p1:bT)(p2 p3:Int):Option Bool :=
 Q (mU p0) fun a=>Q (if !a then U y else Q (mU p1) fun a=>U (!a)) fun u14=>Q (if u14 then U y else Q (mR p0 p1) fun a=>U (D (a<0))) fun u19=>Q (if u19 then U y else Q (aM p2 1 999) fun a=>U (!a)) fun a=>Q (if a then U y else Q (aM p3 1 9) fun a=>U (!a)) fun a=>if a then U n else Q (vJ p0 p1) fun a=>Q (oo a.1 a.1) fun c=>Q (kq 2000 p2) fun d=>Q (oo c.1 d) fun c=>Q (oo a.2.1 a.2.1) fun a=>Q (wg p3) fun d=>Q (kq d 1) fun d=>Q (oo a.1 d) fun a=>Q (rX c.1 a.1) fun a=>U (D (a>0))
def Bo (p0:bA)(p1:Int):Option Bool :=
 Q (pK p0) fun a=>Q (if a then Q (aM p1 1 999) fun a=>U a else U n) fun u13=>Q (if u13 then Q (wg p0.T_) fun a=>U (D (W J (1000*a)<W J (W J (W J (2*p1)*p0.S_)*p0.S_))) else U n) fun u18=>U u18
def vF (p0:bA)(p1 p2:bT)(p3:Int):Option Int :=
 Q (pK p0) fun a=>Q (if !a then U y else Q (aM p3 1 999) fun a=>U (!a)) fun u15=>Q (if u15 then U y else Q (mU p1) fun a=>U (!a)) fun u20=>Q (if u20 then U y else Q (mU p2) fun a=>U (!a)) fun a=>Q (if a then U y else Q (mR p1 p2) fun a=>U (D (a<0))) fun a=>if a then U 4 else if p1.B_==0 then U 3 else Q (xk p1 p2 p3 p0.T_) fun a=>if a then U 1 else Q (Bo p0 p3) fun a=>if a then U 2 else U 0
def yL (p0:ae)(p1:bA)(p2:au):Option (aI×Int) :=
 Q (ur p0 p2.m_ p2.c_ p1.P_) fun a=>if (!p2.D_)||(!a.2.2) then U (aI.mk 0 0,4) else Q (fG p0 p2.m_) fun c=>Q (vF p1 a.1.Q_ a.2.1 c) fun c=>if (c==1)||(c==2) then U (a.1.n_,c) else U (aI.mk 0 0,c)
def iE (p0:ae)(p2:aI)(p1:aE):Nat→List Int→Int→Option Int
 | 0,_,_=>N
 | e+1,c,a =>
  Q (fM p0 p2) fun d=>if D (a<d) then Q (mQ p0 p1 p2 a) fun d=>if ((d.length:Int)==0) then U (-1) else Q (oe d) fun d=>Q (app c [d]) fun d=>iE p0 p2 p1 e d (W J (a+1)) else Q (tH c) fun a=>U a
def uv (p0:ae)(p1:aE)(p2:aI):Option Int :=
 iE p0 p2 p1 aY [] 0
def ye (p0:aE):Option aE :=
 Q (app [] p0.l_) fun a=>U (aE.mk a [])
def jD (l:List (List Int))(p0:ae)(c:au)(p2:Int)(p1:am)(p3:aI)(e:Int)(f:aE)(g:List Int)(h i:au)(k:am):Nat→List au→List Int→Int→Option (am×Bool)
 | 0,_,_,_=>N
 | q+1,a,j,d =>
  if D (d<(l.length:Int)) then Q (app j [(a.length:Int)]) fun m=>Q (idx l d) fun o=>Q (mW p0) fun p=>Q (app [] o) fun o=>Q (app a [au.mk y (aI.mk 0 0) [] 0 p 0 o (W J (c.o_+1)) p2 p1.p_]) fun o=>jD l p0 c p2 p1 p3 e f g h i k q o m (W J (d+1)) else Q (idx a p2) fun _=>U (am.mk (a.set p2.toNat (au.mk n p3 j e f 0 g c.o_ h.H_ i.F_)) k.p_,y)
def js (d:List (List Int))(p0:ae)(a p1:am)(p2:Int)(p3:aI):Nat→Int→Option (am×Bool)
 | 0,_=>N
 | f+1,c =>
  if D (c<(d.length:Int)) then Q (idx d c) fun e=>Q (lf p0 e) fun e=>if !e then U (a,n) else js d p0 a p1 p2 p3 f (W J (c+1)) else Q (idx p1.b_ p2) fun c=>if ((c.o_==6)||D (W J ((p1.b_.length:Int)+(d.length:Int))>31)) then U (a,n) else Q (idx p1.b_ p2) fun c=>Q (idx p1.b_ p2) fun e=>Q (idx p1.b_ p2) fun f=>Q (idx p1.b_ p2) fun g=>Q (idx p1.b_ p2) fun h=>Q (idx p1.b_ p2) fun i=>Q (uv p0 c.m_ p3) fun c=>Q (ye e.m_) fun e=>Q (app [] f.c_) fun f=>jD d p0 g p2 p1 p3 c e f h i a aY a.b_ [] 0
def vO (p0:ae)(p1:am)(p2:Int)(p3:aI)(c:List (List Int)):Option (am×Bool) :=
 Q (jf p1) fun a=>Q (oh p0 p1) fun d=>Q (if !d then U y else Q (aM p2 0 (W J ((p1.b_.length:Int)-1))) fun d=>U (!d)) fun d=>Q (if d then U y else Q (idx p1.b_ p2) fun d=>U (!d.D_)) fun d=>Q (if d then U y else Q (idx p1.b_ p2) fun d=>U ((d.m_.g_.length:Int)==0)) fun d=>Q (if d then U y else Q (lw p0 p3) fun d=>U (!d)) fun d=>Q (if d then U y else Q (fM p0 p3) fun d=>U ((c.length:Int) != d)) fun d=>if d then U (a,n) else js c p0 a p1 p2 p3 aY 0
def gm (p0:am):Nat→List Int→Int→Option (List Int)
 | 0,_,_=>N
 | e+1,c,a =>
  if D (a<(p0.b_.length:Int)) then Q (idx p0.b_ a) fun d=>Q (if d.D_ then Q (idx p0.b_ a) fun d=>U (D ((d.m_.g_.length:Int)>0)) else U n) fun d=>if d then Q (app c [a]) fun d=>gm p0 e d (W J (a+1)) else gm p0 e c (W J (a+1)) else U c
def pu (p0:am):Option (List Int) :=
 gm p0 aY [] 0
def sY (p0:ae)(p1:aE):Option Int :=
 Q (ij p0 p1) fun a=>if !a then U 0 else Q (fG p0 p1) fun a=>Q (tH p1.l_) fun c=>Q (idx p1.l_ c) fun c=>U (W J (a-c))
def kH (a:List Int)(p1:am)(p0:ae):Nat→Int→Int→Option Int
 | 0,_,_=>N
 | g+1,d,c =>
  if D (c<(a.length:Int)) then Q (if D (d<0) then U y else Q (idx a c) fun e=>Q (idx p1.b_ e) fun e=>Q (sY p0 e.m_) fun e=>Q (idx p1.b_ d) fun f=>Q (sY p0 f.m_) fun f=>U (D (e<f))) fun e=>if e then Q (idx a c) fun e=>kH a p1 p0 g e (W J (c+1)) else kH a p1 p0 g d (W J (c+1)) else U d
def sZ (p0:ae)(p1:am):Option Int :=
 Q (oh p0 p1) fun a=>if !a then U (-1) else Q (pu p1) fun a=>kH a p1 p0 aY (-1) 0
def oS (c:am)(p2:Int)(p0:ae):Nat→List au→List Int→Option (am×(List Int))
 | 0,_,_=>N
 | i+1,a,e =>
  Q (lO (am.mk a c.p_)) fun d=>Q (if D (d>p2) then Q (sZ p0 (am.mk a c.p_)) fun d=>U (D (d≥0)) else U n) fun d=>if d then Q (sZ p0 (am.mk a c.p_)) fun d=>Q (idx a d) fun f=>Q (ye f.m_) fun g=>Q (app e [d]) fun h=>oS c p2 p0 i (a.set d.toNat ({f with m_:=g,J_:=0})) h else U (am.mk a c.p_,e)
def vy (p0:ae)(p1:am)(p2:Int):Option (am×(List Int)) :=
 Q (jf p1) fun a=>Q (oh p0 p1) fun c=>if !c then U (a,[]) else oS a p2 p0 aY a.b_ []
def gS (p0:ae)(c:aI×Int)(p:Int)(p2:am)(q:bp)(d:am)(e:Int)(f:au)(g:aE×Bool)(h:Int)(p1:bA):Nat→List (List Int)→List Int→Int→Int→Option (am×bp×Int)
 | 0,_,_,_,_=>N
 | r+1,i,j,k,l =>
  Q (fM p0 c.1) fun a=>if D (l<a) then Q (oQ (bp.mk j k) (p0.c_.length:Int) p) fun a=>if !a.2.2 then Q (jf p2) fun m=>Q (cX q) fun o=>U (m,o,4) else Q (app i [a.2.1]) fun m=>gS p0 c p p2 q d e f g h p1 r m a.1.v_ a.1.j_ (W J (l+1)) else Q (vO p0 (am.mk (d.b_.set e.toNat ({f with m_:=g.1,J_:=h})) (W J (p2.p_+1))) e c.1 i) fun a=>Q (vy p0 a.1 p1.L_) fun a=>U (a.1,bp.mk j k,1)
def jb (a:am)(g:Int)(i:bp)(c:au)(d:aE×Bool)(p2:am)(p0:ae)(p1:bA)(j e:Int)(f:Bool):Option (am×bp×Int) :=
 Q (idx a.b_ g) fun _=>if !f then Q (cX i) fun f=>U (am.mk (a.b_.set g.toNat ({c with m_:=d.1,J_:=e})) (W J (p2.p_+1)),f,0) else Q (yL p0 p1 ({c with m_:=d.1,J_:=e})) fun f=>Q (if ((f.2 != 1)&&(f.2 != 2))||D (c.o_≥p1.o_) then U y else Q (fM p0 f.1) fun h=>U (D (W J ((a.b_.length:Int)+h)>p1.b_))) fun h=>if h then Q (cX i) fun h=>U (am.mk (a.b_.set g.toNat ({c with m_:=d.1,J_:=e})) (W J (p2.p_+1)),h,0) else Q (cX i) fun h=>gS p0 f j p2 i a g c d e p1 aY [] h.v_ h.j_ 0
def pU (p0:ae)(p1:bA)(p2:am)(p3:cl)(g:Int)(f:bp)(h:Int):Option (am×bp×Int) :=
 Q (rZ p0 p1 p2) fun a=>Q (if !a then U y else Q (se p0 p3) fun a=>U (!a)) fun a=>Q (if a||D (p3.W_<0) then U y else Q (aM g 1 7) fun a=>U (!a)) fun a=>Q (if a then U y else Q (qb f) fun a=>U (!a)) fun a=>Q (if a then U y else Q (aM h 1 (p0.c_.length:Int)) fun a=>U (!a)) fun a=>if a then Q (jf p2) fun a=>Q (cX f) fun c=>U (a,c,2) else Q (wc p0 p2 p3) fun d=>Q (if p2.p_==99999 then U y else Q (idx p2.b_ d) fun a=>Q (fG p0 a.m_) fun a=>U (D (a>W J (999-g)))) fun a=>if a then Q (jf p2) fun a=>Q (cX f) fun c=>U (a,c,3) else Q (jf p2) fun e=>Q (idx p2.b_ d) fun a=>Q (nY a) fun a=>Q (pd p0 a.m_ p3 g) fun c=>if D ((c.1.g_.length:Int)>0) then if D (W J (a.J_+g)≥p1.U_) then jb e d f a c p2 p0 p1 h 0 y else jb e d f a c p2 p0 p1 h (W J (a.J_+g)) n else jb e d f a c p2 p0 p1 h a.J_ n
def kG (a d e:Int)(g:(List (List Int))→Int→Option (aw×Bool))(c:List (List Int)):Option (aw×Bool) :=
 Q (idx c (W J (a+1))) fun f=>Q (app f [W J (d+e)]) fun d=>g (c.set (W J (a+1)).toNat d) (W J (a+1))
def eQ  : Nat→List (List Int)→Int→Option (aw×Bool)
 | 0,_,_=>N
 | h+1,c,a =>
  if D (a<8) then Q (if D (a≥(c.length:Int)) then U y else Q (idx c a) fun d=>U (D ((d.length:Int)≤3))) fun d=>if d then U (aw.mk c,y) else if a==7 then Q (idx c a) fun d=>Q (sub d 1 (d.length:Int)) fun d=>Q (app [] d) fun d=>U (aw.mk (c.set a.toNat d),y) else Q (idx c a) fun d=>Q (idx d 0) fun e=>Q (idx d 1) fun f=>Q (sub d 2 (d.length:Int)) fun d=>Q (app [] d) fun d=>if (W J (a+1)==(c.length:Int)) then Q (app (c.set a.toNat d) [[]]) fun g=>kG a e f (eQ h) g else kG a e f (eQ h) (c.set a.toNat d) else U (aw.mk c,y)
def kF (p1:Int)(a:List (List Int)):Option (aw×Bool) :=
 Q (idx a 0) fun c=>Q (app c [p1]) fun c=>eQ aY (a.set (0:Int).toNat c) 0
def tu (p0:aw)(p1:Int):Option (aw×Bool) :=
 Q (kY p0) fun a=>Q (lq p0) fun c=>Q (if !c then U y else Q (aM p1 0 1) fun c=>U (!c)) fun c=>if c then U (a,n) else if ((a.k_.length:Int)==0) then Q (app a.k_ [[]]) fun c=>kF p1 c else kF p1 a.k_
def mH (p0:aw)(a:Int)(g:(List cO)→Int→Option (List cO)):Nat→List cO→Int→Option (List cO)
 | 0,_,_=>N
 | h+1,d,c =>
  Q (idx p0.k_ a) fun e=>if D (c<(e.length:Int)) then Q (idx p0.k_ a) fun e=>Q (idx e c) fun e=>Q (ll a) fun f=>Q (app d [cO.mk f e]) fun e=>mH p0 a g h e (W J (c+1)) else g d (W J (a-1))
def il (p0:aw):Nat→List cO→Int→Option (List cO)
 | 0,_,_=>N
 | d+1,a,c =>
  if D (c≥0) then mH p0 c (il p0 d) aY a 0 else U a
def qA (p0:aw):Option (List cO) :=
 Q (lq p0) fun a=>if !a then U ([]:List cO) else il p0 aY [] (W J ((p0.k_.length:Int)-1))
def fQ (a:List cO):Nat→Int→Int→Option Int
 | 0,_,_=>N
 | f+1,d,c =>
  if D (c<(a.length:Int)) then Q (idx a c) fun e=>fQ a f (W J (d+e.af_)) (W J (c+1)) else U d
def lB (p0:aw):Option Int :=
 Q (qA p0) fun a=>fQ a aY 0 0
def gb (a:List cO):Nat→Int→Int→Option Int
 | 0,_,_=>N
 | f+1,d,c =>
  if D (c<(a.length:Int)) then Q (idx a c) fun e=>gb a f (W J (d+e.ac_)) (W J (c+1)) else U d
def mI (p0:aw):Option Int :=
 Q (qA p0) fun a=>gb a aY 0 0
def vQ (p0 p1 p2 p3 a:Int):Option Bool :=
 Q (aM p0 5 1000) fun c=>Q (if !c then U y else Q (aM p2 5 1000) fun c=>U (!c)) fun u12=>Q (if u12 then U y else Q (aM p1 0 p0) fun c=>U (!c)) fun u17=>Q (if u17 then U y else Q (aM p3 0 p2) fun c=>U (!c)) fun u22=>Q (if u22 then U y else Q (aM a 1 9) fun c=>U (!c)) fun c=>if c then U n else Q (wg a) fun a=>U (D (W J (W J (W J (W J (p1*p2)-W J (p3*p0))*W J (W J (p1*p2)-W J (p3*p0)))*2000)>W J (W J (W J (a*W J (p0+p2))*p0)*p2)))
def lm (c:List cO)(h i p1:Int):Nat→Int→Int→Int→Option Int
 | 0,_,_,_=>N
 | k+1,a,d,e =>
  if D (a<W J ((c.length:Int)-1)) then Q (idx c a) fun f=>Q (idx c a) fun g=>Q (vQ (W J (d+f.af_)) (W J (e+g.ac_)) (W J (h-W J (d+f.af_))) (W J (i-W J (e+g.ac_))) p1) fun j=>if j then U (W J (a+1)) else lm c h i p1 k (W J (a+1)) (W J (d+f.af_)) (W J (e+g.ac_)) else U 0
def zh (p0:aw)(p1:Int):Option Int :=
 Q (qA p0) fun a=>Q (lB p0) fun c=>Q (mI p0) fun d=>lm a c d p1 aY 0 0 0
def rD (p0:aw):Option (aw×Bool) :=
 Q (kY p0) fun a=>Q (lq p0) fun c=>if ((!c)||((p0.k_.length:Int)==0)) then U (a,n) else Q (idx a.k_ (W J ((a.k_.length:Int)-1))) fun c=>Q (sub c 1 (c.length:Int)) fun c=>Q (app [] c) fun c=>if ((c.length:Int)==0) then Q (sub (a.k_.set (W J ((a.k_.length:Int)-1)).toNat c) 0 (W J ((a.k_.length:Int)-1))) fun d=>U (aw.mk d,y) else U (aw.mk (a.k_.set (W J ((a.k_.length:Int)-1)).toNat c),y)
def pM (p1:Int):Nat→List (List Int)→Int→Option (aw×Int)
 | 0,_,_=>N
 | e+1,a,c =>
  Q (zh (aw.mk a) p1) fun d=>if D (d>0) then Q (rD (aw.mk a)) fun d=>pM p1 e d.1.k_ (W J (c+1)) else U (aw.mk a,c)
def xn (p0:aw)(p1:Int):Option (aw×Int) :=
 Q (kY p0) fun a=>pM p1 aY a.k_ 0
def oU (p0:aw)(p1 p2:Int):Option (aw×Bool×Bool) :=
 Q (tu p0 p1) fun a=>Q (if !a.2 then U y else Q (aM p2 1 9) fun c=>U (!c)) fun c=>if c then Q (kY p0) fun c=>U (c,n,n) else Q (xn a.1 p2) fun c=>Q (if D (c.2>0) then Q (mI c.1) fun d=>Q (lB a.1) fun e=>Q (mI a.1) fun a=>Q (lB c.1) fun f=>U (D (W J (d*e)>W J (a*f))) else U n) fun a=>U (c.1,a,y)
def vY (p0:dd)(p1 p2 p3:Int):Option (dd×Int) :=
 Q (oU p0.x_ p1 p2) fun a=>Q (oU p0.y_ p1 p3) fun c=>if (!a.2.2)||(!c.2.2) then Q (tn p0) fun d=>U (d,3) else if c.2.1 then U (dd.mk (aw.mk []) (aw.mk []),2) else if a.2.1 then U (dd.mk a.1 c.1,1) else U (dd.mk a.1 c.1,0)
def jT (a:dd×Int)(c d e f g:Int)(h:Bool)(i:List au)(j:Int)(k:Bool)(l:List au)(m:Int)(o:Bool)(p:List Int)(q:Int):Option (av×bp×dt×Bool) :=
 U (av.mk (am.mk i j) k (am.mk l m) a.1,bp.mk p q,dt.mk c d e f g a.2 h o,y)
def jY (c:dd×Int)(d e f g h:Int)(p0:aU)(p1:av)(p3:bp)(p:List au)(q:Int)(l:Bool)(m:List au)(o:Int)(i:Bool)(j:List Int)(k:Int):Option (av×bp×dt×Bool) :=
 if c.2==2 then if l then jT c d e f g h i m o n [] 0 y j k else Q (qp p0 (bp.mk j k)) fun a=>if !a.2.2 then Q (jd p1) fun r=>Q (cX p3) fun s=>U (r,s,dt.mk 0 0 0 0 0 0 n n,n) else jT c d e f g h i a.1.b_ a.1.p_ n [] 0 y a.2.1.v_ a.2.1.j_ else jT c d e f g h i p q l m o n j k
def iu (p1:av)(c:Int)(p0:aU)(e:av)(p3:bp)(f g:Int)(h:List au)(i:Int)(o:List au)(p j k:Int)(l:List Int)(m:Int):Option (av×bp×dt×Bool) :=
 Q (vY p1.G_ c p0.x_ p0.y_) fun d=>if (d.2==1)&&(!e.R_) then Q (qp p0 (bp.mk l m)) fun a=>if !a.2.2 then Q (jd p1) fun q=>Q (cX p3) fun r=>U (q,r,dt.mk 0 0 0 0 0 0 n n,n) else jY d f c g j k p0 p1 p3 h i y a.1.b_ a.1.p_ y a.2.1.v_ a.2.1.j_ else jY d f c g j k p0 p1 p3 h i e.R_ o p n l m
def rt (p0:aU)(p1:av)(p2:cl)(p3:bp):Option (av×bp×dt×Bool) :=
 Q (rc p0 p1) fun a=>Q (if !a then U y else Q (se p0.w_ p2) fun a=>U (!a)) fun a=>Q (if a||D (p2.W_<0) then U y else Q (qb p3) fun a=>U (!a)) fun a=>if a then Q (jd p1) fun c=>Q (cX p3) fun a=>U (c,a,dt.mk 0 0 0 0 0 0 n n,n) else Q (jd p1) fun c=>Q (uo p0.w_ p1.C_ p2) fun g=>Q (lN (g != p2.W_)) fun h=>Q (yo p3) fun f=>if !f.2.2 then Q (jd p1) fun a=>Q (cX p3) fun d=>U (a,d,dt.mk 0 0 0 0 0 0 n n,n) else Q (tX p0.X_ f.2.1) fun d=>if D (d>0) then Q (pU p0.w_ p0.e_ p1.C_ p2 d f.1 p0.V_) fun a=>if a.2.2==4 then Q (jd p1) fun e=>Q (cX p3) fun i=>U (e,i,dt.mk 0 0 0 0 0 0 n n,n) else if p1.R_ then Q (pU p0.w_ p0.e_ p1.u_ p2 d a.2.1 p0.V_) fun e=>if e.2.2==4 then Q (jd p1) fun i=>Q (cX p3) fun j=>U (i,j,dt.mk 0 0 0 0 0 0 n n,n) else iu p1 h p0 c p3 g d a.1.b_ a.1.p_ e.1.b_ e.1.p_ a.2.2 e.2.2 e.2.1.v_ e.2.1.j_ else iu p1 h p0 c p3 g d a.1.b_ a.1.p_ c.u_.b_ c.u_.p_ a.2.2 (-1) a.2.1.v_ a.2.1.j_ else iu p1 h p0 c p3 g d c.C_.b_ c.C_.p_ c.u_.b_ c.u_.p_ (-1) (-1) f.1.v_ f.1.j_
def gk (p1:bh)(p0:aU)(p2:cl)(p3:bp):Nat→List av→List Int→Int→List dt→Int→Option (bh×bp×(List dt)×Int)
 | 0,_,_,_,_,_=>N
 | j+1,d,e,f,g,c =>
  if D (c<(p1.t_.length:Int)) then Q (idx p1.t_ c) fun a=>Q (rt p0 a p2 (bp.mk e f)) fun a=>if !a.2.2.2 then Q (sK p1) fun h=>Q (cX p3) fun i=>U (h,i,[],2) else Q (app d [a.1]) fun h=>Q (app g [a.2.2.1]) fun i=>gk p1 p0 p2 p3 j h a.2.1.v_ a.2.1.j_ i (W J (c+1)) else U (bh.mk d,bp.mk e f,g,0)
def rG (p0:aU)(p1:bh)(p2:cl)(p3:bp):Option (bh×bp×(List dt)×Int) :=
 Q (qX p0 p1) fun a=>Q (if !a then U y else Q (se p0.w_ p2) fun a=>U (!a)) fun a=>Q (if a||D (p2.W_<0) then U y else Q (qb p3) fun a=>U (!a)) fun a=>if a then Q (sK p1) fun a=>Q (cX p3) fun c=>U (a,c,[],1) else Q (cX p3) fun a=>gk p1 p0 p2 p3 aY [] a.v_ a.j_ [] 0
def iI (p2:Int)(p0b:List Int)(p1:aU)(h:Int×aK):Nat→Int→Int→Int→List av→Option (bh×aK)
 | 0,_,_,_,_=>N
 | i+1,d,e,a,f =>
  if D (a<p2) then Q (tf p0b (aK.mk d e) p1 a h.1) fun g=>Q (qT p0b g.2 80) fun c=>Q (rG p1 (bh.mk f) g.1 (bp.mk c.1 0)) fun g=>iI p2 p0b p1 h i c.2.i_ c.2.h_ (W J (a+1)) g.1.t_ else U (bh.mk f,aK.mk d e)
def ue (p0b:List Int)(p0:aK)(p1:aU)(p2:Int):Option (bh×aK) :=
 Q (qT p0b p0 8) fun a=>Q (tt p1 (bp.mk a.1 0)) fun c=>Q (cV p0b a.2 (W J (p2+1))) fun a=>iI p2 p0b p1 a aY a.2.i_ a.2.h_ 0 c.1.t_
def iM (p0:Int):Nat→List (List Int)→Int→Option aT
 | 0,_,_=>N
 | e+1,a,c =>
  if D (c<p0) then Q (mk (0:Int) p0) fun d=>Q (app a [d]) fun d=>iM p0 e d (W J (c+1)) else U (aT.mk a [])
def tV (p0:Int):Option aT :=
 Q (aM p0 2 3) fun a=>if !a then U (aT.mk [] []) else iM p0 aY [] 0
def jt (p0:aT)(c:List aC):Nat→List (List Int)→Int→Option aT
 | 0,_,_=>N
 | f+1,d,a =>
  if D (a<(p0.r_.length:Int)) then Q (idx p0.r_ a) fun e=>Q (app [] e) fun e=>Q (app d [e]) fun e=>jt p0 c f e (W J (a+1)) else U (aT.mk d c)
def vv (p0:aT):Option aT :=
 Q (app [] p0.s_) fun a=>jt p0 a aY [] 0
def fN (p0:List aC)(p1 p2:Int):Nat→Int→Int→Option Int
 | 0,_,_=>N
 | d+1,c,a =>
  if D (a<(p0.length:Int)) then Q (idx p0 a) fun e=>Q (if e.aa_==p1 then Q (idx p0 a) fun e=>U (e.Y_==p2) else U n) fun e=>if e then fN p0 p1 p2 d (W J (c+1)) (W J (a+1)) else fN p0 p1 p2 d c (W J (a+1)) else U c
def uh (p0:List aC)(p1 p2:Int):Option Int :=
 fN p0 p1 p2 aY 0 0
def CA (p0 p1:Int):Option Int :=
 if D (p0<p1) then U p0 else U p1
def gy (p0:Int)(p1:aT)(a:Int)(g:Int→Int→Option Bool):Nat→Int→Int→Option Bool
 | 0,_,_=>N
 | h+1,d,c =>
  if D (c<p0) then Q (idx p1.r_ a) fun e=>Q (idx e c) fun e=>Q (aM e 0 9999) fun e=>Q (if !e then U y else Q (uh p1.s_ a c) fun e=>Q (idx p1.r_ a) fun f=>Q (idx f c) fun f=>U (D (e>f))) fun e=>if e then U n else Q (idx p1.r_ a) fun e=>Q (idx e c) fun e=>gy p0 p1 a g h (W J (d+e)) (W J (c+1)) else g d (W J (a+1))
def fJ (p1:aT)(p0:Int):Nat→Int→Option Bool
 | 0,_=>N
 | d+1,a =>
  if D (a<(p1.s_.length:Int)) then Q (idx p1.s_ a) fun c=>Q (aM c.aa_ 0 (W J (p0-1))) fun c=>Q (if !c then U y else Q (idx p1.s_ a) fun c=>Q (aM c.Y_ 0 (W J (p0-1))) fun c=>U (!c)) fun c=>if c then U n else fJ p1 p0 d (W J (a+1)) else U y
def eF (p0:Int)(p1:aT):Nat→Int→Int→Option Bool
 | 0,_,_=>N
 | e+1,a,c =>
  if D (c<p0) then Q (idx p1.r_ c) fun d=>if ((d.length:Int) != p0) then U n else gy p0 p1 c (eF p0 p1 e) aY a 0 else Q (if D (a>9999) then U y else Q (CA a 20) fun a=>U ((p1.s_.length:Int) != a)) fun a=>if a then U n else fJ p1 p0 aY 0
def qn (p0:Int)(p1:aT):Option Bool :=
 Q (aM p0 2 3) fun a=>if ((!a)||((p1.r_.length:Int) != p0)) then U n else eF p0 p1 aY 0 0
def ln (p0:Int)(p1:aT):Nat→Int→Int→Option Int
 | 0,_,_=>N
 | e+1,c,a =>
  if D (a<p0) then Q (idx p1.r_ a) fun d=>Q (oe d) fun d=>ln p0 p1 e (W J (c+d)) (W J (a+1)) else U c
def zp (p0:Int)(p1:aT):Option Int :=
 Q (qn p0 p1) fun a=>if !a then U 0 else ln p0 p1 aY 0 0
def uk (p0:Int)(p1:aT)(p2 p3:Int):Option (aT×Bool) :=
 Q (vv p1) fun a=>Q (qn p0 p1) fun c=>Q (if !c then U y else Q (aM p2 0 (W J (p0-1))) fun c=>U (!c)) fun c=>Q (if c then U y else Q (aM p3 0 (W J (p0-1))) fun c=>U (!c)) fun c=>Q (if c then U y else Q (zp p0 p1) fun c=>U (c==9999)) fun c=>if c then U (a,n) else Q (idx a.r_ p2) fun c=>Q (idx c p3) fun e=>Q (idx c p3) fun _=>Q (app a.s_ [aC.mk p2 p3]) fun d=>if D ((d.length:Int)>20) then Q (sub d 1 (d.length:Int)) fun f=>Q (app [] f) fun f=>U (aT.mk (a.r_.set p2.toNat (c.set p3.toNat (W J (e+1)))) f,y) else U (aT.mk (a.r_.set p2.toNat (c.set p3.toNat (W J (e+1)))) d,y)
def iD (c:aT)(d:List Int)(a:Int×aK):Nat→List aC→Int→Option (aT×aK)
 | 0,_,_=>N
 | h+1,e,f =>
  if D (f<20) then Q (app e [aC.mk 0 0]) fun g=>iD c d a h g (W J (f+1)) else U (aT.mk (c.r_.set (0:Int).toNat (d.set (0:Int).toNat (W J (9999-a.1)))) e,a.2)
def iG (i:Int×aK)(p0b:List Int)(p1:Int):Nat→Int→Int→List (List Int)→List aC→Int→Option (aT×aK)
 | 0,_,_,_,_,_=>N
 | j+1,c,d,e,f,g =>
  if D (g<i.1) then Q (cV p0b (aK.mk c d) p1) fun h=>Q (cV p0b h.2 p1) fun a=>Q (uk p1 (aT.mk e f) h.1 a.1) fun h=>iG i p0b p1 j a.2.i_ a.2.h_ h.1.r_ h.1.s_ (W J (g+1)) else U (aT.mk e f,aK.mk c d)
def ua (p0b:List Int)(p0:aK)(p1:Int):Option (aT×aK) :=
 Q (tV p1) fun a=>Q (kD p0b p0 6) fun c=>if c.1 then Q (idx a.r_ 0) fun d=>Q (cV p0b c.2 2) fun e=>Q (idx d 0) fun _=>iD a d e aY a.s_ 0 else Q (eh p0b c.2 [0,1,5,20,30]) fun c=>iG c p0b p1 aY c.2.i_ c.2.h_ a.r_ a.s_ 0
def tZ (p0b:List Int)(p0:aK):Option (az×aK) :=
 Q (vW p0b p0) fun a=>Q (eh p0b a.2 [0,4,16,30]) fun c=>Q (ue p0b c.2 a.1 c.1) fun c=>Q (ua p0b c.2 (a.1.w_.f_.length:Int)) fun d=>U (az.mk a.1 c.1 d.1,d.2)
def qF (p0:az):Option Bool :=
 Q (qX p0.d_ p0.Z_) fun a=>Q (if a then Q (qn (p0.d_.w_.f_.length:Int) p0.I_) fun a=>U a else U n) fun a=>U a
def nE (p0:List (List UInt8))(a:Int)(e:(List UInt8)→Int→Option (List UInt8))(c:List UInt8):Option (List UInt8) :=
 Q (idx p0 a) fun d=>Q (rh c d) fun c=>e c (W J (a+1))
def fD (p0:List (List UInt8))(p1:List UInt8):Nat→List UInt8→Int→Option (List UInt8)
 | 0,_,_=>N
 | d+1,c,a =>
  if D (a<(p0.length:Int)) then if D (a>0) then Q (rh c p1) fun e=>nE p0 a (fD p0 p1 d) e else nE p0 a (fD p0 p1 d) c else U c
def lk (p0:List (List UInt8))(p1:List UInt8):Option (List UInt8) :=
 fD p0 p1 aY [] 0
def lR (a:List UInt8)(e:Int→List UInt8→Option (List UInt8))(c d:Int):Option (List UInt8) :=
 Q (rh (eU [W K (W J (48+d))]) a) fun a=>e (W J (Int.tdiv c 10)) a
def fB (p0:Int):Nat→Int→List UInt8→Option (List UInt8)
 | 0,_,_=>N
 | d+1,a,c =>
  if a != 0 then if D (Int.tmod a 10<0) then lR c (fB p0 d) a (W J (0-Int.tmod a 10)) else lR c (fB p0 d) a (Int.tmod a 10) else if D (p0<0) then Q (rh [45] c) fun a=>U a else U c
def uU (p0:Int):Option (List UInt8) :=
 if p0==0 then U ([48]:List UInt8) else fB p0 aY p0 []
def iy (p0:aD):Nat→List (List UInt8)→Int→Option (List UInt8)
 | 0,_,_=>N
 | e+1,c,a =>
  if D (a<(p0.z_.length:Int)) then Q (idx p0.z_ a) fun d=>Q (uU d) fun d=>Q (app c [d]) fun d=>iy p0 e d (W J (a+1)) else Q (rh p0.E_ [58]) fun a=>Q (lk c [44]) fun c=>Q (rh a c) fun a=>U a
def nc (p0:aD):Option (List UInt8) :=
 Q (ol p0) fun a=>if !a then U ([]:List UInt8) else if D ((p0.M_.length:Int)>0) then Q (rh p0.E_ [61]) fun a=>Q (lk p0.M_ [44]) fun c=>Q (rh a c) fun a=>U a else iy p0 aY [] 0
def go (p0:ae):Nat→List (List UInt8)→Int→Option (List UInt8)
 | 0,_,_=>N
 | e+1,c,a =>
  if D (a<(p0.c_.length:Int)) then Q (idx p0.c_ a) fun d=>Q (nc d) fun d=>Q (app c [d]) fun d=>go p0 e d (W J (a+1)) else Q (lk c [59]) fun a=>Q (rh a [124]) fun a=>Q (lk p0.f_ [44]) fun c=>Q (rh a c) fun a=>U a
def ry (p0:ae):Option (List UInt8) :=
 Q (eR p0) fun a=>if !a then U ([]:List UInt8) else go p0 aY [] 0
def nx  : Nat→Int→List Int→Option (List Int)
 | 0,_,_=>N
 | e+1,a,c =>
  if D (a>127) then Q (app c [W K (W J (Int.tmod a 128+128))]) fun d=>nx e (W J (Int.tdiv a 128)) d else Q (app c [W K a]) fun a=>U a
def rV (p0:Int):Option (List Int) :=
 Q (aM p0 0 2147483647) fun a=>if !a then U ([]:List Int) else nx aY p0 []
def vH (p0:List UInt8):Option (List Int) :=
 Q (rV (p0.length:Int)) fun a=>Q (Cw p0) fun c=>Q (app a c) fun a=>U a
def dS (p0:Int):Option (List Int) :=
 Q (aM p0 (-1000000000) 1000000000) fun a=>if !a then U ([]:List Int) else if D (p0<0) then Q (rV (W J (W J (0-W J (2*p0))-1))) fun a=>U a else Q (rV (W J (2*p0))) fun a=>U a
def rr (p0:List Int):Nat→Int→Option Bool
 | 0,_=>N
 | d+1,a =>
  if D (a<(p0.length:Int)) then Q (idx p0 a) fun c=>Q (aM c (-1000000000) 1000000000) fun c=>if !c then U n else rr p0 d (W J (a+1)) else U y
def ib (p0:List Int):Option Bool :=
 rr p0 aY 0
def kR (p0:au):Nat→Int→Option Bool
 | 0,_=>N
 | d+1,a =>
  if D (a<(p0.m_.g_.length:Int)) then Q (idx p0.m_.g_ a) fun c=>Q (ib c) fun c=>if !c then U n else kR p0 d (W J (a+1)) else U y
def qL (p0:au):Option Bool :=
 Q (ib [p0.n_.q_,p0.n_.j_,p0.K_,p0.J_,p0.o_,p0.H_,p0.F_]) fun a=>Q (if !a then U y else Q (ib p0.A_) fun a=>U (!a)) fun a=>Q (if a then U y else Q (ib p0.c_) fun a=>U (!a)) fun a=>Q (if a then U y else Q (ib p0.m_.l_) fun a=>U (!a)) fun a=>if a then U n else kR p0 aY 0
def oH (p0:List Int):Nat→List Int→Int→Option (List Int)
 | 0,_,_=>N
 | e+1,c,a =>
  if D (a<(p0.length:Int)) then Q (idx p0 a) fun d=>Q (dS d) fun d=>Q (app c d) fun d=>oH p0 e d (W J (a+1)) else U c
def lb (p0:List Int):Option (List Int) :=
 Q (ib p0) fun a=>if !a then U ([]:List Int) else Q (dS (p0.length:Int)) fun a=>oH p0 aY a 0
def np (p0:List (List Int)):Nat→List Int→Int→Option (List Int)
 | 0,_,_=>N
 | e+1,c,a =>
  if D (a<(p0.length:Int)) then Q (idx p0 a) fun d=>Q (lb d) fun d=>Q (app c d) fun d=>np p0 e d (W J (a+1)) else U c
def lG (p0:List (List Int)):Option (List Int) :=
 Q (dS (p0.length:Int)) fun a=>np p0 aY a 0
def ro (p0:au):Option (List Int) :=
 Q (lN p0.D_) fun a=>Q (dS a) fun a=>Q (dS p0.n_.q_) fun c=>Q (app a c) fun a=>Q (dS p0.n_.j_) fun c=>Q (app a c) fun a=>Q (lb p0.A_) fun c=>Q (app a c) fun a=>Q (dS p0.K_) fun c=>Q (app a c) fun a=>Q (lb p0.m_.l_) fun c=>Q (app a c) fun c=>Q (lG p0.m_.g_) fun a=>Q (app c a) fun a=>Q (dS p0.J_) fun c=>Q (app a c) fun a=>Q (lb p0.c_) fun c=>Q (app a c) fun a=>Q (dS p0.o_) fun c=>Q (app a c) fun a=>Q (dS p0.H_) fun c=>Q (app a c) fun a=>Q (dS p0.F_) fun c=>Q (app a c) fun a=>U a
def rp (p0:am):Nat→List Int→Int→Option (List Int)
 | 0,_,_=>N
 | e+1,c,a =>
  if D (a<(p0.b_.length:Int)) then Q (idx p0.b_ a) fun d=>Q (qL d) fun d=>if !d then U ([]:List Int) else Q (idx p0.b_ a) fun d=>Q (ro d) fun d=>Q (app c d) fun d=>rp p0 e d (W J (a+1)) else U c
def qw (p0:am):Option (List Int) :=
 Q (ib [p0.p_]) fun a=>if !a then U ([]:List Int) else Q (dS p0.p_) fun a=>Q (dS (p0.b_.length:Int)) fun c=>Q (app a c) fun a=>rp p0 aY a 0
def pw (p0:aw):Nat→Int→Option (List Int)
 | 0,_=>N
 | d+1,a =>
  if D (a<(p0.k_.length:Int)) then Q (idx p0.k_ a) fun c=>Q (ib c) fun c=>if !c then U ([]:List Int) else pw p0 d (W J (a+1)) else Q (lG p0.k_) fun a=>U a
def nG (p0:aw):Option (List Int) :=
 pw p0 aY 0
def pJ (e:Int→Int→Option Int)(c:Int):Nat→Int→Int→Option Int
 | 0,_,_=>N
 | f+1,a,d =>
  if D (d<8) then if Int.tmod a 2==1 then pJ e c f (eW .xor J (W J (Int.tdiv a 2)) 3988292384) (W J (d+1)) else pJ e c f (W J (Int.tdiv a 2)) (W J (d+1)) else e a (W J (c+1))
def om (p0:List Int):Nat→Int→Int→Option Int
 | 0,_,_=>N
 | e+1,c,a =>
  if D (a<(p0.length:Int)) then Q (idx p0 a) fun d=>pJ (om p0 e) a aY (eW .xor J c (W J d)) 0 else U (eW .xor J c 4294967295)
def HK (p0:List Int):Option Int :=
 om p0 aY 4294967295 0
def gc (p0:List Int):Option (List Int) :=
 Q (HK p0) fun a=>U ([W K (W J (Int.tdiv a 16777216)),W K (Int.tmod (W J (Int.tdiv a 65536)) 256),W K (Int.tmod (W J (Int.tdiv a 256)) 256),W K (Int.tmod a 256)]:List Int)
def jM (p0:az):Nat→Int→List Int→Option (List Int)
 | 0,_,_=>N
 | f+1,a,c =>
  if D (a<(p0.I_.s_.length:Int)) then Q (idx p0.I_.s_ a) fun d=>Q (dS d.aa_) fun d=>Q (app c d) fun d=>Q (idx p0.I_.s_ a) fun e=>Q (dS e.Y_) fun e=>Q (app d e) fun d=>jM p0 f (W J (a+1)) d else Q (gc c) fun a=>Q (app c a) fun a=>U a
def iv (p0:az):Nat→List Int→Int→Option (List Int)
 | 0,_,_=>N
 | e+1,c,a =>
  if D (a<(p0.I_.r_.length:Int)) then Q (idx p0.I_.r_ a) fun d=>Q (lb d) fun d=>Q (app c d) fun d=>iv p0 e d (W J (a+1)) else Q (dS (p0.I_.s_.length:Int)) fun a=>Q (app c a) fun a=>jM p0 aY 0 a
def iq (p0:az):Nat→List Int→Int→Option (List Int)
 | 0,_,_=>N
 | g+1,d,c =>
  if D (c<(p0.Z_.t_.length:Int)) then Q (idx p0.Z_.t_ c) fun a=>Q (qw a.C_) fun e=>Q (app d e) fun e=>Q (lN a.R_) fun f=>Q (dS f) fun f=>Q (app e f) fun e=>Q (qw a.u_) fun f=>Q (app e f) fun e=>Q (nG a.G_.x_) fun f=>Q (app e f) fun e=>Q (nG a.G_.y_) fun a=>Q (app e a) fun a=>iq p0 g a (W J (c+1)) else iv p0 aY d 0
def oE (p0:az)(a:Int):Nat→List Int→Int→Option (List Int)
 | 0,_,_=>N
 | f+1,d,c =>
  if D (c<(([p0.d_.e_.T_,p0.d_.e_.S_,p0.d_.e_.U_,p0.d_.e_.o_,p0.d_.e_.b_,p0.d_.e_.L_,a,p0.d_.t_,p0.d_.V_,p0.d_.X_,p0.d_.x_,p0.d_.y_]:List Int).length:Int)) then Q (idx ([p0.d_.e_.T_,p0.d_.e_.S_,p0.d_.e_.U_,p0.d_.e_.o_,p0.d_.e_.b_,p0.d_.e_.L_,a,p0.d_.t_,p0.d_.V_,p0.d_.X_,p0.d_.x_,p0.d_.y_]:List Int) c) fun e=>Q (dS e) fun e=>Q (app d e) fun e=>oE p0 a f e (W J (c+1)) else iq p0 aY d 0
def fb (p0:az):Option (List Int) :=
 Q (qF p0) fun a=>if !a then U ([]:List Int) else Q (ry p0.d_.w_) fun a=>Q (vH a) fun a=>Q (app [83,80,78,1] a) fun a=>Q (lN p0.d_.e_.P_) fun c=>oE p0 c aY a 0
def ul (p0b:List Int)(p0:aK)(p1:List Int):Option ((List Int)×aK) :=
 if D ((p1.length:Int)<8) then U (p1,p0) else Q (cV p0b p0 6) fun a=>if a.1==0 then Q (cV p0b a.2 (p1.length:Int)) fun c=>Q (idx p1 c.1) fun e=>Q (cV p0b c.2 8) fun d=>Q (ll d.1) fun f=>Q (idx p1 c.1) fun _=>U (p1.set c.1.toNat (eW .xor K e (W K f)),d.2) else if a.1==1 then Q (cV p0b a.2 (p1.length:Int)) fun c=>Q (sub p1 0 c.1) fun d=>U (d,c.2) else if a.1==2 then Q (cV p0b a.2 (W J ((p1.length:Int)-7))) fun c=>Q (idx p1 (W J (3+c.1))) fun d=>Q (cV p0b c.2 8) fun e=>Q (ll e.1) fun f=>Q (idx p1 (W J (3+c.1))) fun _=>Q (sub (p1.set (W J (3+c.1)).toNat (eW .xor K d (W K f))) 0 (W J ((p1.length:Int)-4))) fun g=>Q (sub (p1.set (W J (3+c.1)).toNat (eW .xor K d (W K f))) 0 (W J ((p1.length:Int)-4))) fun c=>Q (app [] g) fun d=>Q (gc c) fun c=>Q (app d c) fun c=>U (c,e.2) else if a.1==3 then Q (sub p1 0 (W J ((p1.length:Int)-4))) fun c=>Q (app [] c) fun c=>Q (app c [0]) fun c=>Q (gc c) fun d=>Q (app c d) fun c=>U (c,a.2) else if a.1==4 then Q (cV p0b a.2 4) fun c=>Q (lu p0b c.2) fun d=>Q (idx p1 c.1) fun _=>U (p1.set c.1.toNat (W K d.1),d.2) else U (p1,a.2)
def qJ (p0:List Int):Option (List Int) :=
 Q (zj p0) fun a=>Q (tZ p0 a) fun a=>Q (fb a.1) fun c=>Q (kD p0 a.2 3) fun a=>if a.1 then U c else Q (ul p0 a.2 c) fun a=>U a.1
def pL (e:Int→Int→Option Int)(c:Int):Nat→Int→Int→Option Int
 | 0,_,_=>N
 | f+1,d,a =>
  if D (d<8) then if eW .and J a 1==1 then pL e c f (W J (d+1)) (eW .xor J (vg J a 1) 3988292384) else pL e c f (W J (d+1)) (vg J a 1) else e a (W J (c+1))
def ot (p0:List Int):Nat→Int→Int→Option Int
 | 0,_,_=>N
 | e+1,c,a =>
  if D (a<(p0.length:Int)) then Q (idx p0 a) fun d=>pL (ot p0 e) a aY 0 (eW .xor J c (W J d)) else U (eW .xor J c 4294967295)
def HJ (p0:List Int):Option Int :=
 ot p0 aY 4294967295 0
def iX (p0:List Int):Option (List Int) :=
 Q (HJ p0) fun a=>U ([W K (vg J a 24),W K (vg J a 16),W K (vg J a 8),W K a]:List Int)
def kP (p0 p1:List Int):Option Bool :=
 U (eU p0==eU p1)
def nW (p1:Int)(p0:List Int):Nat→Int→Int→Option (Int×Int×Bool)
 | 0,_,_=>N
 | f+1,c,a =>
  if ((D (a<5)&&D (W J (p1+a)≥0))&&D (W J (p1+a)<(p0.length:Int))) then Q (idx p0 (W J (p1+a))) fun d=>Q (shl J (eW .and J (W J d) 127) (W J (7*a))) fun e=>if D (W J d≥128) then nW p1 p0 f (eW .or J c e) (W J (a+1)) else if ((W J d==0)&&D (a>0))||D (eW .or J c e>2147483647) then U (0,0,n) else U (eW .or J c e,W J (W J (p1+a)+1),y) else U (0,0,n)
def uz (p0:List Int)(p1:Int):Option (Int×Int×Bool) :=
 if D (p1<0) then U (0,0,n) else nW p1 p0 aY 0 0
def sB (p0:List Int)(p1:Int):Option ((List UInt8)×Int×Bool) :=
 Q (uz p0 p1) fun a=>if ((!a.2.2)||D (a.1>W J ((p0.length:Int)-a.2.1))) then U (([]:List UInt8),0,n) else Q (sub p0 a.2.1 (W J (a.2.1+a.1))) fun c=>U (eU c,W J (a.2.1+a.1),y)
def mZ (p0:List UInt8)(p1:Int):Nat→List (List UInt8)→Int→Int→Option (List (List UInt8))
 | 0,_,_,_=>N
 | e+1,c,d,a =>
  if D (a<(p0.length:Int)) then Q (idx p0 a) fun f=>if ((f.toNat:Int)==p1) then Q (sub p0 d a) fun f=>Q (app c [f]) fun f=>mZ p0 p1 e f (W J (a+1)) (W J (a+1)) else mZ p0 p1 e c d (W J (a+1)) else Q (sub p0 d (p0.length:Int)) fun a=>Q (app c [a]) fun a=>U a
def tJ (p0:List UInt8)(p1:Int):Option (List (List UInt8)) :=
 mZ p0 p1 aY [] 0 0
def bc (p0 p1 p2:Int):Option Bool :=
 U (D (p0≥p1)&&D (p0≤p2))
def uG (p0:Int):Option (List UInt8) :=
 Q (PI p0) fun a=>U a
def we (p0:List UInt8)(p1 p2:Int):Option (Int×Bool) :=
 Q (JE p0) fun a=>Q (if !a.2 then U y else Q (bc a.1 p1 p2) fun c=>U (!c)) fun u17=>Q (if u17 then U y else Q (uG a.1) fun c=>U (!(c==p0))) fun u22=>if u22 then U (0,n) else U (a.1,y)
def pI (p0:List UInt8):Option (Int×Bool) :=
 Q (we p0 (-9999) 9999) fun a=>U (a.1,a.2)
def qg (p0:List UInt8):Nat→Int→Option Bool
 | 0,_=>N
 | d+1,a =>
  if D (a<(p0.length:Int)) then Q (idx p0 a) fun c=>Q (if D ((c.toNat:Int)<97) then U y else Q (idx p0 a) fun c=>U (D ((c.toNat:Int)>122))) fun c=>if c then U n else qg p0 d (W J (a+1)) else U y
def uJ (p0:List UInt8):Option Bool :=
 Q (bc (p0.length:Int) 1 8) fun a=>if !a then U n else qg p0 aY 0
def dV (p0:List (List UInt8))(p1:List UInt8):Nat→Int→Option Int
 | 0,_=>N
 | d+1,a =>
  if D (a<(p0.length:Int)) then Q (idx p0 a) fun c=>if p1==c then U a else dV p0 p1 d (W J (a+1)) else U (-1)
def iW (p0:List (List UInt8))(p1:List UInt8):Option Int :=
 dV p0 p1 aY 0
def gN (p0:List (List UInt8))(p1:List UInt8):Option Bool :=
 Q (iW p0 p1) fun a=>U (D (a≥0))
def jJ (p0:List (List UInt8)):Nat→Int→Option Bool
 | 0,_=>N
 | e+1,a =>
  if D (a<(p0.length:Int)) then Q (idx p0 a) fun c=>Q (uJ c) fun d=>Q (if !d then U y else Q (sub p0 0 a) fun d=>Q (gN d c) fun c=>U c) fun c=>if c then U n else jJ p0 e (W J (a+1)) else U y
def ir (p0:List (List UInt8)):Option Bool :=
 jJ p0 aY 0
def ji (p0:List Int):Nat→Int→Option Bool
 | 0,_=>N
 | e+1,a =>
  if D (a<(p0.length:Int)) then Q (idx p0 a) fun c=>Q (idx p0 (W J (a-1))) fun d=>if D (c≤d) then U n else ji p0 e (W J (a+1)) else U y
def ku (p0:List Int):Option Bool :=
 ji p0 aY 1
def CH (p0:Int):Option Bool :=
 Q (bc p0 (-9999) 9998) fun a=>U a
def xS (p0:Int):Option Bool :=
 Q (CH p0) fun a=>U (!a)
def cM (p0:List Int):Nat→Int→Option Int
 | 0,_=>N
 | d+1,a =>
  if D (a<(p0.length:Int)) then Q (idx p0 a) fun c=>Q (xS c) fun c=>if c then U a else cM p0 d (W J (a+1)) else U (-1)
def eS (p0:List Int):Option Int :=
 cM p0 aY 0
def er (p0:List Int):Option Bool :=
 Q (eS p0) fun a=>U (D (a≥0))
def xK (p0:List Int):Option Bool :=
 Q (bc (p0.length:Int) 1 3) fun a=>Q (if a then Q (ku p0) fun a=>U a else U n) fun u12=>Q (if u12 then Q (er p0) fun a=>U (!a) else U n) fun u17=>U u17
def og (p0:aD):Option Bool :=
 Q (uJ p0.E_) fun a=>if !a then U n else if ((p0.z_.length:Int)==0) then Q (bc (p0.M_.length:Int) 2 4) fun a=>Q (if a then Q (ir p0.M_) fun a=>U a else U n) fun u21=>U u21 else Q (if ((p0.M_.length:Int)==0) then Q (xK p0.z_) fun a=>U a else U n) fun a=>U a
def fV (p0:List Int)(p1:List UInt8):Nat→Int→List (List UInt8)→Option (List UInt8)
 | 0,_,_=>N
 | e+1,a,c =>
  if D (a<(p0.length:Int)) then Q (idx p0 a) fun d=>Q (uG d) fun d=>Q (app c [d]) fun d=>fV p0 p1 e (W J (a+1)) d else Q (AG c p1) fun a=>U a
def qC (p0:List Int)(p1:List UInt8):Option (List UInt8) :=
 fV p0 p1 aY 0 []
def mV (p0:aD):Option (List UInt8) :=
 Q (og p0) fun a=>if !a then U ([]:List UInt8) else if D ((p0.z_.length:Int)>0) then Q (rh p0.E_ [58]) fun a=>Q (qC p0.z_ [44]) fun c=>Q (rh a c) fun a=>U a else Q (rh p0.E_ [61]) fun a=>Q (AG p0.M_ [44]) fun c=>Q (rh a c) fun a=>U a
def jc (p0 a:List UInt8)(c:List Int)(d:List (List UInt8)):Option (aD×Bool) :=
 Q (og (aD.mk a c d)) fun e=>Q (if !e then U y else Q (mV (aD.mk a c d)) fun e=>U (!(e==p0))) fun e=>if e then U (aD.mk [] [] [],n) else U (aD.mk a c d,y)
def el (a:List (List UInt8))(p0:List UInt8)(d:List UInt8×List UInt8×Bool):Nat→Int→List Int→Option (aD×Bool)
 | 0,_,_=>N
 | g+1,c,e =>
  if D (c<(a.length:Int)) then Q (idx a c) fun f=>Q (pI f) fun f=>if !f.2 then U (aD.mk [] [] [],n) else Q (app e [f.1]) fun f=>el a p0 d g (W J (c+1)) f else jc p0 d.1 e []
def pR (p0:List UInt8):Option (aD×Bool) :=
 Q (PR p0 [61]) fun a=>if a.2.2 then Q (tJ a.2.1 44) fun c=>jc p0 a.1 [] c else Q (PR p0 [58]) fun a=>if a.2.2 then Q (tJ a.2.1 44) fun c=>el c p0 a aY 0 [] else jc p0 [] [] []
def iz (p0:ae):Nat→Int→List (List UInt8)→Option Bool
 | 0,_,_=>N
 | f+1,a,c =>
  if D (a<(p0.c_.length:Int)) then Q (idx p0.c_ a) fun d=>Q (og d) fun e=>if !e then U n else Q (app c [d.E_]) fun d=>iz p0 f (W J (a+1)) d else Q (ir c) fun a=>U a
def fj (p0:ae):Option Bool :=
 Q (bc (p0.c_.length:Int) 1 5) fun a=>Q (if !a then U y else Q (bc (p0.f_.length:Int) 2 3) fun a=>U (!a)) fun u19=>Q (if u19 then U y else Q (ir p0.f_) fun a=>U (!a)) fun a=>if a then U n else iz p0 aY 0 []
def dP (a c:List (List UInt8)):Nat→Int→List aD→Option (ae×Bool)
 | 0,_,_=>N
 | g+1,d,e =>
  if D (d<(a.length:Int)) then Q (idx a d) fun f=>Q (pR f) fun f=>if !f.2 then U (ae.mk [] [],n) else Q (app e [f.1]) fun f=>dP a c g (W J (d+1)) f else Q (fj (ae.mk e c)) fun a=>if !a then U (ae.mk [] [],n) else U (ae.mk e c,y)
def na (p0:List UInt8):Option (ae×Bool) :=
 Q (PR p0 [124]) fun a=>if !a.2.2 then U (ae.mk [] [],n) else Q (tJ a.2.1 44) fun c=>Q (tJ a.1 59) fun a=>dP a c aY 0 []
def nS (a:Int×Int×Bool)(c:Int):Option (Int×Int×Bool) :=
 Q (if !a.2.2 then U y else Q (bc c (-1000000000) 1000000000) fun d=>U (!d)) fun u13=>if u13 then U (0,0,n) else U (c,a.2.1,y)
def rU (p0:List Int)(p1:Int):Option (Int×Int×Bool) :=
 Q (uz p0 p1) fun a=>if Int.tmod a.1 2==1 then nS a (W J (W J (0-W J (Int.tdiv a.1 2))-1)) else nS a (W J (Int.tdiv a.1 2))
def aS (p0b:List Int)(p0:ao):Option (Int×ao) :=
 if p0.N_ then U (0,p0) else Q (rU p0b p0.a_) fun a=>if !a.2.2 then U (0,ao.mk p0.a_ y) else U (a.1,ao.mk a.2.1 p0.N_)
def gH (p0b:List Int)(p0:ao):Option (Bool×ao) :=
 Q (aS p0b p0) fun a=>U ((a.1==1),ao.mk a.2.a_ (a.2.N_||((a.1 != 0)&&(a.1 != 1))))
def uE (p0:bA):Option Bool :=
 Q (bc p0.T_ 1 9) fun a=>Q (if a then Q (bc p0.S_ 0 999) fun a=>U a else U n) fun u13=>Q (if u13 then Q (bc p0.U_ 1 200) fun a=>U a else U n) fun u18=>Q (if u18 then Q (bc p0.o_ 0 6) fun a=>U a else U n) fun a=>Q (if a then Q (bc p0.b_ 1 31) fun a=>U a else U n) fun a=>Q (if a then Q (bc p0.L_ 62 2000) fun a=>U a else U n) fun a=>U a
def rE (p0:Int):Option ((List Int)×Bool) :=
 if p0==1 then U (([24109,48218,60273,64291,65296,65497,65530]:List Int),n) else if p0==6 then U (([162,1137,4061,9909,18681,29208,39734]:List Int),n) else U (([]:List Int),y)
def qk (p0:aU):Option Bool :=
 Q (fj p0.w_) fun a=>Q (if a then Q (uE p0.e_) fun a=>U a else U n) fun u19=>Q (if u19 then Q (bc p0.t_ 1 4) fun a=>U a else U n) fun a=>Q (if a then Q (bc p0.V_ 1 (p0.w_.c_.length:Int)) fun a=>U a else U n) fun a=>Q (if a then Q (rE p0.X_) fun a=>U (!a.2) else U n) fun a=>Q (if a then Q (bc p0.x_ 1 9) fun a=>U a else U n) fun a=>Q (if a then Q (bc p0.y_ 1 9) fun a=>U a else U n) fun a=>U (a&&D (p0.x_≤p0.y_))
def cW (p0b:List Int)(p0:ao):Option (Int×ao) :=
 Q (aS p0b p0) fun a=>if (D (a.1<0)||D (a.1>W J ((p0b.length:Int)-a.2.a_))) then U (0,ao.mk a.2.a_ y) else U (a.1,a.2)
def nu (p0b:List Int):Nat→Int→Bool→List Int→Int→Option ((List Int)×ao)
 | 0,_,_,_,_=>N
 | h+1,d,a,e,f =>
  if D (f>0)&&(!a) then Q (aS p0b (ao.mk d a)) fun c=>Q (app e [c.1]) fun g=>nu p0b h c.2.a_ c.2.N_ g (W J (f-1)) else U (e,ao.mk d a)
def dN (p0b:List Int)(p0:ao):Option ((List Int)×ao) :=
 Q (cW p0b p0) fun a=>nu p0b aY a.2.a_ a.2.N_ [] a.1
def kV (p0b:List Int)(d:List au)(e:Bool×ao)(f g:Int×ao)(h:(List Int)×ao)(i:Int×ao)(j:(List Int)×ao)(q:Int→Bool→List au→Int→Option (am×ao))(k:Int):Nat→Int→Bool→List (List Int)→Int→Option (am×ao)
 | 0,_,_,_,_=>N
 | r+1,l,a,m,o =>
  if D (o>0)&&(!a) then Q (dN p0b (ao.mk l a)) fun c=>Q (app m [c.1]) fun p=>kV p0b d e f g h i j q k r c.2.a_ c.2.N_ p (W J (o-1)) else Q (aS p0b (ao.mk l a)) fun c=>Q (dN p0b c.2) fun l=>Q (aS p0b l.2) fun o=>Q (aS p0b o.2) fun p=>Q (aS p0b p.2) fun a=>Q (app d [au.mk e.1 (aI.mk f.1 g.1) h.1 i.1 (aE.mk j.1 m) c.1 l.1 o.1 p.1 a.1]) fun c=>q a.2.a_ a.2.N_ c (W J (k-1))
def eY (p0b:List Int)(m:Int×ao):Nat→Int→Bool→List au→Int→Option (am×ao)
 | 0,_,_,_,_=>N
 | o+1,d,a,e,f =>
  if D (f>0)&&(!a) then Q (gH p0b (ao.mk d a)) fun g=>Q (aS p0b g.2) fun h=>Q (aS p0b h.2) fun i=>Q (dN p0b i.2) fun j=>Q (aS p0b j.2) fun k=>Q (dN p0b k.2) fun l=>Q (cW p0b l.2) fun c=>kV p0b e g h i j k l (eY p0b m o) f aY c.2.a_ c.2.N_ [] c.1 else U (am.mk e m.1,ao.mk d a)
def ix (p0b:List Int)(p0:ao):Option (am×ao) :=
 Q (aS p0b p0) fun c=>Q (cW p0b c.2) fun a=>eY p0b c aY a.2.a_ a.2.N_ [] a.1
def gY (p0b:List Int):Nat→Int→Bool→List (List Int)→Int→Option (aw×ao)
 | 0,_,_,_,_=>N
 | h+1,d,c,e,f =>
  if D (f>0)&&(!c) then Q (dN p0b (ao.mk d c)) fun a=>Q (app e [a.1]) fun g=>gY p0b h a.2.a_ a.2.N_ g (W J (f-1)) else U (aw.mk e,ao.mk d c)
def ft (p0b:List Int)(p0:ao):Option (aw×ao) :=
 Q (cW p0b p0) fun a=>gY p0b aY a.2.a_ a.2.N_ [] a.1
def gX (p0:List Int)(i:ae×Bool)(j k l m o p:Int×ao)(q:Bool×ao)(r s t u v:Int×ao)(d:List av)(e:List (List Int)):Nat→Int→List aC→Int→Bool→Option (az×Bool)
 | 0,_,_,_,_=>N
 | w+1,f,g,c,a =>
  if D (f>0)&&(!a) then Q (aS p0 (ao.mk c a)) fun h=>Q (aS p0 h.2) fun c=>Q (app g [aC.mk h.1 c.1]) fun h=>gX p0 i j k l m o p q r s t u v d e w (W J (f-1)) h c.2.a_ c.2.N_ else U (az.mk (aU.mk i.1 (bA.mk j.1 k.1 l.1 m.1 o.1 p.1 q.1) r.1 s.1 t.1 u.1 v.1) (bh.mk d) (aT.mk e g),(!a))
def gU (c:ae×Bool)(p0:List Int)(i j k l m o:Int×ao)(p:Bool×ao)(q r s t u:Int×ao)(d:List av):Nat→Int→List (List Int)→Int→Bool→Option (az×Bool)
 | 0,_,_,_,_=>N
 | w+1,e,f,g,h =>
  if D (e<(c.1.f_.length:Int)) then Q (dN p0 (ao.mk g h)) fun a=>Q (app f [a.1]) fun v=>gU c p0 i j k l m o p q r s t u d w (W J (e+1)) v a.2.a_ a.2.N_ else Q (cW p0 (ao.mk g h)) fun a=>gX p0 c i j k l m o p q r s t u d f aY a.1 [] a.2.a_ a.2.N_
def fX (c:Int×ao)(p0:List Int)(l:ae×Bool)(m o p q r s:Int×ao)(t:Bool×ao)(u v w x:Int×ao):Nat→Int→List av→Int→Bool→Option (az×Bool)
 | 0,_,_,_,_=>N
 | A+1,d,e,f,g =>
  if D (d<c.1) then Q (ix p0 (ao.mk f g)) fun h=>Q (gH p0 h.2) fun i=>Q (ix p0 i.2) fun j=>Q (ft p0 j.2) fun k=>Q (ft p0 k.2) fun a=>Q (app e [av.mk h.1 i.1 j.1 (dd.mk k.1 a.1)]) fun h=>fX c p0 l m o p q r s t u v w x A (W J (d+1)) h a.2.a_ a.2.N_ else gU l p0 m o p q r s t c u v w x e aY 0 [] f g
def fA (p0:List Int):Option (az×Bool) :=
 Q (sB p0 4) fun a=>if !a.2.2 then U (az.mk (aU.mk (ae.mk [] []) (bA.mk 0 0 0 0 0 0 n) 0 0 0 0 0) (bh.mk []) (aT.mk [] []),n) else Q (na a.1) fun c=>if !c.2 then U (az.mk (aU.mk (ae.mk [] []) (bA.mk 0 0 0 0 0 0 n) 0 0 0 0 0) (bh.mk []) (aT.mk [] []),n) else Q (aS p0 (ao.mk a.2.1 n)) fun d=>Q (aS p0 d.2) fun e=>Q (aS p0 e.2) fun f=>Q (aS p0 f.2) fun g=>Q (aS p0 g.2) fun h=>Q (aS p0 h.2) fun i=>Q (gH p0 i.2) fun j=>Q (aS p0 j.2) fun k=>Q (aS p0 k.2) fun l=>Q (aS p0 l.2) fun m=>Q (aS p0 m.2) fun o=>Q (aS p0 o.2) fun a=>Q (if a.2.N_ then U y else Q (qk (aU.mk c.1 (bA.mk d.1 e.1 f.1 g.1 h.1 i.1 j.1) k.1 l.1 m.1 o.1 a.1)) fun p=>U (!p)) fun p=>if p then U (az.mk (aU.mk (ae.mk [] []) (bA.mk 0 0 0 0 0 0 n) 0 0 0 0 0) (bh.mk []) (aT.mk [] []),n) else fX k p0 c d e f g h i j l m o a aY 0 [] a.2.a_ a.2.N_
def wJ (p0:Int):Option Bool :=
 Q (bc p0 0 999) fun a=>U (!a)
def cC (p0:List Int):Nat→Int→Option Int
 | 0,_=>N
 | d+1,a =>
  if D (a<(p0.length:Int)) then Q (idx p0 a) fun c=>Q (wJ c) fun c=>if c then U a else cC p0 d (W J (a+1)) else U (-1)
def eO (p0:List Int):Option Int :=
 cC p0 aY 0
def dk (p0:List Int):Option Bool :=
 Q (eO p0) fun a=>U (D (a≥0))
def su (p0:List Int)(p1:Int):Option Bool :=
 Q (if ((p0.length:Int)==p1) then Q (dk p0) fun a=>U (!a) else U n) fun u10=>U u10
def iY (p0:List Int):Nat→Int→Int→Option Int
 | 0,_,_=>N
 | e+1,c,a =>
  if D (a<(p0.length:Int)) then Q (idx p0 a) fun d=>iY p0 e (W J (c+d)) (W J (a+1)) else U c
def ov (p0:List Int):Option Int :=
 iY p0 aY 0 0
def lC (p0:aD):Option Int :=
 if D ((p0.z_.length:Int)>0) then U (W J ((p0.z_.length:Int)+1)) else U (p0.M_.length:Int)
def Cj (p0:Int):Option (List Int) :=
 Q (mk (0:Int) p0) fun a=>U a
def fH (e:List Int)(p0:ae)(p1:aE)(k:Int→Option Bool)(f:Int):Nat→Int→List Int→Option Bool
 | 0,_,_=>N
 | l+1,a,c =>
  if D (a<(e.length:Int)) then Q (idx e a) fun g=>Q (rem a (p0.f_.length:Int)) fun d=>Q (idx c d) fun h=>Q (idx c d) fun _=>Q (rem a (p0.f_.length:Int)) fun i=>Q (idx (c.set d.toNat (W J (h+g))) i) fun i=>Q (rem a (p0.f_.length:Int)) fun j=>Q (idx p1.l_ j) fun j=>if D (i>j) then U n else fH e p0 p1 k f l (W J (a+1)) (c.set d.toNat (W J (h+g))) else k (W J (f+1))
def fc (p1:aE)(p0:ae):Nat→Int→Option Bool
 | 0,_=>N
 | e+1,a =>
  if D (a<(p1.g_.length:Int)) then Q (idx p1.g_ a) fun c=>Q (idx p0.c_ a) fun d=>Q (lC d) fun d=>Q (su c (W J (d*(p0.f_.length:Int)))) fun d=>if !d then U n else Q (Cj (p0.f_.length:Int)) fun d=>fH c p0 p1 (fc p1 p0 e) a aY 0 d else U y
def sW (p0:ae)(p1:aE):Option Bool :=
 Q (fj p0) fun a=>Q (if !a then U y else Q (su p1.l_ (p0.f_.length:Int)) fun a=>U (!a)) fun a=>Q (if a then U y else Q (ov p1.l_) fun a=>U (D (a>999))) fun a=>if a then U n else if ((p1.g_.length:Int)==0) then U y else if ((p1.g_.length:Int) != (p0.c_.length:Int)) then U n else fc p1 p0 aY 0
def vC (p0:ae)(p1:List Int):Option Bool :=
 Q (fj p0) fun a=>Q (if (a&&D ((p1.length:Int)>0)) then Q (ku p1) fun a=>U a else U n) fun u21=>Q (if u21 then Q (idx p1 0) fun a=>U (D (a≥0)) else U n) fun a=>Q (if a then Q (idx p1 (W J ((p1.length:Int)-1))) fun a=>U (D (a<(p0.c_.length:Int))) else U n) fun a=>U a
def ux (p0:ae)(p1:aI):Option Bool :=
 Q (fj p0) fun a=>Q (if !a then U y else Q (bc p1.q_ 0 (W J ((p0.c_.length:Int)-1))) fun a=>U (!a)) fun u20=>if u20 then U n else Q (idx p0.c_ p1.q_) fun a=>Q (lC a) fun c=>if D ((a.z_.length:Int)>0) then Q (bc p1.j_ (-1) (W J (W J (c-1)-1))) fun a=>U a else Q (bc p1.j_ (-1) (W J (c-1))) fun a=>U a
def pn (p0:ae)(p1:aI):Option Int :=
 Q (ux p0 p1) fun a=>if !a then U 0 else if p1.j_==(-1) then Q (idx p0.c_ p1.q_) fun a=>Q (lC a) fun a=>U a else U 2
def ui (p0 p1:Int)(p2:am):Option Bool :=
 Q (bc p0 (W J (p1+1)) (W J ((p2.b_.length:Int)-1))) fun a=>Q (if !a then U y else Q (idx p2.b_ p0) fun a=>U (a.H_ != p1)) fun u15=>U u15
def cL (p0:List Int)(p1_0:Int)(p1_1:am):Nat→Int→Option Int
 | 0,_=>N
 | d+1,a =>
  if D (a<(p0.length:Int)) then Q (idx p0 a) fun c=>Q (ui c p1_0 p1_1) fun c=>if c then U a else cL p0 p1_0 p1_1 d (W J (a+1)) else U (-1)
def eT (p0:List Int)(p1_0:Int)(p1_1:am):Option Int :=
 cL p0 p1_0 p1_1 aY 0
def dq (p0:List Int)(p1_0:Int)(p1_1:am):Option Bool :=
 Q (eT p0 p1_0 p1_1) fun a=>U (D (a≥0))
def nP (a:au)(c:Int):Option Bool :=
 Q (if (((a.n_.q_==0&&(a.n_.j_==0&&y))&&((a.A_.length:Int)==0))&&(a.K_==0)) then Q (bc a.J_ 0 c) fun a=>U a else U n) fun a=>U a
def xq (p0:ae)(p1:am)(p2:Int):Option Bool :=
 Q (idx p1.b_ p2) fun a=>Q (bc a.o_ 0 6) fun c=>Q (if !c then U y else Q (bc a.F_ 0 p1.p_) fun c=>U (!c)) fun c=>Q (if c then U y else Q (sW p0 a.m_) fun c=>U (!c)) fun c=>Q (if c then U y else Q (vC p0 a.c_) fun c=>U (!c)) fun c=>if c then U n else if a.D_ then Q (ov a.m_.l_) fun c=>if ((a.m_.g_.length:Int)==0) then nP a 0 else nP a c else Q (pn p0 a.n_) fun c=>Q (if ((c==0)||((a.A_.length:Int) != c)) then U y else Q (ku a.A_) fun d=>U (!d)) fun d=>Q (if d then U y else Q (bc a.K_ 0 (W J (c-1))) fun c=>U (!c)) fun c=>if ((c||((a.m_.g_.length:Int) != 0))||(a.J_ != 0)) then U n else Q (dq a.A_ p2 p1) fun a=>U (!a)
def ff (p0:List Int)(p1:Int):Nat→Int→Option Int
 | 0,_=>N
 | d+1,a =>
  if D (a<(p0.length:Int)) then Q (idx p0 a) fun c=>if p1==c then U a else ff p0 p1 d (W J (a+1)) else U (-1)
def la (p0:List Int)(p1:Int):Option Int :=
 ff p0 p1 aY 0
def gE (p0:List Int)(p1:Int):Option Bool :=
 Q (la p0 p1) fun a=>U (D (a≥0))
def gi (p1:am)(p0:ae):Nat→Int→Option Bool
 | 0,_=>N
 | f+1,c =>
  if D (c<(p1.b_.length:Int)) then Q (idx p1.b_ c) fun a=>Q (xq p0 p1 c) fun d=>if !d then U n else if c==0 then if ((a.H_ != (-1))||(a.o_ != 0))||(a.F_ != 0) then U n else gi p1 p0 f (W J (c+1)) else Q (bc a.H_ 0 (W J (c-1))) fun d=>if !d then U n else Q (idx p1.b_ a.H_) fun d=>Q (if d.D_ then U y else Q (gE d.A_ c) fun e=>U (!e)) fun e=>if (e||(d.o_ != W J (a.o_-1)))||D (d.F_>a.F_) then U n else gi p1 p0 f (W J (c+1)) else U y
def xE (p0:ae)(p1:am):Option Bool :=
 Q (fj p0) fun a=>Q (if !a then U y else Q (bc (p1.b_.length:Int) 1 31) fun a=>U (!a)) fun a=>Q (if a then U y else Q (bc p1.p_ 0 99999) fun a=>U (!a)) fun a=>if a then U n else gi p1 p0 aY 0
def ic (p0:am):Nat→Int→Int→Option Int
 | 0,_,_=>N
 | e+1,a,c =>
  if D (a<(p0.b_.length:Int)) then Q (idx p0.b_ a) fun d=>ic p0 e (W J (a+1)) (if c<d.o_ then d.o_ else c) else U c
def vw (p0:am):Option Int :=
 if ((p0.b_.length:Int)==0) then U 0 else Q (idx p0.b_ 0) fun a=>ic p0 aY 0 a.o_
def kI (p0:au):Nat→Int→Int→Option Int
 | 0,_,_=>N
 | e+1,a,c =>
  if D (a<(p0.m_.g_.length:Int)) then Q (idx p0.m_.g_ a) fun d=>kI p0 e (W J (a+1)) (W J (c+(d.length:Int))) else U c
def vK (p0:au):Option Int :=
 if !p0.D_ then U 1 else kI p0 aY 0 2
def mL (p0:am):Nat→Int→Int→Option Int
 | 0,_,_=>N
 | e+1,c,a =>
  if D (a<(p0.b_.length:Int)) then Q (idx p0.b_ a) fun d=>Q (vK d) fun d=>mL p0 e (W J (c+d)) (W J (a+1)) else U c
def tj (p0:am):Option Int :=
 mL p0 aY 0 0
def yH (p0:ae)(p1:bA)(p2:am):Option Bool :=
 Q (xE p0 p2) fun a=>Q (if a then Q (uE p1) fun a=>U a else U n) fun a=>Q (if (a&&D ((p2.b_.length:Int)≤p1.b_)) then Q (vw p2) fun a=>U (D (a≤p1.o_)) else U n) fun a=>Q (if a then Q (tj p2) fun a=>U (D (a≤p1.L_)) else U n) fun a=>U a
def uY (p0 p1:Int):Option Bool :=
 Q (shl J 1 p1) fun x10=>Q (bc p0 0 x10) fun a=>U (!a)
def cy (p0:List Int)(p1_0:Int):Nat→Int→Option Int
 | 0,_=>N
 | d+1,a =>
  if D (a<(p0.length:Int)) then Q (idx p0 a) fun c=>Q (uY c p1_0) fun c=>if c then U a else cy p0 p1_0 d (W J (a+1)) else U (-1)
def eC (p0:List Int)(p1_0:Int):Option Int :=
 cy p0 p1_0 aY 0
def dh (p0:List Int)(p1_0:Int):Option Bool :=
 Q (eC p0 p1_0) fun a=>U (D (a≥0))
def fP (p0:aw):Nat→Int→Option Bool
 | 0,_=>N
 | e+1,a =>
  if D (a<(p0.k_.length:Int)) then Q (idx p0.k_ a) fun c=>Q (bc (c.length:Int) 1 3) fun d=>Q (if !d then U y else Q (dh c a) fun c=>U c) fun c=>if c then U n else fP p0 e (W J (a+1)) else U y
def qW (p0:aw):Option Bool :=
 if D ((p0.k_.length:Int)>8) then U n else fP p0 aY 0
def zx (p0:dd):Option Bool :=
 Q (qW p0.x_) fun a=>Q (if a then Q (qW p0.y_) fun a=>U a else U n) fun u19=>U u19
def jX (p0 p1:List Int):Nat→Int→Option Bool
 | 0,_=>N
 | e+1,a =>
  if D (a<(p0.length:Int)) then Q (idx p0 a) fun c=>Q (idx p1 a) fun d=>if c != d then U n else jX p0 p1 e (W J (a+1)) else U y
def fY (p0 p1:List Int):Option Bool :=
 if ((p0.length:Int) != (p1.length:Int)) then U n else jX p0 p1 aY 0
def yd (p0 p1:List Int):Option Bool :=
 Q (fY p0 p1) fun a=>U a
def cU (p0 p1:List (List Int)):Nat→Int→Option Bool
 | 0,_=>N
 | e+1,a =>
  if D (a<(p0.length:Int)) then Q (idx p0 a) fun c=>Q (idx p1 a) fun d=>Q (yd c d) fun c=>if !c then U n else cU p0 p1 e (W J (a+1)) else U y
def ef (p0 p1:List (List Int)):Option Bool :=
 if ((p0.length:Int) != (p1.length:Int)) then U n else cU p0 p1 aY 0
def AB (p0 p1:List (List Int)):Option Bool :=
 Q (ef p0 p1) fun a=>U a
def Ac (p0 p1:aE):Option Bool :=
 Q (fY p0.l_ p1.l_) fun a=>Q (if a then Q (AB p0.g_ p1.g_) fun a=>U a else U n) fun a=>U a
def BO (p0 p1:au):Option Bool :=
 Q (if (p0.D_==p1.D_)&&(p0.n_.q_==p1.n_.q_&&(p0.n_.j_==p1.n_.j_&&y)) then Q (fY p0.A_ p1.A_) fun a=>U a else U n) fun a=>Q (if a&&(p0.K_==p1.K_) then Q (Ac p0.m_ p1.m_) fun a=>U a else U n) fun a=>Q (if a&&(p0.J_==p1.J_) then Q (fY p0.c_ p1.c_) fun a=>U a else U n) fun a=>U (((a&&(p0.o_==p1.o_))&&(p0.H_==p1.H_))&&(p0.F_==p1.F_))
def bJ (p0 p1:List au):Nat→Int→Option Bool
 | 0,_=>N
 | e+1,a =>
  if D (a<(p0.length:Int)) then Q (idx p0 a) fun d=>Q (idx p1 a) fun c=>Q (BO d c) fun c=>if !c then U n else bJ p0 p1 e (W J (a+1)) else U y
def cr (p0 p1:List au):Option Bool :=
 if ((p0.length:Int) != (p1.length:Int)) then U n else bJ p0 p1 aY 0
def uf (p0 p1:am):Option Bool :=
 Q (if p0.p_==p1.p_ then Q (cr p0.b_ p1.b_) fun a=>U a else U n) fun u18=>U u18
def uc (p0:aU)(p1:av):Option Bool :=
 Q (qk p0) fun a=>Q (if !a then U y else Q (yH p0.w_ p0.e_ p1.C_) fun a=>U (!a)) fun a=>Q (if a then U y else Q (zx p1.G_) fun a=>U (!a)) fun a=>if a then U n else if p1.R_ then Q (yH p0.w_ p0.e_ p1.u_) fun a=>U a else Q (uf p1.u_ (am.mk [] 0)) fun a=>U a
def uX (p0:av)(p1:aU):Option Bool :=
 Q (uc p1 p0) fun a=>U (!a)
def bO (p0:List av)(p1_0:aU):Nat→Int→Option Int
 | 0,_=>N
 | d+1,a =>
  if D (a<(p0.length:Int)) then Q (idx p0 a) fun c=>Q (uX c p1_0) fun c=>if c then U a else bO p0 p1_0 d (W J (a+1)) else U (-1)
def de (p0:List av)(p1_0:aU):Option Int :=
 bO p0 p1_0 aY 0
def cg (p0:List av)(p1_0:aU):Option Bool :=
 Q (de p0 p1_0) fun a=>U (D (a≥0))
def ut (p0:aU)(p1:bh):Option Bool :=
 Q (qk p0) fun a=>Q (if (a&&((p1.t_.length:Int)==p0.t_)) then Q (cg p1.t_ p0) fun a=>U (!a) else U n) fun a=>U a
def wz (p0:Int):Option Bool :=
 Q (bc p0 0 9999) fun a=>U (!a)
def iL (p0:List (List Int)):Nat→Int→Int→Option Int
 | 0,_,_=>N
 | e+1,c,a =>
  if D (a<(p0.length:Int)) then Q (idx p0 a) fun d=>Q (ov d) fun d=>iL p0 e (W J (c+d)) (W J (a+1)) else U c
def um (p0:List (List Int)):Option Int :=
 iL p0 aY 0 0
def cE (p0:List Int):Nat→Int→Option Int
 | 0,_=>N
 | d+1,a =>
  if D (a<(p0.length:Int)) then Q (idx p0 a) fun c=>Q (wz c) fun c=>if c then U a else cE p0 d (W J (a+1)) else U (-1)
def eL (p0:List Int):Option Int :=
 cE p0 aY 0
def dl (p0:List Int):Option Bool :=
 Q (eL p0) fun a=>U (D (a≥0))
def fC (p1:aT)(p0:Int):Nat→Int→(List (aC×Int))→Option Bool
 | 0,_,_=>N
 | f+1,d,c =>
  if D (d<(p1.s_.length:Int)) then Q (idx p1.s_ d) fun a=>Q (bc a.aa_ 0 (W J (p0-1))) fun e=>Q (if !e then U y else Q (bc a.Y_ 0 (W J (p0-1))) fun e=>U (!e)) fun e=>Q (if e then U y else Q (idx p1.r_ a.aa_) fun e=>Q (idx e a.Y_) fun e=>U (D (kh (Dt c a (W J (kh c a+1))) a>e))) fun e=>if e then U n else fC p1 p0 f (W J (d+1)) (Dt c a (W J (kh c a+1))) else U y
def gv (p1:aT)(p0:Int):Nat→Int→Option Bool
 | 0,_=>N
 | d+1,a =>
  if D (a<(p1.r_.length:Int)) then Q (idx p1.r_ a) fun c=>Q (if ((c.length:Int) != p0) then U y else Q (dl c) fun c=>U c) fun c=>if c then U n else gv p1 p0 d (W J (a+1)) else Q (um p1.r_) fun a=>if (D (a>9999)||((p1.s_.length:Int) != (if 20<a then 20 else a))) then U n else fC p1 p0 aY 0 []
def vL (p0:Int)(p1:aT):Option Bool :=
 Q (bc p0 2 3) fun a=>if ((!a)||((p1.r_.length:Int) != p0)) then U n else gv p1 p0 aY 0
def mN (p0:az):Option Bool :=
 Q (ut p0.d_ p0.Z_) fun a=>Q (if a then Q (vL (p0.d_.w_.f_.length:Int) p0.I_) fun a=>U a else U n) fun a=>U a
def gd (p0:ae):Nat→Int→List (List UInt8)→Option (List UInt8)
 | 0,_,_=>N
 | e+1,a,c =>
  if D (a<(p0.c_.length:Int)) then Q (idx p0.c_ a) fun d=>Q (mV d) fun d=>Q (app c [d]) fun d=>gd p0 e (W J (a+1)) d else Q (AG c [59]) fun a=>Q (rh a [124]) fun a=>Q (AG p0.f_ [44]) fun c=>Q (rh a c) fun a=>U a
def rF (p0:ae):Option (List UInt8) :=
 Q (fj p0) fun a=>if !a then U ([]:List UInt8) else gd p0 aY 0 []
def nO  : Nat→Int→List Int→Option ((List Int)×Bool)
 | 0,_,_=>N
 | e+1,a,c =>
  if D (a≥128) then Q (app c [W K (eW .or J (eW .and J a 127) 128)]) fun d=>nO e (vg J a 7) d else Q (app c [W K a]) fun a=>U (a,n)
def rY (p0:Int):Option ((List Int)×Bool) :=
 Q (bc p0 0 2147483647) fun a=>if !a then U (([]:List Int),y) else nO aY p0 []
def vx (p0:List UInt8):Option (List Int) :=
 Q (rY (p0.length:Int)) fun a=>Q (Cw p0) fun c=>Q (app a.1 c) fun a=>U a
def yi (p0:Bool):Option Int :=
 if p0 then U 1 else U 0
def xG (p0:Int):Option ((List Int)×Bool) :=
 Q (bc p0 (-1000000000) 1000000000) fun a=>if !a then U (([]:List Int),y) else if D (p0<0) then Q (rY (W J (W J ((-2)*p0)-1))) fun a=>U (a.1,a.2) else Q (rY (W J (2*p0))) fun a=>U (a.1,a.2)
def jm (p1:List Int):Nat→List Int→Bool→Int→Option cZ
 | 0,_,_,_=>N
 | g+1,c,d,a =>
  if D (a<(p1.length:Int)) then Q (idx p1 a) fun e=>Q (xG e) fun e=>Q (app c e.1) fun f=>jm p1 g f (d||e.2) (W J (a+1)) else U (cZ.mk c d)
def cw (p0:cZ)(p1:List Int):Option cZ :=
 jm p1 aY p0.ad_ p0.N_ 0
def fh (p0:cZ)(p1:List Int):Option cZ :=
 Q (cw p0 [(p1.length:Int)]) fun a=>Q (cw a p1) fun a=>U a
def nj (a:au)(h:(List Int)→Bool→Int→Option cZ)(d:Int):Nat→List Int→Bool→Int→Option cZ
 | 0,_,_,_=>N
 | i+1,e,f,c =>
  if D (c<(a.m_.g_.length:Int)) then Q (idx a.m_.g_ c) fun g=>Q (fh (cZ.mk e f) g) fun g=>nj a h d i g.ad_ g.N_ (W J (c+1)) else Q (cw (cZ.mk e f) [a.J_]) fun c=>Q (fh c a.c_) fun c=>Q (cw c [a.o_,a.H_,a.F_]) fun a=>h a.ad_ a.N_ (W J (d+1))
def fS (p1:am):Nat→List Int→Bool→Int→Option cZ
 | 0,_,_,_=>N
 | g+1,d,e,c =>
  if D (c<(p1.b_.length:Int)) then Q (idx p1.b_ c) fun a=>Q (yi a.D_) fun f=>Q (cw (cZ.mk d e) [f,a.n_.q_,a.n_.j_]) fun f=>Q (fh f a.A_) fun f=>Q (cw f [a.K_]) fun f=>Q (fh f a.m_.l_) fun f=>Q (cw f [(a.m_.g_.length:Int)]) fun f=>nj a (fS p1 g) c aY f.ad_ f.N_ 0 else U (cZ.mk d e)
def nv (p0:cZ)(p1:am):Option cZ :=
 Q (cw p0 [p1.p_,(p1.b_.length:Int)]) fun a=>fS p1 aY a.ad_ a.N_ 0
def mc (p1:aw):Nat→List Int→Bool→Int→Option cZ
 | 0,_,_,_=>N
 | f+1,c,d,a =>
  if D (a<(p1.k_.length:Int)) then Q (idx p1.k_ a) fun e=>Q (fh (cZ.mk c d) e) fun e=>mc p1 f e.ad_ e.N_ (W J (a+1)) else U (cZ.mk c d)
def lM (p0:cZ)(p1:aw):Option cZ :=
 Q (cw p0 [(p1.k_.length:Int)]) fun a=>mc p1 aY a.ad_ a.N_ 0
def kc (p0:az):Nat→Int→List Int→Bool→Option (List Int)
 | 0,_,_,_=>N
 | f+1,a,c,e =>
  if D (a<(p0.I_.s_.length:Int)) then Q (idx p0.I_.s_ a) fun d=>Q (cw (cZ.mk c e) [d.aa_,d.Y_]) fun d=>kc p0 f (W J (a+1)) d.ad_ d.N_ else Q (iX c) fun a=>Q (app c a) fun a=>U a
def iw (p0:az):Nat→Int→List Int→Bool→Option (List Int)
 | 0,_,_,_=>N
 | f+1,a,c,d =>
  if D (a<(p0.I_.r_.length:Int)) then Q (idx p0.I_.r_ a) fun e=>Q (fh (cZ.mk c d) e) fun e=>iw p0 f (W J (a+1)) e.ad_ e.N_ else Q (cw (cZ.mk c d) [(p0.I_.s_.length:Int)]) fun a=>kc p0 aY 0 a.ad_ a.N_
def ka (p0:az):Nat→List Int→Bool→Int→Option (List Int)
 | 0,_,_,_=>N
 | h+1,d,e,c =>
  if D (c<(p0.Z_.t_.length:Int)) then Q (idx p0.Z_.t_ c) fun a=>Q (nv (cZ.mk d e) a.C_) fun f=>Q (yi a.R_) fun g=>Q (cw f [g]) fun f=>Q (nv f a.u_) fun f=>Q (lM f a.G_.x_) fun f=>Q (lM f a.G_.y_) fun a=>ka p0 h a.ad_ a.N_ (W J (c+1)) else iw p0 aY 0 d e
def gr (p0:az):Option (List Int) :=
 Q (mN p0) fun a=>if !a then U ([]:List Int) else Q (app [83,80,78] [1]) fun a=>Q (rF p0.d_.w_) fun c=>Q (vx c) fun c=>Q (app a c) fun a=>Q (yi p0.d_.e_.P_) fun c=>Q (cw (cZ.mk a n) [p0.d_.e_.T_,p0.d_.e_.S_,p0.d_.e_.U_,p0.d_.e_.o_,p0.d_.e_.b_,p0.d_.e_.L_,c]) fun a=>Q (cw a [p0.d_.t_,p0.d_.V_,p0.d_.X_,p0.d_.x_,p0.d_.y_]) fun a=>ka p0 aY a.ad_ a.N_ 0
def vI (p0:List Int):Option (az×Int) :=
 if D ((p0.length:Int)<8) then U (az.mk (aU.mk (ae.mk [] []) (bA.mk 0 0 0 0 0 0 n) 0 0 0 0 0) (bh.mk []) (aT.mk [] []),1) else Q (sub p0 0 3) fun a=>if (!(eU a==([83,80,78]:List UInt8))) then U (az.mk (aU.mk (ae.mk [] []) (bA.mk 0 0 0 0 0 0 n) 0 0 0 0 0) (bh.mk []) (aT.mk [] []),2) else Q (idx p0 3) fun a=>if a != 1 then U (az.mk (aU.mk (ae.mk [] []) (bA.mk 0 0 0 0 0 0 n) 0 0 0 0 0) (bh.mk []) (aT.mk [] []),3) else Q (sub p0 (W J ((p0.length:Int)-4)) (p0.length:Int)) fun a=>Q (sub p0 0 (W J ((p0.length:Int)-4))) fun c=>Q (iX c) fun c=>Q (kP a c) fun a=>if !a then U (az.mk (aU.mk (ae.mk [] []) (bA.mk 0 0 0 0 0 0 n) 0 0 0 0 0) (bh.mk []) (aT.mk [] []),4) else Q (sub p0 0 (W J ((p0.length:Int)-4))) fun a=>Q (fA a) fun a=>Q (if !a.2 then U y else Q (gr a.1) fun c=>Q (kP c p0) fun c=>U (!c)) fun c=>if c then U (az.mk (aU.mk (ae.mk [] []) (bA.mk 0 0 0 0 0 0 n) 0 0 0 0 0) (bh.mk []) (aT.mk [] []),5) else U (a.1,0)
def fy (p1:Int)(p0:List Int):Nat→Int→Int→Option (Int×Int×Bool)
 | 0,_,_=>N
 | f+1,c,a =>
  if D (a<5) then if (D (p1<0)||D (p1≥W J ((p0.length:Int)-a))) then U (0,0,n) else Q (idx p0 (W J (p1+a))) fun d=>Q (shl J (Int.tmod (W J d) 128) (W J (7*a))) fun e=>if D (W J d<128) then if (D (a>0)&&(W J d==0))||D (eW .or J c e>2147483647) then U (0,0,n) else U (eW .or J c e,W J (W J (p1+a)+1),y) else fy p1 p0 f (eW .or J c e) (W J (a+1)) else U (0,0,n)
def qf (p0:List Int)(p1:Int):Option (Int×Int×Bool) :=
 fy p1 p0 aY 0 0
def oy (p0:List Int)(p1:Int):Option ((List UInt8)×Int×Bool) :=
 Q (qf p0 p1) fun a=>if ((!a.2.2)||D (a.1>W J ((p0.length:Int)-a.2.1))) then U (([]:List UInt8),0,n) else Q (sub p0 a.2.1 (W J (a.2.1+a.1))) fun c=>U (eU c,W J (a.2.1+a.1),y)
def lv (p0:List UInt8)(p1:Int):Nat→List (List UInt8)→Int→Int→Option (List (List UInt8))
 | 0,_,_,_=>N
 | e+1,c,d,a =>
  if D (a≤(p0.length:Int)) then Q (if (a==(p0.length:Int)) then U y else Q (idx p0 a) fun f=>U ((f.toNat:Int)==p1)) fun f=>if f then Q (sub p0 d a) fun f=>Q (app c [f]) fun f=>lv p0 p1 e f (W J (a+1)) (W J (a+1)) else lv p0 p1 e c d (W J (a+1)) else U c
def ke (p0:List UInt8)(p1:Int):Option (List (List UInt8)) :=
 lv p0 p1 aY [] 0 0
def gq (p0:List UInt8):Nat→Int→Int→Option (Int×Bool)
 | 0,_,_=>N
 | e+1,c,a =>
  if D (a<(p0.length:Int)) then Q (idx p0 a) fun d=>Q (if D ((d.toNat:Int)<48) then U y else Q (idx p0 a) fun d=>U (D ((d.toNat:Int)>57))) fun d=>if d then U (0,n) else Q (idx p0 a) fun d=>gq p0 e (W J (W J (W J (10*c)+W J (d.toNat:Int))-48)) (W J (a+1)) else Q (uU c) fun a=>if !(a==p0) then U (0,n) else U (c,y)
def pX (p0:List UInt8):Option (Int×Bool) :=
 if (D ((p0.length:Int)<1)||D ((p0.length:Int)>6)) then U (0,n) else gq p0 aY 0 0
def pW (p0:List UInt8):Option (Int×Bool) :=
 if (D ((p0.length:Int)<1)||D ((p0.length:Int)>5)) then U (0,n) else Q (idx p0 0) fun a=>if ((a.toNat:Int) != 45) then Q (pX p0) fun a=>if (!a.2)||D (a.1>9999) then U (0,n) else U (a.1,y) else Q (sub p0 1 (p0.length:Int)) fun a=>Q (pX a) fun a=>if ((!a.2)||D (a.1<1))||D (a.1>9999) then U (0,n) else U (W J (0-a.1),y)
def ja (p0 a:List UInt8)(c:List Int)(d:List (List UInt8)):Option (aD×Bool) :=
 Q (ol (aD.mk a c d)) fun e=>Q (if !e then U y else Q (nc (aD.mk a c d)) fun e=>U (!(e==p0))) fun e=>if e then U (aD.mk [] [] [],n) else U (aD.mk a c d,y)
def ei (a:List (List UInt8))(p0 d:List UInt8):Nat→List Int→Int→Option (aD×Bool)
 | 0,_,_=>N
 | g+1,e,c =>
  if D (c<(a.length:Int)) then Q (idx a c) fun f=>Q (pW f) fun f=>if !f.2 then U (aD.mk [] [] [],n) else Q (app e [f.1]) fun f=>ei a p0 d g f (W J (c+1)) else ja p0 d e []
def qe (p0:List UInt8):Option (aD×Bool) :=
 Q (ke p0 61) fun a=>Q (ke p0 58) fun c=>if ((a.length:Int)==2) then Q (idx a 0) fun d=>Q (idx a 1) fun a=>Q (ke a 44) fun a=>ja p0 d [] a else if ((c.length:Int)==2) then Q (idx c 0) fun a=>Q (idx c 1) fun c=>Q (ke c 44) fun c=>ei c p0 a aY [] 0 else ja p0 [] [] []
def dO (a c:List (List UInt8)):Nat→List aD→Int→Option (ae×Bool)
 | 0,_,_=>N
 | g+1,d,e =>
  if D (e<(a.length:Int)) then Q (idx a e) fun f=>Q (qe f) fun f=>if !f.2 then U (ae.mk [] [],n) else Q (app d [f.1]) fun f=>dO a c g f (W J (e+1)) else Q (eR (ae.mk d c)) fun a=>if !a then U (ae.mk [] [],n) else U (ae.mk d c,y)
def mX (p0:List UInt8):Option (ae×Bool) :=
 Q (ke p0 124) fun a=>if ((a.length:Int) != 2) then U (ae.mk [] [],n) else Q (idx a 1) fun c=>Q (ke c 44) fun c=>Q (idx a 0) fun a=>Q (ke a 59) fun a=>dO a c aY [] 0
def lX (c:Int×Int×Bool)(a:Int):Option (Int×Int×Bool) :=
 Q (aM a (-1000000000) 1000000000) fun d=>if !d then U (0,0,n) else U (a,c.2.1,y)
def ep (p0:List Int)(p1:Int):Option (Int×Int×Bool) :=
 Q (qf p0 p1) fun a=>if !a.2.2 then U (0,0,n) else if Int.tmod a.1 2==1 then lX a (W J (W J (0-W J (Int.tdiv a.1 2))-1)) else lX a (W J (Int.tdiv a.1 2))
def rB (p2:Int)(p0:List Int):Nat→Int→Int→List Int→Option ((List Int)×Int×Bool)
 | 0,_,_,_=>N
 | g+1,c,d,e =>
  if D (d<p2) then Q (ep p0 c) fun a=>if !a.2.2 then U (([]:List Int),0,n) else Q (app e [a.1]) fun f=>rB p2 p0 g a.2.1 (W J (d+1)) f else U (e,c,y)
def eX (p0:List Int)(p1 p2:Int):Option ((List Int)×Int×Bool) :=
 rB p2 p0 aY p1 0 []
def ru (c:Int×Int×Bool)(p0:List Int):Nat→List Int→Int→Int→Option ((List Int)×Int×Bool)
 | 0,_,_,_=>N
 | h+1,d,e,f =>
  if D (e<c.1) then Q (ep p0 f) fun a=>if !a.2.2 then U (([]:List Int),0,n) else Q (app d [a.1]) fun g=>ru c p0 h g (W J (e+1)) a.2.1 else U (d,f,y)
def mJ (p0:List Int)(p1:Int):Option ((List Int)×Int×Bool) :=
 Q (ep p0 p1) fun a=>if (!a.2.2)||D (a.1<0) then U (([]:List Int),0,n) else ru a p0 aY [] 0 a.2.1
def nt (c:Int×Int×Bool)(p0:List Int):Nat→List (List Int)→Int→Int→Option ((List (List Int))×Int×Bool)
 | 0,_,_,_=>N
 | h+1,d,e,f =>
  if D (e<c.1) then Q (mJ p0 f) fun a=>if !a.2.2 then U (([]:List (List Int)),0,n) else Q (app d [a.1]) fun g=>nt c p0 h g (W J (e+1)) a.2.1 else U (d,f,y)
def nM (p0:List Int)(p1:Int):Option ((List (List Int))×Int×Bool) :=
 Q (ep p0 p1) fun a=>if (!a.2.2)||D (a.1<0) then U (([]:List (List Int)),0,n) else nt a p0 aY [] 0 a.2.1
def rv (p0:List Int)(p1:Int):Option (au×Int×Bool) :=
 Q (eX p0 p1 3) fun a=>Q (if !a.2.2 then U y else Q (idx a.1 0) fun c=>Q (aM c 0 1) fun c=>U (!c)) fun u21=>if u21 then U (au.mk n (aI.mk 0 0) [] 0 (aE.mk [] []) 0 [] 0 0 0,0,n) else Q (idx a.1 0) fun i=>Q (idx a.1 1) fun j=>Q (idx a.1 2) fun k=>Q (mJ p0 a.2.1) fun c=>if !c.2.2 then U (au.mk n (aI.mk 0 0) [] 0 (aE.mk [] []) 0 [] 0 0 0,0,n) else Q (ep p0 c.2.1) fun d=>if !d.2.2 then U (au.mk n (aI.mk 0 0) [] 0 (aE.mk [] []) 0 [] 0 0 0,0,n) else Q (mJ p0 d.2.1) fun e=>if !e.2.2 then U (au.mk n (aI.mk 0 0) [] 0 (aE.mk [] []) 0 [] 0 0 0,0,n) else Q (nM p0 e.2.1) fun f=>if !f.2.2 then U (au.mk n (aI.mk 0 0) [] 0 (aE.mk [] []) 0 [] 0 0 0,0,n) else Q (ep p0 f.2.1) fun g=>if !g.2.2 then U (au.mk n (aI.mk 0 0) [] 0 (aE.mk [] []) 0 [] 0 0 0,0,n) else Q (mJ p0 g.2.1) fun h=>if !h.2.2 then U (au.mk n (aI.mk 0 0) [] 0 (aE.mk [] []) 0 [] 0 0 0,0,n) else Q (eX p0 h.2.1 3) fun a=>if !a.2.2 then U (au.mk n (aI.mk 0 0) [] 0 (aE.mk [] []) 0 [] 0 0 0,0,n) else Q (idx a.1 0) fun l=>Q (idx a.1 1) fun m=>Q (idx a.1 2) fun o=>U (au.mk (i==1) (aI.mk j k) c.1 d.1 (aE.mk e.1 f.1) g.1 h.1 l m o,a.2.1,y)
def rH (c:(List Int)×Int×Bool)(p0:List Int)(d:Int):Nat→List au→Int→Int→Option (am×Int×Bool)
 | 0,_,_,_=>N
 | i+1,e,f,g =>
  Q (idx c.1 1) fun a=>if D (f<a) then Q (rv p0 g) fun a=>if !a.2.2 then U (am.mk [] 0,0,n) else Q (app e [a.1]) fun h=>rH c p0 d i h (W J (f+1)) a.2.1 else U (am.mk e d,g,y)
def sF (p0:List Int)(p1:Int):Option (am×Int×Bool) :=
 Q (eX p0 p1 2) fun a=>Q (if !a.2.2 then U y else Q (idx a.1 1) fun c=>U (D (c<0))) fun u20=>if u20 then U (am.mk [] 0,0,n) else Q (idx a.1 0) fun c=>rH a p0 c aY [] 0 a.2.1
def ql (p0:List Int)(p1:Int):Option (aw×Int×Bool) :=
 Q (nM p0 p1) fun a=>if !a.2.2 then U (aw.mk [],0,n) else U (aw.mk a.1,a.2.1,y)
def sG (p0:List Int)(p1:Int):Option (av×Int×Bool) :=
 Q (sF p0 p1) fun a=>if !a.2.2 then U (av.mk (am.mk [] 0) n (am.mk [] 0) (dd.mk (aw.mk []) (aw.mk [])),0,n) else Q (ep p0 a.2.1) fun c=>if !c.2.2 then U (av.mk (am.mk [] 0) n (am.mk [] 0) (dd.mk (aw.mk []) (aw.mk [])),0,n) else Q (sF p0 c.2.1) fun d=>if !d.2.2 then U (av.mk (am.mk [] 0) n (am.mk [] 0) (dd.mk (aw.mk []) (aw.mk [])),0,n) else Q (ql p0 d.2.1) fun e=>if !e.2.2 then U (av.mk (am.mk [] 0) n (am.mk [] 0) (dd.mk (aw.mk []) (aw.mk [])),0,n) else Q (ql p0 e.2.1) fun f=>if !f.2.2 then U (av.mk (am.mk [] 0) n (am.mk [] 0) (dd.mk (aw.mk []) (aw.mk [])),0,n) else U (av.mk a.1 (c.1==1) d.1 (dd.mk e.1 f.1),f.2.1,y)
def fF (d:Int×Int×Bool)(c:(List Int)×Int×Bool)(h:ae×Bool)(i j k l m o p q r s t u:Int)(e:List av)(f:List (List Int)):Nat→List aC→Int→Option (az×Bool)
 | 0,_,_=>N
 | x+1,g,a =>
  if D (a<d.1) then Q (idx c.1 (W J (2*a))) fun v=>Q (idx c.1 (W J (W J (2*a)+1))) fun w=>Q (app g [aC.mk v w]) fun v=>fF d c h i j k l m o p q r s t u e f x v (W J (a+1)) else U (az.mk (aU.mk h.1 (bA.mk i j k l m o (p==1)) q r s t u) (bh.mk e) (aT.mk f g),y)
def jy (c:ae×Bool)(p0:List Int)(h i j k l m o p q r s t:Int)(d:List av):Nat→List (List Int)→Int→Int→Option (az×Bool)
 | 0,_,_,_=>N
 | v+1,e,f,g =>
  if D (f<(c.1.f_.length:Int)) then Q (mJ p0 g) fun a=>if !a.2.2 then U (az.mk (aU.mk (ae.mk [] []) (bA.mk 0 0 0 0 0 0 n) 0 0 0 0 0) (bh.mk []) (aT.mk [] []),n) else Q (app e [a.1]) fun u=>jy c p0 h i j k l m o p q r s t d v u (W J (f+1)) a.2.1 else Q (ep p0 g) fun a=>Q (if !a.2.2 then U y else Q (aM a.1 0 20) fun f=>U (!f)) fun f=>if f then U (az.mk (aU.mk (ae.mk [] []) (bA.mk 0 0 0 0 0 0 n) 0 0 0 0 0) (bh.mk []) (aT.mk [] []),n) else Q (eX p0 a.2.1 (W J (2*a.1))) fun f=>if !f.2.2 then U (az.mk (aU.mk (ae.mk [] []) (bA.mk 0 0 0 0 0 0 n) 0 0 0 0 0) (bh.mk []) (aT.mk [] []),n) else fF a f c h i j k l m o p q r s t d e aY [] 0
def jx (c:Int)(p0:List Int)(g:ae×Bool)(h i j k l m o p q r s:Int):Nat→List av→Int→Int→Option (az×Bool)
 | 0,_,_,_=>N
 | u+1,d,e,f =>
  if D (e<c) then Q (sG p0 f) fun a=>if !a.2.2 then U (az.mk (aU.mk (ae.mk [] []) (bA.mk 0 0 0 0 0 0 n) 0 0 0 0 0) (bh.mk []) (aT.mk [] []),n) else Q (app d [a.1]) fun t=>jx c p0 g h i j k l m o p q r s u t (W J (e+1)) a.2.1 else jy g p0 h i j k l m o c p q r s d aY [] 0 f
def km (p0:List Int):Option (az×Bool) :=
 Q (oy p0 4) fun a=>if !a.2.2 then U (az.mk (aU.mk (ae.mk [] []) (bA.mk 0 0 0 0 0 0 n) 0 0 0 0 0) (bh.mk []) (aT.mk [] []),n) else Q (mX a.1) fun c=>Q (eX p0 a.2.1 12) fun a=>if (!c.2)||(!a.2.2) then U (az.mk (aU.mk (ae.mk [] []) (bA.mk 0 0 0 0 0 0 n) 0 0 0 0 0) (bh.mk []) (aT.mk [] []),n) else Q (idx a.1 0) fun d=>Q (idx a.1 1) fun e=>Q (idx a.1 2) fun f=>Q (idx a.1 3) fun g=>Q (idx a.1 4) fun h=>Q (idx a.1 5) fun i=>Q (idx a.1 6) fun j=>Q (idx a.1 7) fun k=>Q (idx a.1 8) fun l=>Q (idx a.1 9) fun m=>Q (idx a.1 10) fun o=>Q (idx a.1 11) fun p=>Q (lx (aU.mk c.1 (bA.mk d e f g h i (j==1)) k l m o p)) fun q=>if !q then U (az.mk (aU.mk (ae.mk [] []) (bA.mk 0 0 0 0 0 0 n) 0 0 0 0 0) (bh.mk []) (aT.mk [] []),n) else jx k p0 c d e f g h i j l m o p aY [] 0 a.2.1
def vP (p0:List Int):Option (az×Int) :=
 if D ((p0.length:Int)<8) then U (az.mk (aU.mk (ae.mk [] []) (bA.mk 0 0 0 0 0 0 n) 0 0 0 0 0) (bh.mk []) (aT.mk [] []),1) else Q (idx p0 0) fun a=>Q (if a != 83 then U y else Q (idx p0 1) fun a=>U (a != 80)) fun u14=>Q (if u14 then U y else Q (idx p0 2) fun a=>U (a != 78)) fun u19=>if u19 then U (az.mk (aU.mk (ae.mk [] []) (bA.mk 0 0 0 0 0 0 n) 0 0 0 0 0) (bh.mk []) (aT.mk [] []),2) else Q (idx p0 3) fun a=>if a != 1 then U (az.mk (aU.mk (ae.mk [] []) (bA.mk 0 0 0 0 0 0 n) 0 0 0 0 0) (bh.mk []) (aT.mk [] []),3) else Q (sub p0 0 (W J ((p0.length:Int)-4))) fun a=>Q (sub p0 (W J ((p0.length:Int)-4)) (p0.length:Int)) fun c=>Q (gc a) fun a=>if !(eU a==eU c) then U (az.mk (aU.mk (ae.mk [] []) (bA.mk 0 0 0 0 0 0 n) 0 0 0 0 0) (bh.mk []) (aT.mk [] []),4) else Q (sub p0 0 (W J ((p0.length:Int)-4))) fun a=>Q (km a) fun a=>Q (if !a.2 then U y else Q (qF a.1) fun c=>U (!c)) fun c=>if c then U (az.mk (aU.mk (ae.mk [] []) (bA.mk 0 0 0 0 0 0 n) 0 0 0 0 0) (bh.mk []) (aT.mk [] []),5) else Q (fb a.1) fun c=>if !(eU c==eU p0) then U (az.mk (aU.mk (ae.mk [] []) (bA.mk 0 0 0 0 0 0 n) 0 0 0 0 0) (bh.mk []) (aT.mk [] []),5) else U (a.1,0)
def xR (p0:List Int):Option Bool :=
 Q (Ij p0) fun a=>if a then U y else Q (qJ p0) fun c=>Q (vI c) fun a=>Q (vP c) fun d=>if a.2 != d.2 then U n else if a.2 != 0 then Q (if D (a.2≥1)&&D (a.2≤5) then Q (mN a.1) fun d=>U (!d) else U n) fun d=>U d else Q (mN a.1) fun d=>if d then Q (gr a.1) fun a=>U (eU a==eU c) else U n
end
end Go.Vk
