/- The functions of the code, as functions of data. Printed by program. -/
import Derived.Test.YtnjemlncpeekkabGreatDoorVkCu
import Derived.Test.YtnjemlncpeekkabGreatDoorVkBs
import Derived.Test.YtnjemlncpeekkabGreatDoorVkBr
namespace Go.Vk
open Value renaming int → I, slice → S, pointer → O, bool → B
open IntKind renaming i64 → J, u8 → K, wrap → W
open Decidable renaming decide → D
open Bool renaming true → y, false → n
open Option renaming some → U, none → N, bind → Q
noncomputable section
theorem z {α:Sort _}{a:α}:a=a:=Eq.refl a
theorem Y:True:=True.intro
structure ak where
 i_:Int
 h_:Int
 deriving DecidableEq,Inhabited
structure aK where
 F_:List UInt8
 B_:List Int
 M_:List (List UInt8)
 deriving DecidableEq,Inhabited
structure ae where
 c_:List aK
 g_:List (List UInt8)
 deriving DecidableEq,Inhabited
structure bO where
 S_:Int
 Q_:Int
 T_:Int
 r_:Int
 a_:Int
 H_:Int
 O_:Bool
 deriving DecidableEq,Inhabited
structure aZ where
 y_:ae
 d_:bO
 u_:Int
 X_:Int
 Z_:Int
 v_:Int
 w_:Int
 deriving DecidableEq,Inhabited
structure bB where
 x_:List Int
 j_:Int
 deriving DecidableEq,Inhabited
structure aD where
 l_:List Int
 e_:List (List Int)
 deriving DecidableEq,Inhabited
structure aC where
 k_:Int
 j_:Int
 deriving DecidableEq,Inhabited
structure az where
 D_:Bool
 n_:aC
 C_:List Int
 J_:Int
 q_:aD
 K_:Int
 c_:List Int
 r_:Int
 G_:Int
 E_:Int
 deriving DecidableEq,Inhabited
structure am where
 a_:List az
 o_:Int
 deriving DecidableEq,Inhabited
structure au where
 f_:List (List Int)
 deriving DecidableEq,Inhabited
structure cx where
 v_:au
 w_:au
 deriving DecidableEq,Inhabited
structure aA where
 A_:am
 N_:Bool
 s_:am
 z_:cx
 deriving DecidableEq,Inhabited
structure bj where
 u_:List aA
 deriving DecidableEq,Inhabited
structure cq where
 R_:List Int
 Y_:Int
 deriving DecidableEq,Inhabited
structure co where
 I_:Int
 ab_:Int
 deriving DecidableEq,Inhabited
structure cA where
 n_:aC
 W_:co
 deriving DecidableEq,Inhabited
structure dl where
 af_:Int
 ac_:Int
 deriving DecidableEq,Inhabited
structure dW where
 V_:Int
 ae_:Int
 ah_:Int
 ag_:Int
 s_:Int
 z_:Int
 aj_:Bool
 ai_:Bool
 deriving DecidableEq,Inhabited
structure aG where
 U_:Int
 V_:Int
 deriving DecidableEq,Inhabited
structure aW where
 p_:List (List Int)
 t_:List aG
 deriving DecidableEq,Inhabited
structure aF where
 m_:aZ
 aa_:bj
 L_:aW
 deriving DecidableEq,Inhabited
structure dy where
 ad_:List Int
 P_:Bool
 deriving DecidableEq,Inhabited
structure ar where
 b_:Int
 P_:Bool
 deriving DecidableEq,Inhabited
def Kl (A:List Int):Option Bool:=U (D ((A.length:Int)>1048576))
def pJ (A:List Int):Nat→Int→Int→Option ak
 | 0,_,_=>N
 | e+1,c,a=>if (D (a<(A.length:Int))&&D (a<4000)) then Q (idx A a) λd=>pJ A e (gS .and J (W J (W J (W J (c*131)+W J d)+7)) 1073741823) (W J (a+1)) else U (ak.mk 0 c)
def AP (A:List Int):Option ak:=pJ A bc (W J (26583+(A.length:Int))) 0
def nt (C:List Int)(A:ak):Option (Int×ak):=if D (A.i_<(C.length:Int)) then Q (idx C A.i_) λa=>U (gS .and J (W J (gS .and J (gS .xor J (wW J (W J (W J (A.h_*6364136223846793005)+1442695040888963407)) 33) (wW J (W J (W J (A.h_*6364136223846793005)+1442695040888963407)) 45)) 255+W J a)) 255,ak.mk (W J (A.i_+1)) (W J (W J (A.h_*6364136223846793005)+1442695040888963407))) else U (gS .and J (gS .xor J (wW J (W J (W J (A.h_*6364136223846793005)+1442695040888963407)) 33) (wW J (W J (W J (A.h_*6364136223846793005)+1442695040888963407)) 45)) 255,ak.mk A.i_ (W J (W J (A.h_*6364136223846793005)+1442695040888963407)))
def bJ (A:List Int)(E:ak)(C:Int):Option (Int×ak):=if D (C≤0) then U (0,E) else if D (C≤256) then Q (nt A E) λa=>Q (rem a.1 C) λc=>U (c,a.2) else Q (nt A E) λa=>Q (nt A a.2) λc=>Q (nt A c.2) λd=>Q (nt A d.2) λe=>Q (rem (W J (W J (W J (W J (a.1*16777216)+W J (c.1*65536))+W J (d.1*256))+e.1)) C) λa=>U (a,e.2)
def fM (A:List Int)(C:ak)(E:Int):Option (Bool×ak):=Q (bJ A C E) λa=>U ((a.1==0),a.2)
def bh (C:List Int)(E:ak)(A:List Int):Option (Int×ak):=Q (bJ C E (A.length:Int)) λa=>Q (idx A a.1) λc=>U (c,a.2)
def dR (c:Int×ak)(A:List Int)(d:List UInt8):Nat→Int→Int→List Int→Int→Int→Option (aK×ak)
 | 0,_,_,_,_,_=>N
 | k+1,e,f,g,h,i=>if D (i<W J (1+c.1)) then Q (app g [h]) λj=>Q (bJ A (ak.mk e f) 6) λa=>dR c A d k a.2.i_ a.2.h_ j (W J (W J (h+1)+a.1)) (W J (i+1)) else U (aK.mk d g [],ak.mk e f)
def dS (c:Int×ak)(e:List UInt8):Nat→Int→List (List UInt8)→Option (aK×ak)
 | 0,_,_=>N
 | g+1,a,d=>if D (a<W J (2+c.1)) then Q (idx ([[114,101,100],[98,108,117,101],[120],[103,114,101,101,110]]:List (List UInt8)) a) λf=>Q (app d [f]) λf=>dS c e g (W J (a+1)) f else U (aK.mk e [] d,c.2)
def kV (A:List Int)(C:ak)(E:Int):Option (aK×ak):=Q (idx ([[97,103,101],[115,105,122,101],[99,111,108,111,117,114],[107],[108,111,110,103,110,97,109,101]]:List (List UInt8)) (Int.tmod E 5)) λd=>Q (fM A C 2) λa=>if a.1 then Q (bJ A a.2 3) λe=>Q (bh A e.2 [(-9999),(-7),0,3,20]) λc=>dR e A d bc c.2.i_ c.2.h_ [] c.1 0 else Q (bJ A a.2 3) λa=>dS a d bc 0 []
def ky (d:Int×ak)(A:List Int)(e:List (List UInt8)):Nat→Int→Int→List aK→Int→Option (ae×ak)
 | 0,_,_,_,_=>N
 | j+1,f,g,h,c=>if D (c<W J (1+d.1)) then Q (kV A (ak.mk f g) c) λa=>Q (app h [a.1]) λi=>ky d A e j a.2.i_ a.2.h_ i (W J (c+1)) else U (ae.mk h e,ak.mk f g)
def nj (A:List Int)(a c:Int)(d:List (List UInt8)):Option (ae×ak):=Q (bJ A (ak.mk a c) 5) λa=>ky a A d bc a.2.i_ a.2.h_ [] 0
def tR (A:List Int)(C:ak):Option (ae×ak):=Q (fM A C 3) λa=>if a.1 then Q (app [[110,111],[121,101,115]] [[112,101,114,104,97,112,115]]) λc=>nj A a.2.i_ a.2.h_ c else nj A a.2.i_ a.2.h_ [[110,111],[121,101,115]]
def me (A:List Int)(C:ak):Option (bO×ak):=Q (bh A C [1,1,2,3,9]) λa=>Q (bh A a.2 [0,50,200,500,999]) λc=>Q (bh A c.2 [1,4,10,25,200]) λd=>Q (bh A d.2 [0,1,2,4,6,6]) λe=>Q (bh A e.2 [1,3,7,15,31,31]) λf=>Q (bh A f.2 [62,63,80,100,150,2000]) λg=>Q (fM A g.2 2) λh=>U (bO.mk a.1 c.1 d.1 e.1 f.1 g.1 h.1,h.2)
def nk (A:List Int)(d:ae×ak)(a:bO×ak)(c e i j k l:Int):Option (aZ×ak):=Q (bJ A (ak.mk c e) 3) λe=>Q (bJ A e.2 (d.1.c_.length:Int)) λf=>Q (bh A f.2 [1,6,6]) λg=>Q (bJ A g.2 2) λc=>Q (bJ A c.2 3) λh=>U (aZ.mk d.1 (bO.mk i a.1.Q_ j k l a.1.H_ a.1.O_) (W J (1+e.1)) (W J (1+f.1)) g.1 (W J (1+c.1)) (W J (W J (1+c.1)+h.1)),h.2)
def uC (A:List Int)(C:ak):Option (aZ×ak):=Q (tR A C) λe=>Q (me A e.2) λa=>Q (fM A a.2 2) λc=>if c.1 then Q (bh A c.2 [4,10]) λd=>nk A e a d.2.i_ d.2.h_ 1 d.1 6 31 else nk A e a c.2.i_ c.2.h_ a.1.S_ a.1.T_ a.1.r_ a.1.a_
def jF (C:Int)(A:List Int):Nat→Int→Int→List Int→Int→Option ((List Int)×ak)
 | 0,_,_,_,_=>N
 | h+1,c,d,e,f=>if D (f<C) then Q (nt A (ak.mk c d)) λa=>Q (app e [W K a.1]) λg=>jF C A h a.2.i_ a.2.h_ g (W J (f+1)) else U (e,ak.mk c d)
def lY (C:List Int)(A:ak)(E:Int):Option ((List Int)×ak):=jF E C bc A.i_ A.h_ [] 0
def dp (A:bB):Option bB:=Q (app [] A.x_) λa=>U (bB.mk a A.j_)
def aU (A E C:Int):Option Bool:=U (D (A≥E)&&D (A≤C))
def ql (A:List UInt8):Nat→Int→Option Bool
 | 0,_=>N
 | d+1,a=>if D (a<(A.length:Int)) then Q (idx A a) λc=>Q (if D ((c.toNat:Int)<97) then U y else Q (idx A a) λc=>U (D ((c.toNat:Int)>122))) λc=>if c then U n else ql A d (W J (a+1)) else U y
def wq (A:List UInt8):Option Bool:=Q (aU (A.length:Int) 1 8) λa=>if !a then U n else ql A bc 0
def lJ (a:Int)(A:List (List UInt8))(d:Int→Option Bool):Nat→Int→Option Bool
 | 0,_=>N
 | g+1,c=>if D (c<a) then Q (idx A a) λe=>Q (idx A c) λf=>if e==f then U n else lJ a A d g (W J (c+1)) else d (W J (a+1))
def jd (A:List (List UInt8)):Nat→Int→Option Bool
 | 0,_=>N
 | d+1,a=>if D (a<(A.length:Int)) then Q (idx A a) λc=>Q (wq c) λc=>if !c then U n else lJ a A (jd A d) bc 0 else U y
def ub (A:List (List UInt8)):Option Bool:=jd A bc 0
def oB (A:aK):Nat→Int→Option Bool
 | 0,_=>N
 | e+1,a=>if D (a<(A.B_.length:Int)) then Q (idx A.B_ a) λc=>Q (aU c (-9999) 9998) λc=>Q (if !c then U y else Q (if D (a>0) then Q (idx A.B_ a) λc=>Q (idx A.B_ (W J (a-1))) λd=>U (D (c≤d)) else U n) λc=>U c) λc=>if c then U n else oB A e (W J (a+1)) else U y
def oZ (A:aK):Option Bool:=Q (wq A.F_) λa=>if !a then U n else if ((A.B_.length:Int)==0) then Q (aU (A.M_.length:Int) 2 4) λa=>Q (if a then Q (ub A.M_) λa=>U a else U n) λu21=>U u21 else if (D ((A.M_.length:Int)>0)||D ((A.B_.length:Int)>3)) then U n else oB A bc 0
def kJ (a:Int)(A:ae)(f:Int→Option Bool):Nat→Int→Option Bool
 | 0,_=>N
 | g+1,c=>if D (c<a) then Q (idx A.c_ a) λd=>Q (idx A.c_ c) λe=>if d.F_==e.F_ then U n else kJ a A f g (W J (c+1)) else f (W J (a+1))
def gp (A:ae):Nat→Int→Option Bool
 | 0,_=>N
 | d+1,a=>if D (a<(A.c_.length:Int)) then Q (idx A.c_ a) λc=>Q (oZ c) λc=>if !c then U n else kJ a A (gp A d) bc 0 else U y
def fH (A:ae):Option Bool:=Q (aU (A.c_.length:Int) 1 5) λa=>Q (if !a then U y else Q (aU (A.g_.length:Int) 2 3) λa=>U (!a)) λu19=>Q (if u19 then U y else Q (ub A.g_) λa=>U (!a)) λa=>if a then U n else gp A bc 0
def qR (A:bO):Option Bool:=Q (aU A.S_ 1 9) λa=>Q (if a then Q (aU A.Q_ 0 999) λa=>U a else U n) λu13=>Q (if u13 then Q (aU A.T_ 1 200) λa=>U a else U n) λu18=>Q (if u18 then Q (aU A.r_ 0 6) λa=>U a else U n) λa=>Q (if a then Q (aU A.a_ 1 31) λa=>U a else U n) λa=>Q (if a then Q (aU A.H_ 62 2000) λa=>U a else U n) λa=>U a
def lz (A:Int):Option (List Int):=if A==1 then U ([24109,48218,60273,64291,65296,65497,65530]:List Int) else if A==6 then U ([162,1137,4061,9909,18681,29208,39734]:List Int) else U ([]:List Int)
def lZ (A:aZ):Option Bool:=Q (fH A.y_) λa=>Q (if a then Q (qR A.d_) λa=>U a else U n) λu19=>Q (if u19 then Q (aU A.u_ 1 4) λa=>U a else U n) λa=>Q (if a then Q (aU A.X_ 1 (A.y_.c_.length:Int)) λa=>U a else U n) λa=>Q (if a then Q (lz A.Z_) λa=>U (D ((a.length:Int)>0)) else U n) λa=>Q (if a then Q (aU A.v_ 1 9) λa=>U a else U n) λa=>Q (if a then Q (aU A.w_ 1 9) λa=>U a else U n) λa=>U (a&&D (A.v_≤A.w_))
def mn (c:List Int)(h:(List Int)→Int→Option Int)(d:Int):Nat→List Int→Int→Option Int
 | 0,_,_=>N
 | i+1,e,a=>if D (a<(c.length:Int)) then Q (idx c (W J (a-1))) λf=>Q (idx c a) λg=>Q (app e [W J (f+g)]) λf=>mn c h d i f (W J (a+1)) else Q (app e [1]) λa=>h a (W J (d+1))
def eT (A C:Int):Nat→List Int→Int→Option Int
 | 0,_,_=>N
 | d+1,c,a=>if D (a<A) then mn c (eT A C d) a bc [1] 1 else Q (idx c C) λa=>U a
def pF (A C:Int):Option Int:=Q (aU A 0 20) λa=>Q (if !a then U y else Q (aU C 0 A) λa=>U (!a)) λu12=>if u12 then U 0 else eT A C bc [1] 0
def qU (A:bB):Option Bool:=Q (if D ((A.x_.length:Int)≤600) then Q (aU A.j_ 0 (A.x_.length:Int)) λa=>U a else U n) λu14=>U u14
def zQ (A:bB):Option Int:=Q (qU A) λa=>if !a then U 0 else U (W J ((A.x_.length:Int)-A.j_))
def Ay (A:bB):Option (bB×Int×Bool):=Q (dp A) λa=>Q (zQ A) λc=>if D (c<2) then U (a,0,n) else Q (idx A.x_ A.j_) λc=>Q (idx A.x_ (W J (A.j_+1))) λd=>U (bB.mk a.x_ (W J (A.j_+2)),W J (W J (W J c*256)+W J d),y)
def ym (A:bB)(C:Int):Option (bB×Int×Bool):=Q (Ay A) λa=>Q (if !a.2.2 then U y else Q (aU C 1 65536) λc=>U (!c)) λc=>if c then Q (dp A) λc=>U (c,0,n) else Q (rem a.2.1 C) λc=>U (a.1,c,y)
def kL (A C:Int):Nat→Int→List Int→Int→Option (List Int)
 | 0,_,_,_=>N
 | f+1,d,a,c=>if D ((a.length:Int)<A) then Q (pF (W J (W J (C-c)-1)) (W J (W J (A-(a.length:Int))-1))) λe=>if D (d<e) then Q (app a [c]) λg=>kL A C f d g (W J (c+1)) else kL A C f (W J (d-e)) a (W J (c+1)) else U a
def pS (C E A:Int):Option (List Int):=Q (pF C E) λa=>Q (aU A 0 (W J (a-1))) λa=>if !a then U ([]:List Int) else kL E C bc A [] 0
def pC (C:bB)(E A:Int):Option (bB×(List Int)×Bool):=Q (pF E A) λa=>Q (ym C a) λa=>if !a.2.2 then Q (dp C) λc=>U (c,[],n) else Q (pS E A a.2.1) λc=>U (a.1,c,y)
def pu (A:List Int)(C:ae):Nat→Int→Option Bool
 | 0,_=>N
 | e+1,a=>if D (a<(A.length:Int)) then Q (idx A a) λc=>Q (aU c 0 (W J ((C.c_.length:Int)-1))) λc=>Q (if !c then U y else Q (if D (a>0) then Q (idx A a) λc=>Q (idx A (W J (a-1))) λd=>U (D (c≤d)) else U n) λc=>U c) λc=>if c then U n else pu A C e (W J (a+1)) else U y
def lV (A:ae)(C:List Int):Option Bool:=Q (fH A) λa=>if ((!a)||((C.length:Int)==0)) then U n else pu C A bc 0
def kQ (A:aK):Option Int:=Q (oZ A) λa=>if !a then U 0 else if D ((A.B_.length:Int)>0) then U (W J ((A.B_.length:Int)+1)) else U (A.M_.length:Int)
def my (A:ae)(c:List Int):Nat→List (List Int)→Int→Option aD
 | 0,_,_=>N
 | f+1,d,a=>if D (a<(A.c_.length:Int)) then Q (idx A.c_ a) λe=>Q (kQ e) λe=>Q (mk (0:Int) (W J (e*(A.g_.length:Int)))) λe=>Q (app d [e]) λe=>my A c f e (W J (a+1)) else U (aD.mk c d)
def mi (A:ae):Option aD:=Q (fH A) λa=>if !a then U (aD.mk [] []) else Q (mk (0:Int) (A.g_.length:Int)) λa=>my A a bc [] 0
def ph (A:ae)(C:List Int):Option am:=Q (lV A C) λa=>if !a then U (am.mk [] 0) else Q (mi A) λa=>Q (app [] C) λc=>U (am.mk [az.mk y (aC.mk 0 0) [] 0 a 0 c 0 (-1) 0] 0)
def rr (A:aZ)(C:bB):Option (am×bB×Bool):=Q (pC C (A.y_.c_.length:Int) A.X_) λa=>if !a.2.2 then Q (dp C) λc=>U (am.mk [] 0,c,n) else Q (ph A.y_ a.2.1) λc=>U (c,a.1,y)
def qw (C:aZ)(A:bB):Option (aA×bB×Bool):=Q (lZ C) λa=>if !a then Q (dp A) λa=>U (aA.mk (am.mk [] 0) n (am.mk [] 0) (cx.mk (au.mk []) (au.mk [])),a,n) else Q (rr C A) λa=>if !a.2.2 then Q (dp A) λc=>U (aA.mk (am.mk [] 0) n (am.mk [] 0) (cx.mk (au.mk []) (au.mk [])),c,n) else U (aA.mk a.1 n (am.mk [] 0) (cx.mk (au.mk []) (au.mk [])),a.2.1,y)
def iL (A:aZ)(C:bB):Nat→List aA→List Int→Int→Int→Option (bj×bB×Bool)
 | 0,_,_,_,_=>N
 | h+1,c,d,e,f=>if D (f<A.u_) then Q (qw A (bB.mk d e)) λa=>if !a.2.2 then Q (dp C) λg=>U (bj.mk [],g,n) else Q (app c [a.1]) λg=>iL A C h g a.2.1.x_ a.2.1.j_ (W J (f+1)) else U (bj.mk c,bB.mk d e,y)
def tI (A:aZ)(C:bB):Option (bj×bB×Bool):=Q (dp C) λa=>Q (lZ A) λc=>if !c then U (bj.mk [],a,n) else iL A C bc [] a.x_ a.j_ 0
def mU (e:List Int)(g:Int→Int→List Int→Int→Option (cq×ak))(f a c d:Int):Option (cq×ak):=Q (app e [d]) λd=>g a c d (W J (f+1))
def gj (A:ae)(C:List Int):Nat→Int→Int→List Int→Int→Option (cq×ak)
 | 0,_,_,_,_=>N
 | h+1,f,g,c,d=>if D (d<(A.c_.length:Int)) then Q (idx A.c_ d) λa=>Q (kQ a) λa=>Q (bJ C (ak.mk f g) a) λe=>Q (fM C e.2 9) λa=>if a.1 then mU c (gj A C h) d a.2.i_ a.2.h_ (-1) else mU c (gj A C h) d a.2.i_ a.2.h_ e.1 else Q (bJ C (ak.mk f g) (A.g_.length:Int)) λd=>Q (if D ((c.length:Int)>0) then Q (fM C d.2 5) λa=>U ((!a.1),a.2.i_,a.2.h_) else U (n,d.2.i_,d.2.h_)) λa=>if (a.1&&D ((A.g_.length:Int)>0)) then Q (idx c 0) λe=>Q (rem (W J (e+1)) (A.g_.length:Int)) λe=>U (cq.mk c e,ak.mk a.2.1 a.2.2) else U (cq.mk c d.1,ak.mk a.2.1 a.2.2)
def rz (C:List Int)(A:ak)(E:ae):Option (cq×ak):=gj E C bc A.i_ A.h_ [] 0
def qN (F:List Int)(C:ak)(A:aZ)(G E:Int):Option (cq×ak):=Q (rz F C A.y_) λa=>if D (G≥E) then Q (rem (W J (a.1.Y_+1)) (A.y_.g_.length:Int)) λc=>U (cq.mk a.1.R_ c,a.2) else U (a.1,a.2)
def fx (d:Int)(A:aD)(e:Int)(C:ae)(a:Int)(i:Int→Option Bool):Nat→Int→Int→Option Bool
 | 0,_,_=>N
 | j+1,f,c=>if D (c<d) then Q (idx A.e_ e) λg=>Q (idx g (W J (W J (c*(C.g_.length:Int))+a))) λg=>Q (aU g 0 999) λh=>if !h then U n else fx d A e C a i j (W J (f+g)) (W J (c+1)) else Q (idx A.l_ a) λc=>if D (f>c) then U n else i (W J (a+1))
def cZ (A:ae)(c:Int)(C:aD)(a:Int)(e:Int→Option Bool):Nat→Int→Option Bool
 | 0,_=>N
 | f+1,d=>if D (d<(A.g_.length:Int)) then fx c C a A d (cZ A c C a e f) bc 0 0 else e (W J (a+1))
def eD (C:aD)(A:ae):Nat→Int→Option Bool
 | 0,_=>N
 | e+1,a=>if D (a<(C.e_.length:Int)) then Q (idx A.c_ a) λc=>Q (kQ c) λc=>Q (idx C.e_ a) λd=>if ((d.length:Int) != W J (c*(A.g_.length:Int))) then U n else cZ A c C a (eD C A e) bc 0 else U y
def ij (A:aD)(C:ae):Nat→Int→Int→Option Bool
 | 0,_,_=>N
 | e+1,c,a=>if D (a<(A.l_.length:Int)) then Q (idx A.l_ a) λd=>Q (aU d 0 999) λd=>if !d then U n else Q (idx A.l_ a) λd=>ij A C e (W J (c+d)) (W J (a+1)) else if D (c>999) then U n else if ((A.e_.length:Int)==0) then U y else if ((A.e_.length:Int) != (C.c_.length:Int)) then U n else eD A C bc 0
def jf (A:ae)(C:aD):Option Bool:=Q (fH A) λa=>if ((!a)||((C.l_.length:Int) != (A.g_.length:Int))) then U n else ij C A bc 0 0
def mC (A:aD):Nat→Int→Int→Option Int
 | 0,_,_=>N
 | e+1,c,a=>if D (a<(A.l_.length:Int)) then Q (idx A.l_ a) λd=>mC A e (W J (c+d)) (W J (a+1)) else U c
def gb (C:ae)(A:aD):Option Int:=Q (jf C A) λa=>if !a then U 0 else mC A bc 0 0
def ry (C:ae)(A:az):Option Bool:=Q (if (((!(A.n_.k_==0&&(A.n_.j_==0&&y)))||D ((A.C_.length:Int)>0))||(A.J_ != 0)) then U y else Q (jf C A.q_) λa=>U (!a)) λa=>Q (if a then U y else Q (lV C A.c_) λa=>U (!a)) λa=>if a then U n else if ((A.q_.e_.length:Int)==0) then U (A.K_==0) else Q (gb C A.q_) λa=>Q (aU A.K_ 0 a) λa=>U a
def ln (C:ae)(A:aC):Option Bool:=Q (fH C) λa=>Q (if !a then U y else Q (aU A.k_ 0 (W J ((C.c_.length:Int)-1))) λa=>U (!a)) λu20=>if u20 then U n else Q (idx C.c_ A.k_) λa=>if D ((a.B_.length:Int)>0) then Q (idx C.c_ A.k_) λa=>Q (kQ a) λa=>Q (aU A.j_ (-1) (W J (a-2))) λa=>U a else Q (idx C.c_ A.k_) λa=>Q (kQ a) λa=>Q (aU A.j_ (-1) (W J (a-1))) λa=>U a
def gr (C:ae)(A:aC):Option Int:=Q (ln C A) λa=>if !a then U 0 else if A.j_==(-1) then Q (idx C.c_ A.k_) λa=>Q (kQ a) λa=>U a else U 2
def oz (c:az)(A:Int)(C:am):Nat→Int→Option Bool
 | 0,_=>N
 | f+1,a=>if D (a<(c.C_.length:Int)) then Q (idx c.C_ a) λd=>Q (aU d (W J (A+1)) (W J ((C.a_.length:Int)-1))) λd=>Q (if !d then U y else Q (idx c.C_ a) λd=>Q (idx C.a_ d) λd=>U (d.G_ != A)) λd=>Q (if d then U y else Q (if D (a>0) then Q (idx c.C_ a) λd=>Q (idx c.C_ (W J (a-1))) λe=>U (D (d≤e)) else U n) λd=>U d) λd=>if d then U n else oz c A C f (W J (a+1)) else U y
def pG (A:ae)(E:am)(C:Int):Option Bool:=Q (idx E.a_ C) λa=>Q (ln A a.n_) λc=>Q (if !c then U y else Q (gr A a.n_) λc=>U ((a.C_.length:Int) != c)) λc=>Q (if c then U y else Q (aU a.J_ 0 (W J ((a.C_.length:Int)-1))) λc=>U (!c)) λc=>Q (if c then U y else Q (jf A a.q_) λc=>U (!c)) λc=>Q (if ((c||D ((a.q_.e_.length:Int)>0))||(a.K_ != 0)) then U y else Q (lV A a.c_) λc=>U (!c)) λc=>if c then U n else oz a C E bc 0
def eR (A:List Int)(C:Int):Nat→Int→Option Bool
 | 0,_=>N
 | d+1,a=>if D (a<(A.length:Int)) then Q (idx A a) λc=>if c==C then U y else eR A C d (W J (a+1)) else U n
def vx (A:List Int)(C:Int):Option Bool:=eR A C bc 0
def hH (A:am)(C:ae):Nat→Int→Option Bool
 | 0,_=>N
 | f+1,c=>if D (c<(A.a_.length:Int)) then Q (idx A.a_ c) λa=>Q (aU a.r_ 0 6) λd=>Q (if !d then U y else Q (aU a.E_ 0 A.o_) λd=>U (!d)) λd=>if d then U n else Q (if a.D_ then Q (ry C ({a with D_:=y})) λd=>U (!d) else U n) λd=>Q (if d then U y else Q (if !a.D_ then Q (pG C A c) λd=>U (!d) else U n) λd=>U d) λd=>if d then U n else if c==0 then if ((a.G_ != (-1))||(a.r_ != 0))||(a.E_ != 0) then U n else hH A C f (W J (c+1)) else Q (aU a.G_ 0 (W J (c-1))) λd=>if !d then U n else Q (idx A.a_ a.G_) λd=>Q (if d.D_ then U y else Q (vx d.C_ c) λe=>U (!e)) λe=>if (e||(W J (d.r_+1) != a.r_))||D (d.E_>a.E_) then U n else hH A C f (W J (c+1)) else U y
def pf (C:ae)(A:am):Option Bool:=Q (fH C) λa=>Q (if !a then U y else Q (aU (A.a_.length:Int) 1 31) λa=>U (!a)) λa=>Q (if a then U y else Q (aU A.o_ 0 99999) λa=>U (!a)) λa=>if a then U n else hH A C bc 0
def eS (A:am):Nat→Int→Int→Option Int
 | 0,_,_=>N
 | e+1,c,a=>if D (a<(A.a_.length:Int)) then Q (if a==0 then U y else Q (idx A.a_ a) λd=>U (D (d.r_>c))) λd=>if d then Q (idx A.a_ a) λd=>eS A e d.r_ (W J (a+1)) else eS A e c (W J (a+1)) else U c
def rt (A:am):Option Int:=eS A bc 0 0
def ko (A:az):Nat→Int→Int→Option Int
 | 0,_,_=>N
 | e+1,c,a=>if D (a<(A.q_.e_.length:Int)) then Q (idx A.q_.e_ a) λd=>ko A e (W J (c+(d.length:Int))) (W J (a+1)) else U c
def rv (A:az):Option Int:=if !A.D_ then U 1 else ko A bc 2 0
def iP (A:am):Nat→Int→Int→Option Int
 | 0,_,_=>N
 | e+1,c,a=>if D (a<(A.a_.length:Int)) then Q (idx A.a_ a) λd=>Q (rv d) λd=>iP A e (W J (c+d)) (W J (a+1)) else U c
def mG (A:am):Option Int:=iP A bc 0 0
def tj (E:ae)(C:bO)(A:am):Option Bool:=Q (pf E A) λa=>Q (if a then Q (qR C) λa=>U a else U n) λa=>Q (if (a&&D ((A.a_.length:Int)≤C.a_)) then Q (rt A) λa=>U (D (a≤C.r_)) else U n) λa=>Q (if a then Q (mG A) λa=>U (D (a≤C.H_)) else U n) λa=>U a
def ml (A:Int):Nat→Int→Int→Option Int
 | 0,_,_=>N
 | d+1,a,c=>if D (c<A) then ml A d (W J (a*2)) (W J (c+1)) else U a
def nF (A:Int):Option Int:=ml A bc 1 0
def mv (A:au)(a:Int)(f:Int→Option Bool):Nat→Int→Option Bool
 | 0,_=>N
 | g+1,c=>Q (idx A.f_ a) λd=>if D (c<(d.length:Int)) then Q (idx A.f_ a) λd=>Q (idx d c) λd=>Q (nF a) λe=>Q (aU d 0 e) λd=>if !d then U n else mv A a f g (W J (c+1)) else f (W J (a+1))
def eA (A:au):Nat→Int→Option Bool
 | 0,_=>N
 | d+1,a=>if D (a<(A.f_.length:Int)) then Q (idx A.f_ a) λc=>Q (aU (c.length:Int) 1 3) λc=>if !c then U n else mv A a (eA A d) bc 0 else U y
def mb (A:au):Option Bool:=if D ((A.f_.length:Int)>8) then U n else eA A bc 0
def AZ (A:cx):Option Bool:=Q (mb A.v_) λa=>Q (if a then Q (mb A.w_) λa=>U a else U n) λu19=>U u19
def rQ (C:aZ)(A:aA):Option Bool:=Q (lZ C) λa=>Q (if !a then U y else Q (tj C.y_ C.d_ A.A_) λa=>U (!a)) λa=>Q (if a then U y else Q (AZ A.z_) λa=>U (!a)) λa=>if a then U n else if A.N_ then Q (tj C.y_ C.d_ A.s_) λa=>U a else U (((A.s_.a_.length:Int)==0)&&(A.s_.o_==0))
def oU (A:bj)(C:aZ):Nat→Int→Option Bool
 | 0,_=>N
 | d+1,a=>if D (a<(A.u_.length:Int)) then Q (idx A.u_ a) λc=>Q (rQ C c) λc=>if !c then U n else oU A C d (W J (a+1)) else U y
def rW (A:aZ)(C:bj):Option Bool:=Q (lZ A) λa=>if ((!a)||((C.u_.length:Int) != A.u_)) then U n else oU C A bc 0
def rC (A:cq)(C:ae):Nat→Int→Option Bool
 | 0,_=>N
 | e+1,a=>if D (a<(A.R_.length:Int)) then Q (idx A.R_ a) λc=>Q (idx C.c_ a) λd=>Q (kQ d) λd=>Q (aU c (-1) (W J (d-1))) λc=>if !c then U n else rC A C e (W J (a+1)) else U y
def tu (A:ae)(C:cq):Option Bool:=Q (fH A) λa=>Q (if ((!a)||((C.R_.length:Int) != (A.c_.length:Int))) then U y else Q (aU C.Y_ (-1) (W J ((A.g_.length:Int)-1))) λa=>U (!a)) λa=>if a then U n else rC C A bc 0
def oH (A:aD)(c:List Int):Nat→List (List Int)→Int→Option aD
 | 0,_,_=>N
 | f+1,d,a=>if D (a<(A.e_.length:Int)) then Q (idx A.e_ a) λe=>Q (app [] e) λe=>Q (app d [e]) λe=>oH A c f e (W J (a+1)) else U (aD.mk c d)
def wn (A:aD):Option aD:=Q (app [] A.l_) λa=>oH A a bc [] 0
def oF (A:az):Option az:=Q (app [] A.C_) λa=>Q (app [] A.c_) λc=>Q (wn A.q_) λd=>U ({A with C_:=a,q_:=d,c_:=c})
def mV (A:am):Nat→List az→Int→Option am
 | 0,_,_=>N
 | e+1,c,a=>if D (a<(A.a_.length:Int)) then Q (idx A.a_ a) λd=>Q (oF d) λd=>Q (app c [d]) λd=>mV A e d (W J (a+1)) else U (am.mk c A.o_)
def kb (A:am):Option am:=mV A bc [] 0
def ni (A:au):Nat→List (List Int)→Int→Option au
 | 0,_,_=>N
 | e+1,c,a=>if D (a<(A.f_.length:Int)) then Q (idx A.f_ a) λd=>Q (app [] d) λd=>Q (app c [d]) λd=>ni A e d (W J (a+1)) else U (au.mk c)
def lQ (A:au):Option au:=ni A bc [] 0
def ud (A:cx):Option cx:=Q (lQ A.v_) λa=>Q (lQ A.w_) λc=>U (cx.mk a c)
def kc (A:aA):Option aA:=Q (kb A.A_) λa=>Q (kb A.s_) λc=>Q (ud A.z_) λd=>U (aA.mk a A.N_ c d)
def na (A:bj):Nat→List aA→Int→Option bj
 | 0,_,_=>N
 | e+1,c,a=>if D (a<(A.u_.length:Int)) then Q (idx A.u_ a) λd=>Q (kc d) λd=>Q (app c [d]) λd=>na A e d (W J (a+1)) else U (bj.mk c)
def tX (A:bj):Option bj:=na A bc [] 0
def iE (A:Bool):Option Int:=if A then U 1 else U 0
def sc (E:ae)(A:aC)(C:Int):Option Int:=Q (ln E A) λa=>Q (if !a then U y else Q (idx E.c_ A.k_) λa=>Q (kQ a) λa=>Q (aU C 0 (W J (a-1))) λa=>U (!a)) λu20=>if u20 then U (-1) else if A.j_==(-1) then U C else Q (idx E.c_ A.k_) λa=>if D ((a.B_.length:Int)>0) then Q (iE (D (C>A.j_))) λa=>U a else Q (iE (C != A.j_)) λa=>U a
def np (C:am)(A:cq)(E:ae):Nat→List Int→Int→Option (List Int)
 | 0,_,_=>N
 | g+1,e,c=>Q (idx C.a_ c) λa=>if !a.D_ then Q (app e [c]) λd=>Q (idx C.a_ c) λa=>Q (idx A.R_ a.n_.k_) λf=>if D (f≥0) then Q (idx A.R_ a.n_.k_) λf=>Q (sc E a.n_ f) λf=>Q (idx a.C_ f) λf=>np C A E g d f else Q (idx a.C_ a.J_) λa=>np C A E g d a else Q (app e [c]) λa=>U a
def AV (C:ae)(E:am)(A:cq):Option (List Int):=np E A C bc [] 0
def wh (A:ae)(E:am)(C:cq):Option (List Int):=Q (pf A E) λa=>Q (if !a then U y else Q (tu A C) λa=>U (!a)) λa=>if a then U ([]:List Int) else Q (AV A E C) λa=>U a
def mx (d:List Int)(C:am)(A:ae):Nat→Int→Option (List Int)
 | 0,_=>N
 | f+1,a=>if D (a≥0) then Q (idx d a) λc=>Q (idx C.a_ c) λc=>Q (gb A c.q_) λe=>if D (e>0) then Q (app [] c.q_.l_) λc=>U c else mx d C A f (W J (a-1)) else Q (mk (0:Int) (A.g_.length:Int)) λa=>U a
def zO (A:ae)(C:am)(E:cq):Option (List Int):=Q (wh A C E) λa=>if ((a.length:Int)==0) then U ([]:List Int) else mx a C A bc (W J ((a.length:Int)-1))
def nG (A:List Int):Nat→Int→Int→Option Int
 | 0,_,_=>N
 | d+1,c,a=>if D (a<(A.length:Int)) then Q (if D (c<0) then U y else Q (idx A a) λe=>Q (idx A c) λf=>U (D (e>f))) λe=>if e then nG A d a (W J (a+1)) else nG A d c (W J (a+1)) else U c
def ve (A:List Int):Option Int:=nG A bc (-1) 0
def vt (C:ae)(E:am)(A:cq):Option Int:=Q (zO C E A) λa=>Q (ve a) λa=>U a
def iw (a:List Int)(A:Int):Nat→Int→Int→Option Int
 | 0,_,_=>N
 | e+1,d,c=>if D (c<(a.length:Int)) then Q (idx a c) λf=>if D (f≤A) then iw a A e (W J (d+1)) (W J (c+1)) else iw a A e d (W J (c+1)) else U d
def vr (C A:Int):Option Int:=Q (lz C) λa=>Q (if ((a.length:Int)==0) then U y else Q (aU A 0 65535) λc=>U (!c)) λu19=>if u19 then U (-1) else iw a A bc 0 0
def xp (C:ae)(E:am)(A:cq):Option Int:=Q (wh C E A) λa=>if ((a.length:Int)==0) then U (-1) else Q (idx a (W J ((a.length:Int)-1))) λa=>U a
def kX (e:aD)(A:cq)(C:ae)(E g:Int):Nat→List (List Int)→Int→Option (aD×Bool)
 | 0,_,_=>N
 | i+1,f,a=>if D (a<(e.e_.length:Int)) then Q (idx A.R_ a) λc=>if D (c≥0) then Q (idx A.R_ a) λc=>Q (idx f a) λd=>Q (idx d (W J (W J (c*(C.g_.length:Int))+A.Y_))) λh=>Q (idx d (W J (W J (c*(C.g_.length:Int))+A.Y_))) λ_=>kX e A C E g i (f.set a.toNat (d.set (W J (W J (c*(C.g_.length:Int))+A.Y_)).toNat (W J (h+E)))) (W J (a+1)) else kX e A C E g i f (W J (a+1)) else U (aD.mk (e.l_.set A.Y_.toNat (W J (g+E))) f,y)
def nN (C:ae)(F:aD)(A:cq)(E:Int):Option (aD×Bool):=Q (wn F) λa=>Q (jf C F) λc=>Q (if !c then U y else Q (tu C A) λc=>U (!c)) λc=>Q (if c||D (A.Y_<0) then U y else Q (aU E 1 7) λc=>U (!c)) λc=>Q (if c then U y else Q (gb C F) λc=>U (D (W J (c+E)>999))) λc=>if c then U (a,n) else Q (idx a.l_ A.Y_) λc=>Q (idx a.l_ A.Y_) λ_=>kX a A C E c bc a.e_ 0
def fW (C:List Int)(c:Int)(A:ae)(f:(List aC)→Int→Option (List aC)):Nat→List aC→Int→Option (List aC)
 | 0,_,_=>N
 | h+1,d,a=>if D (a<4) then Q (idx C c) λe=>Q (ln A (aC.mk e a)) λg=>if g then Q (app d [aC.mk e a]) λe=>fW C c A f h e (W J (a+1)) else fW C c A f h d (W J (a+1)) else f d (W J (c+1))
def fV (A:List Int)(C:ae)(E:Bool):Nat→List aC→Int→Option (List aC)
 | 0,_,_=>N
 | e+1,c,a=>if D (a<(A.length:Int)) then Q (idx A a) λd=>Q (idx C.c_ d) λd=>if (((d.B_.length:Int)==0)&&(!E)) then Q (idx A a) λd=>Q (app c [aC.mk d (-1)]) λd=>fV A C E e d (W J (a+1)) else fW A a C (fV A C E e) bc c 0 else U c
def sB (A:ae)(C:List Int)(E:Bool):Option (List aC):=Q (lV A C) λa=>if !a then U ([]:List aC) else fV C A E bc [] 0
def fN (e:List Int)(E:aD)(A:aC)(d:Int)(C:ae)(h:Int→List Int→Option (List Int)):Nat→Int→List Int→Option (List Int)
 | 0,_,_=>N
 | i+1,a,c=>if D (a<(e.length:Int)) then Q (idx c a) λf=>Q (idx E.e_ A.k_) λg=>Q (idx g (W J (W J (d*(C.g_.length:Int))+a))) λg=>Q (idx c a) λ_=>fN e E A d C h i (W J (a+1)) (c.set a.toNat (W J (f+g))) else h (W J (d+1)) c
def ef (C:ae)(A:aC)(E:Int)(d:List Int)(F:aD):Nat→Int→List Int→Option (List Int)
 | 0,_,_=>N
 | f+1,a,c=>Q (idx C.c_ A.k_) λe=>Q (kQ e) λe=>if D (a<e) then Q (sc C A a) λe=>if e==E then fN d F A a C (ef C A E d F f) bc 0 c else ef C A E d F f (W J (a+1)) c else U c
def nw (A:ae)(E:aD)(C:aC)(F:Int):Option (List Int):=Q (jf A E) λa=>Q (if ((!a)||((E.e_.length:Int)==0)) then U y else Q (ln A C) λa=>U (!a)) λa=>Q (if a then U y else Q (gr A C) λa=>Q (aU F 0 (W J (a-1))) λa=>U (!a)) λa=>if a then U ([]:List Int) else Q (mk (0:Int) (A.g_.length:Int)) λa=>ef A C F a E bc 0 a
def ol (A:List Int):Nat→Int→Int→Option Int
 | 0,_,_=>N
 | e+1,c,a=>if D (a<(A.length:Int)) then Q (idx A a) λd=>ol A e (W J (c+d)) (W J (a+1)) else U c
def pb (A:List Int):Option Int:=ol A bc 0 0
def mY (A:List Int):Nat→Int→Int→Option Int
 | 0,_,_=>N
 | f+1,c,a=>if D (a<(A.length:Int)) then Q (idx A a) λd=>Q (aU d 0 999) λd=>if !d then U (-1) else Q (idx A a) λd=>Q (idx A a) λe=>mY A f (W J (c+W J (d*e))) (W J (a+1)) else U c
def tK (A:List Int):Option Int:=if D ((A.length:Int)>3) then U (-1) else mY A bc 0 0
def nr (A:co):Option Bool:=Q (aU A.I_ 0 4000000000000000) λa=>Q (if a then Q (aU A.ab_ 1 4000000000000000) λa=>U a else U n) λu13=>U u13
def qD  : Nat→Int→Int→Option Int
 | 0,_,_=>N
 | e+1,c,a=>if D (a>0) then Q (rem c a) λd=>qD e a d else U c
def EI (A C:Int):Option Int:=if D (A<0)||D (C<0) then U (-1) else qD bc A C
def xM (A:co):Option co:=Q (nr A) λa=>if !a then U (co.mk 0 0) else Q (EI A.I_ A.ab_) λa=>Q (quo J A.I_ a) λc=>Q (quo J A.ab_ a) λa=>U (co.mk c a)
def mf (a e f:List Int)(h:Int→List Int→List Int→List Int→Option co)(g:Int):Nat→Int→List Int→Option co
 | 0,_,_=>N
 | k+1,c,d=>if D (c<(a.length:Int)) then Q (idx d c) λi=>Q (idx a c) λj=>Q (idx d c) λ_=>mf a e f h g k (W J (c+1)) (d.set c.toNat (W J (i+j))) else Q (pb a) λc=>if D (c>0) then Q (pb a) λc=>Q (app e [c]) λc=>Q (tK a) λa=>Q (app f [a]) λa=>h (W J (g+1)) d c a else h (W J (g+1)) d e f
def pK (e f:List Int)(a c:Int)(g:List Int):Nat→Int→Int→Option co
 | 0,_,_=>N
 | k+1,h,d=>if D (d<(e.length:Int)) then Q (idx f d) λi=>Q (idx e d) λj=>Q (quo J a j) λj=>pK e f a c g k (W J (h+W J (W J (i*c)*j))) (W J (d+1)) else Q (tK g) λd=>Q (xM (co.mk (W J (h-W J (d*a))) (W J (W J (c*c)*a)))) λa=>U a
def pI (a d:List Int)(e:Int)(f:List Int):Nat→Int→Int→Option co
 | 0,_,_=>N
 | i+1,g,c=>if D (c<(a.length:Int)) then Q (idx a c) λh=>pI a d e f i (W J (g*h)) (W J (c+1)) else pK a d g e f bc 0 0
def jT (C:ae)(A:aC)(E:aD):Nat→Int→List Int→List Int→List Int→Option co
 | 0,_,_,_,_=>N
 | g+1,a,c,d,e=>Q (gr C A) λf=>if D (a<f) then Q (nw C E A a) λf=>mf f d e (jT C A E g) a bc 0 c else Q (pb c) λa=>if a==0 then U (co.mk 0 1) else pI d e a c bc 1 0
def yo (A:ae)(C:aD)(E:aC):Option co:=Q (jf A C) λa=>Q (if ((!a)||((C.e_.length:Int)==0)) then U y else Q (ln A E) λa=>U (!a)) λa=>if a then U (co.mk 0 0) else Q (mk (0:Int) (A.g_.length:Int)) λa=>jT A E C bc 0 a [] []
def pM  : Nat→Int→List Int→Option ((List Int)×Bool)
 | 0,_,_=>N
 | e+1,a,c=>if D (a>0) then Q (app c [Int.tmod a 16777216]) λd=>pM e (W J (Int.tdiv a 16777216)) d else U (c,y)
def yz (A:Int):Option ((List Int)×Bool):=if D (A<0) then U (([]:List Int),n) else pM bc A []
def mc (A:List Int):Nat→Int→Option Bool
 | 0,_=>N
 | d+1,a=>if D (a<(A.length:Int)) then Q (idx A a) λc=>Q (aU c 0 16777215) λc=>if !c then U n else mc A d (W J (a+1)) else Q (if ((A.length:Int)==0) then U y else Q (idx A (W J ((A.length:Int)-1))) λa=>U (a != 0)) λa=>U a
def pk (A:List Int):Option Bool:=if D ((A.length:Int)>16) then U n else mc A bc 0
def og (A:List Int):Nat→Int→Option (List Int)
 | 0,_=>N
 | d+1,a=>Q (if D (a>0) then Q (idx A (W J (a-1))) λc=>U (c==0) else U n) λc=>if c then og A d (W J (a-1)) else Q (sub A 0 a) λa=>Q (app [] a) λa=>U a
def wc (A:List Int):Option (List Int):=og A bc (A.length:Int)
def lk (A:List Int)(a:Int)(C:List Int)(i:(List Int)→Int→Option ((List Int)×Bool)):Nat→List Int→Int→Int→Option ((List Int)×Bool)
 | 0,_,_,_=>N
 | j+1,c,e,d=>if D (d<(A.length:Int)) then Q (idx c (W J (a+d))) λf=>Q (idx C a) λg=>Q (idx A d) λh=>Q (idx c (W J (a+d))) λ_=>lk A a C i j (c.set (W J (a+d)).toNat (Int.tmod (W J (W J (f+W J (g*h))+e)) 16777216)) (W J (Int.tdiv (W J (W J (f+W J (g*h))+e)) 16777216)) (W J (d+1)) else Q (idx c (W J (a+(A.length:Int)))) λd=>Q (idx c (W J (a+(A.length:Int)))) λ_=>i (c.set (W J (a+(A.length:Int))).toNat (W J (d+e))) (W J (a+1))
def ls (A C:List Int):Nat→List Int→Int→Option ((List Int)×Bool)
 | 0,_,_=>N
 | d+1,a,c=>if D (c<(A.length:Int)) then lk C c A (ls A C d) bc a 0 0 else Q (wc a) λa=>if D ((a.length:Int)>16) then U (([]:List Int),n) else U (a,y)
def pc (A C:List Int):Option ((List Int)×Bool):=Q (pk A) λa=>Q (if !a then U y else Q (pk C) λa=>U (!a)) λu12=>if u12 then U (([]:List Int),n) else Q (mk (0:Int) (W J (W J ((A.length:Int)+(C.length:Int))+1))) λa=>ls A C bc a 0
def lg (A C:Int):Option (List Int):=Q (yz A) λa=>Q (yz C) λc=>Q (pc a.1 c.1) λa=>U a.1
def Bj (A C:Int):Option Int:=if D (A>C) then U A else U C
def tl (A:List Int)(C:Int):Option Int:=if D (C<(A.length:Int)) then Q (idx A C) λa=>U a else U 0
def oI (A C:List Int):Nat→Int→Option Int
 | 0,_=>N
 | e+1,a=>if D (a≥0) then Q (tl A a) λc=>Q (tl C a) λd=>if D (c<d) then U (-1) else if D (c>d) then U 1 else oI A C e (W J (a-1)) else U 0
def tc (A C:List Int):Option Int:=Q (pk A) λa=>Q (if !a then U y else Q (pk C) λa=>U (!a)) λu12=>if u12 then U (-2) else Q (Bj (A.length:Int) (C.length:Int)) λa=>oI A C bc (W J (a-1))
def nz (A C:co):Option Int:=Q (nr A) λa=>Q (if !a then U y else Q (nr C) λa=>U (!a)) λu14=>if u14 then U (-2) else Q (lg A.I_ C.ab_) λa=>Q (lg C.I_ A.ab_) λc=>Q (tc a c) λa=>U a
def mL (a:List aC)(A:ae)(C:aD):Nat→Int→Int→Int→Int→Int→Option (aC×co)
 | 0,_,_,_,_,_=>N
 | j+1,h,i,e,f,c=>if D (c<(a.length:Int)) then Q (idx a c) λd=>Q (yo A C d) λd=>Q (nz d (co.mk e f)) λg=>if D (g>0) then Q (idx a c) λg=>mL a A C j g.k_ g.j_ d.I_ d.ab_ (W J (c+1)) else mL a A C j h i e f (W J (c+1)) else U (aC.mk h i,co.mk e f)
def yX (A:ae)(C:aD)(E:Int)(F:Bool):Option (aC×co):=Q (jf A C) λa=>Q (if ((!a)||((C.e_.length:Int)==0)) then U y else Q (aU E 0 (W J ((A.c_.length:Int)-1))) λa=>U (!a)) λa=>if a then U (aC.mk 0 0,co.mk 0 0) else Q (sB A [E] F) λc=>Q (idx c 0) λa=>Q (yo A C a) λd=>mL c A C bc a.k_ a.j_ d.I_ d.ab_ 1
def DU (A C:cA):Option Bool:=Q (nz A.W_ C.W_) λa=>U (a==1)
def ru (a:List cA)(c:aC×co)(g:Int→List cA→Option (List cA))(e:Int):Nat→Int→Option (List cA)
 | 0,_=>N
 | h+1,d=>Q (if D (d>0) then Q (idx a (W J (d-1))) λf=>Q (DU (cA.mk c.1 c.2) f) λf=>U f else U n) λf=>if f then ru a c g e h (W J (d-1)) else Q (sub a 0 d) λf=>Q (app [] f) λf=>Q (app f [cA.mk c.1 c.2]) λc=>Q (sub a d (a.length:Int)) λa=>Q (app c a) λa=>g (W J (e+1)) a
def ke (A:List Int)(E:ae)(F:aD)(C:Bool):Nat→Int→List cA→Option (List cA)
 | 0,_,_=>N
 | e+1,a,c=>if D (a<(A.length:Int)) then Q (idx A a) λd=>Q (yX E F d C) λd=>ru c d (ke A E F C e) a bc (c.length:Int) else U c
def Da (A:ae)(C:aD)(E:List Int)(F:Bool):Option (List cA):=Q (jf A C) λa=>Q (if ((!a)||((C.e_.length:Int)==0)) then U y else Q (lV A E) λa=>U (!a)) λa=>if a then U ([]:List cA) else ke E A C F bc 0 []
def oC (a:List cA)(c d:Int):Option (cA×co×Bool):=Q (idx a 0) λa=>U (a,co.mk c d,y)
def vU (E:ae)(F:aD)(C:List Int)(A:Bool):Option (cA×co×Bool):=Q (Da E F C A) λa=>if ((a.length:Int)==0) then U (cA.mk (aC.mk 0 0) (co.mk 0 0),co.mk 0 0,n) else if D ((a.length:Int)>1) then Q (idx a 1) λc=>oC a c.W_.I_ c.W_.ab_ else oC a 0 1
def nM (A:co):Option Bool:=Q (nr A) λa=>U (a&&D (A.I_≤A.ab_))
def qC (a:List Int)(f:(List Int)→Int→Int→Option ((List Int)×Bool))(c d e:Int):Option ((List Int)×Bool):=Q (app a [e]) λa=>f a d (W J (c+1))
def iU (A C:List Int):Nat→List Int→Int→Int→Option ((List Int)×Bool)
 | 0,_,_,_=>N
 | g+1,c,d,a=>if D (a<(A.length:Int)) then Q (idx A a) λe=>Q (tl C a) λf=>if D (W J (W J (e-f)-d)<0) then qC c (iU A C g) a 1 (W J (W J (W J (e-f)-d)+16777216)) else qC c (iU A C g) a 0 (W J (W J (e-f)-d)) else Q (wc c) λa=>U (a,y)
def zy (A C:List Int):Option ((List Int)×Bool):=Q (pk A) λa=>Q (if !a then U y else Q (pk C) λa=>U (!a)) λu13=>Q (if u13 then U y else Q (tc A C) λa=>U (D (a<0))) λu18=>if u18 then U (([]:List Int),n) else iU A C bc [] 0 0
def xm (A C:co):Option ((List Int)×(List Int)×Bool):=Q (nr A) λa=>Q (if !a then U y else Q (nr C) λa=>U (!a)) λu14=>Q (if u14 then U y else Q (nz A C) λa=>U (D (a<0))) λu19=>if u19 then U (([]:List Int),[],n) else Q (lg A.I_ C.ab_) λa=>Q (lg C.I_ A.ab_) λc=>Q (zy a c) λa=>Q (lg A.ab_ C.ab_) λc=>U (a.1,c,y)
def xT (A:Int):Option Int:=Q (aU A 1 9) λa=>if !a then U 0 else U (W J (Int.tdiv (W J (W J (A*2302585)+999)) 1000))
def zo (A C:co)(F E:Int):Option Bool:=Q (nM A) λa=>Q (if !a then U y else Q (nM C) λa=>U (!a)) λu14=>Q (if u14 then U y else Q (nz A C) λa=>U (D (a<0))) λu19=>Q (if u19 then U y else Q (aU F 1 999) λa=>U (!a)) λa=>Q (if a then U y else Q (aU E 1 9) λa=>U (!a)) λa=>if a then U n else Q (xm A C) λa=>Q (pc a.1 a.1) λc=>Q (lg 2000 F) λd=>Q (pc c.1 d) λc=>Q (pc a.2.1 a.2.1) λa=>Q (xT E) λd=>Q (lg d 1) λd=>Q (pc a.1 d) λa=>Q (tc c.1 a.1) λa=>U (D (a>0))
def Db (A:bO)(C:Int):Option Bool:=Q (qR A) λa=>Q (if a then Q (aU C 1 999) λa=>U a else U n) λu13=>Q (if u13 then Q (xT A.S_) λa=>U (D (W J (1000*a)<W J (W J (W J (2*C)*A.Q_)*A.Q_))) else U n) λu18=>U u18
def xI (F:bO)(A E:co)(C:Int):Option Int:=Q (qR F) λa=>Q (if !a then U y else Q (aU C 1 999) λa=>U (!a)) λu15=>Q (if u15 then U y else Q (nM A) λa=>U (!a)) λu20=>Q (if u20 then U y else Q (nM E) λa=>U (!a)) λa=>Q (if a then U y else Q (nz A E) λa=>U (D (a<0))) λa=>if a then U 4 else if A.I_==0 then U 3 else Q (zo A E C F.S_) λa=>if a then U 1 else Q (Db F C) λa=>if a then U 2 else U 0
def Bu (C:ae)(E:bO)(A:az):Option (aC×Int):=Q (vU C A.q_ A.c_ E.O_) λa=>if (!A.D_)||(!a.2.2) then U (aC.mk 0 0,4) else Q (gb C A.q_) λc=>Q (xI E a.1.W_ a.2.1 c) λc=>if (c==1)||(c==2) then U (a.1.n_,c) else U (aC.mk 0 0,c)
def jv (C:ae)(A:aC)(E:aD):Nat→List Int→Int→Option Int
 | 0,_,_=>N
 | e+1,c,a=>Q (gr C A) λd=>if D (a<d) then Q (nw C E A a) λd=>if ((d.length:Int)==0) then U (-1) else Q (pb d) λd=>Q (app c [d]) λd=>jv C A E e d (W J (a+1)) else Q (ve c) λa=>U a
def vP (C:ae)(E:aD)(A:aC):Option Int:=jv C A E bc [] 0
def xS (A:aD):Option aD:=Q (app [] A.l_) λa=>U (aD.mk a [])
def ku (l:List (List Int))(E:ae)(c:az)(A:Int)(F:am)(C:aC)(e:Int)(f:aD)(g:List Int)(h i:az)(k:am):Nat→List az→List Int→Int→Option (am×Bool)
 | 0,_,_,_=>N
 | q+1,a,j,d=>if D (d<(l.length:Int)) then Q (app j [(a.length:Int)]) λm=>Q (idx l d) λo=>Q (mi E) λp=>Q (app [] o) λo=>Q (app a [az.mk y (aC.mk 0 0) [] 0 p 0 o (W J (c.r_+1)) A F.o_]) λo=>ku l E c A F C e f g h i k q o m (W J (d+1)) else Q (idx a A) λ_=>U (am.mk (a.set A.toNat (az.mk n C j e f 0 g c.r_ h.G_ i.E_)) k.o_,y)
def kr (d:List (List Int))(E:ae)(a A:am)(C:Int)(F:aC):Nat→Int→Option (am×Bool)
 | 0,_=>N
 | f+1,c=>if D (c<(d.length:Int)) then Q (idx d c) λe=>Q (lV E e) λe=>if !e then U (a,n) else kr d E a A C F f (W J (c+1)) else Q (idx A.a_ C) λc=>if ((c.r_==6)||D (W J ((A.a_.length:Int)+(d.length:Int))>31)) then U (a,n) else Q (idx A.a_ C) λc=>Q (idx A.a_ C) λe=>Q (idx A.a_ C) λf=>Q (idx A.a_ C) λg=>Q (idx A.a_ C) λh=>Q (idx A.a_ C) λi=>Q (vP E c.q_ F) λc=>Q (xS e.q_) λe=>Q (app [] f.c_) λf=>ku d E g C A F c e f h i a bc a.a_ [] 0
def xF (E:ae)(A:am)(C:Int)(F:aC)(c:List (List Int)):Option (am×Bool):=Q (kb A) λa=>Q (pf E A) λd=>Q (if !d then U y else Q (aU C 0 (W J ((A.a_.length:Int)-1))) λd=>U (!d)) λd=>Q (if d then U y else Q (idx A.a_ C) λd=>U (!d.D_)) λd=>Q (if d then U y else Q (idx A.a_ C) λd=>U ((d.q_.e_.length:Int)==0)) λd=>Q (if d then U y else Q (ln E F) λd=>U (!d)) λd=>Q (if d then U y else Q (gr E F) λd=>U ((c.length:Int) != d)) λd=>if d then U (a,n) else kr c E a A C F bc 0
def gY (A:am):Nat→List Int→Int→Option (List Int)
 | 0,_,_=>N
 | e+1,c,a=>if D (a<(A.a_.length:Int)) then Q (idx A.a_ a) λd=>Q (if d.D_ then Q (idx A.a_ a) λd=>U (D ((d.q_.e_.length:Int)>0)) else U n) λd=>if d then Q (app c [a]) λd=>gY A e d (W J (a+1)) else gY A e c (W J (a+1)) else U c
def qg (A:am):Option (List Int):=gY A bc [] 0
def ua (C:ae)(A:aD):Option Int:=Q (jf C A) λa=>if !a then U 0 else Q (gb C A) λa=>Q (ve A.l_) λc=>Q (idx A.l_ c) λc=>U (W J (a-c))
def lF (a:List Int)(C:am)(A:ae):Nat→Int→Int→Option Int
 | 0,_,_=>N
 | g+1,d,c=>if D (c<(a.length:Int)) then Q (if D (d<0) then U y else Q (idx a c) λe=>Q (idx C.a_ e) λe=>Q (ua A e.q_) λe=>Q (idx C.a_ d) λf=>Q (ua A f.q_) λf=>U (D (e<f))) λe=>if e then Q (idx a c) λe=>lF a C A g e (W J (c+1)) else lF a C A g d (W J (c+1)) else U d
def tD (C:ae)(A:am):Option Int:=Q (pf C A) λa=>if !a then U (-1) else Q (qg A) λa=>lF a A C bc (-1) 0
def pp (c:am)(C:Int)(A:ae):Nat→List az→List Int→Option (am×(List Int))
 | 0,_,_=>N
 | i+1,a,e=>Q (mG (am.mk a c.o_)) λd=>Q (if D (d>C) then Q (tD A (am.mk a c.o_)) λd=>U (D (d≥0)) else U n) λd=>if d then Q (tD A (am.mk a c.o_)) λd=>Q (idx a d) λf=>Q (xS f.q_) λg=>Q (app e [d]) λh=>pp c C A i (a.set d.toNat ({f with q_:=g,K_:=0})) h else U (am.mk a c.o_,e)
def xD (A:ae)(C:am)(E:Int):Option (am×(List Int)):=Q (kb C) λa=>Q (pf A C) λc=>if !c then U (a,[]) else pp a E A bc a.a_ []
def iM (A:ae)(c:aC×Int)(p:Int)(C:am)(q:bB)(d:am)(e:Int)(f:az)(g:aD×Bool)(h:Int)(E:bO):Nat→List (List Int)→List Int→Int→Int→Option (am×bB×Int)
 | 0,_,_,_,_=>N
 | r+1,i,j,k,l=>Q (gr A c.1) λa=>if D (l<a) then Q (pC (bB.mk j k) (A.c_.length:Int) p) λa=>if !a.2.2 then Q (kb C) λm=>Q (dp q) λo=>U (m,o,4) else Q (app i [a.2.1]) λm=>iM A c p C q d e f g h E r m a.1.x_ a.1.j_ (W J (l+1)) else Q (xF A (am.mk (d.a_.set e.toNat ({f with q_:=g.1,K_:=h})) (W J (C.o_+1))) e c.1 i) λa=>Q (xD A a.1 E.H_) λa=>U (a.1,bB.mk j k,1)
def jY (a:am)(g:Int)(i:bB)(c:az)(d:aD×Bool)(C:am)(E:ae)(A:bO)(j e:Int)(f:Bool):Option (am×bB×Int):=Q (idx a.a_ g) λ_=>if !f then Q (dp i) λf=>U (am.mk (a.a_.set g.toNat ({c with q_:=d.1,K_:=e})) (W J (C.o_+1)),f,0) else Q (Bu E A ({c with q_:=d.1,K_:=e})) λf=>Q (if ((f.2 != 1)&&(f.2 != 2))||D (c.r_≥A.r_) then U y else Q (gr E f.1) λh=>U (D (W J ((a.a_.length:Int)+h)>A.a_))) λh=>if h then Q (dp i) λh=>U (am.mk (a.a_.set g.toNat ({c with q_:=d.1,K_:=e})) (W J (C.o_+1)),h,0) else Q (dp i) λh=>iM E f j C i a g c d e A bc [] h.x_ h.j_ 0
def oM (C:ae)(E:bO)(A:am)(F:cq)(g:Int)(f:bB)(h:Int):Option (am×bB×Int):=Q (tj C E A) λa=>Q (if !a then U y else Q (tu C F) λa=>U (!a)) λa=>Q (if a||D (F.Y_<0) then U y else Q (aU g 1 7) λa=>U (!a)) λa=>Q (if a then U y else Q (qU f) λa=>U (!a)) λa=>Q (if a then U y else Q (aU h 1 (C.c_.length:Int)) λa=>U (!a)) λa=>if a then Q (kb A) λa=>Q (dp f) λc=>U (a,c,2) else Q (xp C A F) λd=>Q (if A.o_==99999 then U y else Q (idx A.a_ d) λa=>Q (gb C a.q_) λa=>U (D (a>W J (999-g)))) λa=>if a then Q (kb A) λa=>Q (dp f) λc=>U (a,c,3) else Q (kb A) λe=>Q (idx A.a_ d) λa=>Q (oF a) λa=>Q (nN C a.q_ F g) λc=>if D ((c.1.e_.length:Int)>0) then if D (W J (a.K_+g)≥E.T_) then jY e d f a c A C E h 0 y else jY e d f a c A C E h (W J (a.K_+g)) n else jY e d f a c A C E h a.K_ n
def lw (a d e:Int)(g:(List (List Int))→Int→Option (au×Bool))(c:List (List Int)):Option (au×Bool):=Q (idx c (W J (a+1))) λf=>Q (app f [W J (d+e)]) λd=>g (c.set (W J (a+1)).toNat d) (W J (a+1))
def fb  : Nat→List (List Int)→Int→Option (au×Bool)
 | 0,_,_=>N
 | h+1,c,a=>if D (a<8) then Q (if D (a≥(c.length:Int)) then U y else Q (idx c a) λd=>U (D ((d.length:Int)≤3))) λd=>if d then U (au.mk c,y) else if a==7 then Q (idx c a) λd=>Q (sub d 1 (d.length:Int)) λd=>Q (app [] d) λd=>U (au.mk (c.set a.toNat d),y) else Q (idx c a) λd=>Q (idx d 0) λe=>Q (idx d 1) λf=>Q (sub d 2 (d.length:Int)) λd=>Q (app [] d) λd=>if (W J (a+1)==(c.length:Int)) then Q (app (c.set a.toNat d) [[]]) λg=>lw a e f (fb h) g else lw a e f (fb h) (c.set a.toNat d) else U (au.mk c,y)
def lx (A:Int)(a:List (List Int)):Option (au×Bool):=Q (idx a 0) λc=>Q (app c [A]) λc=>fb bc (a.set (0:Int).toNat c) 0
def qo (C:au)(A:Int):Option (au×Bool):=Q (lQ C) λa=>Q (mb C) λc=>Q (if !c then U y else Q (aU A 0 1) λc=>U (!c)) λc=>if c then U (a,n) else if ((a.f_.length:Int)==0) then Q (app a.f_ [[]]) λc=>lx A c else lx A a.f_
def mW (A:au)(a:Int)(g:(List dl)→Int→Option (List dl)):Nat→List dl→Int→Option (List dl)
 | 0,_,_=>N
 | h+1,d,c=>Q (idx A.f_ a) λe=>if D (c<(e.length:Int)) then Q (idx A.f_ a) λe=>Q (idx e c) λe=>Q (nF a) λf=>Q (app d [dl.mk f e]) λe=>mW A a g h e (W J (c+1)) else g d (W J (a-1))
def jk (A:au):Nat→List dl→Int→Option (List dl)
 | 0,_,_=>N
 | d+1,a,c=>if D (c≥0) then mW A c (jk A d) bc a 0 else U a
def ro (A:au):Option (List dl):=Q (mb A) λa=>if !a then U ([]:List dl) else jk A bc [] (W J ((A.f_.length:Int)-1))
def gy (a:List dl):Nat→Int→Int→Option Int
 | 0,_,_=>N
 | f+1,d,c=>if D (c<(a.length:Int)) then Q (idx a c) λe=>gy a f (W J (d+e.af_)) (W J (c+1)) else U d
def mt (A:au):Option Int:=Q (ro A) λa=>gy a bc 0 0
def ic (a:List dl):Nat→Int→Int→Option Int
 | 0,_,_=>N
 | f+1,d,c=>if D (c<(a.length:Int)) then Q (idx a c) λe=>ic a f (W J (d+e.ac_)) (W J (c+1)) else U d
def nq (A:au):Option Int:=Q (ro A) λa=>ic a bc 0 0
def xJ (C F A E a:Int):Option Bool:=Q (aU C 5 1000) λc=>Q (if !c then U y else Q (aU A 5 1000) λc=>U (!c)) λu12=>Q (if u12 then U y else Q (aU F 0 C) λc=>U (!c)) λu17=>Q (if u17 then U y else Q (aU E 0 A) λc=>U (!c)) λu22=>Q (if u22 then U y else Q (aU a 1 9) λc=>U (!c)) λc=>if c then U n else Q (xT a) λa=>U (D (W J (W J (W J (W J (F*A)-W J (E*C))*W J (W J (F*A)-W J (E*C)))*2000)>W J (W J (W J (a*W J (C+A))*C)*A)))
def ma (c:List dl)(h i A:Int):Nat→Int→Int→Int→Option Int
 | 0,_,_,_=>N
 | k+1,a,d,e=>if D (a<W J ((c.length:Int)-1)) then Q (idx c a) λf=>Q (idx c a) λg=>Q (xJ (W J (d+f.af_)) (W J (e+g.ac_)) (W J (h-W J (d+f.af_))) (W J (i-W J (e+g.ac_))) A) λj=>if j then U (W J (a+1)) else ma c h i A k (W J (a+1)) (W J (d+f.af_)) (W J (e+g.ac_)) else U 0
def AJ (A:au)(C:Int):Option Int:=Q (ro A) λa=>Q (mt A) λc=>Q (nq A) λd=>ma a c d C bc 0 0 0
def sN (A:au):Option (au×Bool):=Q (lQ A) λa=>Q (mb A) λc=>if ((!c)||((A.f_.length:Int)==0)) then U (a,n) else Q (idx a.f_ (W J ((a.f_.length:Int)-1))) λc=>Q (sub c 1 (c.length:Int)) λc=>Q (app [] c) λc=>if ((c.length:Int)==0) then Q (sub (a.f_.set (W J ((a.f_.length:Int)-1)).toNat c) 0 (W J ((a.f_.length:Int)-1))) λd=>U (au.mk d,y) else U (au.mk (a.f_.set (W J ((a.f_.length:Int)-1)).toNat c),y)
def qO (A:Int):Nat→List (List Int)→Int→Option (au×Int)
 | 0,_,_=>N
 | e+1,a,c=>Q (AJ (au.mk a) A) λd=>if D (d>0) then Q (sN (au.mk a)) λd=>qO A e d.1.f_ (W J (c+1)) else U (au.mk a,c)
def yQ (A:au)(C:Int):Option (au×Int):=Q (lQ A) λa=>qO C bc a.f_ 0
def pE (C:au)(E A:Int):Option (au×Bool×Bool):=Q (qo C E) λa=>Q (if !a.2 then U y else Q (aU A 1 9) λc=>U (!c)) λc=>if c then Q (lQ C) λc=>U (c,n,n) else Q (yQ a.1 A) λc=>Q (if D (c.2>0) then Q (nq c.1) λd=>Q (mt a.1) λe=>Q (nq a.1) λa=>Q (mt c.1) λf=>U (D (W J (d*e)>W J (a*f))) else U n) λa=>U (c.1,a,y)
def uk (A:cx)(C F E:Int):Option (cx×Int):=Q (pE A.v_ C F) λa=>Q (pE A.w_ C E) λc=>if (!a.2.2)||(!c.2.2) then Q (ud A) λd=>U (d,3) else if c.2.1 then U (cx.mk (au.mk []) (au.mk []),2) else if a.2.1 then U (cx.mk a.1 c.1,1) else U (cx.mk a.1 c.1,0)
def kP (a:cx×Int)(c d e f g:Int)(h:Bool)(i:List az)(j:Int)(k:Bool)(l:List az)(m:Int)(o:Bool)(p:List Int)(q:Int):Option (aA×bB×dW×Bool):=U (aA.mk (am.mk i j) k (am.mk l m) a.1,bB.mk p q,dW.mk c d e f g a.2 h o,y)
def kH (c:cx×Int)(d e f g h:Int)(C:aZ)(E:aA)(A:bB)(p:List az)(q:Int)(l:Bool)(m:List az)(o:Int)(i:Bool)(j:List Int)(k:Int):Option (aA×bB×dW×Bool):=if c.2==2 then if l then kP c d e f g h i m o n [] 0 y j k else Q (rr C (bB.mk j k)) λa=>if !a.2.2 then Q (kc E) λr=>Q (dp A) λs=>U (r,s,dW.mk 0 0 0 0 0 0 n n,n) else kP c d e f g h i a.1.a_ a.1.o_ n [] 0 y a.2.1.x_ a.2.1.j_ else kP c d e f g h i p q l m o n j k
def jo (C:aA)(c:Int)(A:aZ)(e:aA)(E:bB)(f g:Int)(h:List az)(i:Int)(o:List az)(p j k:Int)(l:List Int)(m:Int):Option (aA×bB×dW×Bool):=Q (uk C.z_ c A.v_ A.w_) λd=>if (d.2==1)&&(!e.N_) then Q (rr A (bB.mk l m)) λa=>if !a.2.2 then Q (kc C) λq=>Q (dp E) λr=>U (q,r,dW.mk 0 0 0 0 0 0 n n,n) else kH d f c g j k A C E h i y a.1.a_ a.1.o_ y a.2.1.x_ a.2.1.j_ else kH d f c g j k A C E h i e.N_ o p n l m
def pD (A:aZ)(C:aA)(F:cq)(E:bB):Option (aA×bB×dW×Bool):=Q (rQ A C) λa=>Q (if !a then U y else Q (tu A.y_ F) λa=>U (!a)) λa=>Q (if a||D (F.Y_<0) then U y else Q (qU E) λa=>U (!a)) λa=>if a then Q (kc C) λc=>Q (dp E) λa=>U (c,a,dW.mk 0 0 0 0 0 0 n n,n) else Q (kc C) λc=>Q (vt A.y_ C.A_ F) λg=>Q (iE (g != F.Y_)) λh=>Q (Ay E) λf=>if !f.2.2 then Q (kc C) λa=>Q (dp E) λd=>U (a,d,dW.mk 0 0 0 0 0 0 n n,n) else Q (vr A.Z_ f.2.1) λd=>if D (d>0) then Q (oM A.y_ A.d_ C.A_ F d f.1 A.X_) λa=>if a.2.2==4 then Q (kc C) λe=>Q (dp E) λi=>U (e,i,dW.mk 0 0 0 0 0 0 n n,n) else if C.N_ then Q (oM A.y_ A.d_ C.s_ F d a.2.1 A.X_) λe=>if e.2.2==4 then Q (kc C) λi=>Q (dp E) λj=>U (i,j,dW.mk 0 0 0 0 0 0 n n,n) else jo C h A c E g d a.1.a_ a.1.o_ e.1.a_ e.1.o_ a.2.2 e.2.2 e.2.1.x_ e.2.1.j_ else jo C h A c E g d a.1.a_ a.1.o_ c.s_.a_ c.s_.o_ a.2.2 (-1) a.2.1.x_ a.2.1.j_ else jo C h A c E g d c.A_.a_ c.A_.o_ c.s_.a_ c.s_.o_ (-1) (-1) f.1.x_ f.1.j_
def gX (A:bj)(F:aZ)(E:cq)(C:bB):Nat→List aA→List Int→Int→List dW→Int→Option (bj×bB×(List dW)×Int)
 | 0,_,_,_,_,_=>N
 | j+1,d,e,f,g,c=>if D (c<(A.u_.length:Int)) then Q (idx A.u_ c) λa=>Q (pD F a E (bB.mk e f)) λa=>if !a.2.2.2 then Q (tX A) λh=>Q (dp C) λi=>U (h,i,[],2) else Q (app d [a.1]) λh=>Q (app g [a.2.2.1]) λi=>gX A F E C j h a.2.1.x_ a.2.1.j_ i (W J (c+1)) else U (bj.mk d,bB.mk e f,g,0)
def sx (E:aZ)(F:bj)(C:cq)(A:bB):Option (bj×bB×(List dW)×Int):=Q (rW E F) λa=>Q (if !a then U y else Q (tu E.y_ C) λa=>U (!a)) λa=>Q (if a||D (C.Y_<0) then U y else Q (qU A) λa=>U (!a)) λa=>if a then Q (tX F) λa=>Q (dp A) λc=>U (a,c,[],1) else Q (dp A) λa=>gX F E C A bc [] a.x_ a.j_ [] 0
def jH (E:Int)(A:List Int)(C:aZ)(h:Int×ak):Nat→Int→Int→Int→List aA→Option (bj×ak)
 | 0,_,_,_,_=>N
 | i+1,d,e,a,f=>if D (a<E) then Q (qN A (ak.mk d e) C a h.1) λg=>Q (lY A g.2 80) λc=>Q (sx C (bj.mk f) g.1 (bB.mk c.1 0)) λg=>jH E A C h i c.2.i_ c.2.h_ (W J (a+1)) g.1.u_ else U (bj.mk f,ak.mk d e)
def rU (A:List Int)(F:ak)(E:aZ)(C:Int):Option (bj×ak):=Q (lY A F 8) λa=>Q (tI E (bB.mk a.1 0)) λc=>Q (bJ A a.2 (W J (C+1))) λa=>jH C A E a bc a.2.i_ a.2.h_ 0 c.1.u_
def jz (A:Int):Nat→List (List Int)→Int→Option aW
 | 0,_,_=>N
 | e+1,a,c=>if D (c<A) then Q (mk (0:Int) A) λd=>Q (app a [d]) λd=>jz A e d (W J (c+1)) else U (aW.mk a [])
def vI (A:Int):Option aW:=Q (aU A 2 3) λa=>if !a then U (aW.mk [] []) else jz A bc [] 0
def kl (A:aW)(c:List aG):Nat→List (List Int)→Int→Option aW
 | 0,_,_=>N
 | f+1,d,a=>if D (a<(A.p_.length:Int)) then Q (idx A.p_ a) λe=>Q (app [] e) λe=>Q (app d [e]) λe=>kl A c f e (W J (a+1)) else U (aW.mk d c)
def xh (A:aW):Option aW:=Q (app [] A.t_) λa=>kl A a bc [] 0
def gq (A:List aG)(E C:Int):Nat→Int→Int→Option Int
 | 0,_,_=>N
 | d+1,c,a=>if D (a<(A.length:Int)) then Q (idx A a) λe=>Q (if e.U_==E then Q (idx A a) λe=>U (e.V_==C) else U n) λe=>if e then gq A E C d (W J (c+1)) (W J (a+1)) else gq A E C d c (W J (a+1)) else U c
def vy (C:List aG)(E A:Int):Option Int:=gq C E A bc 0 0
def Du (A C:Int):Option Int:=if D (A<C) then U A else U C
def ip (C:Int)(A:aW)(a:Int)(g:Int→Int→Option Bool):Nat→Int→Int→Option Bool
 | 0,_,_=>N
 | h+1,d,c=>if D (c<C) then Q (idx A.p_ a) λe=>Q (idx e c) λe=>Q (aU e 0 9999) λe=>Q (if !e then U y else Q (vy A.t_ a c) λe=>Q (idx A.p_ a) λf=>Q (idx f c) λf=>U (D (e>f))) λe=>if e then U n else Q (idx A.p_ a) λe=>Q (idx e c) λe=>ip C A a g h (W J (d+e)) (W J (c+1)) else g d (W J (a+1))
def ga (A:aW)(C:Int):Nat→Int→Option Bool
 | 0,_=>N
 | d+1,a=>if D (a<(A.t_.length:Int)) then Q (idx A.t_ a) λc=>Q (aU c.U_ 0 (W J (C-1))) λc=>Q (if !c then U y else Q (idx A.t_ a) λc=>Q (aU c.V_ 0 (W J (C-1))) λc=>U (!c)) λc=>if c then U n else ga A C d (W J (a+1)) else U y
def eV (A:Int)(C:aW):Nat→Int→Int→Option Bool
 | 0,_,_=>N
 | e+1,a,c=>if D (c<A) then Q (idx C.p_ c) λd=>if ((d.length:Int) != A) then U n else ip A C c (eV A C e) bc a 0 else Q (if D (a>9999) then U y else Q (Du a 20) λa=>U ((C.t_.length:Int) != a)) λa=>if a then U n else ga C A bc 0
def rj (A:Int)(C:aW):Option Bool:=Q (aU A 2 3) λa=>if ((!a)||((C.p_.length:Int) != A)) then U n else eV A C bc 0 0
def mj (A:Int)(C:aW):Nat→Int→Int→Option Int
 | 0,_,_=>N
 | e+1,c,a=>if D (a<A) then Q (idx C.p_ a) λd=>Q (pb d) λd=>mj A C e (W J (c+d)) (W J (a+1)) else U c
def Bo (A:Int)(C:aW):Option Int:=Q (rj A C) λa=>if !a then U 0 else mj A C bc 0 0
def vJ (E:Int)(F:aW)(C A:Int):Option (aW×Bool):=Q (xh F) λa=>Q (rj E F) λc=>Q (if !c then U y else Q (aU C 0 (W J (E-1))) λc=>U (!c)) λc=>Q (if c then U y else Q (aU A 0 (W J (E-1))) λc=>U (!c)) λc=>Q (if c then U y else Q (Bo E F) λc=>U (c==9999)) λc=>if c then U (a,n) else Q (idx a.p_ C) λc=>Q (idx c A) λe=>Q (idx c A) λ_=>Q (app a.t_ [aG.mk C A]) λd=>if D ((d.length:Int)>20) then Q (sub d 1 (d.length:Int)) λf=>Q (app [] f) λf=>U (aW.mk (a.p_.set C.toNat (c.set A.toNat (W J (e+1)))) f,y) else U (aW.mk (a.p_.set C.toNat (c.set A.toNat (W J (e+1)))) d,y)
def jy (c:aW)(d:List Int)(a:Int×ak):Nat→List aG→Int→Option (aW×ak)
 | 0,_,_=>N
 | h+1,e,f=>if D (f<20) then Q (app e [aG.mk 0 0]) λg=>jy c d a h g (W J (f+1)) else U (aW.mk (c.p_.set (0:Int).toNat (d.set (0:Int).toNat (W J (9999-a.1)))) e,a.2)
def ju (i:Int×ak)(C:List Int)(A:Int):Nat→Int→Int→List (List Int)→List aG→Int→Option (aW×ak)
 | 0,_,_,_,_,_=>N
 | j+1,c,d,e,f,g=>if D (g<i.1) then Q (bJ C (ak.mk c d) A) λh=>Q (bJ C h.2 A) λa=>Q (vJ A (aW.mk e f) h.1 a.1) λh=>ju i C A j a.2.i_ a.2.h_ h.1.p_ h.1.t_ (W J (g+1)) else U (aW.mk e f,ak.mk c d)
def rZ (A:List Int)(E:ak)(C:Int):Option (aW×ak):=Q (vI C) λa=>Q (fM A E 6) λc=>if c.1 then Q (idx a.p_ 0) λd=>Q (bJ A c.2 2) λe=>Q (idx d 0) λ_=>jy a d e bc a.t_ 0 else Q (bh A c.2 [0,1,5,20,30]) λc=>ju c A C bc c.2.i_ c.2.h_ a.p_ a.t_ 0
def vN (A:List Int)(C:ak):Option (aF×ak):=Q (uC A C) λa=>Q (bh A a.2 [0,4,16,30]) λc=>Q (rU A c.2 a.1 c.1) λc=>Q (rZ A c.2 (a.1.y_.g_.length:Int)) λd=>U (aF.mk a.1 c.1 d.1,d.2)
def xQ (A:List Int)(C:ak):Option (bO×ak):=Q (me A C) λc=>Q (bJ A c.2 18) λa=>if a.1==0 then Q (bh A a.2 [0,10]) λd=>U (({c.1 with S_:=d.1}),d.2) else if a.1==1 then Q (bh A a.2 [(-1),1000,9223372036854775807]) λd=>U (({c.1 with Q_:=d.1}),d.2) else if a.1==2 then Q (bh A a.2 [0,201]) λd=>U (({c.1 with T_:=d.1}),d.2) else if a.1==3 then Q (bh A a.2 [(-1),7]) λd=>U (({c.1 with r_:=d.1}),d.2) else if a.1==4 then Q (bh A a.2 [0,32]) λd=>U (({c.1 with a_:=d.1}),d.2) else if a.1==5 then Q (bh A a.2 [61,2001]) λd=>U (({c.1 with H_:=d.1}),d.2) else U (c.1,a.2)
def tt (C:List Int)(E:ak)(A:List (List UInt8)):Option ((List UInt8)×ak):=Q (bJ C E (A.length:Int)) λa=>Q (idx A a.1) λc=>U (c,a.2)
def sn (A:List Int)(C:ak):Option (aK×ak):=Q (bJ A C 5) λa=>Q (kV A a.2 a.1) λc=>Q (bJ A c.2 14) λa=>if a.1==0 then Q (tt A a.2 [[],[85,112,112,101,114],[119,97,121,116,111,111,108,111,110,103],[97,32,98]]) λd=>U (({c.1 with F_:=d.1}),d.2) else if a.1==1 then Q (bh A a.2 [(-10000),9999,9998,0]) λd=>Q (app c.1.B_ [d.1]) λe=>U (({c.1 with B_:=e}),d.2) else if a.1==2 then Q (tt A a.2 [[114,101,100],[102,105,102,116,104],[]]) λd=>Q (app c.1.M_ [d.1]) λe=>U (({c.1 with M_:=e}),d.2) else if a.1==3 then U (({c.1 with B_:=[]}),a.2) else if a.1==4 then U (aK.mk c.1.F_ [9998] [],a.2) else U (c.1,a.2)
def zq (A:List Int)(C:ak):Option (ae×ak):=Q (tR A C) λa=>Q (bJ A a.2 12) λc=>if c.1==0 then Q (sn A c.2) λd=>Q (app a.1.c_ [d.1]) λe=>U (ae.mk e a.1.g_,d.2) else if c.1==1 then Q (tt A c.2 [[110,111],[111,116,104,101,114],[]]) λd=>Q (app a.1.g_ [d.1]) λe=>U (ae.mk a.1.c_ e,d.2) else if c.1==2 then U (ae.mk [] a.1.g_,c.2) else if c.1==3 then Q (sub a.1.g_ 0 1) λd=>U (ae.mk a.1.c_ d,c.2) else U (a.1,c.2)
def xz (A:List Int)(C:ak):Option (aZ×ak):=Q (uC A C) λc=>Q (bJ A c.2 16) λa=>if a.1==0 then Q (bh A a.2 [0,4,5]) λd=>U (({c.1 with u_:=d.1}),d.2) else if a.1==1 then Q (bh A a.2 [0,6,5]) λd=>U (({c.1 with X_:=d.1}),d.2) else if a.1==2 then Q (bh A a.2 [0,2]) λd=>U (({c.1 with Z_:=d.1}),d.2) else if a.1==3 then Q (bh A a.2 [0,9,10]) λd=>U (({c.1 with v_:=d.1}),d.2) else if a.1==4 then Q (bh A a.2 [0,9,10]) λd=>U (({c.1 with w_:=d.1}),d.2) else if a.1==5 then Q (xQ A a.2) λd=>U (({c.1 with d_:=d.1}),d.2) else if a.1==6 then Q (zq A a.2) λd=>U (({c.1 with y_:=d.1}),d.2) else U (c.1,a.2)
def jx (E:Int)(A:List Int)(C:aZ)(o:Int×ak):Nat→Int→Int→Int→List az→Int→Bool→List az→Int→List (List Int)→List (List Int)→Option (aA×ak)
 | 0,_,_,_,_,_,_,_,_,_,_=>N
 | p+1,e,f,c,g,h,i,j,k,l,m=>if D (c<E) then Q (qN A (ak.mk e f) C c o.1) λa=>Q (lY A a.2 24) λd=>Q (pD C (aA.mk (am.mk g h) i (am.mk j k) (cx.mk (au.mk l) (au.mk m))) a.1 (bB.mk d.1 0)) λa=>jx E A C o p d.2.i_ d.2.h_ (W J (c+1)) a.1.A_.a_ a.1.A_.o_ a.1.N_ a.1.s_.a_ a.1.s_.o_ a.1.z_.v_.f_ a.1.z_.w_.f_ else U (aA.mk (am.mk g h) i (am.mk j k) (cx.mk (au.mk l) (au.mk m)),ak.mk e f)
def vX (A:List Int)(F:ak)(E:aZ)(C:Int):Option (aA×ak):=Q (lY A F 4) λc=>Q (qw E (bB.mk c.1 0)) λa=>Q (bJ A c.2 (W J (C+1))) λc=>jx C A E c bc c.2.i_ c.2.h_ 0 a.1.A_.a_ a.1.A_.o_ a.1.N_ a.1.s_.a_ a.1.s_.o_ a.1.z_.v_.f_ a.1.z_.w_.f_
def eZ (C:ae)(A:List Int):Nat→Int→Int→List Int→Int→Option ((List Int)×ak)
 | 0,_,_,_,_=>N
 | g+1,e,f,c,d=>if D (d<(C.c_.length:Int)) then Q (fM A (ak.mk e f) 4) λa=>if !a.1 then Q (app c [d]) λh=>eZ C A g a.2.i_ a.2.h_ h (W J (d+1)) else eZ C A g a.2.i_ a.2.h_ c (W J (d+1)) else if ((c.length:Int)==0) then U (([0]:List Int),ak.mk e f) else U (c,ak.mk e f)
def ny (C:List Int)(A:ak)(E:ae):Option ((List Int)×ak):=eZ E C bc A.i_ A.h_ [] 0
def jC (E:Int)(A:List Int)(C:ae)(F:bO)(k:Int×ak):Nat→Int→Int→List az→Int→List cq→Int→Option (am×(List cq)×ak)
 | 0,_,_,_,_,_,_=>N
 | l+1,d,e,f,g,h,i=>if D (i<E) then Q (rz A (ak.mk d e) C) λa=>Q (lY A a.2 8) λj=>Q (bh A j.2 [1,3,7,7]) λc=>Q (oM C F (am.mk f g) a.1 c.1 (bB.mk j.1 0) (W J (1+k.1))) λj=>Q (app h [a.1]) λa=>jC E A C F k l c.2.i_ c.2.h_ j.1.a_ j.1.o_ a (W J (i+1)) else U (am.mk f g,h,ak.mk d e)
def vQ (C:List Int)(E:ak)(A:ae)(G:bO)(F:Int):Option (am×(List cq)×ak):=Q (ny C E A) λa=>Q (ph A a.1) λc=>Q (bJ C a.2 (A.c_.length:Int)) λa=>jC F C A G a bc a.2.i_ a.2.h_ c.a_ c.o_ [] 0
def mw (A:List Int)(C:ae)(c:bO×ak)(a d e:Int):Option (am×ak):=Q (bh A (ak.mk a d) [0,2,12,40,60]) λa=>Q (vQ A a.2 C ({c.1 with H_:=e}) a.1) λa=>U (a.1,a.2.2)
def vG (A:List Int)(E:ak)(C:ae):Option (am×ak):=Q (me A E) λc=>Q (fM A c.2 3) λa=>if a.1 then Q (bh A a.2 [62,80,120]) λd=>mw A C c d.2.i_ d.2.h_ d.1 else mw A C c a.2.i_ a.2.h_ 2000
def ii (A:ae)(c:Int)(e:(List aC)→Int→Option (aC×ak)):Nat→List aC→Int→Option (aC×ak)
 | 0,_,_=>N
 | g+1,d,a=>if D (a<4) then Q (ln A (aC.mk c a)) λf=>if f then Q (app d [aC.mk c a]) λf=>ii A c e g f (W J (a+1)) else ii A c e g d (W J (a+1)) else e d (W J (c+1))
def gd (C:ae)(A:ak)(E:List Int):Nat→List aC→Int→Option (aC×ak)
 | 0,_,_=>N
 | d+1,a,c=>if D (c<(C.c_.length:Int)) then ii C c (gd C A E d) bc a (-1) else if ((a.length:Int)==0) then U (aC.mk 0 0,A) else Q (bJ E A (a.length:Int)) λc=>Q (idx a c.1) λa=>U (a,c.2)
def xB (A:List Int)(C:ak)(E:ae):Option (aC×ak):=gd E C A bc [] 0
def zf (A:List Int)(C:ak)(E:ae):Option (aC×ak):=Q (xB A C E) λc=>Q (bJ A c.2 10) λa=>if a.1==0 then Q (bh A a.2 [(-2),1,2,3,4,9223372036854775807]) λd=>U (aC.mk c.1.k_ d.1,d.2) else if a.1==1 then Q (bh A a.2 [(-1),5,4,9223372036854775807]) λd=>U (aC.mk d.1 c.1.j_,d.2) else U (c.1,a.2)
def xN (A:List Int)(C:ak)(E:ae):Option ((List Int)×ak):=Q (ny A C E) λc=>Q (bJ A c.2 10) λa=>if a.1==0 then Q (bh A a.2 [0,5,4,(-1)]) λd=>Q (app c.1 [d.1]) λe=>U (e,d.2) else if a.1==1 then U (([]:List Int),a.2) else U (c.1,a.2)
def kv (i:Int×ak)(A:List Int)(C:ae):Nat→Int→Int→List Int→List (List Int)→Int→Option (aD×ak)
 | 0,_,_,_,_,_=>N
 | j+1,e,f,a,c,g=>if D (g<i.1) then Q (rz A (ak.mk e f) C) λh=>Q (bh A h.2 [1,2,7]) λd=>Q (nN C (aD.mk a c) h.1 d.1) λh=>kv i A C j d.2.i_ d.2.h_ h.1.l_ h.1.e_ (W J (g+1)) else Q (fM A (ak.mk e f) 8) λd=>if d.1 then Q (xS (aD.mk a c)) λe=>U (e,d.2) else U (aD.mk a c,d.2)
def xK (A:List Int)(E:ak)(C:ae):Option (aD×ak):=Q (mi C) λc=>Q (bh A E [0,1,3,12,30,60]) λa=>kv a A C bc a.2.i_ a.2.h_ c.l_ c.e_ 0
def zg (A:List Int)(C:ak)(E:ae):Option (aD×ak):=Q (xK A C E) λa=>Q (bJ A a.2 14) λc=>if c.1==0 then if D ((a.1.l_.length:Int)>0) then Q (bh A c.2 [(-1),999,998,1000,9223372036854775807]) λd=>Q (idx a.1.l_ 0) λ_=>U (aD.mk (a.1.l_.set (0:Int).toNat d.1) a.1.e_,d.2) else U (a.1,c.2) else if c.1==1 then Q (app a.1.l_ [0]) λd=>U (aD.mk d a.1.e_,c.2) else if c.1==2 then Q (if D ((a.1.e_.length:Int)>0) then Q (idx a.1.e_ 0) λd=>U (D ((d.length:Int)>0)) else U n) λd=>if d then Q (idx a.1.e_ 0) λd=>Q (bh A c.2 [(-1),500,1000]) λe=>Q (idx d 0) λ_=>U (aD.mk a.1.l_ (a.1.e_.set (0:Int).toNat (d.set (0:Int).toNat e.1)),e.2) else U (a.1,c.2) else if c.1==3 then if D ((a.1.e_.length:Int)>0) then Q (idx a.1.e_ 0) λd=>Q (app d [0]) λd=>U (aD.mk a.1.l_ (a.1.e_.set (0:Int).toNat d),c.2) else U (a.1,c.2) else U (a.1,c.2)
def tL (A:List Int)(E:ak)(C:ae):Option (am×ak):=Q (vG A E C) λa=>if ((a.1.a_.length:Int)==0) then U (a.1,a.2) else Q (bJ A a.2 (a.1.a_.length:Int)) λd=>Q (bJ A d.2 22) λc=>if c.1==0 then Q (bh A c.2 [(-1),0,99999,100000]) λe=>U (am.mk a.1.a_ e.1,e.2) else if c.1==1 then Q (bJ A c.2 8) λe=>Q (idx a.1.a_ d.1) λf=>U (am.mk (a.1.a_.set d.1.toNat ({f with r_:=e.1})) a.1.o_,e.2) else if c.1==2 then Q (bh A c.2 [(-1),0,1,d.1,9223372036854775807]) λe=>Q (idx a.1.a_ d.1) λf=>U (am.mk (a.1.a_.set d.1.toNat ({f with G_:=e.1})) a.1.o_,e.2) else if c.1==3 then Q (idx a.1.a_ d.1) λe=>Q (bh A c.2 [(-1),d.1,W J (d.1+1),40]) λf=>Q (app e.C_ [f.1]) λg=>U (am.mk (a.1.a_.set d.1.toNat ({e with C_:=g})) a.1.o_,f.2) else if c.1==4 then Q (bh A c.2 [(-1),1,2,4]) λe=>Q (idx a.1.a_ d.1) λf=>U (am.mk (a.1.a_.set d.1.toNat ({f with J_:=e.1})) a.1.o_,e.2) else if c.1==5 then Q (bh A c.2 [(-1),1,900,9223372036854775807]) λe=>Q (idx a.1.a_ d.1) λf=>U (am.mk (a.1.a_.set d.1.toNat ({f with K_:=e.1})) a.1.o_,e.2) else if c.1==6 then Q (bh A c.2 [(-1),0,1,a.1.o_,W J (a.1.o_+1)]) λe=>Q (idx a.1.a_ d.1) λf=>U (am.mk (a.1.a_.set d.1.toNat ({f with E_:=e.1})) a.1.o_,e.2) else if c.1==7 then Q (idx a.1.a_ d.1) λe=>U (am.mk (a.1.a_.set d.1.toNat ({e with D_:=(!e.D_)})) a.1.o_,c.2) else if c.1==8 then Q (zf A c.2 C) λe=>Q (idx a.1.a_ d.1) λf=>U (am.mk (a.1.a_.set d.1.toNat ({f with n_:=e.1})) a.1.o_,e.2) else if c.1==9 then Q (xN A c.2 C) λe=>Q (idx a.1.a_ d.1) λf=>U (am.mk (a.1.a_.set d.1.toNat ({f with c_:=e.1})) a.1.o_,e.2) else if c.1==10 then Q (zg A c.2 C) λe=>Q (idx a.1.a_ d.1) λf=>U (am.mk (a.1.a_.set d.1.toNat ({f with q_:=e.1})) a.1.o_,e.2) else if c.1==11 then Q (sub a.1.a_ 0 (W J ((a.1.a_.length:Int)-1))) λd=>U (am.mk d a.1.o_,c.2) else U (a.1,c.2)
def ik (d e:Int×ak)(A:List Int)(f:Int×ak):Nat→Int→Int→List Int→Int→Option ((List Int)×ak)
 | 0,_,_,_,_=>N
 | k+1,g,h,i,c=>if D (c<d.1) then if D (c<e.1) then Q (fM A (ak.mk g h) f.1) λa=>Q (iE a.1) λj=>Q (app i [j]) λj=>ik d e A f k a.2.i_ a.2.h_ j (W J (c+1)) else Q (fM A (ak.mk g h) 5) λa=>Q (iE (!a.1)) λj=>Q (app i [j]) λj=>ik d e A f k a.2.i_ a.2.h_ j (W J (c+1)) else U (i,ak.mk g h)
def uf (A:List Int)(E:ak)(C:Int):Option ((List Int)×ak):=Q (bJ A E (W J (C+1))) λc=>Q (bJ A c.2 (W J (C+1))) λd=>Q (bh A d.2 [2,8,200]) λa=>ik c d A a bc a.2.i_ a.2.h_ [] 0
def lq (A:List Int)(E C:Int):Nat→Int→List (List Int)→List (List Int)→List Int→Option (cx×(List Int))
 | 0,_,_,_,_=>N
 | h+1,c,d,e,f=>if D (c<(A.length:Int)) then Q (idx A c) λa=>Q (uk (cx.mk (au.mk d) (au.mk e)) a E C) λa=>Q (app f [a.2]) λg=>lq A E C h (W J (c+1)) a.1.v_.f_ a.1.w_.f_ g else U (cx.mk (au.mk d) (au.mk e),f)
def zD (C:List Int)(E A:Int):Option (cx×(List Int)):=lq C E A bc 0 [] [] []
def js (d:Int×ak)(a:Int)(A:List Int)(e:List (List Int))(k:Int→Int→List (List Int)→Int→Option (au×ak)):Nat→Int→Int→List Int→Int→Option (au×ak)
 | 0,_,_,_,_=>N
 | l+1,f,g,h,i=>if D (i<W J (1+d.1)) then Q (nF a) λj=>Q (nF a) λc=>Q (bJ A (ak.mk f g) (W J (c+1))) λc=>Q (bh A c.2 [0,j,c.1]) λc=>Q (app h [c.1]) λj=>js d a A e k l c.2.i_ c.2.h_ j (W J (i+1)) else Q (app e [h]) λc=>k f g c (W J (a+1))
def gn (g:Int×ak)(A:List Int):Nat→Int→Int→List (List Int)→Int→Option (au×ak)
 | 0,_,_,_,_=>N
 | h+1,c,d,e,f=>if D (f<g.1) then Q (bJ A (ak.mk c d) 3) λa=>js a f A e (gn g A h) bc a.2.i_ a.2.h_ [] 0 else U (au.mk e,ak.mk c d)
def jt (a:(List Int)×ak):Nat→Int→List (List Int)→Option (au×ak)
 | 0,_,_=>N
 | f+1,c,d=>if D (c<(a.1.length:Int)) then Q (idx a.1 c) λe=>Q (qo (au.mk d) e) λe=>jt a f (W J (c+1)) e.1.f_ else U (au.mk d,a.2)
def vW (A:List Int)(C:ak):Option (au×ak):=Q (fM A C 5) λa=>if a.1 then Q (bh A a.2 [1,4,7,8]) λc=>gn c A bc c.2.i_ c.2.h_ [] 0 else Q (bh A a.2 [0,6,30,90]) λa=>Q (uf A a.2 a.1) λa=>jt a bc 0 []
def ng (c:Int×ak):Nat→List (List Int)→Option (au×ak)
 | 0,_=>N
 | e+1,a=>if D ((a.length:Int)<9) then Q (app a [[1]]) λd=>ng c e d else U (au.mk a,c.2)
def tP (A:List Int)(C:ak):Option (au×ak):=Q (vW A C) λc=>Q (bJ A c.2 12) λa=>if a.1==0 then Q (app c.1.f_ [[]]) λd=>U (au.mk d,a.2) else if a.1==1 then if D ((c.1.f_.length:Int)>0) then Q (idx c.1.f_ 0) λe=>Q (bh A a.2 [2,(-1),1,1]) λd=>Q (app e [d.1]) λe=>U (au.mk (c.1.f_.set (0:Int).toNat e),d.2) else U (c.1,a.2) else if a.1==2 then ng a bc c.1.f_ else if a.1==3 then Q (bh A a.2 [256,257,1,(-1)]) λd=>Q (app c.1.f_ [[d.1]]) λe=>U (au.mk e,d.2) else U (c.1,a.2)
def xu (A:List Int)(C:ak):Option (cx×ak):=Q (fM A C 2) λa=>if a.1 then Q (uf A a.2 60) λc=>Q (bh A c.2 [1,2,3]) λd=>Q (zD c.1 1 d.1) λc=>U (c.1,d.2) else Q (tP A a.2) λa=>Q (tP A a.2) λc=>U (cx.mk a.1 c.1,c.2)
def uA (A:List Int)(E:ak)(C:aZ):Option (aA×ak):=Q (bh A E [0,4,20,40,40]) λa=>Q (vX A a.2 C a.1) λc=>Q (bJ A c.2 14) λa=>if a.1==0 then U (({c.1 with N_:=(!c.1.N_)}),a.2) else if a.1==1 then Q (tL A a.2 C.y_) λd=>U (({c.1 with A_:=d.1}),d.2) else if a.1==2 then Q (tL A a.2 C.y_) λd=>U (({c.1 with s_:=d.1}),d.2) else if a.1==3 then Q (xu A a.2) λd=>U (({c.1 with z_:=d.1}),d.2) else U (c.1,a.2)
def xx (A:List Int)(E:ak)(C:aZ):Option (bj×ak):=Q (bh A E [0,5,20,36]) λa=>Q (rU A a.2 C a.1) λa=>Q (bJ A a.2 14) λc=>if c.1==0 then Q (uA A c.2 C) λd=>Q (app a.1.u_ [d.1]) λe=>U (bj.mk e,d.2) else if c.1==1 then if D ((a.1.u_.length:Int)>0) then Q (sub a.1.u_ 0 (W J ((a.1.u_.length:Int)-1))) λd=>U (bj.mk d,c.2) else U (a.1,c.2) else if c.1==2 then if D ((a.1.u_.length:Int)>0) then Q (uA A c.2 C) λd=>Q (idx a.1.u_ 0) λ_=>U (bj.mk (a.1.u_.set (0:Int).toNat d.1),d.2) else U (a.1,c.2) else U (a.1,c.2)
def xE (A:List Int)(C:ak)(E:Int):Option (aW×ak):=Q (rZ A C E) λa=>Q (bJ A a.2 12) λc=>if c.1==0 then Q (idx a.1.p_ 0) λd=>Q (idx d 0) λe=>Q (idx d 0) λ_=>U (aW.mk (a.1.p_.set (0:Int).toNat (d.set (0:Int).toNat (W J (e+1)))) a.1.t_,c.2) else if c.1==1 then Q (idx a.1.p_ 1) λd=>Q (bh A c.2 [(-1),10000,9223372036854775807]) λe=>Q (idx d 0) λ_=>U (aW.mk (a.1.p_.set (1:Int).toNat (d.set (0:Int).toNat e.1)) a.1.t_,e.2) else if c.1==2 then Q (bJ A c.2 4) λd=>Q (app a.1.t_ [aG.mk (W J (d.1-1)) 0]) λe=>U (aW.mk a.1.p_ e,d.2) else if c.1==3 then Q (app a.1.p_ [[0]]) λd=>U (aW.mk d a.1.t_,c.2) else if c.1==4 then if D ((a.1.t_.length:Int)>0) then Q (bJ A c.2 5) λd=>Q (idx a.1.t_ 0) λe=>U (aW.mk a.1.p_ (a.1.t_.set (0:Int).toNat (aG.mk e.U_ (W J (d.1-1)))),d.2) else U (a.1,c.2) else U (a.1,c.2)
def xi (A:List Int)(C:ak):Option (aF×ak):=Q (vN A C) λc=>Q (bJ A c.2 14) λa=>if a.1==0 then Q (xz A a.2) λd=>U (({c.1 with m_:=d.1}),d.2) else if a.1==1 then Q (xx A a.2 c.1.m_) λd=>U (({c.1 with aa_:=d.1}),d.2) else if a.1==2 then Q (xE A a.2 2) λd=>U (({c.1 with L_:=d.1}),d.2) else U (c.1,a.2)
def od (A:List Int):Option aF:=Q (AP A) λa=>Q (xi A a) λa=>U a.1
def bm (A E C:Int):Option Bool:=U (D (A≥E)&&D (A≤C))
def qG (A:List UInt8):Nat→Int→Option Bool
 | 0,_=>N
 | d+1,a=>if D (a<(A.length:Int)) then Q (idx A a) λc=>Q (if D ((c.toNat:Int)<97) then U y else Q (idx A a) λc=>U (D ((c.toNat:Int)>122))) λc=>if c then U n else qG A d (W J (a+1)) else U y
def wo (A:List UInt8):Option Bool:=Q (bm (A.length:Int) 1 8) λa=>if !a then U n else qG A bc 0
def el (A:List (List UInt8))(C:List UInt8):Nat→Int→Option Int
 | 0,_=>N
 | d+1,a=>if D (a<(A.length:Int)) then Q (idx A a) λc=>if C==c then U a else el A C d (W J (a+1)) else U (-1)
def jN (A:List (List UInt8))(C:List UInt8):Option Int:=el A C bc 0
def iI (A:List (List UInt8))(C:List UInt8):Option Bool:=Q (jN A C) λa=>U (D (a≥0))
def kF (A:List (List UInt8)):Nat→Int→Option Bool
 | 0,_=>N
 | e+1,a=>if D (a<(A.length:Int)) then Q (idx A a) λc=>Q (wo c) λd=>Q (if !d then U y else Q (sub A 0 a) λd=>Q (iI d c) λc=>U c) λc=>if c then U n else kF A e (W J (a+1)) else U y
def jp (A:List (List UInt8)):Option Bool:=kF A bc 0
def jZ (A:List Int):Nat→Int→Option Bool
 | 0,_=>N
 | e+1,a=>if D (a<(A.length:Int)) then Q (idx A a) λc=>Q (idx A (W J (a-1))) λd=>if D (c≤d) then U n else jZ A e (W J (a+1)) else U y
def lr (A:List Int):Option Bool:=jZ A bc 1
def DI (A:Int):Option Bool:=Q (bm A (-9999) 9998) λa=>U a
def zR (A:Int):Option Bool:=Q (DI A) λa=>U (!a)
def dd (A:List Int):Nat→Int→Option Int
 | 0,_=>N
 | d+1,a=>if D (a<(A.length:Int)) then Q (idx A a) λc=>Q (zR c) λc=>if c then U a else dd A d (W J (a+1)) else U (-1)
def fm (A:List Int):Option Int:=dd A bc 0
def eH (A:List Int):Option Bool:=Q (fm A) λa=>U (D (a≥0))
def yU (A:List Int):Option Bool:=Q (bm (A.length:Int) 1 3) λa=>Q (if a then Q (lr A) λa=>U a else U n) λu12=>Q (if u12 then Q (eH A) λa=>U (!a) else U n) λu17=>U u17
def oY (A:aK):Option Bool:=Q (wo A.F_) λa=>if !a then U n else if ((A.B_.length:Int)==0) then Q (bm (A.M_.length:Int) 2 4) λa=>Q (if a then Q (jp A.M_) λa=>U a else U n) λu21=>U u21 else Q (if ((A.M_.length:Int)==0) then Q (yU A.B_) λa=>U a else U n) λa=>U a
def jD (A:ae):Nat→Int→List (List UInt8)→Option Bool
 | 0,_,_=>N
 | f+1,a,c=>if D (a<(A.c_.length:Int)) then Q (idx A.c_ a) λd=>Q (oY d) λe=>if !e then U n else Q (app c [d.F_]) λd=>jD A f (W J (a+1)) d else Q (jp c) λa=>U a
def go (A:ae):Option Bool:=Q (bm (A.c_.length:Int) 1 5) λa=>Q (if !a then U y else Q (bm (A.g_.length:Int) 2 3) λa=>U (!a)) λu19=>Q (if u19 then U y else Q (jp A.g_) λa=>U (!a)) λa=>if a then U n else jD A bc 0 []
def we (A:bO):Option Bool:=Q (bm A.S_ 1 9) λa=>Q (if a then Q (bm A.Q_ 0 999) λa=>U a else U n) λu13=>Q (if u13 then Q (bm A.T_ 1 200) λa=>U a else U n) λu18=>Q (if u18 then Q (bm A.r_ 0 6) λa=>U a else U n) λa=>Q (if a then Q (bm A.a_ 1 31) λa=>U a else U n) λa=>Q (if a then Q (bm A.H_ 62 2000) λa=>U a else U n) λa=>U a
def sq (A:Int):Option ((List Int)×Bool):=if A==1 then U (([24109,48218,60273,64291,65296,65497,65530]:List Int),n) else if A==6 then U (([162,1137,4061,9909,18681,29208,39734]:List Int),n) else U (([]:List Int),y)
def qv (A:aZ):Option Bool:=Q (go A.y_) λa=>Q (if a then Q (we A.d_) λa=>U a else U n) λu19=>Q (if u19 then Q (bm A.u_ 1 4) λa=>U a else U n) λa=>Q (if a then Q (bm A.X_ 1 (A.y_.c_.length:Int)) λa=>U a else U n) λa=>Q (if a then Q (sq A.Z_) λa=>U (!a.2) else U n) λa=>Q (if a then Q (bm A.v_ 1 9) λa=>U a else U n) λa=>Q (if a then Q (bm A.w_ 1 9) λa=>U a else U n) λa=>U (a&&D (A.v_≤A.w_))
def xZ (A:Int):Option Bool:=Q (bm A 0 999) λa=>U (!a)
def cX (A:List Int):Nat→Int→Option Int
 | 0,_=>N
 | d+1,a=>if D (a<(A.length:Int)) then Q (idx A a) λc=>Q (xZ c) λc=>if c then U a else cX A d (W J (a+1)) else U (-1)
def eX (A:List Int):Option Int:=cX A bc 0
def dO (A:List Int):Option Bool:=Q (eX A) λa=>U (D (a≥0))
def uw (A:List Int)(C:Int):Option Bool:=Q (if ((A.length:Int)==C) then Q (dO A) λa=>U (!a) else U n) λu10=>U u10
def jU (A:List Int):Nat→Int→Int→Option Int
 | 0,_,_=>N
 | e+1,c,a=>if D (a<(A.length:Int)) then Q (idx A a) λd=>jU A e (W J (c+d)) (W J (a+1)) else U c
def pg (A:List Int):Option Int:=jU A bc 0 0
def mo (A:aK):Option Int:=if D ((A.B_.length:Int)>0) then U (W J ((A.B_.length:Int)+1)) else U (A.M_.length:Int)
def Ee (A:Int):Option (List Int):=Q (mk (0:Int) A) λa=>U a
def gc (e:List Int)(A:ae)(C:aD)(k:Int→Option Bool)(f:Int):Nat→Int→List Int→Option Bool
 | 0,_,_=>N
 | l+1,a,c=>if D (a<(e.length:Int)) then Q (idx e a) λg=>Q (rem a (A.g_.length:Int)) λd=>Q (idx c d) λh=>Q (idx c d) λ_=>Q (rem a (A.g_.length:Int)) λi=>Q (idx (c.set d.toNat (W J (h+g))) i) λi=>Q (rem a (A.g_.length:Int)) λj=>Q (idx C.l_ j) λj=>if D (i>j) then U n else gc e A C k f l (W J (a+1)) (c.set d.toNat (W J (h+g))) else k (W J (f+1))
def fy (C:aD)(A:ae):Nat→Int→Option Bool
 | 0,_=>N
 | e+1,a=>if D (a<(C.e_.length:Int)) then Q (idx C.e_ a) λc=>Q (idx A.c_ a) λd=>Q (mo d) λd=>Q (uw c (W J (d*(A.g_.length:Int)))) λd=>if !d then U n else Q (Ee (A.g_.length:Int)) λd=>gc c A C (fy C A e) a bc 0 d else U y
def tH (C:ae)(A:aD):Option Bool:=Q (go C) λa=>Q (if !a then U y else Q (uw A.l_ (C.g_.length:Int)) λa=>U (!a)) λa=>Q (if a then U y else Q (pg A.l_) λa=>U (D (a>999))) λa=>if a then U n else if ((A.e_.length:Int)==0) then U y else if ((A.e_.length:Int) != (C.c_.length:Int)) then U n else fy A C bc 0
def xv (C:ae)(A:List Int):Option Bool:=Q (go C) λa=>Q (if (a&&D ((A.length:Int)>0)) then Q (lr A) λa=>U a else U n) λu21=>Q (if u21 then Q (idx A 0) λa=>U (D (a≥0)) else U n) λa=>Q (if a then Q (idx A (W J ((A.length:Int)-1))) λa=>U (D (a<(C.c_.length:Int))) else U n) λa=>U a
def wz (C:ae)(A:aC):Option Bool:=Q (go C) λa=>Q (if !a then U y else Q (bm A.k_ 0 (W J ((C.c_.length:Int)-1))) λa=>U (!a)) λu20=>if u20 then U n else Q (idx C.c_ A.k_) λa=>Q (mo a) λc=>if D ((a.B_.length:Int)>0) then Q (bm A.j_ (-1) (W J (W J (c-1)-1))) λa=>U a else Q (bm A.j_ (-1) (W J (c-1))) λa=>U a
def pR (C:ae)(A:aC):Option Int:=Q (wz C A) λa=>if !a then U 0 else if A.j_==(-1) then Q (idx C.c_ A.k_) λa=>Q (mo a) λa=>U a else U 2
def vz (C E:Int)(A:am):Option Bool:=Q (bm C (W J (E+1)) (W J ((A.a_.length:Int)-1))) λa=>Q (if !a then U y else Q (idx A.a_ C) λa=>U (a.G_ != E)) λu15=>U u15
def dc (A:List Int)(p1_0:Int)(p1_1:am):Nat→Int→Option Int
 | 0,_=>N
 | d+1,a=>if D (a<(A.length:Int)) then Q (idx A a) λc=>Q (vz c p1_0 p1_1) λc=>if c then U a else dc A p1_0 p1_1 d (W J (a+1)) else U (-1)
def fi (A:List Int)(p1_0:Int)(p1_1:am):Option Int:=dc A p1_0 p1_1 bc 0
def dV (A:List Int)(p1_0:Int)(p1_1:am):Option Bool:=Q (fi A p1_0 p1_1) λa=>U (D (a≥0))
def ox (a:az)(c:Int):Option Bool:=Q (if (((a.n_.k_==0&&(a.n_.j_==0&&y))&&((a.C_.length:Int)==0))&&(a.J_==0)) then Q (bm a.K_ 0 c) λa=>U a else U n) λa=>U a
def yV (A:ae)(C:am)(E:Int):Option Bool:=Q (idx C.a_ E) λa=>Q (bm a.r_ 0 6) λc=>Q (if !c then U y else Q (bm a.E_ 0 C.o_) λc=>U (!c)) λc=>Q (if c then U y else Q (tH A a.q_) λc=>U (!c)) λc=>Q (if c then U y else Q (xv A a.c_) λc=>U (!c)) λc=>if c then U n else if a.D_ then Q (pg a.q_.l_) λc=>if ((a.q_.e_.length:Int)==0) then ox a 0 else ox a c else Q (pR A a.n_) λc=>Q (if ((c==0)||((a.C_.length:Int) != c)) then U y else Q (lr a.C_) λd=>U (!d)) λd=>Q (if d then U y else Q (bm a.J_ 0 (W J (c-1))) λc=>U (!c)) λc=>if ((c||((a.q_.e_.length:Int) != 0))||(a.K_ != 0)) then U n else Q (dV a.C_ E C) λa=>U (!a)
def fG (A:List Int)(C:Int):Nat→Int→Option Int
 | 0,_=>N
 | d+1,a=>if D (a<(A.length:Int)) then Q (idx A a) λc=>if C==c then U a else fG A C d (W J (a+1)) else U (-1)
def lU (A:List Int)(C:Int):Option Int:=fG A C bc 0
def iz (A:List Int)(C:Int):Option Bool:=Q (lU A C) λa=>U (D (a≥0))
def gZ (A:am)(C:ae):Nat→Int→Option Bool
 | 0,_=>N
 | f+1,c=>if D (c<(A.a_.length:Int)) then Q (idx A.a_ c) λa=>Q (yV C A c) λd=>if !d then U n else if c==0 then if ((a.G_ != (-1))||(a.r_ != 0))||(a.E_ != 0) then U n else gZ A C f (W J (c+1)) else Q (bm a.G_ 0 (W J (c-1))) λd=>if !d then U n else Q (idx A.a_ a.G_) λd=>Q (if d.D_ then U y else Q (iz d.C_ c) λe=>U (!e)) λe=>if (e||(d.r_ != W J (a.r_-1)))||D (d.E_>a.E_) then U n else gZ A C f (W J (c+1)) else U y
def zx (C:ae)(A:am):Option Bool:=Q (go C) λa=>Q (if !a then U y else Q (bm (A.a_.length:Int) 1 31) λa=>U (!a)) λa=>Q (if a then U y else Q (bm A.o_ 0 99999) λa=>U (!a)) λa=>if a then U n else gZ A C bc 0
def ji (A:am):Nat→Int→Int→Option Int
 | 0,_,_=>N
 | e+1,a,c=>if D (a<(A.a_.length:Int)) then Q (idx A.a_ a) λd=>ji A e (W J (a+1)) (if c<d.r_ then d.r_ else c) else U c
def xq (A:am):Option Int:=if ((A.a_.length:Int)==0) then U 0 else Q (idx A.a_ 0) λa=>ji A bc 0 a.r_
def lI (A:az):Nat→Int→Int→Option Int
 | 0,_,_=>N
 | e+1,a,c=>if D (a<(A.q_.e_.length:Int)) then Q (idx A.q_.e_ a) λd=>lI A e (W J (a+1)) (W J (c+(d.length:Int))) else U c
def xP (A:az):Option Int:=if !A.D_ then U 1 else lI A bc 0 2
def nv (A:am):Nat→Int→Int→Option Int
 | 0,_,_=>N
 | e+1,c,a=>if D (a<(A.a_.length:Int)) then Q (idx A.a_ a) λd=>Q (xP d) λd=>nv A e (W J (c+d)) (W J (a+1)) else U c
def tO (A:am):Option Int:=nv A bc 0 0
def AI (E:ae)(C:bO)(A:am):Option Bool:=Q (zx E A) λa=>Q (if a then Q (we C) λa=>U a else U n) λa=>Q (if (a&&D ((A.a_.length:Int)≤C.a_)) then Q (xq A) λa=>U (D (a≤C.r_)) else U n) λa=>Q (if a then Q (tO A) λa=>U (D (a≤C.H_)) else U n) λa=>U a
def wK (A C:Int):Option Bool:=Q (shl J 1 C) λx10=>Q (bm A 0 x10) λa=>U (!a)
def cT (A:List Int)(p1_0:Int):Nat→Int→Option Int
 | 0,_=>N
 | d+1,a=>if D (a<(A.length:Int)) then Q (idx A a) λc=>Q (wK c p1_0) λc=>if c then U a else cT A p1_0 d (W J (a+1)) else U (-1)
def eQ (A:List Int)(p1_0:Int):Option Int:=cT A p1_0 bc 0
def dG (A:List Int)(p1_0:Int):Option Bool:=Q (eQ A p1_0) λa=>U (D (a≥0))
def gm (A:au):Nat→Int→Option Bool
 | 0,_=>N
 | e+1,a=>if D (a<(A.f_.length:Int)) then Q (idx A.f_ a) λc=>Q (bm (c.length:Int) 1 3) λd=>Q (if !d then U y else Q (dG c a) λc=>U c) λc=>if c then U n else gm A e (W J (a+1)) else U y
def rV (A:au):Option Bool:=if D ((A.f_.length:Int)>8) then U n else gm A bc 0
def Bt (A:cx):Option Bool:=Q (rV A.v_) λa=>Q (if a then Q (rV A.w_) λa=>U a else U n) λu19=>U u19
def dk (A C:List Int):Nat→Int→Option Bool
 | 0,_=>N
 | e+1,a=>if D (a<(A.length:Int)) then Q (idx A a) λc=>Q (idx C a) λd=>if c != d then U n else dk A C e (W J (a+1)) else U y
def dZ (A C:List Int):Option Bool:=if ((A.length:Int) != (C.length:Int)) then U n else dk A C bc 0
def rq (A C:List Int):Option Bool:=Q (dZ A C) λa=>U a
def be (A C:List (List Int)):Nat→Int→Option Bool
 | 0,_=>N
 | e+1,a=>if D (a<(A.length:Int)) then Q (idx A a) λc=>Q (idx C a) λd=>Q (rq c d) λc=>if !c then U n else be A C e (W J (a+1)) else U y
def cF (A C:List (List Int)):Option Bool:=if ((A.length:Int) != (C.length:Int)) then U n else be A C bc 0
def oO (A C:List (List Int)):Option Bool:=Q (cF A C) λa=>U a
def tV (A C:aD):Option Bool:=Q (dZ A.l_ C.l_) λa=>Q (if a then Q (oO A.e_ C.e_) λa=>U a else U n) λa=>U a
def vv (A C:az):Option Bool:=Q (if (A.D_==C.D_)&&(A.n_.k_==C.n_.k_&&(A.n_.j_==C.n_.j_&&y)) then Q (dZ A.C_ C.C_) λa=>U a else U n) λa=>Q (if a&&(A.J_==C.J_) then Q (tV A.q_ C.q_) λa=>U a else U n) λa=>Q (if a&&(A.K_==C.K_) then Q (dZ A.c_ C.c_) λa=>U a else U n) λa=>U (((a&&(A.r_==C.r_))&&(A.G_==C.G_))&&(A.E_==C.E_))
def aL (A C:List az):Nat→Int→Option Bool
 | 0,_=>N
 | e+1,a=>if D (a<(A.length:Int)) then Q (idx A a) λd=>Q (idx C a) λc=>Q (vv d c) λc=>if !c then U n else aL A C e (W J (a+1)) else U y
def bF (A C:List az):Option Bool:=if ((A.length:Int) != (C.length:Int)) then U n else aL A C bc 0
def mh (A C:am):Option Bool:=Q (if A.o_==C.o_ then Q (bF A.a_ C.a_) λa=>U a else U n) λu18=>U u18
def vO (A:aZ)(C:aA):Option Bool:=Q (qv A) λa=>Q (if !a then U y else Q (AI A.y_ A.d_ C.A_) λa=>U (!a)) λa=>Q (if a then U y else Q (Bt C.z_) λa=>U (!a)) λa=>if a then U n else if C.N_ then Q (AI A.y_ A.d_ C.s_) λa=>U a else Q (mh C.s_ (am.mk [] 0)) λa=>U a
def wS (A:aA)(C:aZ):Option Bool:=Q (vO C A) λa=>U (!a)
def cc (A:List aA)(p1_0:aZ):Nat→Int→Option Int
 | 0,_=>N
 | d+1,a=>if D (a<(A.length:Int)) then Q (idx A a) λc=>Q (wS c p1_0) λc=>if c then U a else cc A p1_0 d (W J (a+1)) else U (-1)
def dD (A:List aA)(p1_0:aZ):Option Int:=cc A p1_0 bc 0
def cG (A:List aA)(p1_0:aZ):Option Bool:=Q (dD A p1_0) λa=>U (D (a≥0))
def vH (A:aZ)(C:bj):Option Bool:=Q (qv A) λa=>Q (if (a&&((C.u_.length:Int)==A.u_)) then Q (cG C.u_ A) λa=>U (!a) else U n) λa=>U a
def yl (A:Int):Option Bool:=Q (bm A 0 9999) λa=>U (!a)
def jG (A:List (List Int)):Nat→Int→Int→Option Int
 | 0,_,_=>N
 | e+1,c,a=>if D (a<(A.length:Int)) then Q (idx A a) λd=>Q (pg d) λd=>jG A e (W J (c+d)) (W J (a+1)) else U c
def vC (A:List (List Int)):Option Int:=jG A bc 0 0
def cY (A:List Int):Nat→Int→Option Int
 | 0,_=>N
 | d+1,a=>if D (a<(A.length:Int)) then Q (idx A a) λc=>Q (yl c) λc=>if c then U a else cY A d (W J (a+1)) else U (-1)
def ff (A:List Int):Option Int:=cY A bc 0
def dL (A:List Int):Option Bool:=Q (ff A) λa=>U (D (a≥0))
def gk (A:aW)(C:Int):Nat→Int→(List (aG×Int))→Option Bool
 | 0,_,_=>N
 | f+1,d,c=>if D (d<(A.t_.length:Int)) then Q (idx A.t_ d) λa=>Q (bm a.U_ 0 (W J (C-1))) λe=>Q (if !e then U y else Q (bm a.V_ 0 (W J (C-1))) λe=>U (!e)) λe=>Q (if e then U y else Q (idx A.p_ a.U_) λe=>Q (idx e a.V_) λe=>U (D (lb (EJ c a (W J (lb c a+1))) a>e))) λe=>if e then U n else gk A C f (W J (d+1)) (EJ c a (W J (lb c a+1))) else U y
def im (A:aW)(C:Int):Nat→Int→Option Bool
 | 0,_=>N
 | d+1,a=>if D (a<(A.p_.length:Int)) then Q (idx A.p_ a) λc=>Q (if ((c.length:Int) != C) then U y else Q (dL c) λc=>U c) λc=>if c then U n else im A C d (W J (a+1)) else Q (vC A.p_) λa=>if (D (a>9999)||((A.t_.length:Int) != (if 20<a then 20 else a))) then U n else gk A C bc 0 []
def xH (A:Int)(C:aW):Option Bool:=Q (bm A 2 3) λa=>if ((!a)||((C.p_.length:Int) != A)) then U n else im C A bc 0
def uF (A:aF):Option Bool:=Q (vH A.m_ A.aa_) λa=>Q (if a then Q (xH (A.m_.y_.g_.length:Int) A.L_) λa=>U a else U n) λa=>U a
def wm (A:Int):Option (List UInt8):=Q (Rn A) λa=>U a
def gz (A:List Int)(C:List UInt8):Nat→Int→List (List UInt8)→Option (List UInt8)
 | 0,_,_=>N
 | e+1,a,c=>if D (a<(A.length:Int)) then Q (idx A a) λd=>Q (wm d) λd=>Q (app c [d]) λd=>gz A C e (W J (a+1)) d else Q (Cs c C) λa=>U a
def rc (A:List Int)(C:List UInt8):Option (List UInt8):=gz A C bc 0 []
def nL (A:aK):Option (List UInt8):=Q (oY A) λa=>if !a then U ([]:List UInt8) else if D ((A.B_.length:Int)>0) then Q (sg A.F_ [58]) λa=>Q (rc A.B_ [44]) λc=>Q (sg a c) λa=>U a else Q (sg A.F_ [61]) λa=>Q (Cs A.M_ [44]) λc=>Q (sg a c) λa=>U a
def ia (A:ae):Nat→Int→List (List UInt8)→Option (List UInt8)
 | 0,_,_=>N
 | e+1,a,c=>if D (a<(A.c_.length:Int)) then Q (idx A.c_ a) λd=>Q (nL d) λd=>Q (app c [d]) λd=>ia A e (W J (a+1)) d else Q (Cs c [59]) λa=>Q (sg a [124]) λa=>Q (Cs A.g_ [44]) λc=>Q (sg a c) λa=>U a
def sK (A:ae):Option (List UInt8):=Q (go A) λa=>if !a then U ([]:List UInt8) else ia A bc 0 []
def oo  : Nat→Int→List Int→Option ((List Int)×Bool)
 | 0,_,_=>N
 | e+1,a,c=>if D (a≥128) then Q (app c [W K (gS .or J (gS .and J a 127) 128)]) λd=>oo e (wW J a 7) d else Q (app c [W K a]) λa=>U (a,n)
def sZ (A:Int):Option ((List Int)×Bool):=Q (bm A 0 2147483647) λa=>if !a then U (([]:List Int),y) else oo bc A []
def xk (A:List UInt8):Option (List Int):=Q (sZ (A.length:Int)) λa=>Q (Gd A) λc=>Q (app a.1 c) λa=>U a
def Aa (A:Bool):Option Int:=if A then U 1 else U 0
def zh (A:Int):Option ((List Int)×Bool):=Q (bm A (-1000000000) 1000000000) λa=>if !a then U (([]:List Int),y) else if D (A<0) then Q (sZ (W J (W J ((-2)*A)-1))) λa=>U (a.1,a.2) else Q (sZ (W J (2*A))) λa=>U (a.1,a.2)
def ki (A:List Int):Nat→List Int→Bool→Int→Option dy
 | 0,_,_,_=>N
 | g+1,c,d,a=>if D (a<(A.length:Int)) then Q (idx A a) λe=>Q (zh e) λe=>Q (app c e.1) λf=>ki A g f (d||e.2) (W J (a+1)) else U (dy.mk c d)
def cM (A:dy)(C:List Int):Option dy:=ki C bc A.ad_ A.P_ 0
def fA (C:dy)(A:List Int):Option dy:=Q (cM C [(A.length:Int)]) λa=>Q (cM a A) λa=>U a
def oa (a:az)(h:(List Int)→Bool→Int→Option dy)(d:Int):Nat→List Int→Bool→Int→Option dy
 | 0,_,_,_=>N
 | i+1,e,f,c=>if D (c<(a.q_.e_.length:Int)) then Q (idx a.q_.e_ c) λg=>Q (fA (dy.mk e f) g) λg=>oa a h d i g.ad_ g.P_ (W J (c+1)) else Q (cM (dy.mk e f) [a.K_]) λc=>Q (fA c a.c_) λc=>Q (cM c [a.r_,a.G_,a.E_]) λa=>h a.ad_ a.P_ (W J (d+1))
def gx (A:am):Nat→List Int→Bool→Int→Option dy
 | 0,_,_,_=>N
 | g+1,d,e,c=>if D (c<(A.a_.length:Int)) then Q (idx A.a_ c) λa=>Q (Aa a.D_) λf=>Q (cM (dy.mk d e) [f,a.n_.k_,a.n_.j_]) λf=>Q (fA f a.C_) λf=>Q (cM f [a.J_]) λf=>Q (fA f a.q_.l_) λf=>Q (cM f [(a.q_.e_.length:Int)]) λf=>oa a (gx A g) c bc f.ad_ f.P_ 0 else U (dy.mk d e)
def ow (C:dy)(A:am):Option dy:=Q (cM C [A.o_,(A.a_.length:Int)]) λa=>gx A bc a.ad_ a.P_ 0
def mO (A:au):Nat→List Int→Bool→Int→Option dy
 | 0,_,_,_=>N
 | f+1,c,d,a=>if D (a<(A.f_.length:Int)) then Q (idx A.f_ a) λe=>Q (fA (dy.mk c d) e) λe=>mO A f e.ad_ e.P_ (W J (a+1)) else U (dy.mk c d)
def mH (C:dy)(A:au):Option dy:=Q (cM C [(A.f_.length:Int)]) λa=>mO A bc a.ad_ a.P_ 0
def qI (e:Int→Int→Option Int)(c:Int):Nat→Int→Int→Option Int
 | 0,_,_=>N
 | f+1,d,a=>if D (d<8) then if gS .and J a 1==1 then qI e c f (W J (d+1)) (gS .xor J (wW J a 1) 3988292384) else qI e c f (W J (d+1)) (wW J a 1) else e a (W J (c+1))
def oV (A:List Int):Nat→Int→Int→Option Int
 | 0,_,_=>N
 | e+1,c,a=>if D (a<(A.length:Int)) then Q (idx A a) λd=>qI (oV A e) a bc 0 (gS .xor J c (W J d)) else U (gS .xor J c 4294967295)
def JT (A:List Int):Option Int:=oV A bc 4294967295 0
def jc (A:List Int):Option (List Int):=Q (JT A) λa=>U ([W K (wW J a 24),W K (wW J a 16),W K (wW J a 8),W K a]:List Int)
def kM (A:aF):Nat→Int→List Int→Bool→Option (List Int)
 | 0,_,_,_=>N
 | f+1,a,c,e=>if D (a<(A.L_.t_.length:Int)) then Q (idx A.L_.t_ a) λd=>Q (cM (dy.mk c e) [d.U_,d.V_]) λd=>kM A f (W J (a+1)) d.ad_ d.P_ else Q (jc c) λa=>Q (app c a) λa=>U a
def jm (A:aF):Nat→Int→List Int→Bool→Option (List Int)
 | 0,_,_,_=>N
 | f+1,a,c,d=>if D (a<(A.L_.p_.length:Int)) then Q (idx A.L_.p_ a) λe=>Q (fA (dy.mk c d) e) λe=>jm A f (W J (a+1)) e.ad_ e.P_ else Q (cM (dy.mk c d) [(A.L_.t_.length:Int)]) λa=>kM A bc 0 a.ad_ a.P_
def kY (A:aF):Nat→List Int→Bool→Int→Option (List Int)
 | 0,_,_,_=>N
 | h+1,d,e,c=>if D (c<(A.aa_.u_.length:Int)) then Q (idx A.aa_.u_ c) λa=>Q (ow (dy.mk d e) a.A_) λf=>Q (Aa a.N_) λg=>Q (cM f [g]) λf=>Q (ow f a.s_) λf=>Q (mH f a.z_.v_) λf=>Q (mH f a.z_.w_) λa=>kY A h a.ad_ a.P_ (W J (c+1)) else jm A bc 0 d e
def kn (A:aF):Option (List Int):=Q (uF A) λa=>if !a then U ([]:List Int) else Q (app [83,80,78] [1]) λa=>Q (sK A.m_.y_) λc=>Q (xk c) λc=>Q (app a c) λa=>Q (Aa A.m_.d_.O_) λc=>Q (cM (dy.mk a n) [A.m_.d_.S_,A.m_.d_.Q_,A.m_.d_.T_,A.m_.d_.r_,A.m_.d_.a_,A.m_.d_.H_,c]) λa=>Q (cM a [A.m_.u_,A.m_.X_,A.m_.Z_,A.m_.v_,A.m_.w_]) λa=>kY A bc a.ad_ a.P_ 0
def sG (A C:List Int):Option Bool:=U (oc A==oc C)
def oQ (A:Int)(C:List Int):Nat→Int→Int→Option (Int×Int×Bool)
 | 0,_,_=>N
 | f+1,c,a=>if ((D (a<5)&&D (W J (A+a)≥0))&&D (W J (A+a)<(C.length:Int))) then Q (idx C (W J (A+a))) λd=>Q (shl J (gS .and J (W J d) 127) (W J (7*a))) λe=>if D (W J d≥128) then oQ A C f (gS .or J c e) (W J (a+1)) else if ((W J d==0)&&D (a>0))||D (gS .or J c e>2147483647) then U (0,0,n) else U (gS .or J c e,W J (W J (A+a)+1),y) else U (0,0,n)
def wa (C:List Int)(A:Int):Option (Int×Int×Bool):=if D (A<0) then U (0,0,n) else oQ A C bc 0 0
def uz (A:List Int)(C:Int):Option ((List UInt8)×Int×Bool):=Q (wa A C) λa=>if ((!a.2.2)||D (a.1>W J ((A.length:Int)-a.2.1))) then U (([]:List UInt8),0,n) else Q (sub A a.2.1 (W J (a.2.1+a.1))) λc=>U (oc c,W J (a.2.1+a.1),y)
def nK (A:List UInt8)(C:Int):Nat→List (List UInt8)→Int→Int→Option (List (List UInt8))
 | 0,_,_,_=>N
 | e+1,c,d,a=>if D (a<(A.length:Int)) then Q (idx A a) λf=>if ((f.toNat:Int)==C) then Q (sub A d a) λf=>Q (app c [f]) λf=>nK A C e f (W J (a+1)) (W J (a+1)) else nK A C e c d (W J (a+1)) else Q (sub A d (A.length:Int)) λa=>Q (app c [a]) λa=>U a
def uO (A:List UInt8)(C:Int):Option (List (List UInt8)):=nK A C bc [] 0 0
def Bi (A:List UInt8)(E C:Int):Option (Int×Bool):=Q (QV A) λa=>Q (if !a.2 then U y else Q (bm a.1 E C) λc=>U (!c)) λu17=>Q (if u17 then U y else Q (wm a.1) λc=>U (!(c==A))) λu22=>if u22 then U (0,n) else U (a.1,y)
def wd (A:List UInt8):Option (Int×Bool):=Q (Bi A (-9999) 9999) λa=>U (a.1,a.2)
def lu (A a:List UInt8)(c:List Int)(d:List (List UInt8)):Option (aK×Bool):=Q (oY (aK.mk a c d)) λe=>Q (if !e then U y else Q (nL (aK.mk a c d)) λe=>U (!(e==A))) λe=>if e then U (aK.mk [] [] [],n) else U (aK.mk a c d,y)
def ka (a:List (List UInt8))(A:List UInt8)(d:List UInt8×List UInt8×Bool):Nat→Int→List Int→Option (aK×Bool)
 | 0,_,_=>N
 | g+1,c,e=>if D (c<(a.length:Int)) then Q (idx a c) λf=>Q (wd f) λf=>if !f.2 then U (aK.mk [] [] [],n) else Q (app e [f.1]) λf=>ka a A d g (W J (c+1)) f else lu A d.1 e []
def wb (A:List UInt8):Option (aK×Bool):=Q (RZ A [61]) λa=>if a.2.2 then Q (uO a.2.1 44) λc=>lu A a.1 [] c else Q (RZ A [58]) λa=>if a.2.2 then Q (uO a.2.1 44) λc=>ka c A a bc 0 [] else lu A [] [] []
def jw (a c:List (List UInt8)):Nat→Int→List aK→Option (ae×Bool)
 | 0,_,_=>N
 | g+1,d,e=>if D (d<(a.length:Int)) then Q (idx a d) λf=>Q (wb f) λf=>if !f.2 then U (ae.mk [] [],n) else Q (app e [f.1]) λf=>jw a c g (W J (d+1)) f else Q (go (ae.mk e c)) λa=>if !a then U (ae.mk [] [],n) else U (ae.mk e c,y)
def rX (A:List UInt8):Option (ae×Bool):=Q (RZ A [124]) λa=>if !a.2.2 then U (ae.mk [] [],n) else Q (uO a.2.1 44) λc=>Q (uO a.1 59) λa=>jw a c bc 0 []
def oD (a:Int×Int×Bool)(c:Int):Option (Int×Int×Bool):=Q (if !a.2.2 then U y else Q (bm c (-1000000000) 1000000000) λd=>U (!d)) λu13=>if u13 then U (0,0,n) else U (c,a.2.1,y)
def tw (A:List Int)(C:Int):Option (Int×Int×Bool):=Q (wa A C) λa=>if Int.tmod a.1 2==1 then oD a (W J (W J (0-W J (Int.tdiv a.1 2))-1)) else oD a (W J (Int.tdiv a.1 2))
def bd (C:List Int)(A:ar):Option (Int×ar):=if A.P_ then U (0,A) else Q (tw C A.b_) λa=>if !a.2.2 then U (0,ar.mk A.b_ y) else U (a.1,ar.mk a.2.1 A.P_)
def iy (A:List Int)(C:ar):Option (Bool×ar):=Q (bd A C) λa=>U ((a.1==1),ar.mk a.2.b_ (a.2.P_||((a.1 != 0)&&(a.1 != 1))))
def dn (A:List Int)(C:ar):Option (Int×ar):=Q (bd A C) λa=>if (D (a.1<0)||D (a.1>W J ((A.length:Int)-a.2.b_))) then U (0,ar.mk a.2.b_ y) else U (a.1,a.2)
def oe (A:List Int):Nat→Int→Bool→List Int→Int→Option ((List Int)×ar)
 | 0,_,_,_,_=>N
 | h+1,d,a,e,f=>if D (f>0)&&(!a) then Q (bd A (ar.mk d a)) λc=>Q (app e [c.1]) λg=>oe A h c.2.b_ c.2.P_ g (W J (f-1)) else U (e,ar.mk d a)
def ei (A:List Int)(C:ar):Option ((List Int)×ar):=Q (dn A C) λa=>oe A bc a.2.b_ a.2.P_ [] a.1
def lN (A:List Int)(d:List az)(e:Bool×ar)(f g:Int×ar)(h:(List Int)×ar)(i:Int×ar)(j:(List Int)×ar)(q:Int→Bool→List az→Int→Option (am×ar))(k:Int):Nat→Int→Bool→List (List Int)→Int→Option (am×ar)
 | 0,_,_,_,_=>N
 | r+1,l,a,m,o=>if D (o>0)&&(!a) then Q (ei A (ar.mk l a)) λc=>Q (app m [c.1]) λp=>lN A d e f g h i j q k r c.2.b_ c.2.P_ p (W J (o-1)) else Q (bd A (ar.mk l a)) λc=>Q (ei A c.2) λl=>Q (bd A l.2) λo=>Q (bd A o.2) λp=>Q (bd A p.2) λa=>Q (app d [az.mk e.1 (aC.mk f.1 g.1) h.1 i.1 (aD.mk j.1 m) c.1 l.1 o.1 p.1 a.1]) λc=>q a.2.b_ a.2.P_ c (W J (k-1))
def fv (A:List Int)(m:Int×ar):Nat→Int→Bool→List az→Int→Option (am×ar)
 | 0,_,_,_,_=>N
 | o+1,d,a,e,f=>if D (f>0)&&(!a) then Q (iy A (ar.mk d a)) λg=>Q (bd A g.2) λh=>Q (bd A h.2) λi=>Q (ei A i.2) λj=>Q (bd A j.2) λk=>Q (ei A k.2) λl=>Q (dn A l.2) λc=>lN A e g h i j k l (fv A m o) f bc c.2.b_ c.2.P_ [] c.1 else U (am.mk e m.1,ar.mk d a)
def jr (A:List Int)(C:ar):Option (am×ar):=Q (bd A C) λc=>Q (dn A c.2) λa=>fv A c bc a.2.b_ a.2.P_ [] a.1
def iS (A:List Int):Nat→Int→Bool→List (List Int)→Int→Option (au×ar)
 | 0,_,_,_,_=>N
 | h+1,d,c,e,f=>if D (f>0)&&(!c) then Q (ei A (ar.mk d c)) λa=>Q (app e [a.1]) λg=>iS A h a.2.b_ a.2.P_ g (W J (f-1)) else U (au.mk e,ar.mk d c)
def fU (A:List Int)(C:ar):Option (au×ar):=Q (dn A C) λa=>iS A bc a.2.b_ a.2.P_ [] a.1
def iN (A:List Int)(i:ae×Bool)(j k l m o p:Int×ar)(q:Bool×ar)(r s t u v:Int×ar)(d:List aA)(e:List (List Int)):Nat→Int→List aG→Int→Bool→Option (aF×Bool)
 | 0,_,_,_,_=>N
 | w+1,f,g,c,a=>if D (f>0)&&(!a) then Q (bd A (ar.mk c a)) λh=>Q (bd A h.2) λc=>Q (app g [aG.mk h.1 c.1]) λh=>iN A i j k l m o p q r s t u v d e w (W J (f-1)) h c.2.b_ c.2.P_ else U (aF.mk (aZ.mk i.1 (bO.mk j.1 k.1 l.1 m.1 o.1 p.1 q.1) r.1 s.1 t.1 u.1 v.1) (bj.mk d) (aW.mk e g),(!a))
def iK (c:ae×Bool)(A:List Int)(i j k l m o:Int×ar)(p:Bool×ar)(q r s t u:Int×ar)(d:List aA):Nat→Int→List (List Int)→Int→Bool→Option (aF×Bool)
 | 0,_,_,_,_=>N
 | w+1,e,f,g,h=>if D (e<(c.1.g_.length:Int)) then Q (ei A (ar.mk g h)) λa=>Q (app f [a.1]) λv=>iK c A i j k l m o p q r s t u d w (W J (e+1)) v a.2.b_ a.2.P_ else Q (dn A (ar.mk g h)) λa=>iN A c i j k l m o p q r s t u d f bc a.1 [] a.2.b_ a.2.P_
def gK (c:Int×ar)(C:List Int)(l:ae×Bool)(m o p q r s:Int×ar)(t:Bool×ar)(u v w x:Int×ar):Nat→Int→List aA→Int→Bool→Option (aF×Bool)
 | 0,_,_,_,_=>N
 | A+1,d,e,f,g=>if D (d<c.1) then Q (jr C (ar.mk f g)) λh=>Q (iy C h.2) λi=>Q (jr C i.2) λj=>Q (fU C j.2) λk=>Q (fU C k.2) λa=>Q (app e [aA.mk h.1 i.1 j.1 (cx.mk k.1 a.1)]) λh=>gK c C l m o p q r s t u v w x A (W J (d+1)) h a.2.b_ a.2.P_ else iK l C m o p q r s t c u v w x e bc 0 [] f g
def mE (A:List Int):Option (aF×Bool):=Q (uz A 4) λa=>if !a.2.2 then U (aF.mk (aZ.mk (ae.mk [] []) (bO.mk 0 0 0 0 0 0 n) 0 0 0 0 0) (bj.mk []) (aW.mk [] []),n) else Q (rX a.1) λc=>if !c.2 then U (aF.mk (aZ.mk (ae.mk [] []) (bO.mk 0 0 0 0 0 0 n) 0 0 0 0 0) (bj.mk []) (aW.mk [] []),n) else Q (bd A (ar.mk a.2.1 n)) λd=>Q (bd A d.2) λe=>Q (bd A e.2) λf=>Q (bd A f.2) λg=>Q (bd A g.2) λh=>Q (bd A h.2) λi=>Q (iy A i.2) λj=>Q (bd A j.2) λk=>Q (bd A k.2) λl=>Q (bd A l.2) λm=>Q (bd A m.2) λo=>Q (bd A o.2) λa=>Q (if a.2.P_ then U y else Q (qv (aZ.mk c.1 (bO.mk d.1 e.1 f.1 g.1 h.1 i.1 j.1) k.1 l.1 m.1 o.1 a.1)) λp=>U (!p)) λp=>if p then U (aF.mk (aZ.mk (ae.mk [] []) (bO.mk 0 0 0 0 0 0 n) 0 0 0 0 0) (bj.mk []) (aW.mk [] []),n) else gK k A c d e f g h i j l m o a bc 0 [] a.2.b_ a.2.P_
def um (A:List Int):Option (aF×Int):=if D ((A.length:Int)<8) then U (aF.mk (aZ.mk (ae.mk [] []) (bO.mk 0 0 0 0 0 0 n) 0 0 0 0 0) (bj.mk []) (aW.mk [] []),1) else Q (sub A 0 3) λa=>if (!(oc a==([83,80,78]:List UInt8))) then U (aF.mk (aZ.mk (ae.mk [] []) (bO.mk 0 0 0 0 0 0 n) 0 0 0 0 0) (bj.mk []) (aW.mk [] []),2) else Q (idx A 3) λa=>if a != 1 then U (aF.mk (aZ.mk (ae.mk [] []) (bO.mk 0 0 0 0 0 0 n) 0 0 0 0 0) (bj.mk []) (aW.mk [] []),3) else Q (sub A (W J ((A.length:Int)-4)) (A.length:Int)) λa=>Q (sub A 0 (W J ((A.length:Int)-4))) λc=>Q (jc c) λc=>Q (sG a c) λa=>if !a then U (aF.mk (aZ.mk (ae.mk [] []) (bO.mk 0 0 0 0 0 0 n) 0 0 0 0 0) (bj.mk []) (aW.mk [] []),4) else Q (sub A 0 (W J ((A.length:Int)-4))) λa=>Q (mE a) λa=>Q (if !a.2 then U y else Q (kn a.1) λc=>Q (sG c A) λc=>U (!c)) λc=>if c then U (aF.mk (aZ.mk (ae.mk [] []) (bO.mk 0 0 0 0 0 0 n) 0 0 0 0 0) (bj.mk []) (aW.mk [] []),5) else U (a.1,0)
def tM (A:aF):Option Bool:=Q (rW A.m_ A.aa_) λa=>Q (if a then Q (rj (A.m_.y_.g_.length:Int) A.L_) λa=>U a else U n) λa=>U a
def fu (A C:List (List UInt8)):Nat→Int→Option Bool
 | 0,_=>N
 | e+1,a=>if D (a<(A.length:Int)) then Q (idx A a) λc=>Q (idx C a) λd=>if !(c==d) then U n else fu A C e (W J (a+1)) else U y
def ov (A C:List (List UInt8)):Option Bool:=if ((A.length:Int) != (C.length:Int)) then U n else fu A C bc 0
def fT (A C:List Int):Nat→Int→Option Bool
 | 0,_=>N
 | e+1,a=>if D (a<(A.length:Int)) then Q (idx A a) λc=>Q (idx C a) λd=>if c != d then U n else fT A C e (W J (a+1)) else U y
def io (A C:List Int):Option Bool:=if ((A.length:Int) != (C.length:Int)) then U n else fT A C bc 0
def fS (A C:ae):Nat→Int→Option Bool
 | 0,_=>N
 | e+1,a=>if D (a<(A.c_.length:Int)) then Q (idx A.c_ a) λc=>Q (idx C.c_ a) λd=>Q (if !(c.F_==d.F_) then U y else Q (idx A.c_ a) λc=>Q (idx C.c_ a) λd=>Q (io c.B_ d.B_) λc=>U (!c)) λc=>Q (if c then U y else Q (idx A.c_ a) λc=>Q (idx C.c_ a) λd=>Q (ov c.M_ d.M_) λc=>U (!c)) λc=>if c then U n else fS A C e (W J (a+1)) else U y
def sh (A C:ae):Option Bool:=Q (if ((A.c_.length:Int) != (C.c_.length:Int)) then U y else Q (ov A.g_ C.g_) λa=>U (!a)) λa=>if a then U n else fS A C bc 0
def vM (A C:aZ):Option Bool:=Q (sh A.y_ C.y_) λa=>U ((((((a&&(A.d_.S_==C.d_.S_&&(A.d_.Q_==C.d_.Q_&&(A.d_.T_==C.d_.T_&&(A.d_.r_==C.d_.r_&&(A.d_.a_==C.d_.a_&&(A.d_.H_==C.d_.H_&&(A.d_.O_==C.d_.O_&&y))))))))&&(A.u_==C.u_))&&(A.X_==C.X_))&&(A.Z_==C.Z_))&&(A.v_==C.v_))&&(A.w_==C.w_))
def gJ (A C:aD):Nat→Int→Option Bool
 | 0,_=>N
 | e+1,a=>if D (a<(A.e_.length:Int)) then Q (idx A.e_ a) λc=>Q (idx C.e_ a) λd=>Q (io c d) λc=>if !c then U n else gJ A C e (W J (a+1)) else U y
def uc (A C:aD):Option Bool:=Q (io A.l_ C.l_) λa=>if ((!a)||((A.e_.length:Int) != (C.e_.length:Int))) then U n else gJ A C bc 0
def vE (A C:az):Option Bool:=Q (if (A.D_==C.D_)&&(A.n_.k_==C.n_.k_&&(A.n_.j_==C.n_.j_&&y)) then Q (io A.C_ C.C_) λa=>U a else U n) λa=>Q (if a&&(A.J_==C.J_) then Q (uc A.q_ C.q_) λa=>U a else U n) λa=>Q (if a&&(A.K_==C.K_) then Q (io A.c_ C.c_) λa=>U a else U n) λa=>U (((a&&(A.r_==C.r_))&&(A.G_==C.G_))&&(A.E_==C.E_))
def ix (A C:am):Nat→Int→Option Bool
 | 0,_=>N
 | e+1,a=>if D (a<(A.a_.length:Int)) then Q (idx A.a_ a) λd=>Q (idx C.a_ a) λc=>Q (vE d c) λc=>if !c then U n else ix A C e (W J (a+1)) else U y
def sf (A C:am):Option Bool:=if (((A.a_.length:Int) != (C.a_.length:Int))||(A.o_ != C.o_)) then U n else ix A C bc 0
def fY (A C:au):Nat→Int→Option Bool
 | 0,_=>N
 | e+1,a=>if D (a<(A.f_.length:Int)) then Q (idx A.f_ a) λc=>Q (idx C.f_ a) λd=>Q (io c d) λc=>if !c then U n else fY A C e (W J (a+1)) else U y
def pt (A C:au):Option Bool:=if ((A.f_.length:Int) != (C.f_.length:Int)) then U n else fY A C bc 0
def xA (A C:cx):Option Bool:=Q (pt A.v_ C.v_) λa=>Q (if a then Q (pt A.w_ C.w_) λa=>U a else U n) λa=>U a
def sF (A C:aA):Option Bool:=Q (sf A.A_ C.A_) λa=>Q (if a&&(A.N_==C.N_) then Q (sf A.s_ C.s_) λa=>U a else U n) λa=>Q (if a then Q (xA A.z_ C.z_) λa=>U a else U n) λa=>U a
def fX (A C:bj):Nat→Int→Option Bool
 | 0,_=>N
 | e+1,a=>if D (a<(A.u_.length:Int)) then Q (idx A.u_ a) λd=>Q (idx C.u_ a) λc=>Q (sF d c) λc=>if !c then U n else fX A C e (W J (a+1)) else U y
def sM (A C:bj):Option Bool:=if ((A.u_.length:Int) != (C.u_.length:Int)) then U n else fX A C bc 0
def gG (A C:aW):Nat→Int→Option Bool
 | 0,_=>N
 | e+1,a=>if D (a<(A.t_.length:Int)) then Q (idx A.t_ a) λc=>Q (idx C.t_ a) λd=>if !(c.U_==d.U_&&(c.V_==d.V_&&y)) then U n else gG A C e (W J (a+1)) else U y
def gE (A C:aW):Nat→Int→Option Bool
 | 0,_=>N
 | e+1,a=>if D (a<(A.p_.length:Int)) then Q (idx A.p_ a) λc=>Q (idx C.p_ a) λd=>Q (io c d) λc=>if !c then U n else gE A C e (W J (a+1)) else gG A C bc 0
def ut (A C:aW):Option Bool:=if (((A.p_.length:Int) != (C.p_.length:Int))||((A.t_.length:Int) != (C.t_.length:Int))) then U n else gE A C bc 0
def tW (A C:aF):Option Bool:=Q (vM A.m_ C.m_) λa=>Q (if a then Q (sM A.aa_ C.aa_) λa=>U a else U n) λa=>Q (if a then Q (ut A.L_ C.L_) λa=>U a else U n) λa=>U a
def cB (A C:List (List UInt8)):Nat→Int→Option Bool
 | 0,_=>N
 | e+1,a=>if D (a<(A.length:Int)) then Q (idx A a) λc=>Q (idx C a) λd=>if !(c==d) then U n else cB A C e (W J (a+1)) else U y
def eL (A C:List (List UInt8)):Option Bool:=if ((A.length:Int) != (C.length:Int)) then U n else cB A C bc 0
def qf (A C:aK):Option Bool:=Q (if A.F_==C.F_ then Q (dZ A.B_ C.B_) λa=>U a else U n) λa=>Q (if a then Q (eL A.M_ C.M_) λa=>U a else U n) λa=>U a
def aN (A C:List aK):Nat→Int→Option Bool
 | 0,_=>N
 | e+1,a=>if D (a<(A.length:Int)) then Q (idx A a) λc=>Q (idx C a) λd=>Q (qf c d) λc=>if !c then U n else aN A C e (W J (a+1)) else U y
def bU (A C:List aK):Option Bool:=if ((A.length:Int) != (C.length:Int)) then U n else aN A C bc 0
def sA (A C:ae):Option Bool:=Q (eL A.g_ C.g_) λa=>Q (if a then Q (bU A.c_ C.c_) λa=>U a else U n) λa=>U a
def vT (A C:aZ):Option Bool:=Q (sA A.y_ C.y_) λa=>U ((((((a&&(A.d_.S_==C.d_.S_&&(A.d_.Q_==C.d_.Q_&&(A.d_.T_==C.d_.T_&&(A.d_.r_==C.d_.r_&&(A.d_.a_==C.d_.a_&&(A.d_.H_==C.d_.H_&&(A.d_.O_==C.d_.O_&&y))))))))&&(A.u_==C.u_))&&(A.X_==C.X_))&&(A.Z_==C.Z_))&&(A.v_==C.v_))&&(A.w_==C.w_))
def pq (A C:au):Option Bool:=Q (oO A.f_ C.f_) λa=>U a
def xn (A C:cx):Option Bool:=Q (pq A.v_ C.v_) λa=>Q (if a then Q (pq A.w_ C.w_) λa=>U a else U n) λa=>U a
def sk (A C:aA):Option Bool:=Q (mh A.A_ C.A_) λa=>Q (if a&&(A.N_==C.N_) then Q (mh A.s_ C.s_) λa=>U a else U n) λa=>Q (if a then Q (xn A.z_ C.z_) λa=>U a else U n) λa=>U a
def aJ (A C:List aA):Nat→Int→Option Bool
 | 0,_=>N
 | e+1,a=>if D (a<(A.length:Int)) then Q (idx A a) λd=>Q (idx C a) λc=>Q (sk d c) λc=>if !c then U n else aJ A C e (W J (a+1)) else U y
def bP (A C:List aA):Option Bool:=if ((A.length:Int) != (C.length:Int)) then U n else aJ A C bc 0
def so (A C:bj):Option Bool:=Q (bP A.u_ C.u_) λa=>U a
def bX (A C:List aG):Nat→Int→Option Bool
 | 0,_=>N
 | e+1,a=>if D (a<(A.length:Int)) then Q (idx A a) λc=>Q (idx C a) λd=>if !(c.U_==d.U_&&(c.V_==d.V_&&y)) then U n else bX A C e (W J (a+1)) else U y
def eM (A C:List aG):Option Bool:=if ((A.length:Int) != (C.length:Int)) then U n else bX A C bc 0
def uu (A C:aW):Option Bool:=Q (oO A.p_ C.p_) λa=>Q (if a then Q (eM A.t_ C.t_) λa=>U a else U n) λa=>U a
def uE (A C:aF):Option Bool:=Q (vT A.m_ C.m_) λa=>Q (if a then Q (so A.aa_ C.aa_) λa=>U a else U n) λa=>Q (if a then Q (uu A.L_ C.L_) λa=>U a else U n) λa=>U a
def CC (A:List Int):Option Bool:=Q (Kl A) λa=>if a then U y else Q (od A) λa=>Q (kn a) λd=>Q (um d) λc=>Q (tM a) λe=>if !e then U (((d.length:Int)==0)&&(c.2==1)) else Q (if c.2==0 then Q (tW c.1 a) λd=>U d else U n) λd=>Q (if d then Q (uE c.1 a) λa=>U a else U n) λa=>U a
end
end Go.Vk
