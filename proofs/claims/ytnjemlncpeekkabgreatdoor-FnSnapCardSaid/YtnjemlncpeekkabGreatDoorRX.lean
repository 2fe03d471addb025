/- Functions of data of other seats, to lean on. -/
import Derived.Test.YtnjemlncpeekkabGreatDoorRF
import Derived.Test.YtnjemlncpeekkabGreatDoorVkBr
namespace Go.Vk
noncomputable section
open IntKind renaming i64 → J, u8 → K, wrap → W
open Decidable renaming decide → D
open Bool renaming true → y, false → n
open Option renaming some → U, none → N, bind → Q
def ux (A:List (List UInt8))(a:Int)(f:(List UInt8)→Int→Option (List UInt8))(c:List UInt8):Option (List UInt8):=Q (idx A a) λd=>Q (sg c d) λe=>f e (W J (a+1))
def iZ (A:List (List UInt8))(C:List UInt8):Nat→List UInt8→Int→Option (List UInt8)
 | 0,_,_=>N
 | d+1,c,a =>
  if D (a<(A.length:Int)) then if D (a>0) then Q (sg c C) λe=>ux A a (iZ A C d) e else ux A a (iZ A C d) c else U c
def nB (A:List (List UInt8))(C:List UInt8):Option (List UInt8):=iZ A C bc [] 0
def qB (a:List UInt8)(f:Int→List UInt8→Option (List UInt8))(c d:Int):Option (List UInt8):=Q (sg (oc [W K (W J (48+d))]) a) λe=>f (W J (Int.tdiv c 10)) e
def iW (A:Int):Nat→Int→List UInt8→Option (List UInt8)
 | 0,_,_=>N
 | d+1,a,c =>
  if a != 0 then if D (Int.tmod a 10<0) then qB c (iW A d) a (W J (0-Int.tmod a 10)) else qB c (iW A d) a (Int.tmod a 10) else if D (A<0) then Q (sg [45] c) λe=>U e else U c
def zF (A:Int):Option (List UInt8):=if A==0 then U ([48]:List UInt8) else iW A bc A []
def kG (A:aK):Nat→List (List UInt8)→Int→Option (List UInt8)
 | 0,_,_=>N
 | j+1,c,a =>
  if D (a<(A.B_.length:Int)) then Q (idx A.B_ a) λd=>Q (zF d) λe=>Q (app c [e]) λf=>kG A j f (W J (a+1)) else Q (sg A.F_ [58]) λg=>Q (nB c [44]) λh=>Q (sg g h) λi=>U i
def pH (A:aK):Option (List UInt8):=Q (oZ A) λa=>if !a then U ([]:List UInt8) else if D ((A.M_.length:Int)>0) then Q (sg A.F_ [61]) λc=>Q (nB A.M_ [44]) λd=>Q (sg c d) λe=>U e else kG A bc [] 0
def jq (A:ae):Nat→List (List UInt8)→Int→Option (List UInt8)
 | 0,_,_=>N
 | k+1,c,a =>
  if D (a<(A.c_.length:Int)) then Q (idx A.c_ a) λh=>Q (pH h) λi=>Q (app c [i]) λj=>jq A k j (W J (a+1)) else Q (nB c [59]) λd=>Q (sg d [124]) λe=>Q (nB A.g_ [44]) λf=>Q (sg e f) λg=>U g
def wQ (A:ae):Option (List UInt8):=Q (fH A) λa=>if !a then U ([]:List UInt8) else jq A bc [] 0
def qr  : Nat→Int→List Int→Option (List Int)
 | 0,_,_=>N
 | f+1,a,c =>
  if D (a>127) then Q (app c [W K (W J (Int.tmod a 128+128))]) λd=>qr f (W J (Int.tdiv a 128)) d else Q (app c [W K a]) λe=>U e
def wv (A:Int):Option (List Int):=Q (aU A 0 2147483647) λa=>if !a then U ([]:List Int) else qr bc A []
def Be (A:List UInt8):Option (List Int):=Q (wv (A.length:Int)) λa=>Q (Gd A) λc=>Q (app a c) λd=>U d
def er (A:Int):Option (List Int):=Q (aU A (-1000000000) 1000000000) λa=>if !a then U ([]:List Int) else if D (A<0) then Q (wv (W J (W J (0-W J (2*A))-1))) λc=>U c else Q (wv (W J (2*A))) λd=>U d
def wB (A:List Int):Nat→Int→Option (Bool)
 | 0,_=>N
 | e+1,a =>
  if D (a<(A.length:Int)) then Q (idx A a) λc=>Q (aU c (-1000000000) 1000000000) λd=>if !d then U n else wB A e (W J (a+1)) else U y
def jW (A:List Int):Option (Bool):=wB A bc 0
def nY (A:az):Nat→Int→Option (Bool)
 | 0,_=>N
 | e+1,a =>
  if D (a<(A.q_.e_.length:Int)) then Q (idx A.q_.e_ a) λc=>Q (jW c) λd=>if !d then U n else nY A e (W J (a+1)) else U y
def uP (A:az):Option (Bool):=Q (jW [A.n_.k_,A.n_.j_,A.J_,A.K_,A.r_,A.G_,A.E_]) λa=>Q (if !a then U y else Q (jW A.C_) λc=>U (!c)) λd=>Q (if d then U y else Q (jW A.c_) λe=>U (!e)) λf=>Q (if f then U y else Q (jW A.q_.l_) λg=>U (!g)) λh=>if h then U n else nY A bc 0
def sy (A:List Int):Nat→List Int→Int→Option (List Int)
 | 0,_,_=>N
 | g+1,c,a =>
  if D (a<(A.length:Int)) then Q (idx A a) λd=>Q (er d) λe=>Q (app c e) λf=>sy A g f (W J (a+1)) else U c
def nu (A:List Int):Option (List Int):=Q (jW A) λa=>if !a then U ([]:List Int) else Q (er (A.length:Int)) λc=>sy A bc c 0
def rH (A:List (List Int)):Nat→List Int→Int→Option (List Int)
 | 0,_,_=>N
 | g+1,c,a =>
  if D (a<(A.length:Int)) then Q (idx A a) λd=>Q (nu d) λe=>Q (app c e) λf=>rH A g f (W J (a+1)) else U c
def oy (A:List (List Int)):Option (List Int):=Q (er (A.length:Int)) λa=>rH A bc a 0
def wF (E:az):Option (List Int):=Q (iE E.D_) λo=>Q (er o) λp=>Q (er E.n_.k_) λq=>Q (app p q) λr=>Q (er E.n_.j_) λs=>Q (app r s) λt=>Q (nu E.C_) λu=>Q (app t u) λv=>Q (er E.J_) λw=>Q (app v w) λx=>Q (nu E.q_.l_) λA=>Q (app x A) λC=>Q (oy E.q_.e_) λa=>Q (app C a) λc=>Q (er E.K_) λd=>Q (app c d) λe=>Q (nu E.c_) λf=>Q (app e f) λg=>Q (er E.r_) λh=>Q (app g h) λi=>Q (er E.G_) λj=>Q (app i j) λk=>Q (er E.E_) λl=>Q (app k l) λm=>U m
def wX (A:am):Nat→List Int→Int→Option (List Int)
 | 0,_,_=>N
 | i+1,c,a =>
  if D (a<(A.a_.length:Int)) then Q (idx A.a_ a) λd=>Q (uP d) λe=>if !e then U ([]:List Int) else Q (idx A.a_ a) λf=>Q (wF f) λg=>Q (app c g) λh=>wX A i h (W J (a+1)) else U c
def uD (A:am):Option (List Int):=Q (jW [A.o_]) λa=>if !a then U ([]:List Int) else Q (er A.o_) λc=>Q (er (A.a_.length:Int)) λd=>Q (app c d) λe=>wX A bc e 0
def us (A:au):Nat→Int→Option (List Int)
 | 0,_=>N
 | f+1,a =>
  if D (a<(A.f_.length:Int)) then Q (idx A.f_ a) λc=>Q (jW c) λd=>if !d then U ([]:List Int) else us A f (W J (a+1)) else Q (oy A.f_) λe=>U e
def qK (A:au):Option (List Int):=us A bc 0
def tn (e:Int→Int→Option (Int))(c:Int):Nat→Int→Int→Option (Int)
 | 0,_,_=>N
 | f+1,a,d =>
  if D (d<8) then if Int.tmod a 2==1 then tn e c f (gS .xor .i64 (W J (Int.tdiv a 2)) 3988292384) (W J (d+1)) else tn e c f (W J (Int.tdiv a 2)) (W J (d+1)) else e a (W J (c+1))
def ta (A:List Int):Nat→Int→Int→Option (Int)
 | 0,_,_=>N
 | e+1,c,a =>
  if D (a<(A.length:Int)) then Q (idx A a) λd=>tn (ta A e) a bc (gS .xor .i64 c (W J d)) 0 else U (gS .xor .i64 c 4294967295)
def On (A:List Int):Option (Int):=ta A bc 4294967295 0
def pd (A:List Int):Option (List Int):=Q (On A) λa=>U ([W K (W J (Int.tdiv a 16777216)),W K (Int.tmod (W J (Int.tdiv a 65536)) 256),W K (Int.tmod (W J (Int.tdiv a 256)) 256),W K (Int.tmod a 256)]:List Int)
def mD (A:aF):Nat→Int→List Int→Option (List Int)
 | 0,_,_=>N
 | l+1,a,c =>
  if D (a<(A.L_.t_.length:Int)) then Q (idx A.L_.t_ a) λd=>Q (er d.U_) λe=>Q (app c e) λf=>Q (idx A.L_.t_ a) λg=>Q (er g.V_) λh=>Q (app f h) λi=>mD A l (W J (a+1)) i else Q (pd c) λj=>Q (app c j) λk=>U k
def kT (A:aF):Nat→List Int→Int→Option (List Int)
 | 0,_,_=>N
 | i+1,c,a =>
  if D (a<(A.L_.p_.length:Int)) then Q (idx A.L_.p_ a) λd=>Q (nu d) λe=>Q (app c e) λf=>kT A i f (W J (a+1)) else Q (er (A.L_.t_.length:Int)) λg=>Q (app c g) λh=>mD A bc 0 h
def kK (A:aF):Nat→List Int→Int→Option (List Int)
 | 0,_,_=>N
 | q+1,d,c =>
  if D (c<(A.aa_.u_.length:Int)) then Q (idx A.aa_.u_ c) λa=>Q (uD a.A_) λe=>Q (app d e) λf=>Q (iE a.N_) λg=>Q (er g) λh=>Q (app f h) λi=>Q (uD a.s_) λj=>Q (app i j) λk=>Q (qK a.z_.v_) λl=>Q (app k l) λm=>Q (qK a.z_.w_) λo=>Q (app m o) λp=>kK A q p (W J (c+1)) else kT A bc d 0
def sQ (A:aF)(a:Int):Nat→List Int→Int→Option (List Int)
 | 0,_,_=>N
 | h+1,d,c =>
  if D (c<(([A.m_.d_.S_,A.m_.d_.Q_,A.m_.d_.T_,A.m_.d_.r_,A.m_.d_.a_,A.m_.d_.H_,a,A.m_.u_,A.m_.X_,A.m_.Z_,A.m_.v_,A.m_.w_]:List Int).length:Int)) then Q (idx ([A.m_.d_.S_,A.m_.d_.Q_,A.m_.d_.T_,A.m_.d_.r_,A.m_.d_.a_,A.m_.d_.H_,a,A.m_.u_,A.m_.X_,A.m_.Z_,A.m_.v_,A.m_.w_]:List Int) c) λf=>Q (er f) λg=>Q (app d g) λe=>sQ A a h e (W J (c+1)) else kK A bc d 0
def su (A:aF):Option (List Int):=Q (tM A) λa=>if !a then U ([]:List Int) else Q (wQ A.m_.y_) λc=>Q (Be c) λd=>Q (app [83,80,78,1] d) λe=>Q (iE A.m_.d_.O_) λf=>sQ A f bc e 0
def hY (A:Int)(C:List Int):Nat→Int→Int→Option (Int×Int×Bool)
 | 0,_,_=>N
 | f+1,c,a =>
  if D (a<5) then if (D (A<0)||D (A≥W J ((C.length:Int)-a))) then U (0,0,n) else Q (idx C (W J (A+a))) λd=>Q (shl .i64 (Int.tmod (W J d) 128) (W J (7*a))) λe=>if D (W J d<128) then if (D (a>0)&&(W J d==0))||D (gS .or .i64 c e>2147483647) then U (0,0,n) else U (gS .or .i64 c e,W J (W J (A+a)+1),y) else hY A C f (gS .or .i64 c e) (W J (a+1)) else U (0,0,n)
def tm (A:List Int)(C:Int):Option (Int×Int×Bool):=hY C A bc 0 0
def qZ (A:List Int)(C:Int):Option ((List UInt8)×Int×Bool):=Q (tm A C) λa=>if ((!a.2.2)||D (a.1>W J ((A.length:Int)-a.2.1))) then U (([]:List UInt8),0,n) else Q (sub A a.2.1 (W J (a.2.1+a.1))) λc=>U (oc c,W J (a.2.1+a.1),y)
def nH (A:List UInt8)(C:Int):Nat→List (List UInt8)→Int→Int→Option (List (List UInt8))
 | 0,_,_,_=>N
 | e+1,c,d,a =>
  if D (a≤(A.length:Int)) then Q (if (a==(A.length:Int)) then U y else Q (idx A a) λf=>U ((f.toNat:Int)==C)) λg=>if g then Q (sub A d a) λh=>Q (app c [h]) λi=>nH A C e i (W J (a+1)) (W J (a+1)) else nH A C e c d (W J (a+1)) else U c
def lC (A:List UInt8)(C:Int):Option (List (List UInt8)):=nH A C bc [] 0 0
def qx (A:List UInt8):Nat→Int→Int→Option (Int×Bool)
 | 0,_,_=>N
 | i+1,c,a =>
  if D (a<(A.length:Int)) then Q (idx A a) λd=>Q (if D ((d.toNat:Int)<48) then U y else Q (idx A a) λe=>U (D ((e.toNat:Int)>57))) λf=>if f then U (0,n) else Q (idx A a) λg=>qx A i (W J (W J (W J (10*c)+W J (g.toNat:Int))-48)) (W J (a+1)) else Q (zF c) λh=>if !(h==A) then U (0,n) else U (c,y)
def zu (A:List UInt8):Option (Int×Bool):=if (D ((A.length:Int)<1)||D ((A.length:Int)>6)) then U (0,n) else qx A bc 0 0
def yR (A:List UInt8):Option (Int×Bool):=if (D ((A.length:Int)<1)||D ((A.length:Int)>5)) then U (0,n) else Q (idx A 0) λd=>if ((d.toNat:Int) != 45) then Q (zu A) λc=>if (!c.2)||D (c.1>9999) then U (0,n) else U (c.1,y) else Q (sub A 1 (A.length:Int)) λe=>Q (zu e) λa=>if ((!a.2)||D (a.1<1))||D (a.1>9999) then U (0,n) else U (W J (0-a.1),y)
def ou (A a:List UInt8)(c:List Int)(d:List (List UInt8)):Option (aK×Bool):=Q (oZ (aK.mk a c d)) λe=>Q (if !e then U y else Q (pH (aK.mk a c d)) λf=>U (!(f==A))) λg=>if g then U (aK.mk [] [] [],n) else U (aK.mk a c d,y)
def ll (a:List (List UInt8))(A d:List UInt8):Nat→List Int→Int→Option (aK×Bool)
 | 0,_,_=>N
 | i+1,e,c =>
  if D (c<(a.length:Int)) then Q (idx a c) λg=>Q (yR g) λf=>if !f.2 then U (aK.mk [] [] [],n) else Q (app e [f.1]) λh=>ll a A d i h (W J (c+1)) else ou A d e []
def zj (A:List UInt8):Option (aK×Bool):=Q (lC A 61) λa=>Q (lC A 58) λc=>if ((a.length:Int)==2) then Q (idx a 0) λd=>Q (idx a 1) λe=>Q (lC e 44) λf=>ou A d [] f else if ((c.length:Int)==2) then Q (idx c 0) λg=>Q (idx c 1) λh=>Q (lC h 44) λi=>ll i A g bc [] 0 else ou A [] [] []
def kN (a c:List (List UInt8)):Nat→List aK→Int→Option (ae×Bool)
 | 0,_,_=>N
 | j+1,d,e =>
  if D (e<(a.length:Int)) then Q (idx a e) λg=>Q (zj g) λf=>if !f.2 then U (ae.mk [] [],n) else Q (app d [f.1]) λh=>kN a c j h (W J (e+1)) else Q (fH (ae.mk d c)) λi=>if !i then U (ae.mk [] [],n) else U (ae.mk d c,y)
def vD (A:List UInt8):Option (ae×Bool):=Q (lC A 124) λa=>if ((a.length:Int) != 2) then U (ae.mk [] [],n) else Q (idx a 1) λc=>Q (lC c 44) λd=>Q (idx a 0) λe=>Q (lC e 59) λf=>kN f d bc [] 0
def qQ (c:Int×Int×Bool)(a:Int):Option (Int×Int×Bool):=Q (aU a (-1000000000) 1000000000) λd=>if !d then U (0,0,n) else U (a,c.2.1,y)
def eW (A:List Int)(C:Int):Option (Int×Int×Bool):=Q (tm A C) λa=>if !a.2.2 then U (0,0,n) else if Int.tmod a.1 2==1 then qQ a (W J (W J (0-W J (Int.tdiv a.1 2))-1)) else qQ a (W J (Int.tdiv a.1 2))
def wV (A:Int)(C:List Int):Nat→Int→Int→List Int→Option ((List Int)×Int×Bool)
 | 0,_,_,_=>N
 | g+1,c,d,e =>
  if D (d<A) then Q (eW C c) λa=>if !a.2.2 then U (([]:List Int),0,n) else Q (app e [a.1]) λf=>wV A C g a.2.1 (W J (d+1)) f else U (e,c,y)
def gH (C:List Int)(E A:Int):Option ((List Int)×Int×Bool):=wV A C bc E 0 []
def wR (c:Int×Int×Bool)(A:List Int):Nat→List Int→Int→Int→Option ((List Int)×Int×Bool)
 | 0,_,_,_=>N
 | h+1,d,e,f =>
  if D (e<c.1) then Q (eW A f) λa=>if !a.2.2 then U (([]:List Int),0,n) else Q (app d [a.1]) λg=>wR c A h g (W J (e+1)) a.2.1 else U (d,f,y)
def po (A:List Int)(C:Int):Option ((List Int)×Int×Bool):=Q (eW A C) λa=>if (!a.2.2)||D (a.1<0) then U (([]:List Int),0,n) else wR a A bc [] 0 a.2.1
def rG (c:Int×Int×Bool)(A:List Int):Nat→List (List Int)→Int→Int→Option ((List (List Int))×Int×Bool)
 | 0,_,_,_=>N
 | h+1,d,e,f =>
  if D (e<c.1) then Q (po A f) λa=>if !a.2.2 then U (([]:List (List Int)),0,n) else Q (app d [a.1]) λg=>rG c A h g (W J (e+1)) a.2.1 else U (d,f,y)
def rf (A:List Int)(C:Int):Option ((List (List Int))×Int×Bool):=Q (eW A C) λa=>if (!a.2.2)||D (a.1<0) then U (([]:List (List Int)),0,n) else rG a A bc [] 0 a.2.1
def wH (A:List Int)(C:Int):Option (az×Int×Bool):=Q (gH A C 3) λa=>Q (if !a.2.2 then U y else Q (idx a.1 0) λj=>Q (aU j 0 1) λk=>U (!k)) λu21=>if u21 then U (az.mk n (aC.mk 0 0) [] 0 (aD.mk [] []) 0 [] 0 0 0,0,n) else Q (idx a.1 0) λl=>Q (idx a.1 1) λm=>Q (idx a.1 2) λo=>Q (po A a.2.1) λd=>if !d.2.2 then U (az.mk n (aC.mk 0 0) [] 0 (aD.mk [] []) 0 [] 0 0 0,0,n) else Q (eW A d.2.1) λe=>if !e.2.2 then U (az.mk n (aC.mk 0 0) [] 0 (aD.mk [] []) 0 [] 0 0 0,0,n) else Q (po A e.2.1) λf=>if !f.2.2 then U (az.mk n (aC.mk 0 0) [] 0 (aD.mk [] []) 0 [] 0 0 0,0,n) else Q (rf A f.2.1) λg=>if !g.2.2 then U (az.mk n (aC.mk 0 0) [] 0 (aD.mk [] []) 0 [] 0 0 0,0,n) else Q (eW A g.2.1) λh=>if !h.2.2 then U (az.mk n (aC.mk 0 0) [] 0 (aD.mk [] []) 0 [] 0 0 0,0,n) else Q (po A h.2.1) λi=>if !i.2.2 then U (az.mk n (aC.mk 0 0) [] 0 (aD.mk [] []) 0 [] 0 0 0,0,n) else Q (gH A i.2.1 3) λc=>if !c.2.2 then U (az.mk n (aC.mk 0 0) [] 0 (aD.mk [] []) 0 [] 0 0 0,0,n) else Q (idx c.1 0) λp=>Q (idx c.1 1) λq=>Q (idx c.1 2) λr=>U (az.mk (l==1) (aC.mk m o) d.1 e.1 (aD.mk f.1 g.1) h.1 i.1 p q r,c.2.1,y)
def wT (c:(List Int)×Int×Bool)(A:List Int)(d:Int):Nat→List az→Int→Int→Option (am×Int×Bool)
 | 0,_,_,_=>N
 | j+1,e,f,g =>
  Q (idx c.1 1) λh=>if D (f<h) then Q (wH A g) λa=>if !a.2.2 then U (am.mk [] 0,0,n) else Q (app e [a.1]) λi=>wT c A d j i (W J (f+1)) a.2.1 else U (am.mk e d,g,y)
def xy (A:List Int)(C:Int):Option (am×Int×Bool):=Q (gH A C 2) λa=>Q (if !a.2.2 then U y else Q (idx a.1 1) λc=>U (D (c<0))) λu20=>if u20 then U (am.mk [] 0,0,n) else Q (idx a.1 0) λd=>wT a A d bc [] 0 a.2.1
def uv (A:List Int)(C:Int):Option (au×Int×Bool):=Q (rf A C) λa=>if !a.2.2 then U (au.mk [],0,n) else U (au.mk a.1,a.2.1,y)
def yt (A:List Int)(C:Int):Option (aA×Int×Bool):=Q (xy A C) λa=>if !a.2.2 then U (aA.mk (am.mk [] 0) n (am.mk [] 0) (cx.mk (au.mk []) (au.mk [])),0,n) else Q (eW A a.2.1) λc=>if !c.2.2 then U (aA.mk (am.mk [] 0) n (am.mk [] 0) (cx.mk (au.mk []) (au.mk [])),0,n) else Q (xy A c.2.1) λd=>if !d.2.2 then U (aA.mk (am.mk [] 0) n (am.mk [] 0) (cx.mk (au.mk []) (au.mk [])),0,n) else Q (uv A d.2.1) λe=>if !e.2.2 then U (aA.mk (am.mk [] 0) n (am.mk [] 0) (cx.mk (au.mk []) (au.mk [])),0,n) else Q (uv A e.2.1) λf=>if !f.2.2 then U (aA.mk (am.mk [] 0) n (am.mk [] 0) (cx.mk (au.mk []) (au.mk [])),0,n) else U (aA.mk a.1 (c.1==1) d.1 (cx.mk e.1 f.1),f.2.1,y)
def iq (d:Int×Int×Bool)(c:(List Int)×Int×Bool)(h:ae×Bool)(i j k l m o p q r s t u:Int)(e:List aA)(f:List (List Int)):Nat→List aG→Int→Option (aF×Bool)
 | 0,_,_=>N
 | A+1,g,a =>
  if D (a<d.1) then Q (idx c.1 (W J (2*a))) λv=>Q (idx c.1 (W J (W J (2*a)+1))) λw=>Q (app g [aG.mk v w]) λx=>iq d c h i j k l m o p q r s t u e f A x (W J (a+1)) else U (aF.mk (aZ.mk h.1 (bO.mk i j k l m o (p==1)) q r s t u) (bj.mk e) (aW.mk f g),y)
def lD (d:ae×Bool)(E:List Int)(j k l m o p q r s t u v:Int)(e:List aA):Nat→List (List Int)→Int→Int→Option (aF×Bool)
 | 0,_,_,_=>N
 | C+1,f,g,h =>
  if D (g<(d.1.g_.length:Int)) then Q (po E h) λc=>if !c.2.2 then U (aF.mk (aZ.mk (ae.mk [] []) (bO.mk 0 0 0 0 0 0 n) 0 0 0 0 0) (bj.mk []) (aW.mk [] []),n) else Q (app f [c.1]) λw=>lD d E j k l m o p q r s t u v e C w (W J (g+1)) c.2.1 else Q (eW E h) λa=>Q (if !a.2.2 then U y else Q (aU a.1 0 20) λx=>U (!x)) λA=>if A then U (aF.mk (aZ.mk (ae.mk [] []) (bO.mk 0 0 0 0 0 0 n) 0 0 0 0 0) (bj.mk []) (aW.mk [] []),n) else Q (gH E a.2.1 (W J (2*a.1))) λi=>if !i.2.2 then U (aF.mk (aZ.mk (ae.mk [] []) (bO.mk 0 0 0 0 0 0 n) 0 0 0 0 0) (bj.mk []) (aW.mk [] []),n) else iq a i d j k l m o p q r s t u v e f bc [] 0
def lA (c:Int)(A:List Int)(g:ae×Bool)(h i j k l m o p q r s:Int):Nat→List aA→Int→Int→Option (aF×Bool)
 | 0,_,_,_=>N
 | u+1,d,e,f =>
  if D (e<c) then Q (yt A f) λa=>if !a.2.2 then U (aF.mk (aZ.mk (ae.mk [] []) (bO.mk 0 0 0 0 0 0 n) 0 0 0 0 0) (bj.mk []) (aW.mk [] []),n) else Q (app d [a.1]) λt=>lA c A g h i j k l m o p q r s u t (W J (e+1)) a.2.1 else lD g A h i j k l m o c p q r s d bc [] 0 f
def AY (A:List Int):Option (aF×Bool):=Q (qZ A 4) λc=>if !c.2.2 then U (aF.mk (aZ.mk (ae.mk [] []) (bO.mk 0 0 0 0 0 0 n) 0 0 0 0 0) (bj.mk []) (aW.mk [] []),n) else Q (vD c.1) λd=>Q (gH A c.2.1 12) λa=>if (!d.2)||(!a.2.2) then U (aF.mk (aZ.mk (ae.mk [] []) (bO.mk 0 0 0 0 0 0 n) 0 0 0 0 0) (bj.mk []) (aW.mk [] []),n) else Q (idx a.1 0) λe=>Q (idx a.1 1) λf=>Q (idx a.1 2) λg=>Q (idx a.1 3) λh=>Q (idx a.1 4) λi=>Q (idx a.1 5) λj=>Q (idx a.1 6) λk=>Q (idx a.1 7) λl=>Q (idx a.1 8) λm=>Q (idx a.1 9) λo=>Q (idx a.1 10) λp=>Q (idx a.1 11) λq=>Q (lZ (aZ.mk d.1 (bO.mk e f g h i j (k==1)) l m o p q)) λr=>if !r then U (aF.mk (aZ.mk (ae.mk [] []) (bO.mk 0 0 0 0 0 0 n) 0 0 0 0 0) (bj.mk []) (aW.mk [] []),n) else lA l A d e f g h i j k m o p q bc [] 0 a.2.1
def tT (A:cq)(C:ae):Nat→Int→Option (Bool)
 | 0,_=>N
 | g+1,a =>
  if D (a<(A.R_.length:Int)) then Q (idx A.R_ a) λe=>Q (idx C.c_ a) λf=>Q (mo f) λc=>Q (bm e (-1) (W J (c-1))) λd=>if !d then U n else tT A C g (W J (a+1)) else U y
def GV (A:ae)(C:cq):Option (Bool):=Q (go A) λa=>Q (if ((!a)||((C.R_.length:Int) != (A.c_.length:Int))) then U y else Q (bm C.Y_ (-1) (W J ((A.g_.length:Int)-1))) λc=>U (!c)) λd=>if d then U n else tT C A bc 0
def zW (E:ae)(A:aC)(C:Int):Option (Int):=Q (wz E A) λa=>Q (if !a then U y else Q (idx E.c_ A.k_) λc=>Q (mo c) λd=>Q (bm C 0 (W J (d-1))) λe=>U (!e)) λu22=>if u22 then U (-1) else if A.j_==(-1) then U C else Q (if C==A.j_ then U y else Q (idx E.c_ A.k_) λf=>U (D ((f.B_.length:Int)>0)&&D (C<A.j_))) λg=>if g then U 0 else U 1
def uh (a:az)(c:List Int)(g:(List Int)→Option ((List Int)×Bool))(d:Int):Option ((List Int)×Bool):=Q (idx a.C_ d) λe=>Q (app c [e]) λf=>g f
def oS (E:am)(A:cq)(C:ae):Nat→List Int→Option ((List Int)×Bool)
 | 0,_=>N
 | g+1,c =>
  Q (idx c (W J ((c.length:Int)-1))) λe=>Q (idx E.a_ e) λa=>if a.D_ then U (c,n) else Q (idx A.R_ a.n_.k_) λd=>if D (d≥0) then Q (zW C a.n_ d) λf=>uh a c (oS E A C g) f else uh a c (oS E A C g) a.J_
def Ou (C:ae)(E:am)(A:cq):Option ((List Int)×Bool):=oS E A C bc [0]
def jJ (A:List Int):Option (List Int):=Q (app [] A) λa=>U a
def mK (A:List (List Int)):Nat→List (List Int)→Int→Option (List (List Int))
 | 0,_,_=>N
 | g+1,c,a =>
  if D (a<(A.length:Int)) then Q (idx A a) λd=>Q (jJ d) λe=>Q (app c [e]) λf=>mK A g f (W J (a+1)) else U c
def BI (A:List (List Int)):Option (List (List Int)):=mK A bc [] 0
def wE (A:aD):Option (aD):=Q (jJ A.l_) λa=>Q (BI A.e_) λc=>U (aD.mk a c)
def mp (e:aD)(A:cq)(C:ae)(E g:Int):Nat→List (List Int)→Int→Option (aD×Bool)
 | 0,_,_=>N
 | j+1,f,a =>
  if D (a<(e.e_.length:Int)) then Q (idx f a) λc=>Q (idx A.R_ a) λh=>if D (h≥0) then Q (idx A.R_ a) λd=>Q (idx c (W J (W J (d*(C.g_.length:Int))+A.Y_))) λi=>Q (idx c (W J (W J (d*(C.g_.length:Int))+A.Y_))) λ_=>mp e A C E g j (f.set a.toNat (c.set (W J (W J (d*(C.g_.length:Int))+A.Y_)).toNat (W J (i+E)))) (W J (a+1)) else mp e A C E g j f (W J (a+1)) else U (aD.mk (e.l_.set A.Y_.toNat (W J (g+E))) f,y)
def Dp (E:ae)(F:aD)(A:cq)(C:Int):Option (aD×Bool):=Q (wE F) λa=>Q (tH E F) λc=>Q (if !c then U y else Q (GV E A) λd=>U (!d)) λe=>Q (if e||(A.Y_==(-1)) then U y else Q (bm C 1 7) λf=>U (!f)) λg=>Q (if g then U y else Q (pg F.l_) λh=>U (D (W J (h+C)>999))) λi=>if i then U (a,n) else Q (idx a.l_ A.Y_) λj=>Q (idx a.l_ A.Y_) λ_=>mp a A E C j bc a.e_ 0
def jE (C A:Int):Nat→Int→Int→Option (Int)
 | 0,_,_=>N
 | e+1,a,c =>
  if D (a<C) then Q (quo .i64 (W J (c*W J (A-a))) (W J (a+1))) λd=>jE C A e (W J (a+1)) d else U c
def vL (A C:Int):Option (Int):=Q (bm A 0 20) λa=>Q (if !a then U y else Q (bm C 0 A) λc=>U (!c)) λu12=>if u12 then U 0 else jE C A bc 0 1
def mB (A C:Int):Nat→Int→List Int→Int→Option (List Int)
 | 0,_,_,_=>N
 | f+1,d,a,c =>
  if D ((a.length:Int)<A) then Q (vL (W J (W J (C-c)-1)) (W J (W J (A-(a.length:Int))-1))) λe=>if D (d<e) then Q (app a [c]) λg=>mB A C f d g (W J (c+1)) else mB A C f (W J (d-e)) a (W J (c+1)) else U a
def Dk (C E A:Int):Option (List Int):=Q (vL C E) λa=>Q (bm A 0 (W J (a-1))) λc=>if !c then U ([]:List Int) else mB E C bc A [] 0
end
end Go.Vk
/- The laws' types: weighed, copied, compared; the rows' frames. Printed by program. -/
namespace Go.Vk
def qk (x:List Int):Prop:=x.length≤1048576∧∀y∈x,(-9223372036854775808≤y∧y≤9223372036854775807)
def yY (x:List (List UInt8)):Prop:=x.length≤1048576∧∀y∈x,y.length≤1048576
def nx (x:aK):Prop:=x.F_.length≤1048576∧qk x.B_∧yY x.M_
def Ma (x:List aK):Prop:=x.length≤1048576∧∀y∈x,nx y
def bn (x:ae):Prop:=Ma x.c_∧yY x.g_
def JB (x:bO):Prop:=(-9223372036854775808≤x.S_∧x.S_≤9223372036854775807)∧(-9223372036854775808≤x.Q_∧x.Q_≤9223372036854775807)∧(-9223372036854775808≤x.T_∧x.T_≤9223372036854775807)∧(-9223372036854775808≤x.r_∧x.r_≤9223372036854775807)∧(-9223372036854775808≤x.a_∧x.a_≤9223372036854775807)∧(-9223372036854775808≤x.H_∧x.H_≤9223372036854775807)∧True
def CJ (x:aZ):Prop:=bn x.y_∧JB x.d_∧(-9223372036854775808≤x.u_∧x.u_≤9223372036854775807)∧(-9223372036854775808≤x.X_∧x.X_≤9223372036854775807)∧(-9223372036854775808≤x.Z_∧x.Z_≤9223372036854775807)∧(-9223372036854775808≤x.v_∧x.v_≤9223372036854775807)∧(-9223372036854775808≤x.w_∧x.w_≤9223372036854775807)
def Vn (x:aC):Prop:=(-9223372036854775808≤x.k_∧x.k_≤9223372036854775807)∧(-9223372036854775808≤x.j_∧x.j_≤9223372036854775807)
def xU (x:List (List Int)):Prop:=x.length≤1048576∧∀y∈x,qk y
def gQ (x:aD):Prop:=qk x.l_∧xU x.e_
def pr (x:az):Prop:=True∧Vn x.n_∧qk x.C_∧(-9223372036854775808≤x.J_∧x.J_≤9223372036854775807)∧gQ x.q_∧(-9223372036854775808≤x.K_∧x.K_≤9223372036854775807)∧qk x.c_∧(-9223372036854775808≤x.r_∧x.r_≤9223372036854775807)∧(-9223372036854775808≤x.G_∧x.G_≤9223372036854775807)∧(-9223372036854775808≤x.E_∧x.E_≤9223372036854775807)
def Lk (x:List az):Prop:=x.length≤1048576∧∀y∈x,pr y
def iB (x:am):Prop:=Lk x.a_∧(-9223372036854775808≤x.o_∧x.o_≤9223372036854775807)
def uZ (x:au):Prop:=xU x.f_
def IE (x:cx):Prop:=uZ x.v_∧uZ x.w_
def qL (x:aA):Prop:=iB x.A_∧True∧iB x.s_∧IE x.z_
def Hx (x:List aA):Prop:=x.length≤1048576∧∀y∈x,qL y
def qz (x:bj):Prop:=Hx x.u_
def Uw (x:aG):Prop:=(-9223372036854775808≤x.U_∧x.U_≤9223372036854775807)∧(-9223372036854775808≤x.V_∧x.V_≤9223372036854775807)
def Sa (x:List aG):Prop:=x.length≤1048576∧∀y∈x,Uw y
def vl (x:aW):Prop:=xU x.p_∧Sa x.t_
def nh (x:aF):Prop:=CJ x.m_∧qz x.aa_∧vl x.L_
end Go.Vk
/- Words, cuts, attributes: tested alike. -/
namespace Go.Vk
def EX (w:List UInt8):Prop:=(1≤(w.length:Int)∧(w.length:Int)≤8)∧∀i,0≤i→(h:i<w.length)→97≤(w[i]).toNat∧(w[i]).toNat≤122
theorem NG {w:List UInt8}(e:w.length<1000000000000):Dec (wq w) (EX w):=by
 unfold wq aU EX;simp only [bS];by_cases h:1≤(w.length:Int)∧(w.length:Int)≤8
 ·rw [qj h];simp only [Bool.not_true,Bool.false_eq_true,if_false];refine (rk (Lp:=ql w) (n:=w.length) (Q:=λi=>∀h:i<w.length,97≤(w[i]).toNat∧(w[i]).toNat≤122) 0 (λk i a=>?_) (λk i _ a=>?_) e).of_iff ⟨λg=>⟨h,λi c h1=>g i c h1 h1⟩,λg i c h1 _=>g.2 i c h1⟩
  ·show (if _ then _ else _)=_;rw [Q4]
  rw [ql,Q0,aH a,ax];simp only [bS];by_cases h1:((w[i]).toNat:Int)<97
  ·rw [if_pos (by simpa using h1)];exact .inr ⟨λg=>by have:=g a;omega,rfl⟩
  rw [if_neg (by simpa using h1)];simp only [bS];by_cases d:((w[i]).toNat:Int)>122
  ·rw [if_pos (by simpa using d)];exact .inr ⟨λg=>by have:=g a;omega,rfl⟩
  rw [if_neg (by simpa using d)];exact .inl ⟨λ_=>⟨by omega,by omega⟩,rfl⟩
 rw [rY h];exact ct λg=>h g.1
theorem OU {w:List UInt8}(e:w.length<1000000000000):Dec (wo w) (EX w):=by
 unfold wo bm EX;simp only [bS];by_cases h:1≤(w.length:Int)∧(w.length:Int)≤8
 ·rw [qj h];simp only [Bool.not_true,Bool.false_eq_true,if_false];refine (rk (Lp:=qG w) (n:=w.length) (Q:=λi=>∀h:i<w.length,97≤(w[i]).toNat∧(w[i]).toNat≤122) 0 (λk i a=>?_) (λk i _ a=>?_) e).of_iff ⟨λg=>⟨h,λi c h1=>g i c h1 h1⟩,λg i c h1 _=>g.2 i c h1⟩
  ·show (if _ then _ else _)=_;rw [Q4]
  rw [qG,Q0,aH a,ax];simp only [bS];by_cases h1:((w[i]).toNat:Int)<97
  ·rw [if_pos (by simpa using h1)];exact .inr ⟨λg=>by have:=g a;omega,rfl⟩
  rw [if_neg (by simpa using h1)];simp only [bS];by_cases d:((w[i]).toNat:Int)>122
  ·rw [if_pos (by simpa using d)];exact .inr ⟨λg=>by have:=g a;omega,rfl⟩
  rw [if_neg (by simpa using d)];exact .inl ⟨λ_=>⟨by omega,by omega⟩,rfl⟩
 rw [rY h];exact ct λg=>h g.1
def Bq (ws:List (List UInt8)):Prop:=∀i,0≤i→i<ws.length→∀h:i<ws.length,EX ws[i]∧∀j,(a:j<i)→ws[i]≠ws[j]
theorem LA {ws:List (List UInt8)}(s:ws.length<1000000000000)(t:∀w∈ws,w.length<1000000000000):Dec (ub ws) (Bq ws):=by
 unfold ub;refine rk (Lp:=jd ws) (n:=ws.length) (Q:=λi=>∀h:i<ws.length,EX ws[i]∧∀j,(l:j<i)→ws[i]≠ws[j]) 0 (λk i c=>?_) (λk i _ c=>?_) s
 ·show (if _ then _ else _)=_;rw [Q4]
 rw [jd,Q0,aH c];simp only [bS];rcases (NG (t _ (List.getElem_mem c))).cases with ⟨e,o⟩|⟨e,o⟩
 ·rw [e];simp only [cS]
  have key:∀(d q j:Nat),i-j=d→d<q→(l:j≤i)→(∀m,(a:m<j)→ws[i]≠ws[m]'(by omega)) →
    ((∀m,(a:m<i)→ws[i]≠ws[m])∧lJ i ws (jd ws k) q (j:Int)=jd ws k ((i+1:Nat):Int))∨((¬ ∀m,(a:m<i)→ws[i]≠ws[m])∧lJ i ws (jd ws k) q (j:Int)=some false):=by
   intro d
   induction d with
   | zero =>
    intro q j u v l a;obtain ⟨q,rfl⟩:∃r,q=r+1:=⟨q-1,by omega⟩;rw [lJ,Q4,ax];exact .inl ⟨λm hm'=>a m (by omega),rfl⟩
   | succ d ih =>
    intro q j u v l a;obtain ⟨q,rfl⟩:∃r,q=r+1:=⟨q-1,by omega⟩;rw [lJ,Q0,aH c,aH (show j<ws.length by omega)];simp only [bS];by_cases f:ws[i]=ws[j]
    ·rw [if_pos (by simpa using f)];exact .inr ⟨λg=>g j (by omega) f,rfl⟩
    rw [if_neg (by simpa using f),ax]
    exact ih q (j+1) (by omega) (by omega) (by omega) (λm hm'=>by
     by_cases h:m=j
     ·subst h;exact f
     exact a m (by omega))
  rcases key i bc 0 (by omega) cN (by omega) (λm a=>by omega) with ⟨h1,p⟩|⟨h1,p⟩
  ·exact .inl ⟨λ_=>⟨o,h1⟩,p⟩
  exact .inr ⟨λg=>h1 (g c).2,p⟩
 rw [e];exact .inr ⟨λg=>o (g c).1,rfl⟩
theorem GP {ws:List (List UInt8)}(o:ws.length<1000000000000)(p:∀w∈ws,w.length<1000000000000):Dec (jp ws) (Bq ws):=by
 unfold jp;refine rk (Lp:=kF ws) (n:=ws.length) (Q:=λi=>∀h:i<ws.length,EX ws[i]∧∀j,(a:j<i)→ws[i]≠ws[j]) 0 (λk i d=>?_) (λk i _ d=>?_) o
 ·show (if _ then _ else _)=_;rw [Q4]
 rw [kF,Q0,aH d,ax];simp only [bS];rcases (OU (p _ (List.getElem_mem d))).cases with ⟨e,f⟩|⟨e,f⟩
 ·rw [e];simp only [cS]
  have q:sub ws 0 (i:Int)=some (ws.take i):=by
   unfold sub;rw [Q3];simp
  rw [q];simp only [bS];unfold iI jN
  have r:=ww (Lp:=el (ws.take i) ws[i]) (n:=i) (Q:=λj=>∀a:j<i,ws[i]=ws[j]) (λk j a=>by
   show (if _ then _ else _)=_
   rw [Q4]) (λk j a=>by
   rw [el,Q0,aH (show j<(ws.take i).length by simp;omega),ax];simp only [Option.bind_some,List.getElem_take];by_cases c:ws[i]=ws[j]
   ·rw [if_pos (by simpa using c)];exact .inl ⟨λ_=>c,rfl⟩
   rw [if_neg (by simpa using c)];exact .inr ⟨λg=>c (g a),rfl⟩) (by omega)
  rcases r.cases with ⟨l,j,a,m⟩|⟨l,m⟩
  ·rw [l];exact .inr ⟨λg=>(g d).2 j a (m a),rfl⟩
  rw [l];exact .inl ⟨λ_=>⟨f,λj a c=>m ⟨j,a,λ_=>c⟩⟩,rfl⟩
 rw [e];exact .inr ⟨λg=>f (g d).1,rfl⟩
def RE (l:List Int):Prop:=∀i,0≤i→i<l.length→∀h:i<l.length,(-9999≤l[i]∧l[i]≤9998)∧∀a:0<i,l[i-1]<l[i]
theorem TX {l:List Int}(q:l.length<1000000000000):Dec (yU l) ((1≤(l.length:Int)∧(l.length:Int)≤3)∧RE l):=by
 unfold yU bm;simp only [bS];by_cases h:1≤(l.length:Int)∧(l.length:Int)≤3
 ·rw [qj h];simp only [if_true]
  have r:Dec (lr l) (∀i,1≤i→i<l.length→∀(h:i<l.length),l[i-1]<l[i]):=by
   unfold lr;refine rk (Lp:=jZ l) (n:=l.length) (Q:=λi=>∀(h:i<l.length),l[i-1]<l[i]) 1 (λk i a=>?_) (λk i h1 a=>?_) q
   ·show (if _ then _ else _)=_;rw [Q4]
   rw [jZ,Q0,aH a,ax,aV,show (i:Int)-1=((i-1:Nat):Int) by omega,aH (show i-1<l.length by omega)];simp only [bS];by_cases f:l[i]≤l[i-1]
   ·rw [if_pos (by simpa using f)];exact .inr ⟨λg=>by have:=g a;omega,rfl⟩
   rw [if_neg (by simpa using f)];exact .inl ⟨λ_=>by omega,rfl⟩
  rcases r.cases with ⟨e,m⟩|⟨e,m⟩
  ·rw [e];simp only [Option.bind_some,if_true];unfold eH fm
   have s:=ww (Lp:=dd l) (n:=l.length) (Q:=λj=>∀d:j<l.length,¬(-9999≤l[j]∧l[j]≤9998)) (λk j d=>by
    show (if _ then _ else _)=_
    rw [Q4]) (λk j d=>by
    rw [dd,Q0,aH d,ax];unfold zR DI bm;simp only [bS];by_cases f : -9999≤l[j]∧l[j]≤9998
    ·rw [qj f];exact .inr ⟨λg=>g d f,rfl⟩
    rw [rY f];exact .inl ⟨λ_=>f,rfl⟩) q
   rcases s.cases with ⟨o,j,d,p⟩|⟨o,p⟩
   ·rw [o];exact ct λg=>p d (g.2 j (Nat.zero_le _) d d).1
   rw [o];exact qS ⟨h,λi _ a _=>⟨Classical.byContradiction λc=>p ⟨i,a,λ_=>c⟩,λt=>m i t a a⟩⟩
  rw [e];exact ct λg=>m λi h1 a u=>(g.2 i (Nat.zero_le _) a u).2 h1
 rw [rY h];exact ct λg=>h g.1
end Go.Vk
/- Attributes: weighed, copied, compared; FullMask. -/
namespace Go.Vk
def uL (x:aK):Prop:=EX x.F_∧((x.B_.length=0∧(2≤(x.M_.length:Int)∧(x.M_.length:Int)≤4)∧Bq x.M_)∨(x.M_.length=0∧(1≤(x.B_.length:Int)∧(x.B_.length:Int)≤3)∧RE x.B_))
def OkM (x:aK):Prop:=x.F_.length<1000000000000∧x.B_.length<1000000000000∧x.M_.length<1000000000000∧∀y∈x.M_,y.length<1000000000000
theorem AB {x:aK}(q:OkM x):Dec (oZ x) (uL x):=by
 obtain ⟨h1,r,s,t⟩:=q;unfold oZ uL;rcases (NG h1).cases with ⟨e,c⟩|⟨e,c⟩
 ·rw [e];simp only [cS];by_cases p:x.B_.length=0
  ·rw [if_pos (by rw [beq_iff_eq];omega)];unfold aU;simp only [bS];by_cases j:2≤(x.M_.length:Int)∧(x.M_.length:Int)≤4
   ·rw [qj j];simp only [if_true];rcases (LA s t).cases with ⟨l,m⟩|⟨l,m⟩
    ·rw [l];exact qS ⟨c,.inl ⟨p,j,m⟩⟩
    rw [l];exact ct λg=>by rcases g.2 with ⟨_,_,g⟩|⟨_,g,_⟩<;>first|exact m g|omega
   rw [rY j];exact ct λg=>by rcases g.2 with ⟨_,g,_⟩|⟨_,g,_⟩<;>omega
  rw [if_neg (by rw [beq_iff_eq];omega)];by_cases v:0<x.M_.length∨3<x.B_.length
  ·rw [Q0];exact ct λg=>by rcases g.2 with ⟨g,_,_⟩|⟨_,g,_⟩<;>omega
  rw [if_neg (by rw [Bool.or_eq_true,decide_eq_true_eq,decide_eq_true_eq];omega)]
  have u:Dec (oB x bc 0) (RE x.B_):=by
   refine rk (Lp:=oB x) (n:=x.B_.length) (Q:=λi=>∀h:i<x.B_.length,(-9999≤x.B_[i]∧x.B_[i]≤9998)∧∀o:0<i,x.B_[i-1]<x.B_[i]) 0 (λk i d=>?_) (λk i _ d=>?_) r
   ·show (if _ then _ else _)=_;rw [Q4]
   rw [oB,Q0,aH d,ax];unfold aU;simp only [bS];by_cases a : -9999≤x.B_[i]∧x.B_[i]≤9998
   ·rw [qj a];simp only [Bool.not_true,Bool.false_eq_true,if_false];by_cases o:0<i
    ·rw [Q0,aV,show (i:Int)-1=((i-1:Nat):Int) by omega,aH (show i-1<x.B_.length by omega)];simp only [bS];by_cases f:x.B_[i]≤x.B_[i-1]
     ·rw [if_pos (by simpa using f)];exact .inr ⟨λg=>by have:=(g d).2 o;omega,rfl⟩
     rw [if_neg (by simpa using f)];exact .inl ⟨λ_=>⟨a,λ_=>by omega⟩,rfl⟩
    rw [Q4];exact .inl ⟨λ_=>⟨a,λh=>absurd h o⟩,rfl⟩
   rw [rY a];exact .inr ⟨λg=>a (g d).1,rfl⟩
  exact u.of_iff ⟨λg=>⟨c,.inr ⟨by omega,by omega,g⟩⟩,λg=>by rcases g.2 with ⟨g,_,_⟩|⟨_,_,g⟩;exact absurd g p;exact g⟩
 rw [e];exact ct λg=>c g.1
theorem FH {x:aK}(j:OkM x):Dec (oY x) (uL x):=by
 obtain ⟨h1,k,l,m⟩:=j;unfold oY uL;rcases (OU h1).cases with ⟨e,c⟩|⟨e,c⟩
 ·rw [e];simp only [cS];by_cases i:x.B_.length=0
  ·rw [if_pos (by rw [beq_iff_eq];omega)];unfold bm;simp only [bS];by_cases f:2≤(x.M_.length:Int)∧(x.M_.length:Int)≤4
   ·rw [qj f];simp only [if_true];rcases (GP l m).cases with ⟨a,h⟩|⟨a,h⟩
    ·rw [a];exact qS ⟨c,.inl ⟨i,f,h⟩⟩
    rw [a];exact ct λg=>by rcases g.2 with ⟨_,_,g⟩|⟨_,g,_⟩<;>first|exact h g|omega
   rw [rY f];exact ct λg=>by rcases g.2 with ⟨_,g,_⟩|⟨_,g,_⟩<;>omega
  rw [if_neg (by rw [beq_iff_eq];omega)];by_cases o:x.M_.length=0
  ·rw [if_pos (by rw [beq_iff_eq];omega)];rcases (TX k).cases with ⟨a,d⟩|⟨a,d⟩
   ·rw [a];exact qS ⟨c,.inr ⟨o,d.1,d.2⟩⟩
   rw [a];exact ct λg=>by
    rcases g.2 with ⟨g,_,_⟩|⟨_,g,g'⟩
    ·exact i g
    exact d ⟨g,g'⟩
  rw [if_neg (by rw [beq_iff_eq];omega)];exact ct λg=>by rcases g.2 with ⟨g,_,_⟩|⟨g,_,_⟩<;>omega
 rw [e];exact ct λg=>c g.1
end Go.Vk
/- FullMask answers alike. -/
namespace Go.Vk
theorem Np {x:aK}(a:OkM x)(h:uL x):∃n:Nat,kQ x=some (n:Int)∧mo x=some (n:Int)∧2≤n∧n≤4:=by
 unfold kQ mo;rcases (AB a).cases with ⟨e,_⟩|⟨_,g⟩
 ·rw [e];simp only [cS];rcases h.2 with ⟨h1,c,_⟩|⟨h1,c,_⟩
  ·rw [if_neg (λg=>by have:=of_decide_eq_true g;omega)];exact ⟨_,rfl,rfl,by omega,by omega⟩
  rw [if_pos (decide_eq_true (by omega)),ax];exact ⟨_,rfl,rfl,by omega,by omega⟩
 exact absurd h g
end Go.Vk
/- Schemas: tested, weighed, copied, compared; AllRoom. -/
namespace Go.Vk
def Ph (l:List aK):Prop:=∀i,0≤i→i<l.length→∀h:i<l.length,uL l[i]∧∀j,(a:j<i)→l[i].F_≠l[j].F_
def gF (x:ae):Prop:=(1≤(x.c_.length:Int)∧(x.c_.length:Int)≤5)∧(2≤(x.g_.length:Int)∧(x.g_.length:Int)≤3)∧Bq x.g_∧Ph x.c_
def OkS (x:ae):Prop:=x.c_.length<1000000000∧(∀a∈x.c_,OkM a)∧x.g_.length<1000000000000∧∀y∈x.g_,y.length<1000000000000
theorem Ss {x:ae}(s:OkS x):Dec (gp x bc 0) (Ph x.c_):=by
 obtain ⟨h1,f,_,_⟩:=s;refine rk (Lp:=gp x) (n:=x.c_.length) (Q:=λi=>∀h:i<x.c_.length,uL x.c_[i]∧∀j,(o:j<i)→x.c_[i].F_≠x.c_[j].F_) 0 (λk i c=>?_) (λk i _ c=>?_) (by omega)
 ·show (if _ then _ else _)=_;rw [Q4]
 rw [gp,Q0,aH c];simp only [bS];rcases (AB (f _ (List.getElem_mem c))).cases with ⟨e,p⟩|⟨e,p⟩
 ·rw [e];simp only [cS]
  have key:∀(d q j:Nat),i-j=d→d<q→(o:j≤i)→(∀m,(a:m<j)→x.c_[i].F_≠(x.c_[m]'(by omega)).F_) →
    ((∀m,(a:m<i)→x.c_[i].F_≠x.c_[m].F_)∧kJ i x (gp x k) q (j:Int)=gp x k ((i+1:Nat):Int))∨((¬ ∀m,(a:m<i)→x.c_[i].F_≠x.c_[m].F_)∧kJ i x (gp x k) q (j:Int)=some false):=by
   intro d
   induction d with
   | zero =>
    intro q j t u o a;obtain ⟨q,rfl⟩:∃r,q=r+1:=⟨q-1,by omega⟩;rw [kJ,Q4,ax];exact .inl ⟨λm hm'=>a m (by omega),rfl⟩
   | succ d ih =>
    intro q j t u o a;obtain ⟨q,rfl⟩:∃r,q=r+1:=⟨q-1,by omega⟩;rw [kJ,Q0,aH c,aH (show j<x.c_.length by omega)];simp only [bS];by_cases l:x.c_[i].F_=x.c_[j].F_
    ·rw [if_pos (by simpa using l)];exact .inr ⟨λg=>g j (by omega) l,rfl⟩
    rw [if_neg (by simpa using l),ax]
    exact ih q (j+1) (by omega) (by omega) (by omega) (λm hm'=>by
     by_cases h:m=j
     ·subst h;exact l
     exact a m (by omega))
  rcases key i bc 0 (by omega) cN (by omega) (λm a=>by omega) with ⟨h1,f⟩|⟨h1,f⟩
  ·exact .inl ⟨λ_=>⟨p,h1⟩,f⟩
  exact .inr ⟨λg=>h1 (g c).2,f⟩
 rw [e];exact .inr ⟨λg=>p (g c).1,rfl⟩
theorem RL {x:ae}(s:OkS x):Dec (jD x bc 0 []) (Ph x.c_):=by
 obtain ⟨h1,q,_,_⟩:=s
 have t:Dec (jp (x.c_.map aK.F_)) (Bq (x.c_.map aK.F_)):=GP (by simp;omega) (λw l=>by
  obtain ⟨a,u,rfl⟩:=List.mem_map.1 l;exact (q a u).1)
 have key:∀(d k i:Nat),x.c_.length-i=d→d<k→i≤x.c_.length→Dec (jD x k (i:Int) ((x.c_.take i).map aK.F_)) ((∀j,i≤j→∀c:j<x.c_.length,uL x.c_[j])∧Bq (x.c_.map aK.F_)):=by
  intro d
  induction d with
  | zero =>
   intro k i v hk m;obtain ⟨k,rfl⟩:=kS k (by omega);rw [jD,Q4,List.take_of_length_le (by omega)];have:∀o:Option Bool,(o.bind λy=>some y)=o:=λo=>by cases o<;>rfl
   rw [this];exact t.of_iff ⟨λg=>⟨λj r p=>by omega,g⟩,λg=>g.2⟩
  | succ d ih =>
   intro k i v hk m;obtain ⟨k,rfl⟩:=kS k (by omega);have f:i<x.c_.length:=by omega
   rw [jD,Q0,aH f];simp only [bS];rcases (FH (q _ (List.getElem_mem f))).cases with ⟨e,l⟩|⟨e,l⟩
   ·rw [e];simp only [cS];rw [bA];simp only [bS];rw [ax,show (x.c_.take i).map aK.F_++[x.c_[i].F_]=(x.c_.take (i+1)).map aK.F_ by rw [List.take_succ_eq_append_getElem f,List.map_append];rfl];refine (ih k (i+1) (by omega) (by omega) (by omega)).of_iff ⟨λg=>⟨λj r p=>?_,g.2⟩,λg=>⟨λj r p=>g.1 j (by omega) p,g.2⟩⟩;by_cases c:j=i
    ·subst c;exact l
    exact g.1 j (by omega) p
   rw [e];exact ct λg=>l (g.1 i (Nat.le_refl _) f)
 have:=key x.c_.length bc 0 (by omega) cN (by omega);have A:Dec (jD x bc 0 []) ((∀j,0≤j→∀c:j<x.c_.length,uL x.c_[j])∧Bq (x.c_.map aK.F_)):=this;refine A.of_iff ⟨λg i _ _ h=>⟨g.1 i (Nat.zero_le _) h,λj c C=>?_⟩,λg=>⟨λj _ c=>(g j (Nat.zero_le _) c c).1,λi _ _ h=>?_⟩⟩
 ·have:=(g.2 i (Nat.zero_le _) (by simpa using h) (by simpa using h)).2 j c;simp at this;exact this C
 have m:i<x.c_.length:=by simpa using h
 obtain ⟨D,E⟩:=g i (Nat.zero_le _) m m;exact ⟨by simpa using D.1,λj c=>by simpa using E j c⟩
theorem nI {x:ae}(f:OkS x):Dec (fH x) (gF x):=by
 have h:=Ss f;obtain ⟨h1,k,i,j⟩:=f;unfold fH aU gF;simp only [bS];by_cases a:1≤(x.c_.length:Int)∧(x.c_.length:Int)≤5
 ·rw [qj a];simp only [Bool.not_true,Bool.false_eq_true,if_false];by_cases c:2≤(x.g_.length:Int)∧(x.g_.length:Int)≤3
  ·rw [qj c];simp only [cS];rcases (LA i j).cases with ⟨e,d⟩|⟨e,d⟩
   ·rw [e];simp only [cS];exact h.of_iff ⟨λg=>⟨a,c,d,g⟩,λg=>g.2.2.2⟩
   rw [e];exact ct λg=>d g.2.2.1
  rw [rY c];exact ct λg=>c g.2.1
 rw [rY a];exact ct λg=>a g.1
theorem qV {x:ae}(f:OkS x):Dec (go x) (gF x):=by
 have h:=RL f;obtain ⟨h1,k,i,j⟩:=f;unfold go bm gF;simp only [bS];by_cases a:1≤(x.c_.length:Int)∧(x.c_.length:Int)≤5
 ·rw [qj a];simp only [Bool.not_true,Bool.false_eq_true,if_false];by_cases c:2≤(x.g_.length:Int)∧(x.g_.length:Int)≤3
  ·rw [qj c];simp only [cS];rcases (GP i j).cases with ⟨e,d⟩|⟨e,d⟩
   ·rw [e];simp only [cS];exact h.of_iff ⟨λg=>⟨a,c,d,g⟩,λg=>g.2.2.2⟩
   rw [e];exact ct λg=>d g.2.2.1
  rw [rY c];exact ct λg=>c g.2.1
 rw [rY a];exact ct λg=>a g.1
end Go.Vk
/- Masks. -/
namespace Go.Vk
end Go.Vk
/- Two texts of data, walked side by side. -/
namespace Go.Vk
def yv {ρ:Type}(a b:Option ρ)(Q:ρ→Prop):Prop:=∃m,a=some m∧b=some m∧Q m
theorem Am {ρ:Type}{m:ρ}{Q:ρ→Prop}(h:Q m):yv (some m) (some m) Q:=⟨m,rfl,rfl,h⟩
theorem yv.mono {ρ:Type}{a b:Option ρ}{Q R:ρ→Prop}(h:yv a b Q)(f:∀m,Q m→R m):yv a b R:=by
 obtain ⟨m,h1,c,d⟩:=h;exact ⟨m,h1,c,f m d⟩
theorem yv.bind {α ρ:Type}{a b:Option α}{Q:α→Prop}{f g:α→Option ρ}{R:ρ→Prop}(h:yv a b Q)(k:∀m,Q m→yv (f m) (g m) R):yv (a.bind f) (b.bind g) R:=by
 obtain ⟨m,h1,c,d⟩:=h;rw [h1,c];exact k m d
theorem Ml {ρ:Type}{c d:Prop}[Decidable c][Decidable d]{a b a' b':Option ρ}{Q:ρ→Prop}(e:c↔d)(h:c→yv a b Q)(h':¬c→yv a' b' Q):yv (if c then a else a') (if d then b else b') Q:=by
 by_cases f:c
 ·rw [if_pos f,if_pos (e.1 f)];exact h f
 rw [if_neg f,if_neg (λg=>f (e.2 g))];exact h' f
theorem NN {ρ:Type}{a b:Option Bool}{P:Prop}{f g:Bool→Option ρ}{R:ρ→Prop}(h:Dec a P)(h':Dec b P)(d:P→yv (f true) (g true) R)(i:¬P→yv (f false) (g false) R):yv (a.bind f) (b.bind g) R:=by
 rw [←h.eq h'];rcases h.cases with ⟨e,c⟩|⟨e,c⟩
 ·rw [e];exact d c
 rw [e];exact i c
theorem Vs {σ τ ρ:Type}(Lp:Nat→σ→Int→Option ρ)(Lq:Nat→τ→Int→Option ρ)(n:Nat)(I:Nat→σ→τ→Prop){Q:ρ→Prop}(a:∀k s t,I n s t→yv (Lp (k+1) s (n:Int)) (Lq (k+1) t (n:Int)) Q)(c:∀k s t i,i<n→I i s t→(∀s' t',I (i+1) s' t'→yv (Lp k s' ((i+1:Nat):Int)) (Lq k t' ((i+1:Nat):Int)) Q)→yv (Lp (k+1) s (i:Int)) (Lq (k+1) t (i:Int)) Q)(e:n<1000000000000){s:σ}{t:τ}(f:I 0 s t):yv (Lp bc s 0) (Lq bc t 0) Q:=by
 have key:∀(d k i:Nat)(s:σ)(t:τ),n-i=d→d<k→i≤n→I i s t→yv (Lp k s (i:Int)) (Lq k t (i:Int)) Q:=by
  intro d
  induction d with
  | zero =>
   intro k i s t g hk j h;obtain ⟨k,rfl⟩:=kS k (by omega);have:i=n:=by omega
   subst this;exact a k s t h
  | succ d ih =>
   intro k i s t g hk j h;obtain ⟨k,rfl⟩:=kS k (by omega);exact c k s t i (by omega) h (λs' t' h'=>ih k (i+1) s' t' (by omega) (by omega) (by omega) h')
 exact key n bc 0 s t (by omega) (cN e) (Nat.zero_le _) f
end Go.Vk
/- Statistics: tested alike; the greatest of a list. -/
namespace Go.Vk
theorem Bc {a:aK}(h:nx a):OkM a:=by
 obtain ⟨h1,d,c⟩:=h;exact ⟨by omega,by have:=d.1;omega,by have:=c.1;omega,λy e=>by have:=c.2 y e;omega⟩
theorem lT {s:ae}(h:bn s):OkS s:=by
 obtain ⟨h1,c⟩:=h;exact ⟨by have:=h1.1;omega,λa d=>Bc (h1.2 a d),by have:=c.1;omega,λy e=>by have:=c.2 y e;omega⟩
theorem zY {o:Option Bool}{P R:Prop}{f:Bool→Option Bool}(h:Dec o P)(c:P→Dec (f true) R)(d:¬P→Dec (f false) R):Dec (o.bind f) R:=by
 rcases h.cases with ⟨e,a⟩|⟨e,a⟩
 ·rw [e];exact c a
 rw [e];exact d a
theorem Tj {c:Prop}[Decidable c]{P R:Prop}{a b:Option Bool}(e:c↔P)(f:P→Dec a R)(g:¬P→Dec b R):Dec (if c then a else b) R:=by
 by_cases d:c
 ·rw [if_pos d];exact f (e.1 d)
 rw [if_neg d];exact g (λh=>d (e.2 h))
theorem fE {x a b:Int}:Dec (bm x a b) (a≤x∧x≤b):=Uf
theorem cW {x a b:Int}:Dec (aU x a b) (a≤x∧x≤b):=Uf
def nb (a:aK):Nat:=if 0<a.B_.length then a.B_.length+1 else a.M_.length
theorem yj {a:aK}(d:nx a):mo a=some (nb a:Int):=by
 have h1:=d.2.1.1;unfold mo nb;by_cases c:0<a.B_.length
 ·rw [if_pos (by simpa using c),if_pos c,ax]
 rw [if_neg (by simpa using c),if_neg c]
theorem Fu {a:aK}(h:uL a):2≤nb a∧nb a≤4:=by
 unfold nb;rcases h.2 with ⟨h1,c,_⟩|⟨h1,c,_⟩
 ·rw [Q6];omega
 rw [Q3];omega
theorem vZ {a:aK}(c:nx a)(h:uL a):kQ a=some (nb a:Int):=by
 obtain ⟨n,d,e,_⟩:=Np (Bc c) h;rw [d,←e,yj c]
theorem gF.attr {s:ae}(h:gF s){i:Nat}(a:i<s.c_.length):uL s.c_[i]:=(h.2.2.2 i (Nat.zero_le _) a a).1
def pX (l:List Int)(c k:Nat):Nat→Int
 | 0=>0
 | b+1=>pX l c k b+l.getD (b*c+k) 0
def Kb (c n:Nat)(tot l:List Int):Prop:=l.length=n*c∧(∀x∈l,0≤x∧x≤999)∧∀k,k<c→pX l c k n≤tot.getD k 0
def zL (s:ae)(t:aD):Prop:=gF s∧t.l_.length=s.g_.length∧(∀x∈t.l_,0≤x∧x≤999)∧t.l_.sum≤999 ∧
 (t.e_.length=0∨(t.e_.length=s.c_.length∧∀i (h:i<t.e_.length) (a:i<s.c_.length),Kb s.g_.length (nb s.c_[i]) t.l_ t.e_[i]))
theorem Vf {l:List Int}(h:∀x∈l,0≤x∧x≤999)(i:Nat):0≤l.getD i 0∧l.getD i 0≤999:=by
 rw [List.getD_eq_getElem?_getD];by_cases a:i<l.length
 ·rw [List.getElem?_eq_getElem a];exact h _ (List.getElem_mem a)
 rw [List.getElem?_eq_none (by omega)];simp
theorem zC {l:List Int}{i:Nat}(h:i<l.length):l.getD i 0=l[i]:=by simp [h]
theorem Ub {l:List Int}{c k:Nat}(h:∀x∈l,0≤x∧x≤999):∀n:Nat,0≤pX l c k n∧pX l c k n≤999*n
 | 0=>by simp [pX]
 | n+1=>by
  have:=Ub (c:=c) (k:=k) h n;have:=Vf h (n*c+k);simp only [pX];omega
theorem Sq {l:List Int}{c k:Nat}(h:∀x∈l,0≤x∧x≤999){n m:Nat}(a:n≤m):pX l c k n≤pX l c k m:=by
 induction m with
 | zero=>rw [show n=0 by omega];exact Int.le_refl _
 | succ m ih =>
  by_cases e:n=m+1
  ·rw [e];exact Int.le_refl _
  have:=ih (by omega);have:=Vf h (m*c+k);simp only [pX];omega
theorem IS {l:List Int}(m:l.length≤1048576)(n:Int):Dec (uw l n) ((l.length:Int)=n∧∀x∈l,0≤x∧x≤999):=by
 unfold uw;by_cases d:(l.length:Int)=n
 ·rw [if_pos (by simpa using d)]
  have f:Dec (dO l) (∃i,i<l.length∧∀h:i<l.length,¬(0≤l[i]∧l[i]≤999)):=by
   unfold dO eX;refine ww (Lp:=cX l) (n:=l.length) (λk i a=>?_) (λk i a=>?_) (by omega)
   ·show (if _ then _ else _)=_;rw [Q4]
   rw [cX,Q0,aH a,ax];unfold xZ bm;simp only [bS];by_cases h:0≤l[i]∧l[i]≤999
   ·rw [qj h];exact .inr ⟨λg=>g a h,rfl⟩
   rw [rY h];exact .inl ⟨λ_=>h,rfl⟩
  rcases f.cases with ⟨e,i,a,h⟩|⟨e,h⟩
  ·rw [e];exact ct λg=>h a (g.2 _ (List.getElem_mem a))
  rw [e];exact qS ⟨d,λx j=>by
   obtain ⟨i,a,rfl⟩:=List.getElem_of_mem j;exact Classical.byContradiction λc=>h ⟨i,a,λ_=>c⟩⟩
 rw [if_neg (by simpa using d)];exact ct λg=>d g.1
theorem Ji {p:List Int}(a:∀x∈p,0≤x∧x≤1000000000)(d:p.length≤1048576):pg p=some p.sum:=by
 unfold pg
 have h:=Ft (p:=p) (λx=>x) (jU p) some (λk s=>by
  show (if _ then _ else _)=_
  rw [Q5]) (λk s i c=>by
  rw [jU,Q0,aH c,ax];rfl) a (by omega)
 simpa using h
theorem MD {s:ae}(a:gF s){l:List Int}(h1:l.length=s.g_.length)(c:∀x∈l,0≤x∧x≤999):0≤l.sum∧l.sum≤2997:=by
 have h:=tx c;have:=a.2.1;omega
def sO (l:List Int)(c i:Nat):List Int:=(List.range c).map λk=>pX l c k (i / c+if k<i%c then 1 else 0)
theorem Bk (l:List Int)(c i:Nat):(sO l c i).length=c:=by simp [sO]
theorem yg {l:List Int}{c i k:Nat}(h:k<c):(sO l c i)[k]'(by simpa [sO] using h)=pX l c k (i / c+if k<i%c then 1 else 0):=by simp [sO]
theorem Hv {l:List Int}{c i:Nat}(e:0<c):sO l c (i+1)=(sO l c i).set (i%c) (pX l c (i%c) (i / c+1)):=by
 have j:=Nat.mod_lt i e;have m:=Nat.div_add_mod i c;apply List.ext_getElem (by simp [sO]);intro k h1 o;have hk:k<c:=by simpa [sO] using h1
 rw [yg hk,List.getElem_set];by_cases h:i%c+1=c
 ·have f:(i+1) / c=i / c+1:=by
   have:i+1=c*(i / c+1):=by rw [Nat.mul_add,Nat.mul_one];omega
   rw [this,Nat.mul_div_cancel_left _ e]
  have g:(i+1)%c=0:=by
   have:i+1=c*(i / c+1):=by rw [Nat.mul_add,Nat.mul_one];omega
   rw [this,Nat.mul_mod_right]
  rw [f,g,Q6];by_cases a:i%c=k
  ·rw [if_pos a,a]
  rw [if_neg a,yg hk,Q3]
 have f:(i+1) / c=i / c:=by
  have:i+1=(i%c+1)+c*(i / c):=by omega
  rw [this,Nat.add_mul_div_left _ _ e,Nat.div_eq_of_lt (by omega),Nat.zero_add]
 have g:(i+1)%c=i%c+1:=by
  have:i+1=(i%c+1)+c*(i / c):=by omega
  rw [this,Nat.add_mul_mod_self_left,Nat.mod_eq_of_lt (by omega)]
 rw [f,g];by_cases a:i%c=k
 ·rw [if_pos a,Q3,a]
 rw [if_neg a,yg hk];by_cases d:k<i%c
 ·rw [Q3,if_pos d]
 rw [Q6,if_neg d]
theorem OT (l:List Int)(c:Nat):sO l c 0=List.replicate c 0:=by
 apply List.ext_getElem (by simp [sO]);intro k h1 a;have hk:k<c:=by simpa [sO] using h1
 rw [yg hk];simp [pX]
theorem Pq {s:ae}{t:aD}{l:List Int}{n:Nat}(D:gF s)(X:t.l_.length=s.g_.length)(E:n≤4)(h1:l.length=n*s.g_.length)(h:∀x∈l,0≤x∧x≤999)(R:Int→Option Bool)(i:Nat)(Z:i≤1048576):((∀k,k<s.g_.length→pX l s.g_.length k n≤t.l_.getD k 0∨n=0)∧gc l s t R (i:Int) bc 0 (List.replicate s.g_.length 0)=R ((i+1:Nat):Int)) ∨
  ((¬ ∀k,k<s.g_.length→pX l s.g_.length k n≤t.l_.getD k 0∨n=0)∧gc l s t R (i:Int) bc 0 (List.replicate s.g_.length 0)=some false):=by
 have u:2≤s.g_.length∧s.g_.length≤3:=by have:=D.2.1;omega
 generalize F:s.g_.length=c at *
 have a:0<c:=by omega
 have G:l.length≤12:=by
  have:n*c≤4*3:=Nat.mul_le_mul E u.2;omega
 rw [←OT l c]
 rcases Co (Lp:=λk j=>gc l s t R (i:Int) k (j:Int) (sO l c j)) (n:=l.length) (Q:=λj=>pX l c (j%c) (j / c+1)≤t.l_.getD (j%c) 0) (fin:=R ((i+1:Nat):Int)) (bad:=some false) (λk _=>by
   show gc l s t R (i:Int) (k+1) _ _=_
   rw [gc,Q5,ax]) (λk j e _=>by
   show (_∧gc l s t R (i:Int) (k+1) _ _=_)∨(_∧gc l s t R (i:Int) (k+1) _ _=_);have d:=Nat.mod_lt j a
   have o:rem (j:Int) (c:Int)=some ((j%c:Nat):Int):=by
    unfold rem;rw [Q6,qm]
   have v:j / c*c+j%c=j:=by rw [Nat.mul_comm];exact Nat.div_add_mod j c
   have p:pX l c (j%c) (j / c+1)=pX l c (j%c) (j / c)+l[j]:=by
    simp only [pX];rw [v,zC e]
   have hb:=Ub (c:=c) (k:=j%c) h (j / c);have M:j / c≤12:=Nat.le_trans (Nat.div_le_self _ _) (by omega);have P:=h _ (List.getElem_mem e)
   have H:(sO l c j)[j%c]'(by rw [Bk];exact d)=pX l c (j%c) (j / c):=by
    rw [yg d,Q6];rfl
   have L:IntKind.i64.wrap (pX l c (j%c) (j / c)+l[j])=pX l c (j%c) (j / c+1):=by
    rw [p,aV]
   rw [gc,Q0,aH e,F,o];simp only [bS];rw [aH (by rw [Bk];exact d),H];simp only [Option.bind_some,Int.toNat_natCast];rw [L,←Hv a,aH (by rw [Bk];exact d),aH (by omega:j%c<t.l_.length)];simp only [bS]
   have w:(sO l c (j+1))[j%c]'(by rw [Bk];exact d)=pX l c (j%c) (j / c+1):=by
    simp only [Hv a,List.getElem_set_self]
   rw [w,zC (by omega:j%c<t.l_.length),ax];by_cases f:pX l c (j%c) (j / c+1)≤t.l_[j%c]
   ·rw [if_neg (by simpa using f)];exact .inl ⟨f,rfl⟩
   rw [if_pos (by simpa using f)];exact .inr ⟨f,rfl⟩) (by omega) with ⟨q,r⟩|⟨q,r⟩
 ·refine .inl ⟨λk hk=>?_,r⟩;by_cases A:n=0
  ·exact .inr A
  left
  have C:(n-1)*c+k<l.length:=by
   rw [h1];obtain ⟨m,rfl⟩:∃m,n=m+1:=⟨n-1,by omega⟩;rw [Nat.add_sub_cancel,Nat.add_mul];omega
  have:=q _ C;rw [show ((n-1)*c+k)%c=k by rw [Nat.mul_comm,Nat.mul_add_mod,Nat.mod_eq_of_lt hk],show ((n-1)*c+k) / c+1=n by rw [Nat.mul_comm,Nat.mul_add_div a,Nat.div_eq_of_lt hk];omega] at this;exact this
 refine .inr ⟨λg=>q λj e=>?_,r⟩;have d:=Nat.mod_lt j a;rcases g _ d with g|g
 ·refine Int.le_trans (Sq h ?_) g;have:j / c<n:=Nat.div_lt_of_lt_mul (by rw [Nat.mul_comm];omega);omega
 rw [h1,g,Nat.zero_mul] at e;omega
theorem Ln {s:ae}{t:aD}(A:bn s)(p:gQ t):Dec (tH s t) (zL s t):=by
 unfold tH zL;refine zY (qV (lT A)) (λf=>?_) (λg=>ct λh=>g h.1);simp only [Bool.not_true,Bool.false_eq_true,if_false];have C:=p.1.1;have P:=p.2.1;rcases (IS C (s.g_.length:Int)).cases with ⟨e,j⟩|⟨e,j⟩
 ·rw [e];simp only [cS];have q:t.l_.length=s.g_.length:=by omega
  rw [Ji (λx H=>by have:=j.2 x H;omega) C];simp only [bS];by_cases c:t.l_.sum≤999
  ·rw [Q4];by_cases o:t.e_.length=0
   ·rw [if_pos (by simp;exact List.length_eq_zero_iff.1 o)];exact qS ⟨f,q,j.2,c,.inl o⟩
   rw [if_neg (by rw [beq_iff_eq];omega)];by_cases r:t.e_.length=s.c_.length
   ·rw [if_neg (by simp [r])]
    refine (xj (Lp:=λk i=>fy t s k (i:Int)) (n:=t.e_.length) (Q:=λi=>∀(h:i<t.e_.length)(a:i<s.c_.length),Kb s.g_.length (nb s.c_[i]) t.l_ t.e_[i]) (F:=True) (λk _=>?_) (λk i l _=>?_) (by omega)).of_iff
     ⟨λg=>⟨f,q,j.2,c,.inr ⟨r,λi h a=>g.1 i h h a⟩⟩,λg=>⟨λi _ h a=>by
      rcases g.2.2.2.2 with g|g
      ·exact absurd g o
      exact g.2 i h a,trivial⟩⟩
    ·show Dec (fy t s (k+1) _) _;rw [fy,Q5];exact qS trivial
    show (_∧fy t s (k+1) _=fy t s k _)∨(_∧fy t s (k+1) _=_);have d:i<s.c_.length:=by omega
    have L:=A.1.2 _ (List.getElem_mem d);have D:=Fu (f.attr d);have E:=p.2.2 _ (List.getElem_mem l);have R:=f.2.1;have M:nb s.c_[i]*s.g_.length≤4*3:=Nat.mul_le_mul (by omega) (by omega);rw [fy,Q0,aH l,aH d];simp only [bS];rw [yj L];simp only [bS]
    have G:IntKind.i64.wrap ((nb s.c_[i]:Int)*(s.g_.length:Int))=((nb s.c_[i]*s.g_.length:Nat):Int):=by
     rw [←Int.natCast_mul,fQ]
    rw [G];rcases (IS E.1 ((nb s.c_[i]*s.g_.length:Nat):Int)).cases with ⟨u,a⟩|⟨u,a⟩
    ·rw [u];simp only [cS];unfold Ee;rw [QI _ (by omega)];simp only [bS];have m:t.e_[i].length=nb s.c_[i]*s.g_.length:=by omega
     rcases Pq (t:=t) f q D.2 m a.2 (fy t s k) i (by omega) with ⟨v,w⟩|⟨v,w⟩
     ·exact .inl ⟨λ_ _=>⟨m,a.2,λk hk=>by
       rcases v k hk with g|g
       ·exact g
       omega⟩,w⟩
     exact .inr ⟨λg=>v λk hk=>.inl ((g l d).2.2 k hk),w⟩
    rw [u];exact .inr ⟨λg=>a ⟨by have:=(g l d).1;omega,(g l d).2.1⟩,rfl⟩
   rw [Q0]
   exact ct λg=>by
    rcases g.2.2.2.2 with g|g
    ·exact o g
    exact r g.1
  rw [Q0];exact ct λg=>c g.2.2.2.1
 rw [e];exact ct λg=>j ⟨by have:=g.2.1;omega,g.2.2.1⟩
theorem Pm {s:ae}{t:aD}{l:List Int}{n i:Nat}(C:gF s)(hT:t.l_.length=s.g_.length)(hn:n≤4)(D:i<t.e_.length)(E:t.e_[i]=l)(h1:l.length=n*s.g_.length)(R:Int→Option Bool)(P:i≤1048576):(((∀x∈l,0≤x∧x≤999)∧∀k,k<s.g_.length→pX l s.g_.length k n≤t.l_.getD k 0)∧cZ s (n:Int) t (i:Int) R bc 0=R ((i+1:Nat):Int)) ∨
  ((¬((∀x∈l,0≤x∧x≤999)∧∀k,k<s.g_.length→pX l s.g_.length k n≤t.l_.getD k 0))∧cZ s (n:Int) t (i:Int) R bc 0=some false):=by
 have X:2≤s.g_.length∧s.g_.length≤3:=by have:=C.2.1;omega
 generalize r:s.g_.length=c at *
 have u:0<c:=by omega
 have f:∀k b,k<c→b<n→b*c+k<l.length:=λk b hk h=>by
  rw [h1];have:(b+1)*c≤n*c:=Nat.mul_le_mul_right _ h;rw [Nat.add_mul] at this;omega
 rcases Co (Lp:=λq k=>cZ s (n:Int) t (i:Int) R q (k:Int)) (n:=c) (Q:=λk=>(∀b,b<n→0≤l.getD (b*c+k) 0∧l.getD (b*c+k) 0≤999)∧pX l c k n≤t.l_.getD k 0) (fin:=R ((i+1:Nat):Int)) (bad:=some false) (λq _=>by
   show cZ s (n:Int) t (i:Int) R (q+1) _=_
   rw [cZ,r,Q5,ax]) (λq k hk _=>by
   show (_∧cZ s (n:Int) t (i:Int) R (q+1) _=cZ s (n:Int) t (i:Int) R q _)∨(_∧cZ s (n:Int) t (i:Int) R (q+1) _=_);rw [cZ,r,Q0]
   rcases Co (Lp:=λe b=>fx (n:Int) t (i:Int) s (k:Int) (cZ s (n:Int) t (i:Int) R q) e (pX l c k b) (b:Int)) (n:=n) (Q:=λb=>0≤l.getD (b*c+k) 0∧l.getD (b*c+k) 0≤999)
     (fin:=if pX l c k n≤t.l_.getD k 0 then cZ s (n:Int) t (i:Int) R q ((k+1:Nat):Int) else some false) (bad:=some false) (λe _=>by
     show fx (n:Int) t (i:Int) s (k:Int) (cZ s (n:Int) t (i:Int) R q) (e+1) _ _=_;rw [fx,Q5,aH (by omega:k<t.l_.length),ax,zC (by omega:k<t.l_.length)];simp only [bS];by_cases g:pX l c k n≤t.l_[k]
     ·rw [if_pos g,if_neg (by simpa using g)]
     ·rw [if_neg g,if_pos (by simpa using g)]) (λe b h F=>by
     show (_∧fx (n:Int) t (i:Int) s (k:Int) (cZ s (n:Int) t (i:Int) R q) (e+1) _ _=fx (n:Int) t (i:Int) s (k:Int) (cZ s (n:Int) t (i:Int) R q) e _ _)∨(_∧fx (n:Int) t (i:Int) s (k:Int) (cZ s (n:Int) t (i:Int) R q) (e+1) _ _=_);have p:=f k b hk h;have Z:b*c≤4*3:=Nat.mul_le_mul (by omega) (by omega)
     have G:IntKind.i64.wrap (IntKind.i64.wrap ((b:Int)*(c:Int))+(k:Int))=((b*c+k:Nat):Int):=by
      rw [←Int.natCast_mul,fQ,←Int.natCast_add,fQ]
     have v:∀m,m≤b→0≤pX l c k m∧pX l c k m≤999*m:=λm=>by
      induction m with
      | zero=>intro _;simp [pX]
      | succ m ih =>
       intro w;have d:=ih (by omega);have a:=F m (by omega);simp only [pX];omega
     have H:=v b (Nat.le_refl _);rw [fx,Q0,aH D,r,G];simp only [bS];rw [E,aH p];simp only [bS];unfold aU;simp only [bS];have o:=zC p;by_cases g:0≤l[b*c+k]∧l[b*c+k]≤999
     ·rw [qj g,o];simp only [Bool.not_true,Bool.false_eq_true,if_false];rw [aV (n:=pX l c k b+l[b*c+k]) (by omega) (by omega),ax];refine .inl ⟨g,?_⟩;congr 1;simp only [pX];rw [o]
     rw [rY g,o];exact .inr ⟨g,rfl⟩) (by omega) with ⟨d,a⟩|⟨d,a⟩
   ·have a:fx (n:Int) t (i:Int) s (k:Int) (cZ s (n:Int) t (i:Int) R q) bc 0 0=_:=a;rw [a];by_cases g:pX l c k n≤t.l_.getD k 0
    ·rw [if_pos g];exact .inl ⟨⟨d,g⟩,rfl⟩
    rw [if_neg g];exact .inr ⟨λx=>g x.2,rfl⟩
   have a:fx (n:Int) t (i:Int) s (k:Int) (cZ s (n:Int) t (i:Int) R q) bc 0 0=_:=a;rw [a];exact .inr ⟨λx=>d x.1,rfl⟩) (by omega) with ⟨d,a⟩|⟨d,a⟩
 ·refine .inl ⟨⟨λx L=>?_,λk hk=>(d k hk).2⟩,a⟩;obtain ⟨j,M,rfl⟩:=List.getElem_of_mem L;have w:=Nat.mod_lt j u;have A:j / c*c+j%c=j:=by rw [Nat.mul_comm];exact Nat.div_add_mod j c
  have:=(d _ w).1 (j / c) (Nat.div_lt_of_lt_mul (by rw [Nat.mul_comm];omega));rw [A,zC M] at this;exact this
 refine .inr ⟨λg=>d λk hk=>⟨λb h=>?_,g.2 k hk⟩,a⟩;rw [zC (f k b hk h)];exact g.1 _ (List.getElem_mem _)
theorem oG {s:ae}{t:aD}(A:bn s)(C:gQ t):Dec (jf s t) (zL s t):=by
 unfold jf zL;refine zY (nI (lT A)) (λl=>?_) (λg=>ct λh=>g h.1);have hl:=C.1.1;have X:=C.2.1;by_cases m:t.l_.length=s.g_.length
 ·rw [if_neg (by simp [m])];have Z:2≤s.g_.length∧s.g_.length≤3:=by have:=l.2.1;omega
  have H:(∀i,i<t.l_.length→∀h:i<t.l_.length,0≤t.l_[i]∧t.l_[i]≤999)→Dec (if decide (t.l_.sum>999) then some false else if ((t.e_.length:Int)==0) then some true else if ((t.e_.length:Int) != (s.c_.length:Int)) then some false else eD t s bc 0) (t.l_.sum≤999 ∧
    (t.e_.length=0∨(t.e_.length=s.c_.length∧∀i (h:i<t.e_.length) (c:i<s.c_.length),Kb s.g_.length (nb s.c_[i]) t.l_ t.e_[i]))):=λ_=>by
   by_cases d:t.l_.sum≤999
   ·rw [Q4];by_cases o:t.e_.length=0
    ·rw [if_pos (by simp;exact List.length_eq_zero_iff.1 o)];exact qS ⟨d,.inl o⟩
    rw [if_neg (by rw [beq_iff_eq];omega)];by_cases r:t.e_.length=s.c_.length
    ·rw [if_neg (by simp [r])]
     refine (xj (Lp:=λk i=>eD t s k (i:Int)) (n:=t.e_.length) (Q:=λi=>∀(h:i<t.e_.length)(c:i<s.c_.length),Kb s.g_.length (nb s.c_[i]) t.l_ t.e_[i]) (F:=True) (λk _=>?_) (λk i a _=>?_) (by omega)).of_iff
      ⟨λg=>⟨d,.inr ⟨r,λi h c=>g.1 i h h c⟩⟩,λg=>⟨λi _ h c=>by
       rcases g.2 with g|g
       ·exact absurd g o
       exact g.2 i h c,trivial⟩⟩
     ·show Dec (eD t s (k+1) _) _;rw [eD,Q5];exact qS trivial
     show (_∧eD t s (k+1) _=eD t s k _)∨(_∧eD t s (k+1) _=_);have e:i<s.c_.length:=by omega
     have L:=A.1.2 _ (List.getElem_mem e);have D:=Fu (l.attr e);have M:nb s.c_[i]*s.g_.length≤4*3:=Nat.mul_le_mul (by omega) (by omega)
     have E:IntKind.i64.wrap ((nb s.c_[i]:Int)*(s.g_.length:Int))=((nb s.c_[i]*s.g_.length:Nat):Int):=by
      rw [←Int.natCast_mul,fQ]
     rw [eD,Q0,aH a,aH e];simp only [bS];rw [vZ L (l.attr e)];simp only [bS];rw [E];by_cases f:t.e_[i].length=nb s.c_[i]*s.g_.length
     ·rw [if_neg (by rw [bne_iff_ne];omega)];rcases Pm l m D.2 a rfl f (eD t s k) (by omega) with ⟨q,u⟩|⟨q,u⟩
      ·exact .inl ⟨λ_ _=>⟨f,q.1,q.2⟩,u⟩
      exact .inr ⟨λg=>q ⟨(g a e).2.1,(g a e).2.2⟩,u⟩
     rw [if_pos (by rw [bne_iff_ne];omega)];exact .inr ⟨λg=>f (g a e).1,rfl⟩
    rw [Q0]
    exact ct λg=>by
     rcases g.2 with g|g
     ·exact o g
     exact r g.1
   rw [Q0];exact ct λg=>d g.1
  refine Dec.of_iff (P:=(∀i,i<t.l_.length→∀h:i<t.l_.length,0≤t.l_[i]∧t.l_[i]≤999)∧(t.l_.sum≤999 ∧
    (t.e_.length=0∨(t.e_.length=s.c_.length∧∀i (h:i<t.e_.length) (c:i<s.c_.length),Kb s.g_.length (nb s.c_[i]) t.l_ t.e_[i])))) ?_ ⟨λg=>⟨l,m,λx v=>by
    obtain ⟨i,a,rfl⟩:=List.getElem_of_mem v;exact g.1 i a a,g.2⟩,λg=>⟨λi a _=>g.2.2.1 _ (List.getElem_mem a),g.2.2.2⟩⟩
  have:=xj (Lp:=λk i=>ij t s k (t.l_.take i).sum (i:Int)) (n:=t.l_.length) (Q:=λi=>∀h:i<t.l_.length,0≤t.l_[i]∧t.l_[i]≤999) (F:=t.l_.sum≤999 ∧
    (t.e_.length=0∨(t.e_.length=s.c_.length∧∀i (h:i<t.e_.length) (c:i<s.c_.length),Kb s.g_.length (nb s.c_[i]) t.l_ t.e_[i]))) (λk w=>by
   show Dec (ij t s (k+1) _ _) _;rw [ij,Q5,List.take_length]
   exact H w) (λk i a w=>by
   show (_∧ij t s (k+1) _ _=ij t s k _ _)∨(_∧ij t s (k+1) _ _=_)
   have hb:=tx (p:=t.l_.take i) (b:=999) (λx v=>by
    obtain ⟨j,R,rfl⟩:=List.getElem_of_mem v;have G:j<i:=by have:j<(t.l_.take i).length:=R;simp at this;omega
    rw [List.getElem_take];exact w j G (by omega))
   have a0:((t.l_.take i).length:Int)≤3:=by simp;omega
   rw [ij,Q0,aH a];unfold aU;simp only [bS];by_cases g:0≤t.l_[i]∧t.l_[i]≤999
   ·rw [qj g];simp only [Bool.not_true,Bool.false_eq_true,if_false];rw [aV (n:=(t.l_.take i).sum+t.l_[i]) (by omega) (by omega),ax,Ey a];exact .inl ⟨λ_=>g,rfl⟩
   rw [rY g];exact .inr ⟨λx=>g (x a),rfl⟩) (by omega)
  simpa using this
 rw [Q0];exact ct λg=>m g.2.1
end Go.Vk
/- Forks: tested alike. -/
namespace Go.Vk
def Cj (a:aK):Int:=(nb a:Int)-(if 0<a.B_.length then 2 else 1)
def atr (s:ae)(f:aC):aK:=s.c_.getD f.k_.toNat default
def wA (s:ae)(f:aC):Prop:=gF s∧(0≤f.k_∧f.k_≤(s.c_.length:Int)-1)∧(-1≤f.j_∧f.j_≤Cj (atr s f))
theorem GL {s:ae}{f:aC}(h:0≤f.k_∧f.k_≤(s.c_.length:Int)-1):∃(i:Nat)(a:i<s.c_.length),f.k_=i∧atr s f=s.c_[i]:=by
 refine ⟨f.k_.toNat,by omega,by omega,?_⟩;unfold atr;simp [show f.k_.toNat<s.c_.length by omega]
theorem CV {s:ae}{f:aC}(h:0≤f.k_∧f.k_≤(s.c_.length:Int)-1):idx s.c_ f.k_=some (atr s f):=by
 obtain ⟨i,a,c,d⟩:=GL h;rw [c,d,aH a]
theorem AW {s:ae}{f:aC}(h:0≤f.k_∧f.k_≤(s.c_.length:Int)-1):atr s f∈s.c_:=by
 obtain ⟨i,a,d,c⟩:=GL h;rw [c];exact List.getElem_mem a
theorem DL {s:ae}{f:aC}(a:gF s)(h:0≤f.k_∧f.k_≤(s.c_.length:Int)-1):uL (atr s f):=by
 obtain ⟨i,c,e,d⟩:=GL h;rw [d];exact a.attr c
theorem qM {s:ae}{f:aC}(d:bn s):Dec (ln s f) (wA s f):=by
 unfold ln wA;refine zY (nI (lT d)) (λi=>?_) (λg=>ct λh=>g h.1);have m:=d.1.1;simp only [Bool.not_true,Bool.false_eq_true,if_false];rw [aV (n:=(s.c_.length:Int)-1) (by omega) (by omega)];rcases (cW (x:=f.k_) (a:=0) (b:=(s.c_.length:Int)-1)).cases with ⟨e,c⟩|⟨e,c⟩
 ·rw [e];simp only [cS];have k:=d.1.2 _ (AW c);have j:=DL i c;have l:=Fu j;rw [CV c];simp only [bS];rw [vZ k j];simp only [bS];unfold Cj;refine Tj (P:=0<(atr s f).B_.length) (by simp) (λh=>?_) (λh=>?_)
  ·rw [if_pos h,aV];have:∀o:Option Bool,(o.bind λy=>some y)=o:=λo=>by cases o<;>rfl
   rw [this];exact cW.of_iff ⟨λg=>⟨i,c,g⟩,λg=>g.2.2⟩
  rw [if_neg h,aV];have:∀o:Option Bool,(o.bind λy=>some y)=o:=λo=>by cases o<;>rfl
  rw [this];exact cW.of_iff ⟨λg=>⟨i,c,g⟩,λg=>g.2.2⟩
 rw [e];exact ct λg=>c g.2.1
theorem Kv {s:ae}{f:aC}(i:bn s):Dec (wz s f) (wA s f):=by
 unfold wz wA;refine zY (qV (lT i)) (λj=>?_) (λg=>ct λh=>g h.1);have p:=i.1.1;simp only [Bool.not_true,Bool.false_eq_true,if_false];rw [aV (n:=(s.c_.length:Int)-1) (by omega) (by omega)];rcases (fE (x:=f.k_) (a:=0) (b:=(s.c_.length:Int)-1)).cases with ⟨e,c⟩|⟨e,c⟩
 ·rw [e];simp only [cS];have k:=i.1.2 _ (AW c);have l:=DL j c;have m:=Fu l;rw [CV c];simp only [bS];rw [yj k];simp only [bS];unfold Cj;have d:∀o:Option Bool,(o.bind λy=>some y)=o:=λo=>by cases o<;>rfl
  refine Tj (P:=0<(atr s f).B_.length) (by simp) (λh=>?_) (λh=>?_)
  ·rw [if_pos h,aV (n:=(nb (atr s f):Int)-1) (by omega) (by omega),aV,d,show (nb (atr s f):Int)-1-1=(nb (atr s f):Int)-2 by omega];exact fE.of_iff ⟨λg=>⟨j,c,g⟩,λg=>g.2.2⟩
  rw [if_neg h,aV,d];exact fE.of_iff ⟨λg=>⟨j,c,g⟩,λg=>g.2.2⟩
 rw [e];exact ct λg=>c g.2.1
end Go.Vk
