/- Functions of data of other seats, to lean on. -/
import Derived.Test.YtiackidnpjlnmaaGreatDoorRF
import Derived.Test.YtiackidnpjlnmaaGreatDoorVkBr
namespace Go.Vk
noncomputable def rV (p0:List (List UInt8)) (a:Int) (f:(List UInt8)→Int→Option (List UInt8)) (c:List UInt8):Option (List UInt8) :=
 (idx p0 a).bind fun d=>(qw c d).bind fun e=>f e (IntKind.i64.wrap (a+1))
noncomputable def ij (p0:List (List UInt8)) (p1:List UInt8):Nat→(List UInt8)→Int→Option (List UInt8)
 | 0,_,_=>none
 | d+1,c,a =>
  if decide (a<(p0.length:Int)) then if decide (a>0) then (qw c p1).bind fun e=>rV p0 a (ij p0 p1 d) e else rV p0 a (ij p0 p1 d) c else some c
noncomputable def my (p0:List (List UInt8)) (p1:List UInt8):Option (List UInt8) :=
 ij p0 p1 bb ([]:List UInt8) 0
noncomputable def pb (a:List UInt8) (f:Int→(List UInt8)→Option (List UInt8)) (c:Int) (d:Int):Option (List UInt8) :=
 (qw (kl ([IntKind.u8.wrap (IntKind.i64.wrap (48+d))]:List Int)) a).bind fun e=>f (IntKind.i64.wrap (Int.tdiv c 10)) e
noncomputable def ie (p0:Int):Nat→Int→(List UInt8)→Option (List UInt8)
 | 0,_,_=>none
 | d+1,a,c =>
  if (a != 0) then if decide ((Int.tmod a 10)<0) then pb c (ie p0 d) a (IntKind.i64.wrap (0-(Int.tmod a 10))) else pb c (ie p0 d) a (Int.tmod a 10) else if decide (p0<0) then (qw ([45]:List UInt8) c).bind fun e=>some e else some c
noncomputable def xh (p0:Int):Option (List UInt8) :=
 if (p0==0) then some ([48]:List UInt8) else ie p0 bb p0 ([]:List UInt8)
noncomputable def jK (p0:aK):Nat→(List (List UInt8))→Int→Option (List UInt8)
 | 0,_,_=>none
 | j+1,c,a =>
  if decide (a<(p0.B_.length:Int)) then (idx p0.B_ a).bind fun d=>(xh d).bind fun e=>(app c ([e]:List (List UInt8))).bind fun f=>(jK p0 j) f (IntKind.i64.wrap (a+1)) else (qw p0.H_ ([58]:List UInt8)).bind fun g=>(my c ([44]:List UInt8)).bind fun h=>(qw g h).bind fun i=>some i
noncomputable def ox (p0:aK):Option (List UInt8) :=
 (nL p0).bind fun a=>if (!a) then some ([]:List UInt8) else if decide ((p0.O_.length:Int)>0) then (qw p0.H_ ([61]:List UInt8)).bind fun c=>(my p0.O_ ([44]:List UInt8)).bind fun d=>(qw c d).bind fun e=>some e else jK p0 bb ([]:List (List UInt8)) 0
noncomputable def ix (p0:ae):Nat→(List (List UInt8))→Int→Option (List UInt8)
 | 0,_,_=>none
 | k+1,c,a =>
  if decide (a<(p0.c_.length:Int)) then (idx p0.c_ a).bind fun h=>(ox h).bind fun i=>(app c ([i]:List (List UInt8))).bind fun j=>(ix p0 k) j (IntKind.i64.wrap (a+1)) else (my c ([59]:List UInt8)).bind fun d=>(qw d ([124]:List UInt8)).bind fun e=>(my p0.g_ ([44]:List UInt8)).bind fun f=>(qw e f).bind fun g=>some g
noncomputable def uM (p0:ae):Option (List UInt8) :=
 (fG p0).bind fun a=>if (!a) then some ([]:List UInt8) else ix p0 bb ([]:List (List UInt8)) 0
noncomputable def oO  : Nat→Int→(List Int)→Option (List Int)
 | 0,_,_=>none
 | f+1,a,c =>
  if decide (a>127) then (app c ([IntKind.u8.wrap (IntKind.i64.wrap ((Int.tmod a 128)+128))]:List Int)).bind fun d=>(oO f) (IntKind.i64.wrap (Int.tdiv a 128)) d else (app c ([IntKind.u8.wrap a]:List Int)).bind fun e=>some e
noncomputable def uh (p0:Int):Option (List Int) :=
 (aV p0 0 2147483647).bind fun a=>if (!a) then some ([]:List Int) else oO bb p0 ([]:List Int)
noncomputable def yG (p0:List UInt8):Option (List Int) :=
 (uh (p0.length:Int)).bind fun a=>(ED p0).bind fun c=>(app a c).bind fun d=>some d
noncomputable def dY (p0:Int):Option (List Int) :=
 (aV p0 (-1000000000) 1000000000).bind fun a=>if (!a) then some ([]:List Int) else if decide (p0<0) then (uh (IntKind.i64.wrap ((IntKind.i64.wrap (0-(IntKind.i64.wrap (2*p0))))-1))).bind fun c=>some c else (uh (IntKind.i64.wrap (2*p0))).bind fun d=>some d
noncomputable def uE (p0:List Int):Nat→Int→Option (Bool)
 | 0,_=>none
 | e+1,a =>
  if decide (a<(p0.length:Int)) then (idx p0 a).bind fun c=>(aV c (-1000000000) 1000000000).bind fun d=>if (!d) then some false else (uE p0 e) (IntKind.i64.wrap (a+1)) else some true
noncomputable def jm (p0:List Int):Option (Bool) :=
 uE p0 bb 0
noncomputable def mR (p0:aA):Nat→Int→Option (Bool)
 | 0,_=>none
 | e+1,a =>
  if decide (a<(p0.o_.d_.length:Int)) then (idx p0.o_.d_ a).bind fun c=>(jm c).bind fun d=>if (!d) then some false else (mR p0 e) (IntKind.i64.wrap (a+1)) else some true
noncomputable def sZ (p0:aA):Option (Bool) :=
 (jm ([p0.n_.p_,p0.n_.f_,p0.J_,p0.I_,p0.r_,p0.F_,p0.E_]:List Int)).bind fun a=>(if (!a) then some true else (jm p0.z_).bind fun c=>some (!c)).bind fun d=>(if d then some true else (jm p0.c_).bind fun e=>some (!e)).bind fun f=>(if f then some true else (jm p0.o_.j_).bind fun g=>some (!g)).bind fun h=>if h then some false else mR p0 bb 0
noncomputable def qS (p0:List Int):Nat→(List Int)→Int→Option (List Int)
 | 0,_,_=>none
 | g+1,c,a =>
  if decide (a<(p0.length:Int)) then (idx p0 a).bind fun d=>(dY d).bind fun e=>(app c e).bind fun f=>(qS p0 g) f (IntKind.i64.wrap (a+1)) else some c
noncomputable def mC (p0:List Int):Option (List Int) :=
 (jm p0).bind fun a=>if (!a) then some ([]:List Int) else (dY (p0.length:Int)).bind fun c=>qS p0 bb c 0
noncomputable def qm (p0:List (List Int)):Nat→(List Int)→Int→Option (List Int)
 | 0,_,_=>none
 | g+1,c,a =>
  if decide (a<(p0.length:Int)) then (idx p0 a).bind fun d=>(mC d).bind fun e=>(app c e).bind fun f=>(qm p0 g) f (IntKind.i64.wrap (a+1)) else some c
noncomputable def nC (p0:List (List Int)):Option (List Int) :=
 (dY (p0.length:Int)).bind fun a=>qm p0 bb a 0
noncomputable def uV (p0:aA):Option (List Int) :=
 (gQ p0.A_).bind fun o=>(dY o).bind fun p=>(dY p0.n_.p_).bind fun q=>(app p q).bind fun r=>(dY p0.n_.f_).bind fun s=>(app r s).bind fun t=>(mC p0.z_).bind fun u=>(app t u).bind fun v=>(dY p0.J_).bind fun w=>(app v w).bind fun x=>(mC p0.o_.j_).bind fun A=>(app x A).bind fun C=>(nC p0.o_.d_).bind fun a=>(app C a).bind fun c=>(dY p0.I_).bind fun d=>(app c d).bind fun e=>(mC p0.c_).bind fun f=>(app e f).bind fun g=>(dY p0.r_).bind fun h=>(app g h).bind fun i=>(dY p0.F_).bind fun j=>(app i j).bind fun k=>(dY p0.E_).bind fun l=>(app k l).bind fun m=>some m
noncomputable def uN (p0:ao):Nat→(List Int)→Int→Option (List Int)
 | 0,_,_=>none
 | i+1,c,a =>
  if decide (a<(p0.a_.length:Int)) then (idx p0.a_ a).bind fun d=>(sZ d).bind fun e=>if (!e) then some ([]:List Int) else (idx p0.a_ a).bind fun f=>(uV f).bind fun g=>(app c g).bind fun h=>(uN p0 i) h (IntKind.i64.wrap (a+1)) else some c
noncomputable def rN (p0:ao):Option (List Int) :=
 (jm ([p0.m_]:List Int)).bind fun a=>if (!a) then some ([]:List Int) else (dY p0.m_).bind fun c=>(dY (p0.a_.length:Int)).bind fun d=>(app c d).bind fun e=>uN p0 bb e 0
noncomputable def sg (p0:aw):Nat→Int→Option (List Int)
 | 0,_=>none
 | f+1,a =>
  if decide (a<(p0.e_.length:Int)) then (idx p0.e_ a).bind fun c=>(jm c).bind fun d=>if (!d) then some ([]:List Int) else (sg p0 f) (IntKind.i64.wrap (a+1)) else (nC p0.e_).bind fun e=>some e
noncomputable def pc (p0:aw):Option (List Int) :=
 sg p0 bb 0
noncomputable def rq (e:Int→Int→Option (Int)) (c:Int):Nat→Int→Int→Option (Int)
 | 0,_,_=>none
 | f+1,a,d =>
  if decide (d<8) then if ((Int.tmod a 2)==1) then (rq e c f) (fv .xor .i64 (IntKind.i64.wrap (Int.tdiv a 2)) 3988292384) (IntKind.i64.wrap (d+1)) else (rq e c f) (IntKind.i64.wrap (Int.tdiv a 2)) (IntKind.i64.wrap (d+1)) else e a (IntKind.i64.wrap (c+1))
noncomputable def rk (p0:List Int):Nat→Int→Int→Option (Int)
 | 0,_,_=>none
 | e+1,c,a =>
  if decide (a<(p0.length:Int)) then (idx p0 a).bind fun d=>rq (rk p0 e) a bb (fv .xor .i64 c (IntKind.i64.wrap d)) 0 else some (fv .xor .i64 c 4294967295)
noncomputable def LT (p0:List Int):Option (Int) :=
 rk p0 bb 4294967295 0
noncomputable def nG (p0:List Int):Option (List Int) :=
 (LT p0).bind fun a=>some ([IntKind.u8.wrap (IntKind.i64.wrap (Int.tdiv a 16777216)),IntKind.u8.wrap (Int.tmod (IntKind.i64.wrap (Int.tdiv a 65536)) 256),IntKind.u8.wrap (Int.tmod (IntKind.i64.wrap (Int.tdiv a 256)) 256),IntKind.u8.wrap (Int.tmod a 256)]:List Int)
noncomputable def lQ (p0:aM):Nat→Int→(List Int)→Option (List Int)
 | 0,_,_=>none
 | l+1,a,c =>
  if decide (a<(p0.N_.s_.length:Int)) then (idx p0.N_.s_ a).bind fun d=>(dY d.Z_).bind fun e=>(app c e).bind fun f=>(idx p0.N_.s_ a).bind fun g=>(dY g.aa_).bind fun h=>(app f h).bind fun i=>(lQ p0 l) (IntKind.i64.wrap (a+1)) i else (nG c).bind fun j=>(app c j).bind fun k=>some k
noncomputable def jL (p0:aM):Nat→(List Int)→Int→Option (List Int)
 | 0,_,_=>none
 | i+1,c,a =>
  if decide (a<(p0.N_.q_.length:Int)) then (idx p0.N_.q_ a).bind fun d=>(mC d).bind fun e=>(app c e).bind fun f=>(jL p0 i) f (IntKind.i64.wrap (a+1)) else (dY (p0.N_.s_.length:Int)).bind fun g=>(app c g).bind fun h=>lQ p0 bb 0 h
noncomputable def jX (p0:aM):Nat→(List Int)→Int→Option (List Int)
 | 0,_,_=>none
 | q+1,d,c =>
  if decide (c<(p0.ab_.u_.length:Int)) then (idx p0.ab_.u_ c).bind fun a=>(rN a.D_).bind fun e=>(app d e).bind fun f=>(gQ a.Q_).bind fun g=>(dY g).bind fun h=>(app f h).bind fun i=>(rN a.t_).bind fun j=>(app i j).bind fun k=>(pc a.C_.w_).bind fun l=>(app k l).bind fun m=>(pc a.C_.x_).bind fun o=>(app m o).bind fun p=>(jX p0 q) p (IntKind.i64.wrap (c+1)) else jL p0 bb d 0
noncomputable def rg (p0:aM) (a:Int):Nat→(List Int)→Int→Option (List Int)
 | 0,_,_=>none
 | h+1,d,c =>
  if decide (c<(([p0.l_.k_.U_,p0.l_.k_.T_,p0.l_.k_.V_,p0.l_.k_.r_,p0.l_.k_.a_,p0.l_.k_.K_,a,p0.l_.u_,p0.l_.W_,p0.l_.Y_,p0.l_.w_,p0.l_.x_]:List Int).length:Int)) then (idx ([p0.l_.k_.U_,p0.l_.k_.T_,p0.l_.k_.V_,p0.l_.k_.r_,p0.l_.k_.a_,p0.l_.k_.K_,a,p0.l_.u_,p0.l_.W_,p0.l_.Y_,p0.l_.w_,p0.l_.x_]:List Int) c).bind fun f=>(dY f).bind fun g=>(app d g).bind fun e=>(rg p0 a h) e (IntKind.i64.wrap (c+1)) else jX p0 bb d 0
noncomputable def qP (p0:aM):Option (List Int) :=
 (sN p0).bind fun a=>if (!a) then some ([]:List Int) else (uM p0.l_.y_).bind fun c=>(yG c).bind fun d=>(app ([83,80,78,1]:List Int) d).bind fun e=>(gQ p0.l_.k_.R_).bind fun f=>rg p0 f bb e 0
noncomputable def jd (p1:Int) (p0:List Int):Nat→Int→Int→Option (Int×Int×Bool)
 | 0,_,_=>none
 | f+1,c,a =>
  if decide (a<5) then if ((decide (p1<0))||(decide (p1≥(IntKind.i64.wrap ((p0.length:Int)-a))))) then some (0,0,false) else (idx p0 (IntKind.i64.wrap (p1+a))).bind fun d=>(shl .i64 (Int.tmod (IntKind.i64.wrap d) 128) (IntKind.i64.wrap (7*a))).bind fun e=>if decide ((IntKind.i64.wrap d)<128) then if (((decide (a>0))&&((IntKind.i64.wrap d)==0))||(decide ((fv .or .i64 c e)>2147483647))) then some (0,0,false) else some (fv .or .i64 c e,IntKind.i64.wrap ((IntKind.i64.wrap (p1+a))+1),true) else (jd p1 p0 f) (fv .or .i64 c e) (IntKind.i64.wrap (a+1)) else some (0,0,false)
noncomputable def xn (p0:List Int) (p1:Int):Option (Int×Int×Bool) :=
 jd p1 p0 bb 0 0
noncomputable def Do (p0:List Int) (p1:Int):Option ((List UInt8)×Int×Bool) :=
 (xn p0 p1).bind fun a=>if ((!a.2.2)||(decide (a.1>(IntKind.i64.wrap ((p0.length:Int)-a.2.1))))) then some (([]:List UInt8),0,false) else (sub p0 a.2.1 (IntKind.i64.wrap (a.2.1+a.1))).bind fun c=>some (kl c,IntKind.i64.wrap (a.2.1+a.1),true)
noncomputable def mG (p0:List UInt8) (p1:Int):Nat→(List (List UInt8))→Int→Int→Option (List (List UInt8))
 | 0,_,_,_=>none
 | e+1,c,d,a =>
  if decide (a≤(p0.length:Int)) then (if (a==(p0.length:Int)) then some true else (idx p0 a).bind fun f=>some ((f.toNat:Int)==p1)).bind fun g=>if g then (sub p0 d a).bind fun h=>(app c ([h]:List (List UInt8))).bind fun i=>(mG p0 p1 e) i (IntKind.i64.wrap (a+1)) (IntKind.i64.wrap (a+1)) else (mG p0 p1 e) c d (IntKind.i64.wrap (a+1)) else some c
noncomputable def pn (p0:List UInt8) (p1:Int):Option (List (List UInt8)) :=
 mG p0 p1 bb ([]:List (List UInt8)) 0 0
noncomputable def lM (p0:List UInt8):Nat→Int→Int→Option (Int×Bool)
 | 0,_,_=>none
 | i+1,c,a =>
  if decide (a<(p0.length:Int)) then (idx p0 a).bind fun d=>(if decide ((d.toNat:Int)<48) then some true else (idx p0 a).bind fun e=>some (decide ((e.toNat:Int)>57))).bind fun f=>if f then some (0,false) else (idx p0 a).bind fun g=>(lM p0 i) (IntKind.i64.wrap ((IntKind.i64.wrap ((IntKind.i64.wrap (10*c))+(IntKind.i64.wrap (g.toNat:Int))))-48)) (IntKind.i64.wrap (a+1)) else (xh c).bind fun h=>if (!(h==p0)) then some (0,false) else some (c,true)
noncomputable def xx (p0:List UInt8):Option (Int×Bool) :=
 if ((decide ((p0.length:Int)<1))||(decide ((p0.length:Int)>6))) then some (0,false) else lM p0 bb 0 0
noncomputable def zL (p0:List UInt8):Option (Int×Bool) :=
 if ((decide ((p0.length:Int)<1))||(decide ((p0.length:Int)>5))) then some (0,false) else (idx p0 0).bind fun d=>if ((d.toNat:Int) != 45) then (xx p0).bind fun c=>if ((!c.2)||(decide (c.1>9999))) then some (0,false) else some (c.1,true) else (sub p0 1 (p0.length:Int)).bind fun e=>(xx e).bind fun a=>if (((!a.2)||(decide (a.1<1)))||(decide (a.1>9999))) then some (0,false) else some (IntKind.i64.wrap (0-a.1),true)
noncomputable def np (p0:List UInt8) (a:List UInt8) (c:List Int) (d:List (List UInt8)):Option (aK×Bool) :=
 (nL (aK.mk a c d)).bind fun e=>(if (!e) then some true else (ox (aK.mk a c d)).bind fun f=>some (!(f==p0))).bind fun g=>if g then some ((aK.mk ([]:List UInt8) ([]:List Int) ([]:List (List UInt8))),false) else some ((aK.mk a c d),true)
noncomputable def kA (a:List (List UInt8)) (p0:List UInt8) (d:List UInt8):Nat→(List Int)→Int→Option (aK×Bool)
 | 0,_,_=>none
 | i+1,e,c =>
  if decide (c<(a.length:Int)) then (idx a c).bind fun g=>(zL g).bind fun f=>if (!f.2) then some ((aK.mk ([]:List UInt8) ([]:List Int) ([]:List (List UInt8))),false) else (app e ([f.1]:List Int)).bind fun h=>(kA a p0 d i) h (IntKind.i64.wrap (c+1)) else np p0 d e ([]:List (List UInt8))
noncomputable def zZ (p0:List UInt8):Option (aK×Bool) :=
 (pn p0 61).bind fun a=>(pn p0 58).bind fun c=>if ((a.length:Int)==2) then (idx a 0).bind fun d=>(idx a 1).bind fun e=>(pn e 44).bind fun f=>np p0 d ([]:List Int) f else if ((c.length:Int)==2) then (idx c 0).bind fun g=>(idx c 1).bind fun h=>(pn h 44).bind fun i=>kA i p0 g bb ([]:List Int) 0 else np p0 ([]:List UInt8) ([]:List Int) ([]:List (List UInt8))
noncomputable def iO (a:List (List UInt8)) (c:List (List UInt8)):Nat→(List aK)→Int→Option (ae×Bool)
 | 0,_,_=>none
 | j+1,d,e =>
  if decide (e<(a.length:Int)) then (idx a e).bind fun g=>(zZ g).bind fun f=>if (!f.2) then some ((ae.mk ([]:List aK) ([]:List (List UInt8))),false) else (app d [f.1]).bind fun h=>(iO a c j) h (IntKind.i64.wrap (e+1)) else (fG (ae.mk d c)).bind fun i=>if (!i) then some ((ae.mk ([]:List aK) ([]:List (List UInt8))),false) else some ((ae.mk d c),true)
noncomputable def Bg (p0:List UInt8):Option (ae×Bool) :=
 (pn p0 124).bind fun a=>if ((a.length:Int) != 2) then some ((ae.mk ([]:List aK) ([]:List (List UInt8))),false) else (idx a 1).bind fun c=>(pn c 44).bind fun d=>(idx a 0).bind fun e=>(pn e 59).bind fun f=>iO f d bb ([]:List aK) 0
noncomputable def sG (c:Int×Int×Bool) (a:Int):Option (Int×Int×Bool) :=
 (aV a (-1000000000) 1000000000).bind fun d=>if (!d) then some (0,0,false) else some (a,c.2.1,true)
noncomputable def um (p0:List Int) (p1:Int):Option (Int×Int×Bool) :=
 (xn p0 p1).bind fun a=>if (!a.2.2) then some (0,0,false) else if ((Int.tmod a.1 2)==1) then sG a (IntKind.i64.wrap ((IntKind.i64.wrap (0-(IntKind.i64.wrap (Int.tdiv a.1 2))))-1)) else sG a (IntKind.i64.wrap (Int.tdiv a.1 2))
noncomputable def sf (p1:bW) (p0:ae):Nat→Int→Option (Bool)
 | 0,_=>none
 | g+1,a =>
  if decide (a<(p1.M_.length:Int)) then (idx p1.M_ a).bind fun e=>(idx p0.c_ a).bind fun f=>(lF f).bind fun c=>(bf e (-1) (IntKind.i64.wrap (c-1))).bind fun d=>if (!d) then some false else (sf p1 p0 g) (IntKind.i64.wrap (a+1)) else some true
noncomputable def EC (p0:ae) (p1:bW):Option (Bool) :=
 (gv p0).bind fun a=>(if ((!a)||((p1.M_.length:Int) != (p0.c_.length:Int))) then some true else (bf p1.S_ (-1) (IntKind.i64.wrap ((p0.g_.length:Int)-1))).bind fun c=>some (!c)).bind fun d=>if d then some false else sf p1 p0 bb 0
noncomputable def xJ (p0:ae) (p1:aB) (p2:Int):Option (Int) :=
 (uf p0 p1).bind fun a=>(if (!a) then some true else (idx p0.c_ p1.p_).bind fun c=>(lF c).bind fun d=>(bf p2 0 (IntKind.i64.wrap (d-1))).bind fun e=>some (!e)).bind fun u22=>if u22 then some (-1) else if (p1.f_==(-1)) then some p2 else (if (p2==p1.f_) then some true else (idx p0.c_ p1.p_).bind fun f=>some ((decide ((f.B_.length:Int)>0))&&(decide (p2<p1.f_)))).bind fun g=>if g then some 0 else some 1
noncomputable def rK (a:aA) (c:List Int) (g:(List Int)→Option ((List Int)×Bool)) (d:Int):Option ((List Int)×Bool) :=
 (idx a.z_ d).bind fun e=>(app c ([e]:List Int)).bind fun f=>g f
noncomputable def nv (p1:ao) (p2:bW) (p0:ae):Nat→(List Int)→Option ((List Int)×Bool)
 | 0,_=>none
 | g+1,c =>
  (idx c (IntKind.i64.wrap ((c.length:Int)-1))).bind fun e=>(idx p1.a_ e).bind fun a=>if a.A_ then some (c,false) else (idx p2.M_ a.n_.p_).bind fun d=>if decide (d≥0) then (xJ p0 a.n_ d).bind fun f=>rK a c (nv p1 p2 p0 g) f else rK a c (nv p1 p2 p0 g) a.J_
noncomputable def Lb (p0:ae) (p1:ao) (p2:bW):Option ((List Int)×Bool) :=
 nv p1 p2 p0 bb ([0]:List Int)
noncomputable def iT (p0:List Int):Option (List Int) :=
 (app ([]:List Int) p0).bind fun a=>some a
noncomputable def lR (p0:List (List Int)):Nat→(List (List Int))→Int→Option (List (List Int))
 | 0,_,_=>none
 | g+1,c,a =>
  if decide (a<(p0.length:Int)) then (idx p0 a).bind fun d=>(iT d).bind fun e=>(app c [e]).bind fun f=>(lR p0 g) f (IntKind.i64.wrap (a+1)) else some c
noncomputable def zr (p0:List (List Int)):Option (List (List Int)) :=
 lR p0 bb ([]:List (List Int)) 0
noncomputable def uG (p0:aE):Option (aE) :=
 (iT p0.j_).bind fun a=>(zr p0.d_).bind fun c=>some (aE.mk a c)
noncomputable def lB (e:aE) (p2:bW) (p0:ae) (p3:Int) (g:Int):Nat→(List (List Int))→Int→Option (aE×Bool)
 | 0,_,_=>none
 | j+1,f,a =>
  if decide (a<(e.d_.length:Int)) then (idx f a).bind fun c=>(idx p2.M_ a).bind fun h=>if decide (h≥0) then (idx p2.M_ a).bind fun d=>(idx c (IntKind.i64.wrap ((IntKind.i64.wrap (d*(p0.g_.length:Int)))+p2.S_))).bind fun i=>(idx c (IntKind.i64.wrap ((IntKind.i64.wrap (d*(p0.g_.length:Int)))+p2.S_))).bind fun _=>(lB e p2 p0 p3 g j) (f.set a.toNat (c.set (IntKind.i64.wrap ((IntKind.i64.wrap (d*(p0.g_.length:Int)))+p2.S_)).toNat (IntKind.i64.wrap (i+p3)))) (IntKind.i64.wrap (a+1)) else (lB e p2 p0 p3 g j) f (IntKind.i64.wrap (a+1)) else some ((aE.mk (e.j_.set p2.S_.toNat (IntKind.i64.wrap (g+p3))) f),true)
noncomputable def Bm (p0:ae) (p1:aE) (p2:bW) (p3:Int):Option (aE×Bool) :=
 (uG p1).bind fun a=>(sj p0 p1).bind fun c=>(if (!c) then some true else (EC p0 p2).bind fun d=>some (!d)).bind fun e=>(if (e||(p2.S_==(-1))) then some true else (bf p3 1 7).bind fun f=>some (!f)).bind fun g=>(if g then some true else (nO p1.j_).bind fun h=>some (decide ((IntKind.i64.wrap (h+p3))>999))).bind fun i=>if i then some (a,false) else (idx a.j_ p2.S_).bind fun j=>(idx a.j_ p2.S_).bind fun _=>lB a p2 p0 p3 j bb a.d_ 0
noncomputable def iE (p1:Int) (p0:Int):Nat→Int→Int→Option (Int)
 | 0,_,_=>none
 | e+1,a,c =>
  if decide (a<p1) then (quo .i64 (IntKind.i64.wrap (c*(IntKind.i64.wrap (p0-a)))) (IntKind.i64.wrap (a+1))).bind fun d=>(iE p1 p0 e) (IntKind.i64.wrap (a+1)) d else some c
noncomputable def ua (p0:Int) (p1:Int):Option (Int) :=
 (bf p0 0 20).bind fun a=>(if (!a) then some true else (bf p1 0 p0).bind fun c=>some (!c)).bind fun u12=>if u12 then some 0 else iE p1 p0 bb 0 1
noncomputable def lA (p1:Int) (p0:Int):Nat→Int→(List Int)→Int→Option (List Int)
 | 0,_,_,_=>none
 | f+1,d,a,c =>
  if decide ((a.length:Int)<p1) then (ua (IntKind.i64.wrap ((IntKind.i64.wrap (p0-c))-1)) (IntKind.i64.wrap ((IntKind.i64.wrap (p1-(a.length:Int)))-1))).bind fun e=>if decide (d<e) then (app a ([c]:List Int)).bind fun g=>(lA p1 p0 f) d g (IntKind.i64.wrap (c+1)) else (lA p1 p0 f) (IntKind.i64.wrap (d-e)) a (IntKind.i64.wrap (c+1)) else some a
noncomputable def Bj (p0:Int) (p1:Int) (p2:Int):Option (List Int) :=
 (ua p0 p1).bind fun a=>(bf p2 0 (IntKind.i64.wrap (a-1))).bind fun c=>if (!c) then some ([]:List Int) else lA p1 p0 bb p2 ([]:List Int) 0
end Go.Vk
/- The laws' types: weighed, copied, compared; the rows' frames. Printed by program. -/
namespace Go.Vk
def pF (x:List Int):Prop:=x.length≤1048576∧∀y∈x,(-9223372036854775808≤y∧y≤9223372036854775807)
def nI (x:List (List UInt8)):Prop:=x.length≤1048576∧∀y∈x,y.length≤1048576
def jF (x:aK):Prop:=x.H_.length≤1048576∧pF x.B_∧nI x.O_
def Qm (x:List aK):Prop:=x.length≤1048576∧∀y∈x,jF y
def bi (x:ae):Prop:=Qm x.c_∧nI x.g_
def GC (x:bZ):Prop:=(-9223372036854775808≤x.U_∧x.U_≤9223372036854775807)∧(-9223372036854775808≤x.T_∧x.T_≤9223372036854775807)∧(-9223372036854775808≤x.V_∧x.V_≤9223372036854775807)∧(-9223372036854775808≤x.r_∧x.r_≤9223372036854775807)∧(-9223372036854775808≤x.a_∧x.a_≤9223372036854775807)∧(-9223372036854775808≤x.K_∧x.K_≤9223372036854775807)∧True
def CC (x:bh):Prop:=bi x.y_∧GC x.k_∧(-9223372036854775808≤x.u_∧x.u_≤9223372036854775807)∧(-9223372036854775808≤x.W_∧x.W_≤9223372036854775807)∧(-9223372036854775808≤x.Y_∧x.Y_≤9223372036854775807)∧(-9223372036854775808≤x.w_∧x.w_≤9223372036854775807)∧(-9223372036854775808≤x.x_∧x.x_≤9223372036854775807)
def Sf (x:aB):Prop:=(-9223372036854775808≤x.p_∧x.p_≤9223372036854775807)∧(-9223372036854775808≤x.f_∧x.f_≤9223372036854775807)
def AF (x:List (List Int)):Prop:=x.length≤1048576∧∀y∈x,pF y
def hY (x:aE):Prop:=pF x.j_∧AF x.d_
def qx (x:aA):Prop:=True∧Sf x.n_∧pF x.z_∧(-9223372036854775808≤x.J_∧x.J_≤9223372036854775807)∧hY x.o_∧(-9223372036854775808≤x.I_∧x.I_≤9223372036854775807)∧pF x.c_∧(-9223372036854775808≤x.r_∧x.r_≤9223372036854775807)∧(-9223372036854775808≤x.F_∧x.F_≤9223372036854775807)∧(-9223372036854775808≤x.E_∧x.E_≤9223372036854775807)
def PX (x:List aA):Prop:=x.length≤1048576∧∀y∈x,qx y
def iN (x:ao):Prop:=PX x.a_∧(-9223372036854775808≤x.m_∧x.m_≤9223372036854775807)
def yJ (x:aw):Prop:=AF x.e_
def OU (x:cW):Prop:=yJ x.w_∧yJ x.x_
def sY (x:aF):Prop:=iN x.D_∧True∧iN x.t_∧OU x.C_
def Ly (x:List aF):Prop:=x.length≤1048576∧∀y∈x,sY y
def tx (x:bA):Prop:=Ly x.u_
def Mf (x:aS):Prop:=(-9223372036854775808≤x.Z_∧x.Z_≤9223372036854775807)∧(-9223372036854775808≤x.aa_∧x.aa_≤9223372036854775807)
def Jg (x:List aS):Prop:=x.length≤1048576∧∀y∈x,Mf y
def yn (x:bc):Prop:=AF x.q_∧Jg x.s_
def kK (x:aM):Prop:=CC x.l_∧tx x.ab_∧yn x.N_
end Go.Vk
/- Words, cuts, attributes: tested alike. -/
namespace Go.Vk
def Fo (w:List UInt8):Prop:=(1≤(w.length:Int)∧(w.length:Int)≤8)∧∀i,0≤i→(h:i<w.length)→97≤(w[i]).toNat∧(w[i]).toNat≤122
theorem Ll {w:List UInt8} (d:w.length<1000000000000):Dec (uA w) (Fo w):=by
 unfold uA aV Fo;simp only [bS];by_cases h:1≤(w.length:Int)∧(w.length:Int)≤8
 ·rw [qq h];simp only [Bool.not_true,Bool.false_eq_true,if_false];refine (pI (Lp:=pw w) (n:=w.length) (Q:=fun i=>∀h:i<w.length,97≤(w[i]).toNat∧(w[i]).toNat≤122) 0 (fun k i hi=>?_) (fun k i _ hi=>?_) d).of_iff ⟨fun g=>⟨h,fun i a h1=>g i a h1 h1⟩,fun g i a h1 _=>g.2 i a h1⟩
  ·show (if _ then _ else _)=_;rw [if_neg (by simp;omega)]
  rw [pw,if_pos (by simp;omega),aH hi,ax (by omega)];simp only [bS];by_cases h1:((w[i]).toNat:Int)<97
  ·rw [if_pos (by simpa using h1)];exact .inr ⟨fun g=>by have:=g hi;omega,rfl⟩
  rw [if_neg (by simpa using h1)];simp only [bS];by_cases c:((w[i]).toNat:Int)>122
  ·rw [if_pos (by simpa using c)];exact .inr ⟨fun g=>by have:=g hi;omega,rfl⟩
  rw [if_neg (by simpa using c)];exact .inl ⟨fun _=>⟨by omega,by omega⟩,rfl⟩
 rw [ra h];exact bY fun g=>h g.1
theorem LE {w:List UInt8} (d:w.length<1000000000000):Dec (ue w) (Fo w):=by
 unfold ue bf Fo;simp only [bS];by_cases h:1≤(w.length:Int)∧(w.length:Int)≤8
 ·rw [qq h];simp only [Bool.not_true,Bool.false_eq_true,if_false];refine (pI (Lp:=oU w) (n:=w.length) (Q:=fun i=>∀h:i<w.length,97≤(w[i]).toNat∧(w[i]).toNat≤122) 0 (fun k i hi=>?_) (fun k i _ hi=>?_) d).of_iff ⟨fun g=>⟨h,fun i a h1=>g i a h1 h1⟩,fun g i a h1 _=>g.2 i a h1⟩
  ·show (if _ then _ else _)=_;rw [if_neg (by simp;omega)]
  rw [oU,if_pos (by simp;omega),aH hi,ax (by omega)];simp only [bS];by_cases h1:((w[i]).toNat:Int)<97
  ·rw [if_pos (by simpa using h1)];exact .inr ⟨fun g=>by have:=g hi;omega,rfl⟩
  rw [if_neg (by simpa using h1)];simp only [bS];by_cases c:((w[i]).toNat:Int)>122
  ·rw [if_pos (by simpa using c)];exact .inr ⟨fun g=>by have:=g hi;omega,rfl⟩
  rw [if_neg (by simpa using c)];exact .inl ⟨fun _=>⟨by omega,by omega⟩,rfl⟩
 rw [ra h];exact bY fun g=>h g.1
def Aa (ws:List (List UInt8)):Prop:=∀i,0≤i→i<ws.length→∀h:i<ws.length,Fo ws[i]∧∀j,(a:j<i)→ws[i]≠ws[j]
theorem Jr {ws:List (List UInt8)} (p:ws.length<1000000000000) (s:∀w∈ws,w.length<1000000000000):Dec (sw ws) (Aa ws):=by
 unfold sw;refine pI (Lp:=ir ws) (n:=ws.length) (Q:=fun i=>∀h:i<ws.length,Fo ws[i]∧∀j,(f:j<i)→ws[i]≠ws[j]) 0 (fun k i hi=>?_) (fun k i _ hi=>?_) p
 ·show (if _ then _ else _)=_;rw [if_neg (by simp;omega)]
 rw [ir,if_pos (by simp;omega),aH hi];simp only [bS];rcases (Ll (s _ (List.getElem_mem hi))).cases with ⟨e,l⟩|⟨e,l⟩
 ·rw [e];simp only [cS]
  have key:∀(d q j:Nat),i-j=d→d<q→(f:j≤i)→(∀m,(a:m<j)→ws[i]≠ws[m]'(by omega)) →
    ((∀m,(a:m<i)→ws[i]≠ws[m])∧kO i ws (ir ws k) q (j:Int)=ir ws k ((i+1:Nat):Int))∨((¬ ∀m,(a:m<i)→ws[i]≠ws[m])∧kO i ws (ir ws k) q (j:Int)=some false):=by
   intro d
   induction d with
   | zero =>
    intro q j t u f a;obtain ⟨q,rfl⟩:∃r,q=r+1:=⟨q-1,by omega⟩;rw [kO,if_neg (by simp;omega),ax (by omega)];exact .inl ⟨fun m hm'=>a m (by omega),rfl⟩
   | succ d ih =>
    intro q j t u f a;obtain ⟨q,rfl⟩:∃r,q=r+1:=⟨q-1,by omega⟩;rw [kO,if_pos (by simp;omega),aH hi,aH (show j<ws.length by omega)];simp only [bS];by_cases c:ws[i]=ws[j]
    ·rw [if_pos (by simpa using c)];exact .inr ⟨fun g=>g j (by omega) c,rfl⟩
    rw [if_neg (by simpa using c),ax (by omega)]
    exact ih q (j+1) (by omega) (by omega) (by omega) (fun m hm'=>by
     by_cases h:m=j
     ·subst h;exact c
     exact a m (by omega))
  rcases key i bb 0 (by omega) (cN (by omega)) (by omega) (fun m a=>by omega) with ⟨h1,o⟩|⟨h1,o⟩
  ·exact .inl ⟨fun _=>⟨l,h1⟩,o⟩
  exact .inr ⟨fun g=>h1 (g hi).2,o⟩
 rw [e];exact .inr ⟨fun g=>l (g hi).1,rfl⟩
theorem Dv {ws:List (List UInt8)} (m:ws.length<1000000000000) (o:∀w∈ws,w.length<1000000000000):Dec (iv ws) (Aa ws):=by
 unfold iv;refine pI (Lp:=jG ws) (n:=ws.length) (Q:=fun i=>∀h:i<ws.length,Fo ws[i]∧∀j,(a:j<i)→ws[i]≠ws[j]) 0 (fun k i hi=>?_) (fun k i _ hi=>?_) m
 ·show (if _ then _ else _)=_;rw [if_neg (by simp;omega)]
 rw [jG,if_pos (by simp;omega),aH hi,ax (by omega)];simp only [bS];rcases (LE (o _ (List.getElem_mem hi))).cases with ⟨e,d⟩|⟨e,d⟩
 ·rw [e];simp only [cS]
  have p:sub ws 0 (i:Int)=some (ws.take i):=by
   unfold sub;rw [if_pos (by omega)];simp
  rw [p];simp only [bS];unfold gP iW
  have q:=uz (Lp:=dS (ws.take i) ws[i]) (n:=i) (Q:=fun j=>∀a:j<i,ws[i]=ws[j]) (fun k j a=>by
   show (if _ then _ else _)=_
   rw [if_neg (by simp;omega)]) (fun k j a=>by
   rw [dS,if_pos (by simp;omega),aH (show j<(ws.take i).length by simp;omega),ax (by omega)];simp only [Option.bind_some,List.getElem_take];by_cases c:ws[i]=ws[j]
   ·rw [if_pos (by simpa using c)];exact .inl ⟨fun _=>c,rfl⟩
   rw [if_neg (by simpa using c)];exact .inr ⟨fun g=>c (g a),rfl⟩) (by omega)
  rcases q.cases with ⟨f,j,a,l⟩|⟨f,l⟩
  ·rw [f];exact .inr ⟨fun g=>(g hi).2 j a (l a),rfl⟩
  rw [f];exact .inl ⟨fun _=>⟨d,fun j a c=>l ⟨j,a,fun _=>c⟩⟩,rfl⟩
 rw [e];exact .inr ⟨fun g=>d (g hi).1,rfl⟩
def RE (l:List Int):Prop:=∀i,0≤i→i<l.length→∀h:i<l.length,(-9999≤l[i]∧l[i]≤9998)∧∀a:0<i,l[i-1]<l[i]
theorem Sa {l:List Int} (p:l.length<1000000000000):Dec (wV l) ((1≤(l.length:Int)∧(l.length:Int)≤3)∧RE l):=by
 unfold wV bf;simp only [bS];by_cases h:1≤(l.length:Int)∧(l.length:Int)≤3
 ·rw [qq h];simp only [if_true]
  have q:Dec (kq l) (∀i,1≤i→i<l.length→∀(h:i<l.length),l[i-1]<l[i]):=by
   unfold kq;refine pI (Lp:=jg l) (n:=l.length) (Q:=fun i=>∀(h:i<l.length),l[i-1]<l[i]) 1 (fun k i hi=>?_) (fun k i h1 hi=>?_) p
   ·show (if _ then _ else _)=_;rw [if_neg (by simp;omega)]
   rw [jg,if_pos (by simp;omega),aH hi,ax (by omega),aR (by omega) (by omega),show (i:Int)-1=((i-1:Nat):Int) by omega,aH (show i-1<l.length by omega)];simp only [bS];by_cases d:l[i]≤l[i-1]
   ·rw [if_pos (by simpa using d)];exact .inr ⟨fun g=>by have:=g hi;omega,rfl⟩
   rw [if_neg (by simpa using d)];exact .inl ⟨fun _=>by omega,rfl⟩
  rcases q.cases with ⟨e,f⟩|⟨e,f⟩
  ·rw [e];simp only [Option.bind_some,if_true];unfold ei eN
   have r:=uz (Lp:=cH l) (n:=l.length) (Q:=fun j=>∀a:j<l.length,¬(-9999≤l[j]∧l[j]≤9998)) (fun k j a=>by
    show (if _ then _ else _)=_
    rw [if_neg (by simp;omega)]) (fun k j a=>by
    rw [cH,if_pos (by simp;omega),aH a,ax (by omega)];unfold xM BP bf;simp only [bS];by_cases d : -9999≤l[j]∧l[j]≤9998
    ·rw [qq d];exact .inr ⟨fun g=>g a d,rfl⟩
    rw [ra d];exact .inl ⟨fun _=>d,rfl⟩) p
   rcases r.cases with ⟨m,j,a,o⟩|⟨m,o⟩
   ·rw [m];exact bY fun g=>o a (g.2 j (Nat.zero_le _) a a).1
   rw [m];exact pj ⟨h,fun i _ hi _=>⟨Classical.byContradiction fun c=>o ⟨i,hi,fun _=>c⟩,fun s=>f i s hi hi⟩⟩
  rw [e];exact bY fun g=>f fun i h1 hi t=>(g.2 i (Nat.zero_le _) hi t).2 h1
 rw [ra h];exact bY fun g=>h g.1
end Go.Vk
/- Attributes: weighed, copied, compared; FullMask. -/
namespace Go.Vk
def uc (x:aK):Prop:=Fo x.H_∧((x.B_.length=0∧(2≤(x.O_.length:Int)∧(x.O_.length:Int)≤4)∧Aa x.O_)∨(x.O_.length=0∧(1≤(x.B_.length:Int)∧(x.B_.length:Int)≤3)∧RE x.B_))
def OkM (x:aK):Prop:=x.H_.length<1000000000000∧x.B_.length<1000000000000∧x.O_.length<1000000000000∧∀y∈x.O_,y.length<1000000000000
theorem xZ {x:aK} (p:OkM x):Dec (nL x) (uc x):=by
 obtain ⟨h1,q,r,s⟩:=p;unfold nL uc;rcases (Ll h1).cases with ⟨e,c⟩|⟨e,c⟩
 ·rw [e];simp only [cS];by_cases o:x.B_.length=0
  ·rw [if_pos (by rw [beq_iff_eq];omega)];unfold aV;simp only [bS];by_cases f:2≤(x.O_.length:Int)∧(x.O_.length:Int)≤4
   ·rw [qq f];simp only [if_true];rcases (Jr r s).cases with ⟨j,l⟩|⟨j,l⟩
    ·rw [j];exact pj ⟨c,.inl ⟨o,f,l⟩⟩
    rw [j];exact bY fun g=>by rcases g.2 with ⟨_,_,g⟩|⟨_,g,_⟩<;>first|exact l g|omega
   rw [ra f];exact bY fun g=>by rcases g.2 with ⟨_,g,_⟩|⟨_,g,_⟩<;>omega
  rw [if_neg (by rw [beq_iff_eq];omega)];by_cases u:0<x.O_.length∨3<x.B_.length
  ·rw [if_pos (by simp;omega)];exact bY fun g=>by rcases g.2 with ⟨g,_,_⟩|⟨_,g,_⟩<;>omega
  rw [if_neg (by rw [Bool.or_eq_true,decide_eq_true_eq,decide_eq_true_eq];omega)]
  have t:Dec (mZ x bb 0) (RE x.B_):=by
   refine pI (Lp:=mZ x) (n:=x.B_.length) (Q:=fun i=>∀h:i<x.B_.length,(-9999≤x.B_[i]∧x.B_[i]≤9998)∧∀m:0<i,x.B_[i-1]<x.B_[i]) 0 (fun k i hi=>?_) (fun k i _ hi=>?_) q
   ·show (if _ then _ else _)=_;rw [if_neg (by simp;omega)]
   rw [mZ,if_pos (by simp;omega),aH hi,ax (by omega)];unfold aV;simp only [bS];by_cases a : -9999≤x.B_[i]∧x.B_[i]≤9998
   ·rw [qq a];simp only [Bool.not_true,Bool.false_eq_true,if_false];by_cases m:0<i
    ·rw [if_pos (by simp;omega),aR (by omega) (by omega),show (i:Int)-1=((i-1:Nat):Int) by omega,aH (show i-1<x.B_.length by omega)];simp only [bS];by_cases d:x.B_[i]≤x.B_[i-1]
     ·rw [if_pos (by simpa using d)];exact .inr ⟨fun g=>by have:=(g hi).2 m;omega,rfl⟩
     rw [if_neg (by simpa using d)];exact .inl ⟨fun _=>⟨a,fun _=>by omega⟩,rfl⟩
    rw [if_neg (by simp;omega)];exact .inl ⟨fun _=>⟨a,fun h=>absurd h m⟩,rfl⟩
   rw [ra a];exact .inr ⟨fun g=>a (g hi).1,rfl⟩
  exact t.of_iff ⟨fun g=>⟨c,.inr ⟨by omega,by omega,g⟩⟩,fun g=>by rcases g.2 with ⟨g,_,_⟩|⟨_,_,g⟩;exact absurd g o;exact g⟩
 rw [e];exact bY fun g=>c g.1
theorem Cg {x:aK} (j:OkM x):Dec (nJ x) (uc x):=by
 obtain ⟨h1,k,l,m⟩:=j;unfold nJ uc;rcases (LE h1).cases with ⟨e,c⟩|⟨e,c⟩
 ·rw [e];simp only [cS];by_cases i:x.B_.length=0
  ·rw [if_pos (by rw [beq_iff_eq];omega)];unfold bf;simp only [bS];by_cases f:2≤(x.O_.length:Int)∧(x.O_.length:Int)≤4
   ·rw [qq f];simp only [if_true];rcases (Dv l m).cases with ⟨a,h⟩|⟨a,h⟩
    ·rw [a];exact pj ⟨c,.inl ⟨i,f,h⟩⟩
    rw [a];exact bY fun g=>by rcases g.2 with ⟨_,_,g⟩|⟨_,g,_⟩<;>first|exact h g|omega
   rw [ra f];exact bY fun g=>by rcases g.2 with ⟨_,g,_⟩|⟨_,g,_⟩<;>omega
  rw [if_neg (by rw [beq_iff_eq];omega)];by_cases o:x.O_.length=0
  ·rw [if_pos (by rw [beq_iff_eq];omega)];rcases (Sa k).cases with ⟨a,d⟩|⟨a,d⟩
   ·rw [a];exact pj ⟨c,.inr ⟨o,d.1,d.2⟩⟩
   rw [a];exact bY fun g=>by
    rcases g.2 with ⟨g,_,_⟩|⟨_,g,g'⟩
    ·exact i g
    exact d ⟨g,g'⟩
  rw [if_neg (by rw [beq_iff_eq];omega)];exact bY fun g=>by rcases g.2 with ⟨g,_,_⟩|⟨g,_,_⟩<;>omega
 rw [e];exact bY fun g=>c g.1
end Go.Vk
/- FullMask answers alike. -/
namespace Go.Vk
theorem Kl {x:aK} (a:OkM x) (h:uc x):∃n:Nat,kb x=some (n:Int)∧lF x=some (n:Int)∧2≤n∧n≤4:=by
 unfold kb lF;rcases (xZ a).cases with ⟨e,_⟩|⟨_,g⟩
 ·rw [e];simp only [cS];rcases h.2 with ⟨h1,c,_⟩|⟨h1,c,_⟩
  ·rw [if_neg (fun g=>by have:=of_decide_eq_true g;omega)];exact ⟨_,rfl,rfl,by omega,by omega⟩
  rw [if_pos (decide_eq_true (by omega)),ax (by omega)];exact ⟨_,rfl,rfl,by omega,by omega⟩
 exact absurd h g
end Go.Vk
/- Schemas: tested, weighed, copied, compared; AllRoom. -/
namespace Go.Vk
def NA (l:List aK):Prop:=∀i,0≤i→i<l.length→∀h:i<l.length,uc l[i]∧∀j,(a:j<i)→l[i].H_≠l[j].H_
def fV (x:ae):Prop:=(1≤(x.c_.length:Int)∧(x.c_.length:Int)≤5)∧(2≤(x.g_.length:Int)∧(x.g_.length:Int)≤3)∧Aa x.g_∧NA x.c_
def OkS (x:ae):Prop:=x.c_.length<1000000000∧(∀a∈x.c_,OkM a)∧x.g_.length<1000000000000∧∀y∈x.g_,y.length<1000000000000
theorem PP {x:ae} (p:OkS x):Dec (fK x bb 0) (NA x.c_):=by
 obtain ⟨h1,c,_,_⟩:=p;refine pI (Lp:=fK x) (n:=x.c_.length) (Q:=fun i=>∀h:i<x.c_.length,uc x.c_[i]∧∀j,(l:j<i)→x.c_[i].H_≠x.c_[j].H_) 0 (fun k i hi=>?_) (fun k i _ hi=>?_) (by omega)
 ·show (if _ then _ else _)=_;rw [if_neg (by simp;omega)]
 rw [fK,if_pos (by simp;omega),aH hi];simp only [bS];rcases (xZ (c _ (List.getElem_mem hi))).cases with ⟨e,o⟩|⟨e,o⟩
 ·rw [e];simp only [cS]
  have key:∀(d q j:Nat),i-j=d→d<q→(l:j≤i)→(∀m,(a:m<j)→x.c_[i].H_≠(x.c_[m]'(by omega)).H_) →
    ((∀m,(a:m<i)→x.c_[i].H_≠x.c_[m].H_)∧jI i x (fK x k) q (j:Int)=fK x k ((i+1:Nat):Int))∨((¬ ∀m,(a:m<i)→x.c_[i].H_≠x.c_[m].H_)∧jI i x (fK x k) q (j:Int)=some false):=by
   intro d
   induction d with
   | zero =>
    intro q j s t l a;obtain ⟨q,rfl⟩:∃r,q=r+1:=⟨q-1,by omega⟩;rw [jI,if_neg (by simp;omega),ax (by omega)];exact .inl ⟨fun m hm'=>a m (by omega),rfl⟩
   | succ d ih =>
    intro q j s t l a;obtain ⟨q,rfl⟩:∃r,q=r+1:=⟨q-1,by omega⟩;rw [jI,if_pos (by simp;omega),aH hi,aH (show j<x.c_.length by omega)];simp only [bS];by_cases f:x.c_[i].H_=x.c_[j].H_
    ·rw [if_pos (by simpa using f)];exact .inr ⟨fun g=>g j (by omega) f,rfl⟩
    rw [if_neg (by simpa using f),ax (by omega)]
    exact ih q (j+1) (by omega) (by omega) (by omega) (fun m hm'=>by
     by_cases h:m=j
     ·subst h;exact f
     exact a m (by omega))
  rcases key i bb 0 (by omega) (cN (by omega)) (by omega) (fun m a=>by omega) with ⟨h1,c⟩|⟨h1,c⟩
  ·exact .inl ⟨fun _=>⟨o,h1⟩,c⟩
  exact .inr ⟨fun g=>h1 (g hi).2,c⟩
 rw [e];exact .inr ⟨fun g=>o (g hi).1,rfl⟩
theorem PO {x:ae} (r:OkS x):Dec (iQ x bb 0 []) (NA x.c_):=by
 obtain ⟨h1,p,_,_⟩:=r
 have s:Dec (iv (x.c_.map aK.H_)) (Aa (x.c_.map aK.H_)):=Dv (by simp;omega) (fun w l=>by
  obtain ⟨a,t,rfl⟩:=List.mem_map.1 l;exact (p a t).1)
 have key:∀(d k i:Nat),x.c_.length-i=d→d<k→i≤x.c_.length→Dec (iQ x k (i:Int) ((x.c_.take i).map aK.H_)) ((∀j,i≤j→∀c:j<x.c_.length,uc x.c_[j])∧Aa (x.c_.map aK.H_)):=by
  intro d
  induction d with
  | zero =>
   intro k i u hk hi;obtain ⟨k,rfl⟩:=kS k (by omega);rw [iQ,if_neg (by simp;omega),List.take_of_length_le (by omega)];have:∀o:Option Bool,(o.bind fun y=>some y)=o:=fun o=>by cases o<;>rfl
   rw [this];exact s.of_iff ⟨fun g=>⟨fun j q m=>by omega,g⟩,fun g=>g.2⟩
  | succ d ih =>
   intro k i u hk hi;obtain ⟨k,rfl⟩:=kS k (by omega);have f:i<x.c_.length:=by omega
   rw [iQ,if_pos (by simp;omega),aH f];simp only [bS];rcases (Cg (p _ (List.getElem_mem f))).cases with ⟨e,l⟩|⟨e,l⟩
   ·rw [e];simp only [cS];rw [bo (by simp;omega)];simp only [bS];rw [ax (by omega),show (x.c_.take i).map aK.H_++[x.c_[i].H_]=(x.c_.take (i+1)).map aK.H_ by rw [List.take_succ_eq_append_getElem f,List.map_append];rfl];refine (ih k (i+1) (by omega) (by omega) (by omega)).of_iff ⟨fun g=>⟨fun j q m=>?_,g.2⟩,fun g=>⟨fun j q m=>g.1 j (by omega) m,g.2⟩⟩;by_cases c:j=i
    ·subst c;exact l
    exact g.1 j (by omega) m
   rw [e];exact bY fun g=>l (g.1 i (Nat.le_refl _) f)
 have:=key x.c_.length bb 0 (by omega) (cN (by omega)) (by omega);have v:Dec (iQ x bb 0 []) ((∀j,0≤j→∀c:j<x.c_.length,uc x.c_[j])∧Aa (x.c_.map aK.H_)):=this;refine v.of_iff ⟨fun g i _ _ h=>⟨g.1 i (Nat.zero_le _) h,fun j c A=>?_⟩,fun g=>⟨fun j _ c=>(g j (Nat.zero_le _) c c).1,fun i _ _ h=>?_⟩⟩
 ·have:=(g.2 i (Nat.zero_le _) (by simpa using h) (by simpa using h)).2 j c;simp at this;exact this A
 have hi:i<x.c_.length:=by simpa using h
 obtain ⟨C,D⟩:=g i (Nat.zero_le _) hi hi;exact ⟨by simpa using C.1,fun j c=>by simpa using D j c⟩
theorem mH {x:ae} (f:OkS x):Dec (fG x) (fV x):=by
 have h:=PP f;obtain ⟨h1,k,i,j⟩:=f;unfold fG aV fV;simp only [bS];by_cases a:1≤(x.c_.length:Int)∧(x.c_.length:Int)≤5
 ·rw [qq a];simp only [Bool.not_true,Bool.false_eq_true,if_false];by_cases c:2≤(x.g_.length:Int)∧(x.g_.length:Int)≤3
  ·rw [qq c];simp only [cS];rcases (Jr i j).cases with ⟨e,d⟩|⟨e,d⟩
   ·rw [e];simp only [cS];exact h.of_iff ⟨fun g=>⟨a,c,d,g⟩,fun g=>g.2.2.2⟩
   rw [e];exact bY fun g=>d g.2.2.1
  rw [ra c];exact bY fun g=>c g.2.1
 rw [ra a];exact bY fun g=>a g.1
theorem oV {x:ae} (f:OkS x):Dec (gv x) (fV x):=by
 have h:=PO f;obtain ⟨h1,k,i,j⟩:=f;unfold gv bf fV;simp only [bS];by_cases a:1≤(x.c_.length:Int)∧(x.c_.length:Int)≤5
 ·rw [qq a];simp only [Bool.not_true,Bool.false_eq_true,if_false];by_cases c:2≤(x.g_.length:Int)∧(x.g_.length:Int)≤3
  ·rw [qq c];simp only [cS];rcases (Dv i j).cases with ⟨e,d⟩|⟨e,d⟩
   ·rw [e];simp only [cS];exact h.of_iff ⟨fun g=>⟨a,c,d,g⟩,fun g=>g.2.2.2⟩
   rw [e];exact bY fun g=>d g.2.2.1
  rw [ra c];exact bY fun g=>c g.2.1
 rw [ra a];exact bY fun g=>a g.1
end Go.Vk
/- Masks. -/
namespace Go.Vk
end Go.Vk
/- Two texts of data, walked side by side. -/
namespace Go.Vk
def vQ {ρ:Type} (a b:Option ρ) (Q:ρ→Prop):Prop:=∃m,a=some m∧b=some m∧Q m
theorem yq {ρ:Type} {m:ρ} {Q:ρ→Prop} (h:Q m):vQ (some m) (some m) Q:=⟨m,rfl,rfl,h⟩
theorem vQ.mono {ρ:Type} {a b:Option ρ} {Q R:ρ→Prop} (h:vQ a b Q) (f:∀m,Q m→R m):vQ a b R:=by
 obtain ⟨m,h1,c,d⟩:=h;exact ⟨m,h1,c,f m d⟩
theorem vQ.bind {α ρ:Type} {a b:Option α} {Q:α→Prop} {f g:α→Option ρ} {R:ρ→Prop} (h:vQ a b Q) (k:∀m,Q m→vQ (f m) (g m) R):vQ (a.bind f) (b.bind g) R:=by
 obtain ⟨m,h1,c,d⟩:=h;rw [h1,c];exact k m d
theorem Ks {ρ:Type} {c d:Prop} [Decidable c] [Decidable d] {a b a' b':Option ρ} {Q:ρ→Prop} (e:c↔d) (h:c→vQ a b Q) (h':¬c→vQ a' b' Q):vQ (if c then a else a') (if d then b else b') Q:=by
 by_cases f:c
 ·rw [if_pos f,if_pos (e.1 f)];exact h f
 rw [if_neg f,if_neg (fun g=>f (e.2 g))];exact h' f
theorem Lg {ρ:Type} {a b:Option Bool} {P:Prop} {f g:Bool→Option ρ} {R:ρ→Prop} (h:Dec a P) (h':Dec b P) (d:P→vQ (f true) (g true) R) (i:¬P→vQ (f false) (g false) R):vQ (a.bind f) (b.bind g) R:=by
 rw [←h.eq h'];rcases h.cases with ⟨e,c⟩|⟨e,c⟩
 ·rw [e];exact d c
 rw [e];exact i c
theorem QX {σ τ ρ:Type} (Lp:Nat→σ→Int→Option ρ) (Lq:Nat→τ→Int→Option ρ) (n:Nat) (I:Nat→σ→τ→Prop) {Q:ρ→Prop}
  (a:∀k s t,I n s t→vQ (Lp (k+1) s (n:Int)) (Lq (k+1) t (n:Int)) Q)
  (c:∀k s t i,i<n→I i s t→(∀s' t',I (i+1) s' t'→vQ (Lp k s' ((i+1:Nat):Int)) (Lq k t' ((i+1:Nat):Int)) Q)→vQ (Lp (k+1) s (i:Int)) (Lq (k+1) t (i:Int)) Q)
  (e:n<1000000000000) {s:σ} {t:τ} (f:I 0 s t):vQ (Lp bb s 0) (Lq bb t 0) Q:=by
 have key:∀(d k i:Nat) (s:σ) (t:τ),n-i=d→d<k→i≤n→I i s t→vQ (Lp k s (i:Int)) (Lq k t (i:Int)) Q:=by
  intro d
  induction d with
  | zero =>
   intro k i s t g hk hi h;obtain ⟨k,rfl⟩:=kS k (by omega);have:i=n:=by omega
   subst this;exact a k s t h
  | succ d ih =>
   intro k i s t g hk hi h;obtain ⟨k,rfl⟩:=kS k (by omega);exact c k s t i (by omega) h (fun s' t' h'=>ih k (i+1) s' t' (by omega) (by omega) (by omega) h')
 exact key n bb 0 s t (by omega) (cN e) (Nat.zero_le _) f
end Go.Vk
/- Statistics: tested alike; the greatest of a list. -/
namespace Go.Vk
theorem yW {a:aK} (h:jF a):OkM a:=by
 obtain ⟨h1,d,c⟩:=h;exact ⟨by omega,by have:=d.1;omega,by have:=c.1;omega,fun y e=>by have:=c.2 y e;omega⟩
theorem la {s:ae} (h:bi s):OkS s:=by
 obtain ⟨h1,c⟩:=h;exact ⟨by have:=h1.1;omega,fun a d=>yW (h1.2 a d),by have:=c.1;omega,fun y e=>by have:=c.2 y e;omega⟩
theorem yb {o:Option Bool} {P R:Prop} {f:Bool→Option Bool} (h:Dec o P) (c:P→Dec (f true) R) (d:¬P→Dec (f false) R):Dec (o.bind f) R:=by
 rcases h.cases with ⟨e,a⟩|⟨e,a⟩
 ·rw [e];exact c a
 rw [e];exact d a
theorem RQ {c:Prop} [Decidable c] {P R:Prop} {a b:Option Bool} (e:c↔P) (f:P→Dec a R) (g:¬P→Dec b R):Dec (if c then a else b) R:=by
 by_cases d:c
 ·rw [if_pos d];exact f (e.1 d)
 rw [if_neg d];exact g (fun h=>d (e.2 h))
theorem eW {x a b:Int}:Dec (bf x a b) (a≤x∧x≤b):=Rv
theorem cE {x a b:Int}:Dec (aV x a b) (a≤x∧x≤b):=Rv
def nb (a:aK):Nat:=if 0<a.B_.length then a.B_.length+1 else a.O_.length
theorem wx {a:aK} (d:jF a):lF a=some (nb a:Int):=by
 have h1:=d.2.1.1;unfold lF nb;by_cases c:0<a.B_.length
 ·rw [if_pos (by simpa using c),if_pos c,ax (by omega)]
 rw [if_neg (by simpa using c),if_neg c]
theorem Co {a:aK} (h:uc a):2≤nb a∧nb a≤4:=by
 unfold nb;rcases h.2 with ⟨h1,c,_⟩|⟨h1,c,_⟩
 ·rw [if_neg (by omega)];omega
 rw [if_pos (by omega)];omega
theorem ut {a:aK} (c:jF a) (h:uc a):kb a=some (nb a:Int):=by
 obtain ⟨n,d,e,_⟩:=Kl (yW c) h;rw [d,←e,wx c]
theorem fV.attr {s:ae} (h:fV s) {i:Nat} (hi:i<s.c_.length):uc s.c_[i]:=(h.2.2.2 i (Nat.zero_le _) hi hi).1
def oC (l:List Int) (c k:Nat):Nat→Int
 | 0=>0
 | b+1=>oC l c k b+l.getD (b*c+k) 0
def Ih (c n:Nat) (tot l:List Int):Prop:=l.length=n*c∧(∀x∈l,0≤x∧x≤999)∧∀k,k<c→oC l c k n≤tot.getD k 0
def xF (s:ae) (t:aE):Prop:=fV s∧t.j_.length=s.g_.length∧(∀x∈t.j_,0≤x∧x≤999)∧t.j_.sum≤999 ∧
 (t.d_.length=0∨(t.d_.length=s.c_.length∧∀i (h:i<t.d_.length) (a:i<s.c_.length),Ih s.g_.length (nb s.c_[i]) t.j_ t.d_[i]))
theorem Rg {l:List Int} (h:∀x∈l,0≤x∧x≤999) (i:Nat):0≤l.getD i 0∧l.getD i 0≤999:=by
 rw [List.getD_eq_getElem?_getD];by_cases hi:i<l.length
 ·rw [List.getElem?_eq_getElem hi];exact h _ (List.getElem_mem hi)
 rw [List.getElem?_eq_none (by omega)];simp
theorem xa {l:List Int} {i:Nat} (h:i<l.length):l.getD i 0=l[i]:=by simp [h]
theorem RD {l:List Int} {c k:Nat} (h:∀x∈l,0≤x∧x≤999):∀n:Nat,0≤oC l c k n∧oC l c k n≤999*n
 | 0=>by simp [oC]
 | n+1=>by
  have:=RD (c:=c) (k:=k) h n;have:=Rg h (n*c+k);simp only [oC];omega
theorem Qs {l:List Int} {c k:Nat} (h:∀x∈l,0≤x∧x≤999) {n m:Nat} (a:n≤m):oC l c k n≤oC l c k m:=by
 induction m with
 | zero=>rw [show n=0 by omega];exact Int.le_refl _
 | succ m ih =>
  by_cases e:n=m+1
  ·rw [e];exact Int.le_refl _
  have:=ih (by omega);have:=Rg h (m*c+k);simp only [oC];omega
theorem GQ {l:List Int} (j:l.length≤1048576) (n:Int):Dec (so l n) ((l.length:Int)=n∧∀x∈l,0≤x∧x≤999):=by
 unfold so;by_cases a:(l.length:Int)=n
 ·rw [if_pos (by simpa using a)]
  have d:Dec (dp l) (∃i,i<l.length∧∀h:i<l.length,¬(0≤l[i]∧l[i]≤999)):=by
   unfold dp eE;refine uz (Lp:=cD l) (n:=l.length) (fun k i hi=>?_) (fun k i hi=>?_) (by omega)
   ·show (if _ then _ else _)=_;rw [if_neg (by simp;omega)]
   rw [cD,if_pos (by simp;omega),aH hi,ax (by omega)];unfold vW bf;simp only [bS];by_cases h:0≤l[i]∧l[i]≤999
   ·rw [qq h];exact .inr ⟨fun g=>g hi h,rfl⟩
   rw [ra h];exact .inl ⟨fun _=>h,rfl⟩
  rcases d.cases with ⟨e,i,hi,h⟩|⟨e,h⟩
  ·rw [e];exact bY fun g=>h hi (g.2 _ (List.getElem_mem hi))
  rw [e];exact pj ⟨a,fun x f=>by
   obtain ⟨i,hi,rfl⟩:=List.getElem_of_mem f;exact Classical.byContradiction fun c=>h ⟨i,hi,fun _=>c⟩⟩
 rw [if_neg (by simpa using a)];exact bY fun g=>a g.1
theorem Hh {p:List Int} (a:∀x∈p,0≤x∧x≤1000000000) (c:p.length≤1048576):nO p=some p.sum:=by
 unfold nO
 have h:=CG (p:=p) (fun x=>x) (iZ p) some (fun k s=>by
  show (if _ then _ else _)=_
  rw [if_neg (by simp)]) (fun k s i hi=>by
  rw [iZ,if_pos (by simp;omega),aH hi,ax (by omega)];rfl) a (by omega)
 simpa using h
theorem KD {s:ae} (a:fV s) {l:List Int} (h1:l.length=s.g_.length) (c:∀x∈l,0≤x∧x≤999):0≤l.sum∧l.sum≤2997:=by
 have h:=rz c;have:=a.2.1;omega
def qZ (l:List Int) (c i:Nat):List Int:=(List.range c).map fun k=>oC l c k (i / c+if k<i%c then 1 else 0)
theorem yM (l:List Int) (c i:Nat):(qZ l c i).length=c:=by simp [qZ]
theorem wH {l:List Int} {c i k:Nat} (h:k<c):(qZ l c i)[k]'(by simpa [qZ] using h)=oC l c k (i / c+if k<i%c then 1 else 0):=by simp [qZ]
theorem Fc {l:List Int} {c i:Nat} (e:0<c):qZ l c (i+1)=(qZ l c i).set (i%c) (oC l c (i%c) (i / c+1)):=by
 have j:=Nat.mod_lt i e;have m:=Nat.div_add_mod i c;apply List.ext_getElem (by simp [qZ]);intro k h1 o;have hk:k<c:=by simpa [qZ] using h1
 rw [wH hk,List.getElem_set];by_cases h:i%c+1=c
 ·have f:(i+1) / c=i / c+1:=by
   have:i+1=c*(i / c+1):=by rw [Nat.mul_add,Nat.mul_one];omega
   rw [this,Nat.mul_div_cancel_left _ e]
  have g:(i+1)%c=0:=by
   have:i+1=c*(i / c+1):=by rw [Nat.mul_add,Nat.mul_one];omega
   rw [this,Nat.mul_mod_right]
  rw [f,g,if_neg (by omega)];by_cases a:i%c=k
  ·rw [if_pos a,a]
  rw [if_neg a,wH hk,if_pos (by omega)]
 have f:(i+1) / c=i / c:=by
  have:i+1=(i%c+1)+c*(i / c):=by omega
  rw [this,Nat.add_mul_div_left _ _ e,Nat.div_eq_of_lt (by omega),Nat.zero_add]
 have g:(i+1)%c=i%c+1:=by
  have:i+1=(i%c+1)+c*(i / c):=by omega
  rw [this,Nat.add_mul_mod_self_left,Nat.mod_eq_of_lt (by omega)]
 rw [f,g];by_cases a:i%c=k
 ·rw [if_pos a,if_pos (by omega),a]
 rw [if_neg a,wH hk];by_cases d:k<i%c
 ·rw [if_pos (by omega),if_pos d]
 rw [if_neg (by omega),if_neg d]
theorem My (l:List Int) (c:Nat):qZ l c 0=List.replicate c 0:=by
 apply List.ext_getElem (by simp [qZ]);intro k h1 a;have hk:k<c:=by simpa [qZ] using h1
 rw [wH hk];simp [oC]
theorem NF {s:ae} {t:aE} {l:List Int} {n:Nat} (D:fV s) (X:t.j_.length=s.g_.length) (E:n≤4) (h1:l.length=n*s.g_.length) (h:∀x∈l,0≤x∧x≤999) (R:Int→Option Bool) (i:Nat) (hi:i≤1048576) :
  ((∀k,k<s.g_.length→oC l s.g_.length k n≤t.j_.getD k 0∨n=0)∧fA l s t R (i:Int) bb 0 (List.replicate s.g_.length 0)=R ((i+1:Nat):Int)) ∨
  ((¬ ∀k,k<s.g_.length→oC l s.g_.length k n≤t.j_.getD k 0∨n=0)∧fA l s t R (i:Int) bb 0 (List.replicate s.g_.length 0)=some false):=by
 have u:2≤s.g_.length∧s.g_.length≤3:=by have:=D.2.1;omega
 generalize F:s.g_.length=c at *
 have a:0<c:=by omega
 have G:l.length≤12:=by
  have:n*c≤4*3:=Nat.mul_le_mul E u.2;omega
 rw [←My l c]
 rcases Az (Lp:=fun k j=>fA l s t R (i:Int) k (j:Int) (qZ l c j)) (n:=l.length) (Q:=fun j=>oC l c (j%c) (j / c+1)≤t.j_.getD (j%c) 0) (fin:=R ((i+1:Nat):Int)) (bad:=some false) (fun k _=>by
   show fA l s t R (i:Int) (k+1) _ _=_
   rw [fA,if_neg (by simp),ax (by omega)]) (fun k j e _=>by
   show (_∧fA l s t R (i:Int) (k+1) _ _=_)∨(_∧fA l s t R (i:Int) (k+1) _ _=_);have d:=Nat.mod_lt j a
   have o:rem (j:Int) (c:Int)=some ((j%c:Nat):Int):=by
    unfold rem;rw [if_neg (by omega),pD]
   have v:j / c*c+j%c=j:=by rw [Nat.mul_comm];exact Nat.div_add_mod j c
   have p:oC l c (j%c) (j / c+1)=oC l c (j%c) (j / c)+l[j]:=by
    simp only [oC];rw [v,xa e]
   have Z:=RD (c:=c) (k:=j%c) h (j / c);have M:j / c≤12:=Nat.le_trans (Nat.div_le_self _ _) (by omega);have P:=h _ (List.getElem_mem e)
   have H:(qZ l c j)[j%c]'(by rw [yM];exact d)=oC l c (j%c) (j / c):=by
    rw [wH d,if_neg (by omega)];rfl
   have L:IntKind.i64.wrap (oC l c (j%c) (j / c)+l[j])=oC l c (j%c) (j / c+1):=by
    rw [p,aR (by omega) (by omega)]
   rw [fA,if_pos (by simp;omega),aH e,F,o];simp only [bS];rw [aH (by rw [yM];exact d),H];simp only [Option.bind_some,Int.toNat_natCast];rw [L,←Fc a,aH (by rw [yM];exact d),aH (by omega:j%c<t.j_.length)];simp only [bS]
   have w:(qZ l c (j+1))[j%c]'(by rw [yM];exact d)=oC l c (j%c) (j / c+1):=by
    simp only [Fc a,List.getElem_set_self]
   rw [w,xa (by omega:j%c<t.j_.length),ax (by omega)];by_cases f:oC l c (j%c) (j / c+1)≤t.j_[j%c]
   ·rw [if_neg (by simpa using f)];exact .inl ⟨f,rfl⟩
   rw [if_pos (by simpa using f)];exact .inr ⟨f,rfl⟩) (by omega) with ⟨q,r⟩|⟨q,r⟩
 ·refine .inl ⟨fun k hk=>?_,r⟩;by_cases A:n=0
  ·exact .inr A
  left
  have C:(n-1)*c+k<l.length:=by
   rw [h1];obtain ⟨m,rfl⟩:∃m,n=m+1:=⟨n-1,by omega⟩;rw [Nat.add_sub_cancel,Nat.add_mul];omega
  have:=q _ C;rw [show ((n-1)*c+k)%c=k by rw [Nat.mul_comm,Nat.mul_add_mod,Nat.mod_eq_of_lt hk],show ((n-1)*c+k) / c+1=n by rw [Nat.mul_comm,Nat.mul_add_div a,Nat.div_eq_of_lt hk];omega] at this;exact this
 refine .inr ⟨fun g=>q fun j e=>?_,r⟩;have d:=Nat.mod_lt j a;rcases g _ d with g|g
 ·refine Int.le_trans (Qs h ?_) g;have:j / c<n:=Nat.div_lt_of_lt_mul (by rw [Nat.mul_comm];omega);omega
 rw [h1,g,Nat.zero_mul] at e;omega
theorem IV {s:ae} {t:aE} (w:bi s) (o:hY t):Dec (sj s t) (xF s t):=by
 unfold sj xF;refine yb (oV (la w)) (fun f=>?_) (fun g=>bY fun h=>g h.1);simp only [Bool.not_true,Bool.false_eq_true,if_false];have A:=o.1.1;have M:=o.2.1;rcases (GQ A (s.g_.length:Int)).cases with ⟨e,j⟩|⟨e,j⟩
 ·rw [e];simp only [cS];have p:t.j_.length=s.g_.length:=by omega
  rw [Hh (fun x G=>by have:=j.2 x G;omega) A];simp only [bS];by_cases c:t.j_.sum≤999
  ·rw [if_neg (by simp;omega)];by_cases m:t.d_.length=0
   ·rw [if_pos (by simp;exact List.length_eq_zero_iff.1 m)];exact pj ⟨f,p,j.2,c,.inl m⟩
   rw [if_neg (by rw [beq_iff_eq];omega)];by_cases q:t.d_.length=s.c_.length
   ·rw [if_neg (by simp [q])]
    refine (vr (Lp:=fun k i=>eU t s k (i:Int)) (n:=t.d_.length) (Q:=fun i=>∀(h:i<t.d_.length) (a:i<s.c_.length),Ih s.g_.length (nb s.c_[i]) t.j_ t.d_[i]) (F:=True) (fun k _=>?_) (fun k i hi _=>?_) (by omega)).of_iff
     ⟨fun g=>⟨f,p,j.2,c,.inr ⟨q,fun i h a=>g.1 i h h a⟩⟩,fun g=>⟨fun i _ h a=>by
      rcases g.2.2.2.2 with g|g
      ·exact absurd g m
      exact g.2 i h a,trivial⟩⟩
    ·show Dec (eU t s (k+1) _) _;rw [eU,if_neg (by simp)];exact pj trivial
    show (_∧eU t s (k+1) _=eU t s k _)∨(_∧eU t s (k+1) _=_);have d:i<s.c_.length:=by omega
    have H:=w.1.2 _ (List.getElem_mem d);have C:=Co (f.attr d);have D:=o.2.2 _ (List.getElem_mem hi);have P:=f.2.1;have L:nb s.c_[i]*s.g_.length≤4*3:=Nat.mul_le_mul (by omega) (by omega);rw [eU,if_pos (by simp;omega),aH hi,aH d];simp only [bS];rw [wx H];simp only [bS]
    have E:IntKind.i64.wrap ((nb s.c_[i]:Int)*(s.g_.length:Int))=((nb s.c_[i]*s.g_.length:Nat):Int):=by
     rw [←Int.natCast_mul,gh (by omega)]
    rw [E];rcases (GQ D.1 ((nb s.c_[i]*s.g_.length:Nat):Int)).cases with ⟨r,a⟩|⟨r,a⟩
    ·rw [r];simp only [cS];unfold Bt;rw [OT _ (by omega)];simp only [bS];have l:t.d_[i].length=nb s.c_[i]*s.g_.length:=by omega
     rcases NF (t:=t) f p C.2 l a.2 (eU t s k) i (by omega) with ⟨u,v⟩|⟨u,v⟩
     ·exact .inl ⟨fun _ _=>⟨l,a.2,fun k hk=>by
       rcases u k hk with g|g
       ·exact g
       omega⟩,v⟩
     exact .inr ⟨fun g=>u fun k hk=>.inl ((g hi d).2.2 k hk),v⟩
    rw [r];exact .inr ⟨fun g=>a ⟨by have:=(g hi d).1;omega,(g hi d).2.1⟩,rfl⟩
   rw [if_pos (by simp;omega)]
   exact bY fun g=>by
    rcases g.2.2.2.2 with g|g
    ·exact m g
    exact q g.1
  rw [if_pos (by simp;omega)];exact bY fun g=>c g.2.2.2.1
 rw [e];exact bY fun g=>j ⟨by have:=g.2.1;omega,g.2.2.1⟩
theorem MR {s:ae} {t:aE} {l:List Int} {n i:Nat} (C:fV s) (Z:t.j_.length=s.g_.length) (hn:n≤4) (hi:i<t.d_.length) (D:t.d_[i]=l) (h1:l.length=n*s.g_.length) (R:Int→Option Bool) (M:i≤1048576) :
  (((∀x∈l,0≤x∧x≤999)∧∀k,k<s.g_.length→oC l s.g_.length k n≤t.j_.getD k 0)∧cG s (n:Int) t (i:Int) R bb 0=R ((i+1:Nat):Int)) ∨
  ((¬((∀x∈l,0≤x∧x≤999)∧∀k,k<s.g_.length→oC l s.g_.length k n≤t.j_.getD k 0))∧cG s (n:Int) t (i:Int) R bb 0=some false):=by
 have P:2≤s.g_.length∧s.g_.length≤3:=by have:=C.2.1;omega
 generalize r:s.g_.length=c at *
 have u:0<c:=by omega
 have f:∀k b,k<c→b<n→b*c+k<l.length:=fun k b hk h=>by
  rw [h1];have:(b+1)*c≤n*c:=Nat.mul_le_mul_right _ h;rw [Nat.add_mul] at this;omega
 rcases Az (Lp:=fun q k=>cG s (n:Int) t (i:Int) R q (k:Int)) (n:=c) (Q:=fun k=>(∀b,b<n→0≤l.getD (b*c+k) 0∧l.getD (b*c+k) 0≤999)∧oC l c k n≤t.j_.getD k 0) (fin:=R ((i+1:Nat):Int)) (bad:=some false) (fun q _=>by
   show cG s (n:Int) t (i:Int) R (q+1) _=_
   rw [cG,r,if_neg (by simp),ax (by omega)]) (fun q k hk _=>by
   show (_∧cG s (n:Int) t (i:Int) R (q+1) _=cG s (n:Int) t (i:Int) R q _)∨(_∧cG s (n:Int) t (i:Int) R (q+1) _=_);rw [cG,r,if_pos (by simp;omega)]
   rcases Az (Lp:=fun e b=>eT (n:Int) t (i:Int) s (k:Int) (cG s (n:Int) t (i:Int) R q) e (oC l c k b) (b:Int)) (n:=n) (Q:=fun b=>0≤l.getD (b*c+k) 0∧l.getD (b*c+k) 0≤999)
     (fin:=if oC l c k n≤t.j_.getD k 0 then cG s (n:Int) t (i:Int) R q ((k+1:Nat):Int) else some false) (bad:=some false) (fun e _=>by
     show eT (n:Int) t (i:Int) s (k:Int) (cG s (n:Int) t (i:Int) R q) (e+1) _ _=_;rw [eT,if_neg (by simp),aH (by omega:k<t.j_.length),ax (by omega),xa (by omega:k<t.j_.length)];simp only [bS];by_cases g:oC l c k n≤t.j_[k]
     ·rw [if_pos g,if_neg (by simpa using g)]
     ·rw [if_neg g,if_pos (by simpa using g)]) (fun e b h E=>by
     show (_∧eT (n:Int) t (i:Int) s (k:Int) (cG s (n:Int) t (i:Int) R q) (e+1) _ _=eT (n:Int) t (i:Int) s (k:Int) (cG s (n:Int) t (i:Int) R q) e _ _)∨(_∧eT (n:Int) t (i:Int) s (k:Int) (cG s (n:Int) t (i:Int) R q) (e+1) _ _=_);have p:=f k b hk h;have X:b*c≤4*3:=Nat.mul_le_mul (by omega) (by omega)
     have F:IntKind.i64.wrap (IntKind.i64.wrap ((b:Int)*(c:Int))+(k:Int))=((b*c+k:Nat):Int):=by
      rw [←Int.natCast_mul,gh (by omega),←Int.natCast_add,gh (by omega)]
     have v:∀m,m≤b→0≤oC l c k m∧oC l c k m≤999*m:=fun m=>by
      induction m with
      | zero=>intro _;simp [oC]
      | succ m ih =>
       intro w;have d:=ih (by omega);have a:=E m (by omega);simp only [oC];omega
     have G:=v b (Nat.le_refl _);rw [eT,if_pos (by simp;omega),aH hi,r,F];simp only [bS];rw [D,aH p];simp only [bS];unfold aV;simp only [bS];have o:=xa p;by_cases g:0≤l[b*c+k]∧l[b*c+k]≤999
     ·rw [qq g,o];simp only [Bool.not_true,Bool.false_eq_true,if_false];rw [aR (n:=oC l c k b+l[b*c+k]) (by omega) (by omega),ax (by omega)];refine .inl ⟨g,?_⟩;congr 1;simp only [oC];rw [o]
     rw [ra g,o];exact .inr ⟨g,rfl⟩) (by omega) with ⟨d,a⟩|⟨d,a⟩
   ·have a:eT (n:Int) t (i:Int) s (k:Int) (cG s (n:Int) t (i:Int) R q) bb 0 0=_:=a;rw [a];by_cases g:oC l c k n≤t.j_.getD k 0
    ·rw [if_pos g];exact .inl ⟨⟨d,g⟩,rfl⟩
    rw [if_neg g];exact .inr ⟨fun x=>g x.2,rfl⟩
   have a:eT (n:Int) t (i:Int) s (k:Int) (cG s (n:Int) t (i:Int) R q) bb 0 0=_:=a;rw [a];exact .inr ⟨fun x=>d x.1,rfl⟩) (by omega) with ⟨d,a⟩|⟨d,a⟩
 ·refine .inl ⟨⟨fun x H=>?_,fun k hk=>(d k hk).2⟩,a⟩;obtain ⟨j,L,rfl⟩:=List.getElem_of_mem H;have w:=Nat.mod_lt j u;have A:j / c*c+j%c=j:=by rw [Nat.mul_comm];exact Nat.div_add_mod j c
  have:=(d _ w).1 (j / c) (Nat.div_lt_of_lt_mul (by rw [Nat.mul_comm];omega));rw [A,xa L] at this;exact this
 refine .inr ⟨fun g=>d fun k hk=>⟨fun b h=>?_,g.2 k hk⟩,a⟩;rw [xa (f k b hk h)];exact g.1 _ (List.getElem_mem _)
theorem nE {s:ae} {t:aE} (w:bi s) (A:hY t):Dec (il s t) (xF s t):=by
 unfold il xF;refine yb (mH (la w)) (fun f=>?_) (fun g=>bY fun h=>g h.1);have hl:=A.1.1;have R:=A.2.1;by_cases l:t.j_.length=s.g_.length
 ·rw [if_neg (by simp [l])];have X:2≤s.g_.length∧s.g_.length≤3:=by have:=f.2.1;omega
  have G:(∀i,i<t.j_.length→∀h:i<t.j_.length,0≤t.j_[i]∧t.j_[i]≤999)→Dec (if decide (t.j_.sum>999) then some false else if ((t.d_.length:Int)==0) then some true else if ((t.d_.length:Int) != (s.c_.length:Int)) then some false else ee t s bb 0) (t.j_.sum≤999 ∧
    (t.d_.length=0∨(t.d_.length=s.c_.length∧∀i (h:i<t.d_.length) (a:i<s.c_.length),Ih s.g_.length (nb s.c_[i]) t.j_ t.d_[i]))):=fun _=>by
   by_cases c:t.j_.sum≤999
   ·rw [if_neg (by simp;omega)];by_cases m:t.d_.length=0
    ·rw [if_pos (by simp;exact List.length_eq_zero_iff.1 m)];exact pj ⟨c,.inl m⟩
    rw [if_neg (by rw [beq_iff_eq];omega)];by_cases q:t.d_.length=s.c_.length
    ·rw [if_neg (by simp [q])]
     refine (vr (Lp:=fun k i=>ee t s k (i:Int)) (n:=t.d_.length) (Q:=fun i=>∀(h:i<t.d_.length) (a:i<s.c_.length),Ih s.g_.length (nb s.c_[i]) t.j_ t.d_[i]) (F:=True) (fun k _=>?_) (fun k i hi _=>?_) (by omega)).of_iff
      ⟨fun g=>⟨c,.inr ⟨q,fun i h a=>g.1 i h h a⟩⟩,fun g=>⟨fun i _ h a=>by
       rcases g.2 with g|g
       ·exact absurd g m
       exact g.2 i h a,trivial⟩⟩
     ·show Dec (ee t s (k+1) _) _;rw [ee,if_neg (by simp)];exact pj trivial
     show (_∧ee t s (k+1) _=ee t s k _)∨(_∧ee t s (k+1) _=_);have d:i<s.c_.length:=by omega
     have H:=w.1.2 _ (List.getElem_mem d);have C:=Co (f.attr d);have L:nb s.c_[i]*s.g_.length≤4*3:=Nat.mul_le_mul (by omega) (by omega)
     have D:IntKind.i64.wrap ((nb s.c_[i]:Int)*(s.g_.length:Int))=((nb s.c_[i]*s.g_.length:Nat):Int):=by
      rw [←Int.natCast_mul,gh (by omega)]
     rw [ee,if_pos (by simp;omega),aH hi,aH d];simp only [bS];rw [ut H (f.attr d)];simp only [bS];rw [D];by_cases e:t.d_[i].length=nb s.c_[i]*s.g_.length
     ·rw [if_neg (by rw [bne_iff_ne];omega)];rcases MR f l C.2 hi rfl e (ee t s k) (by omega) with ⟨o,r⟩|⟨o,r⟩
      ·exact .inl ⟨fun _ _=>⟨e,o.1,o.2⟩,r⟩
      exact .inr ⟨fun g=>o ⟨(g hi d).2.1,(g hi d).2.2⟩,r⟩
     rw [if_pos (by rw [bne_iff_ne];omega)];exact .inr ⟨fun g=>e (g hi d).1,rfl⟩
    rw [if_pos (by simp;omega)]
    exact bY fun g=>by
     rcases g.2 with g|g
     ·exact m g
     exact q g.1
   rw [if_pos (by simp;omega)];exact bY fun g=>c g.1
  refine Dec.of_iff (P:=(∀i,i<t.j_.length→∀h:i<t.j_.length,0≤t.j_[i]∧t.j_[i]≤999)∧(t.j_.sum≤999 ∧
    (t.d_.length=0∨(t.d_.length=s.c_.length∧∀i (h:i<t.d_.length) (a:i<s.c_.length),Ih s.g_.length (nb s.c_[i]) t.j_ t.d_[i])))) ?_ ⟨fun g=>⟨f,l,fun x u=>by
    obtain ⟨i,hi,rfl⟩:=List.getElem_of_mem u;exact g.1 i hi hi,g.2⟩,fun g=>⟨fun i hi _=>g.2.2.1 _ (List.getElem_mem hi),g.2.2.2⟩⟩
  have:=vr (Lp:=fun k i=>gA t s k (t.j_.take i).sum (i:Int)) (n:=t.j_.length) (Q:=fun i=>∀h:i<t.j_.length,0≤t.j_[i]∧t.j_[i]≤999) (F:=t.j_.sum≤999 ∧
    (t.d_.length=0∨(t.d_.length=s.c_.length∧∀i (h:i<t.d_.length) (a:i<s.c_.length),Ih s.g_.length (nb s.c_[i]) t.j_ t.d_[i]))) (fun k v=>by
   show Dec (gA t s (k+1) _ _) _;rw [gA,if_neg (by simp),List.take_length]
   exact G v) (fun k i hi v=>by
   show (_∧gA t s (k+1) _ _=gA t s k _ _)∨(_∧gA t s (k+1) _ _=_)
   have hb:=rz (p:=t.j_.take i) (b:=999) (fun x u=>by
    obtain ⟨j,M,rfl⟩:=List.getElem_of_mem u;have E:j<i:=by have:j<(t.j_.take i).length:=M;simp at this;omega
    rw [List.getElem_take];exact v j E (by omega))
   have Z:((t.j_.take i).length:Int)≤3:=by simp;omega
   rw [gA,if_pos (by simp;omega),aH hi];unfold aV;simp only [bS];by_cases g:0≤t.j_[i]∧t.j_[i]≤999
   ·rw [qq g];simp only [Bool.not_true,Bool.false_eq_true,if_false];rw [aR (n:=(t.j_.take i).sum+t.j_[i]) (by omega) (by omega),ax (by omega),CI hi];exact .inl ⟨fun _=>g,rfl⟩
   rw [ra g];exact .inr ⟨fun x=>g (x hi),rfl⟩) (by omega)
  simpa using this
 rw [if_pos (by simp;omega)];exact bY fun g=>l g.2.1
end Go.Vk
/- Forks: tested alike. -/
namespace Go.Vk
def zH (a:aK):Int:=(nb a:Int)-(if 0<a.B_.length then 2 else 1)
def atr (s:ae) (f:aB):aK:=s.c_.getD f.p_.toNat default
def us (s:ae) (f:aB):Prop:=fV s∧(0≤f.p_∧f.p_≤(s.c_.length:Int)-1)∧(-1≤f.f_∧f.f_≤zH (atr s f))
theorem DU {s:ae} {f:aB} (h:0≤f.p_∧f.p_≤(s.c_.length:Int)-1):∃(i:Nat) (hi:i<s.c_.length),f.p_=i∧atr s f=s.c_[i]:=by
 refine ⟨f.p_.toNat,by omega,by omega,?_⟩;unfold atr;simp [show f.p_.toNat<s.c_.length by omega]
theorem AJ {s:ae} {f:aB} (h:0≤f.p_∧f.p_≤(s.c_.length:Int)-1):idx s.c_ f.p_=some (atr s f):=by
 obtain ⟨i,hi,a,c⟩:=DU h;rw [a,c,aH hi]
theorem yw {s:ae} {f:aB} (h:0≤f.p_∧f.p_≤(s.c_.length:Int)-1):atr s f∈s.c_:=by
 obtain ⟨i,hi,c,a⟩:=DU h;rw [a];exact List.getElem_mem hi
theorem Bq {s:ae} {f:aB} (a:fV s) (h:0≤f.p_∧f.p_≤(s.c_.length:Int)-1):uc (atr s f):=by
 obtain ⟨i,hi,d,c⟩:=DU h;rw [c];exact a.attr hi
theorem po {s:ae} {f:aB} (d:bi s):Dec (kG s f) (us s f):=by
 unfold kG us;refine yb (mH (la d)) (fun i=>?_) (fun g=>bY fun h=>g h.1);have m:=d.1.1;simp only [Bool.not_true,Bool.false_eq_true,if_false];rw [aR (n:=(s.c_.length:Int)-1) (by omega) (by omega)];rcases (cE (x:=f.p_) (a:=0) (b:=(s.c_.length:Int)-1)).cases with ⟨e,c⟩|⟨e,c⟩
 ·rw [e];simp only [cS];have k:=d.1.2 _ (yw c);have j:=Bq i c;have l:=Co j;rw [AJ c];simp only [bS];rw [ut k j];simp only [bS];unfold zH;refine RQ (P:=0<(atr s f).B_.length) (by simp) (fun h=>?_) (fun h=>?_)
  ·rw [if_pos h,aR (by omega) (by omega)];have:∀o:Option Bool,(o.bind fun y=>some y)=o:=fun o=>by cases o<;>rfl
   rw [this];exact cE.of_iff ⟨fun g=>⟨i,c,g⟩,fun g=>g.2.2⟩
  rw [if_neg h,aR (by omega) (by omega)];have:∀o:Option Bool,(o.bind fun y=>some y)=o:=fun o=>by cases o<;>rfl
  rw [this];exact cE.of_iff ⟨fun g=>⟨i,c,g⟩,fun g=>g.2.2⟩
 rw [e];exact bY fun g=>c g.2.1
theorem Il {s:ae} {f:aB} (i:bi s):Dec (uf s f) (us s f):=by
 unfold uf us;refine yb (oV (la i)) (fun j=>?_) (fun g=>bY fun h=>g h.1);have p:=i.1.1;simp only [Bool.not_true,Bool.false_eq_true,if_false];rw [aR (n:=(s.c_.length:Int)-1) (by omega) (by omega)];rcases (eW (x:=f.p_) (a:=0) (b:=(s.c_.length:Int)-1)).cases with ⟨e,c⟩|⟨e,c⟩
 ·rw [e];simp only [cS];have k:=i.1.2 _ (yw c);have l:=Bq j c;have m:=Co l;rw [AJ c];simp only [bS];rw [wx k];simp only [bS];unfold zH;have d:∀o:Option Bool,(o.bind fun y=>some y)=o:=fun o=>by cases o<;>rfl
  refine RQ (P:=0<(atr s f).B_.length) (by simp) (fun h=>?_) (fun h=>?_)
  ·rw [if_pos h,aR (n:=(nb (atr s f):Int)-1) (by omega) (by omega),aR (by omega) (by omega),d,show (nb (atr s f):Int)-1-1=(nb (atr s f):Int)-2 by omega];exact eW.of_iff ⟨fun g=>⟨j,c,g⟩,fun g=>g.2.2⟩
  rw [if_neg h,aR (by omega) (by omega),d];exact eW.of_iff ⟨fun g=>⟨j,c,g⟩,fun g=>g.2.2⟩
 rw [e];exact bY fun g=>c g.2.1
end Go.Vk
