/- Functions of data of other seats, to lean on. -/
import Derived.Test.YtnjemlncpeekkaaGreatDoorRF
import Derived.Test.YtnjemlncpeekkaaGreatDoorVkBr
namespace Go.Vk
noncomputable section
open IntKind renaming i64 → J, u8 → K, wrap → W
open Decidable renaming decide → D
open Bool renaming true → y, false → n
open Option renaming some → U, none → N, bind → Q
def tm (p1:cl)(p0:ae):Nat→Int→Option (Bool)
 | 0,_=>N
 | g+1,a =>
  if D (a<(p1.O_.length:Int)) then Q (idx p1.O_ a) fun e=>Q (idx p0.c_ a) fun f=>Q (lC f) fun c=>Q (bc e (-1) (W J (c-1))) fun d=>if !d then U n else tm p1 p0 g (W J (a+1)) else U y
def FC (p0:ae)(p1:cl):Option (Bool) :=
 Q (fj p0) fun a=>Q (if ((!a)||((p1.O_.length:Int) != (p0.c_.length:Int))) then U y else Q (bc p1.W_ (-1) (W J ((p0.f_.length:Int)-1))) fun c=>U (!c)) fun d=>if d then U n else tm p1 p0 aY 0
def yc (p0:ae)(p1:aI)(p2:Int):Option (Int) :=
 Q (ux p0 p1) fun a=>Q (if !a then U y else Q (idx p0.c_ p1.q_) fun c=>Q (lC c) fun d=>Q (bc p2 0 (W J (d-1))) fun e=>U (!e)) fun u22=>if u22 then U (-1) else if p1.j_==(-1) then U p2 else Q (if p2==p1.j_ then U y else Q (idx p0.c_ p1.q_) fun f=>U (D ((f.z_.length:Int)>0)&&D (p2<p1.j_))) fun g=>if g then U 0 else U 1
def sP (a:au)(c:List Int)(g:(List Int)→Option ((List Int)×Bool))(d:Int):Option ((List Int)×Bool) :=
 Q (idx a.A_ d) fun e=>Q (app c [e]) fun f=>g f
def nN (p1:am)(p2:cl)(p0:ae):Nat→List Int→Option ((List Int)×Bool)
 | 0,_=>N
 | g+1,c =>
  Q (idx c (W J ((c.length:Int)-1))) fun e=>Q (idx p1.b_ e) fun a=>if a.D_ then U (c,n) else Q (idx p2.O_ a.n_.q_) fun d=>if D (d≥0) then Q (yc p0 a.n_ d) fun f=>sP a c (nN p1 p2 p0 g) f else sP a c (nN p1 p2 p0 g) a.K_
def Mu (p0:ae)(p1:am)(p2:cl):Option ((List Int)×Bool) :=
 nN p1 p2 p0 aY [0]
def iT (p0:List Int):Option (List Int) :=
 Q (app [] p0) fun a=>U a
def lW (p0:List (List Int)):Nat→List (List Int)→Int→Option (List (List Int))
 | 0,_,_=>N
 | g+1,c,a =>
  if D (a<(p0.length:Int)) then Q (idx p0 a) fun d=>Q (iT d) fun e=>Q (app c [e]) fun f=>lW p0 g f (W J (a+1)) else U c
def zC (p0:List (List Int)):Option (List (List Int)) :=
 lW p0 aY [] 0
def uZ (p0:aE):Option (aE) :=
 Q (iT p0.l_) fun a=>Q (zC p0.g_) fun c=>U (aE.mk a c)
def lF (e:aE)(p2:cl)(p0:ae)(p3 g:Int):Nat→List (List Int)→Int→Option (aE×Bool)
 | 0,_,_=>N
 | j+1,f,a =>
  if D (a<(e.g_.length:Int)) then Q (idx f a) fun c=>Q (idx p2.O_ a) fun h=>if D (h≥0) then Q (idx p2.O_ a) fun d=>Q (idx c (W J (W J (d*(p0.f_.length:Int))+p2.W_))) fun i=>Q (idx c (W J (W J (d*(p0.f_.length:Int))+p2.W_))) fun _=>lF e p2 p0 p3 g j (f.set a.toNat (c.set (W J (W J (d*(p0.f_.length:Int))+p2.W_)).toNat (W J (i+p3)))) (W J (a+1)) else lF e p2 p0 p3 g j f (W J (a+1)) else U (aE.mk (e.l_.set p2.W_.toNat (W J (g+p3))) f,y)
def BM (p0:ae)(p1:aE)(p2:cl)(p3:Int):Option (aE×Bool) :=
 Q (uZ p1) fun a=>Q (sW p0 p1) fun c=>Q (if !c then U y else Q (FC p0 p2) fun d=>U (!d)) fun e=>Q (if e||(p2.W_==(-1)) then U y else Q (bc p3 1 7) fun f=>U (!f)) fun g=>Q (if g then U y else Q (ov p1.l_) fun h=>U (D (W J (h+p3)>999))) fun i=>if i then U (a,n) else Q (idx a.l_ p2.W_) fun j=>Q (idx a.l_ p2.W_) fun _=>lF a p2 p0 p3 j aY a.g_ 0
def iK (p1 p0:Int):Nat→Int→Int→Option (Int)
 | 0,_,_=>N
 | e+1,a,c =>
  if D (a<p1) then Q (quo .i64 (W J (c*W J (p0-a))) (W J (a+1))) fun d=>iK p1 p0 e (W J (a+1)) d else U c
def tU (p0 p1:Int):Option (Int) :=
 Q (bc p0 0 20) fun a=>Q (if !a then U y else Q (bc p1 0 p0) fun c=>U (!c)) fun u12=>if u12 then U 0 else iK p1 p0 aY 0 1
def lA (p1 p0:Int):Nat→Int→List Int→Int→Option (List Int)
 | 0,_,_,_=>N
 | f+1,d,a,c =>
  if D ((a.length:Int)<p1) then Q (tU (W J (W J (p0-c)-1)) (W J (W J (p1-(a.length:Int))-1))) fun e=>if D (d<e) then Q (app a [c]) fun g=>lA p1 p0 f d g (W J (c+1)) else lA p1 p0 f (W J (d-e)) a (W J (c+1)) else U a
def BU (p0 p1 p2:Int):Option (List Int) :=
 Q (tU p0 p1) fun a=>Q (bc p2 0 (W J (a-1))) fun c=>if !c then U ([]:List Int) else lA p1 p0 aY p2 [] 0
end
end Go.Vk
/- The laws' types: weighed, copied, compared; the rows' frames. Printed by program. -/
namespace Go.Vk
def sn (x:List Int):Prop:=x.length≤1048576∧∀y∈x,(-9223372036854775808≤y∧y≤9223372036854775807)
def qm (x:List (List UInt8)):Prop:=x.length≤1048576∧∀y∈x,y.length≤1048576
def jK (x:aD):Prop:=x.E_.length≤1048576∧sn x.z_∧qm x.M_
def JB (x:List aD):Prop:=x.length≤1048576∧∀y∈x,jK y
def ba (x:ae):Prop:=JB x.c_∧qm x.f_
def HH (x:bA):Prop:=(-9223372036854775808≤x.T_∧x.T_≤9223372036854775807)∧(-9223372036854775808≤x.S_∧x.S_≤9223372036854775807)∧(-9223372036854775808≤x.U_∧x.U_≤9223372036854775807)∧(-9223372036854775808≤x.o_∧x.o_≤9223372036854775807)∧(-9223372036854775808≤x.b_∧x.b_≤9223372036854775807)∧(-9223372036854775808≤x.L_∧x.L_≤9223372036854775807)∧True
def DH (x:aU):Prop:=ba x.w_∧HH x.e_∧(-9223372036854775808≤x.t_∧x.t_≤9223372036854775807)∧(-9223372036854775808≤x.V_∧x.V_≤9223372036854775807)∧(-9223372036854775808≤x.X_∧x.X_≤9223372036854775807)∧(-9223372036854775808≤x.x_∧x.x_≤9223372036854775807)∧(-9223372036854775808≤x.y_∧x.y_≤9223372036854775807)
def Tt (x:aI):Prop:=(-9223372036854775808≤x.q_∧x.q_≤9223372036854775807)∧(-9223372036854775808≤x.j_∧x.j_≤9223372036854775807)
def yg (x:List (List Int)):Prop:=x.length≤1048576∧∀y∈x,sn y
def gZ (x:aE):Prop:=sn x.l_∧yg x.g_
def rg (x:au):Prop:=True∧Tt x.n_∧sn x.A_∧(-9223372036854775808≤x.K_∧x.K_≤9223372036854775807)∧gZ x.m_∧(-9223372036854775808≤x.J_∧x.J_≤9223372036854775807)∧sn x.c_∧(-9223372036854775808≤x.o_∧x.o_≤9223372036854775807)∧(-9223372036854775808≤x.H_∧x.H_≤9223372036854775807)∧(-9223372036854775808≤x.F_∧x.F_≤9223372036854775807)
def Qe (x:List au):Prop:=x.length≤1048576∧∀y∈x,rg y
def iC (x:am):Prop:=Qe x.b_∧(-9223372036854775808≤x.p_∧x.p_≤9223372036854775807)
def yV (x:aw):Prop:=yg x.k_
def OU (x:dd):Prop:=yV x.x_∧yV x.y_
def rJ (x:av):Prop:=iC x.C_∧True∧iC x.u_∧OU x.G_
def FP (x:List av):Prop:=x.length≤1048576∧∀y∈x,rJ y
def wC (x:bh):Prop:=FP x.t_
def LM (x:aC):Prop:=(-9223372036854775808≤x.aa_∧x.aa_≤9223372036854775807)∧(-9223372036854775808≤x.Y_∧x.Y_≤9223372036854775807)
def Bj (x:List aC):Prop:=x.length≤1048576∧∀y∈x,LM y
def yj (x:aT):Prop:=yg x.r_∧Bj x.s_
def jP (x:az):Prop:=DH x.d_∧wC x.Z_∧yj x.I_
end Go.Vk
/- Words, cuts, attributes: tested alike. -/
namespace Go.Vk
def Di (w:List UInt8):Prop:=(1≤(w.length:Int)∧(w.length:Int)≤8)∧∀i,0≤i→(h:i<w.length)→97≤(w[i]).toNat∧(w[i]).toNat≤122
theorem MY {w:List UInt8}(e:w.length<1000000000000):Dec (uA w) (Di w):=by
 unfold uA aM Di;simp only [bS];by_cases h:1≤(w.length:Int)∧(w.length:Int)≤8
 ·rw [pF h];simp only [Bool.not_true,Bool.false_eq_true,if_false];refine (qt (Lp:=qd w) (n:=w.length) (Q:=fun i=>∀h:i<w.length,97≤(w[i]).toNat∧(w[i]).toNat≤122) 0 (fun k i a=>?_) (fun k i _ a=>?_) e).of_iff ⟨fun g=>⟨h,fun i c h1=>g i c h1 h1⟩,fun g i c h1 _=>g.2 i c h1⟩
  ·show (if _ then _ else _)=_;rw [if_neg (by simp;omega)]
  rw [qd,if_pos (by simp;omega),aH a,ax (by omega)];simp only [bS];by_cases h1:((w[i]).toNat:Int)<97
  ·rw [if_pos (by simpa using h1)];exact .inr ⟨fun g=>by have:=g a;omega,rfl⟩
  rw [if_neg (by simpa using h1)];simp only [bS];by_cases d:((w[i]).toNat:Int)>122
  ·rw [if_pos (by simpa using d)];exact .inr ⟨fun g=>by have:=g a;omega,rfl⟩
  rw [if_neg (by simpa using d)];exact .inl ⟨fun _=>⟨by omega,by omega⟩,rfl⟩
 rw [qZ h];exact bW fun g=>h g.1
theorem Nr {w:List UInt8}(e:w.length<1000000000000):Dec (uJ w) (Di w):=by
 unfold uJ bc Di;simp only [bS];by_cases h:1≤(w.length:Int)∧(w.length:Int)≤8
 ·rw [pF h];simp only [Bool.not_true,Bool.false_eq_true,if_false];refine (qt (Lp:=qg w) (n:=w.length) (Q:=fun i=>∀h:i<w.length,97≤(w[i]).toNat∧(w[i]).toNat≤122) 0 (fun k i a=>?_) (fun k i _ a=>?_) e).of_iff ⟨fun g=>⟨h,fun i c h1=>g i c h1 h1⟩,fun g i c h1 _=>g.2 i c h1⟩
  ·show (if _ then _ else _)=_;rw [if_neg (by simp;omega)]
  rw [qg,if_pos (by simp;omega),aH a,ax (by omega)];simp only [bS];by_cases h1:((w[i]).toNat:Int)<97
  ·rw [if_pos (by simpa using h1)];exact .inr ⟨fun g=>by have:=g a;omega,rfl⟩
  rw [if_neg (by simpa using h1)];simp only [bS];by_cases d:((w[i]).toNat:Int)>122
  ·rw [if_pos (by simpa using d)];exact .inr ⟨fun g=>by have:=g a;omega,rfl⟩
  rw [if_neg (by simpa using d)];exact .inl ⟨fun _=>⟨by omega,by omega⟩,rfl⟩
 rw [qZ h];exact bW fun g=>h g.1
def yM (ws:List (List UInt8)):Prop:=∀i,0≤i→i<ws.length→∀h:i<ws.length,Di ws[i]∧∀j,(a:j<i)→ws[i]≠ws[j]
theorem JF {ws:List (List UInt8)}(s:ws.length<1000000000000)(t:∀w∈ws,w.length<1000000000000):Dec (sQ ws) (yM ws):=by
 unfold sQ;refine qt (Lp:=ip ws) (n:=ws.length) (Q:=fun i=>∀h:i<ws.length,Di ws[i]∧∀j,(l:j<i)→ws[i]≠ws[j]) 0 (fun k i c=>?_) (fun k i _ c=>?_) s
 ·show (if _ then _ else _)=_;rw [if_neg (by simp;omega)]
 rw [ip,if_pos (by simp;omega),aH c];simp only [bS];rcases (MY (t _ (List.getElem_mem c))).cases with ⟨e,o⟩|⟨e,o⟩
 ·rw [e];simp only [cS]
  have key:∀(d q j:Nat),i-j=d→d<q→(l:j≤i)→(∀m,(a:m<j)→ws[i]≠ws[m]'(by omega)) →
    ((∀m,(a:m<i)→ws[i]≠ws[m])∧kM i ws (ip ws k) q (j:Int)=ip ws k ((i+1:Nat):Int))∨((¬ ∀m,(a:m<i)→ws[i]≠ws[m])∧kM i ws (ip ws k) q (j:Int)=some false):=by
   intro d
   induction d with
   | zero =>
    intro q j u v l a;obtain ⟨q,rfl⟩:∃r,q=r+1:=⟨q-1,by omega⟩;rw [kM,if_neg (by simp;omega),ax (by omega)];exact .inl ⟨fun m hm'=>a m (by omega),rfl⟩
   | succ d ih =>
    intro q j u v l a;obtain ⟨q,rfl⟩:∃r,q=r+1:=⟨q-1,by omega⟩;rw [kM,if_pos (by simp;omega),aH c,aH (show j<ws.length by omega)];simp only [bS];by_cases f:ws[i]=ws[j]
    ·rw [if_pos (by simpa using f)];exact .inr ⟨fun g=>g j (by omega) f,rfl⟩
    rw [if_neg (by simpa using f),ax (by omega)]
    exact ih q (j+1) (by omega) (by omega) (by omega) (fun m hm'=>by
     by_cases h:m=j
     ·subst h;exact f
     exact a m (by omega))
  rcases key i aY 0 (by omega) (cx (by omega)) (by omega) (fun m a=>by omega) with ⟨h1,p⟩|⟨h1,p⟩
  ·exact .inl ⟨fun _=>⟨o,h1⟩,p⟩
  exact .inr ⟨fun g=>h1 (g c).2,p⟩
 rw [e];exact .inr ⟨fun g=>o (g c).1,rfl⟩
theorem Fj {ws:List (List UInt8)}(o:ws.length<1000000000000)(p:∀w∈ws,w.length<1000000000000):Dec (ir ws) (yM ws):=by
 unfold ir;refine qt (Lp:=jJ ws) (n:=ws.length) (Q:=fun i=>∀h:i<ws.length,Di ws[i]∧∀j,(a:j<i)→ws[i]≠ws[j]) 0 (fun k i d=>?_) (fun k i _ d=>?_) o
 ·show (if _ then _ else _)=_;rw [if_neg (by simp;omega)]
 rw [jJ,if_pos (by simp;omega),aH d,ax (by omega)];simp only [bS];rcases (Nr (p _ (List.getElem_mem d))).cases with ⟨e,f⟩|⟨e,f⟩
 ·rw [e];simp only [cS]
  have q:sub ws 0 (i:Int)=some (ws.take i):=by
   unfold sub;rw [if_pos (by omega)];simp
  rw [q];simp only [bS];unfold gN iW
  have r:=uD (Lp:=dV (ws.take i) ws[i]) (n:=i) (Q:=fun j=>∀a:j<i,ws[i]=ws[j]) (fun k j a=>by
   show (if _ then _ else _)=_
   rw [if_neg (by simp;omega)]) (fun k j a=>by
   rw [dV,if_pos (by simp;omega),aH (show j<(ws.take i).length by simp;omega),ax (by omega)];simp only [Option.bind_some,List.getElem_take];by_cases c:ws[i]=ws[j]
   ·rw [if_pos (by simpa using c)];exact .inl ⟨fun _=>c,rfl⟩
   rw [if_neg (by simpa using c)];exact .inr ⟨fun g=>c (g a),rfl⟩) (by omega)
  rcases r.cases with ⟨l,j,a,m⟩|⟨l,m⟩
  ·rw [l];exact .inr ⟨fun g=>(g d).2 j a (m a),rfl⟩
  rw [l];exact .inl ⟨fun _=>⟨f,fun j a c=>m ⟨j,a,fun _=>c⟩⟩,rfl⟩
 rw [e];exact .inr ⟨fun g=>f (g d).1,rfl⟩
def Pp (l:List Int):Prop:=∀i,0≤i→i<l.length→∀h:i<l.length,(-9999≤l[i]∧l[i]≤9998)∧∀a:0<i,l[i-1]<l[i]
theorem Sq {l:List Int}(q:l.length<1000000000000):Dec (xK l) ((1≤(l.length:Int)∧(l.length:Int)≤3)∧Pp l):=by
 unfold xK bc;simp only [bS];by_cases h:1≤(l.length:Int)∧(l.length:Int)≤3
 ·rw [pF h];simp only [if_true]
  have r:Dec (ku l) (∀i,1≤i→i<l.length→∀(h:i<l.length),l[i-1]<l[i]):=by
   unfold ku;refine qt (Lp:=ji l) (n:=l.length) (Q:=fun i=>∀(h:i<l.length),l[i-1]<l[i]) 1 (fun k i a=>?_) (fun k i h1 a=>?_) q
   ·show (if _ then _ else _)=_;rw [if_neg (by simp;omega)]
   rw [ji,if_pos (by simp;omega),aH a,ax (by omega),aP (by omega) (by omega),show (i:Int)-1=((i-1:Nat):Int) by omega,aH (show i-1<l.length by omega)];simp only [bS];by_cases f:l[i]≤l[i-1]
   ·rw [if_pos (by simpa using f)];exact .inr ⟨fun g=>by have:=g a;omega,rfl⟩
   rw [if_neg (by simpa using f)];exact .inl ⟨fun _=>by omega,rfl⟩
  rcases r.cases with ⟨e,m⟩|⟨e,m⟩
  ·rw [e];simp only [Option.bind_some,if_true];unfold er eS
   have s:=uD (Lp:=cM l) (n:=l.length) (Q:=fun j=>∀d:j<l.length,¬(-9999≤l[j]∧l[j]≤9998)) (fun k j d=>by
    show (if _ then _ else _)=_
    rw [if_neg (by simp;omega)]) (fun k j d=>by
    rw [cM,if_pos (by simp;omega),aH d,ax (by omega)];unfold xS CH bc;simp only [bS];by_cases f : -9999≤l[j]∧l[j]≤9998
    ·rw [pF f];exact .inr ⟨fun g=>g d f,rfl⟩
    rw [qZ f];exact .inl ⟨fun _=>f,rfl⟩) q
   rcases s.cases with ⟨o,j,d,p⟩|⟨o,p⟩
   ·rw [o];exact bW fun g=>p d (g.2 j (Nat.zero_le _) d d).1
   rw [o];exact pY ⟨h,fun i _ a _=>⟨Classical.byContradiction fun c=>p ⟨i,a,fun _=>c⟩,fun t=>m i t a a⟩⟩
  rw [e];exact bW fun g=>m fun i h1 a u=>(g.2 i (Nat.zero_le _) a u).2 h1
 rw [qZ h];exact bW fun g=>h g.1
end Go.Vk
/- Attributes: weighed, copied, compared; FullMask. -/
namespace Go.Vk
def sa (x:aD):Prop:=Di x.E_∧((x.z_.length=0∧(2≤(x.M_.length:Int)∧(x.M_.length:Int)≤4)∧yM x.M_)∨(x.M_.length=0∧(1≤(x.z_.length:Int)∧(x.z_.length:Int)≤3)∧Pp x.z_))
def OkM (x:aD):Prop:=x.E_.length<1000000000000∧x.z_.length<1000000000000∧x.M_.length<1000000000000∧∀y∈x.M_,y.length<1000000000000
theorem yK {x:aD}(q:OkM x):Dec (ol x) (sa x):=by
 obtain ⟨h1,r,s,t⟩:=q;unfold ol sa;rcases (MY h1).cases with ⟨e,c⟩|⟨e,c⟩
 ·rw [e];simp only [cS];by_cases p:x.z_.length=0
  ·rw [if_pos (by rw [beq_iff_eq];omega)];unfold aM;simp only [bS];by_cases j:2≤(x.M_.length:Int)∧(x.M_.length:Int)≤4
   ·rw [pF j];simp only [if_true];rcases (JF s t).cases with ⟨l,m⟩|⟨l,m⟩
    ·rw [l];exact pY ⟨c,.inl ⟨p,j,m⟩⟩
    rw [l];exact bW fun g=>by rcases g.2 with ⟨_,_,g⟩|⟨_,g,_⟩<;>first|exact m g|omega
   rw [qZ j];exact bW fun g=>by rcases g.2 with ⟨_,g,_⟩|⟨_,g,_⟩<;>omega
  rw [if_neg (by rw [beq_iff_eq];omega)];by_cases v:0<x.M_.length∨3<x.z_.length
  ·rw [if_pos (by simp;omega)];exact bW fun g=>by rcases g.2 with ⟨g,_,_⟩|⟨_,g,_⟩<;>omega
  rw [if_neg (by rw [Bool.or_eq_true,decide_eq_true_eq,decide_eq_true_eq];omega)]
  have u:Dec (nI x aY 0) (Pp x.z_):=by
   refine qt (Lp:=nI x) (n:=x.z_.length) (Q:=fun i=>∀h:i<x.z_.length,(-9999≤x.z_[i]∧x.z_[i]≤9998)∧∀o:0<i,x.z_[i-1]<x.z_[i]) 0 (fun k i d=>?_) (fun k i _ d=>?_) r
   ·show (if _ then _ else _)=_;rw [if_neg (by simp;omega)]
   rw [nI,if_pos (by simp;omega),aH d,ax (by omega)];unfold aM;simp only [bS];by_cases a : -9999≤x.z_[i]∧x.z_[i]≤9998
   ·rw [pF a];simp only [Bool.not_true,Bool.false_eq_true,if_false];by_cases o:0<i
    ·rw [if_pos (by simp;omega),aP (by omega) (by omega),show (i:Int)-1=((i-1:Nat):Int) by omega,aH (show i-1<x.z_.length by omega)];simp only [bS];by_cases f:x.z_[i]≤x.z_[i-1]
     ·rw [if_pos (by simpa using f)];exact .inr ⟨fun g=>by have:=(g d).2 o;omega,rfl⟩
     rw [if_neg (by simpa using f)];exact .inl ⟨fun _=>⟨a,fun _=>by omega⟩,rfl⟩
    rw [if_neg (by simp;omega)];exact .inl ⟨fun _=>⟨a,fun h=>absurd h o⟩,rfl⟩
   rw [qZ a];exact .inr ⟨fun g=>a (g d).1,rfl⟩
  exact u.of_iff ⟨fun g=>⟨c,.inr ⟨by omega,by omega,g⟩⟩,fun g=>by rcases g.2 with ⟨g,_,_⟩|⟨_,_,g⟩;exact absurd g p;exact g⟩
 rw [e];exact bW fun g=>c g.1
theorem DK {x:aD}(j:OkM x):Dec (og x) (sa x):=by
 obtain ⟨h1,k,l,m⟩:=j;unfold og sa;rcases (Nr h1).cases with ⟨e,c⟩|⟨e,c⟩
 ·rw [e];simp only [cS];by_cases i:x.z_.length=0
  ·rw [if_pos (by rw [beq_iff_eq];omega)];unfold bc;simp only [bS];by_cases f:2≤(x.M_.length:Int)∧(x.M_.length:Int)≤4
   ·rw [pF f];simp only [if_true];rcases (Fj l m).cases with ⟨a,h⟩|⟨a,h⟩
    ·rw [a];exact pY ⟨c,.inl ⟨i,f,h⟩⟩
    rw [a];exact bW fun g=>by rcases g.2 with ⟨_,_,g⟩|⟨_,g,_⟩<;>first|exact h g|omega
   rw [qZ f];exact bW fun g=>by rcases g.2 with ⟨_,g,_⟩|⟨_,g,_⟩<;>omega
  rw [if_neg (by rw [beq_iff_eq];omega)];by_cases o:x.M_.length=0
  ·rw [if_pos (by rw [beq_iff_eq];omega)];rcases (Sq k).cases with ⟨a,d⟩|⟨a,d⟩
   ·rw [a];exact pY ⟨c,.inr ⟨o,d.1,d.2⟩⟩
   rw [a];exact bW fun g=>by
    rcases g.2 with ⟨g,_,_⟩|⟨_,g,g'⟩
    ·exact i g
    exact d ⟨g,g'⟩
  rw [if_neg (by rw [beq_iff_eq];omega)];exact bW fun g=>by rcases g.2 with ⟨g,_,_⟩|⟨g,_,_⟩<;>omega
 rw [e];exact bW fun g=>c g.1
end Go.Vk
/- FullMask answers alike. -/
namespace Go.Vk
theorem Lh {x:aD}(a:OkM x)(h:sa x):∃n:Nat,jU x=some (n:Int)∧lC x=some (n:Int)∧2≤n∧n≤4:=by
 unfold jU lC;rcases (yK a).cases with ⟨e,_⟩|⟨_,g⟩
 ·rw [e];simp only [cS];rcases h.2 with ⟨h1,c,_⟩|⟨h1,c,_⟩
  ·rw [if_neg (fun g=>by have:=of_decide_eq_true g;omega)];exact ⟨_,rfl,rfl,by omega,by omega⟩
  rw [if_pos (decide_eq_true (by omega)),ax (by omega)];exact ⟨_,rfl,rfl,by omega,by omega⟩
 exact absurd h g
end Go.Vk
/- Schemas: tested, weighed, copied, compared; AllRoom. -/
namespace Go.Vk
def NI (l:List aD):Prop:=∀i,0≤i→i<l.length→∀h:i<l.length,sa l[i]∧∀j,(a:j<i)→l[i].E_≠l[j].E_
def fL (x:ae):Prop:=(1≤(x.c_.length:Int)∧(x.c_.length:Int)≤5)∧(2≤(x.f_.length:Int)∧(x.f_.length:Int)≤3)∧yM x.f_∧NI x.c_
def OkS (x:ae):Prop:=x.c_.length<1000000000∧(∀a∈x.c_,OkM a)∧x.f_.length<1000000000000∧∀y∈x.f_,y.length<1000000000000
theorem Rq {x:ae}(s:OkS x):Dec (fO x aY 0) (NI x.c_):=by
 obtain ⟨h1,f,_,_⟩:=s;refine qt (Lp:=fO x) (n:=x.c_.length) (Q:=fun i=>∀h:i<x.c_.length,sa x.c_[i]∧∀j,(o:j<i)→x.c_[i].E_≠x.c_[j].E_) 0 (fun k i c=>?_) (fun k i _ c=>?_) (by omega)
 ·show (if _ then _ else _)=_;rw [if_neg (by simp;omega)]
 rw [fO,if_pos (by simp;omega),aH c];simp only [bS];rcases (yK (f _ (List.getElem_mem c))).cases with ⟨e,p⟩|⟨e,p⟩
 ·rw [e];simp only [cS]
  have key:∀(d q j:Nat),i-j=d→d<q→(o:j≤i)→(∀m,(a:m<j)→x.c_[i].E_≠(x.c_[m]'(by omega)).E_) →
    ((∀m,(a:m<i)→x.c_[i].E_≠x.c_[m].E_)∧jW i x (fO x k) q (j:Int)=fO x k ((i+1:Nat):Int))∨((¬ ∀m,(a:m<i)→x.c_[i].E_≠x.c_[m].E_)∧jW i x (fO x k) q (j:Int)=some false):=by
   intro d
   induction d with
   | zero =>
    intro q j t u o a;obtain ⟨q,rfl⟩:∃r,q=r+1:=⟨q-1,by omega⟩;rw [jW,if_neg (by simp;omega),ax (by omega)];exact .inl ⟨fun m hm'=>a m (by omega),rfl⟩
   | succ d ih =>
    intro q j t u o a;obtain ⟨q,rfl⟩:∃r,q=r+1:=⟨q-1,by omega⟩;rw [jW,if_pos (by simp;omega),aH c,aH (show j<x.c_.length by omega)];simp only [bS];by_cases l:x.c_[i].E_=x.c_[j].E_
    ·rw [if_pos (by simpa using l)];exact .inr ⟨fun g=>g j (by omega) l,rfl⟩
    rw [if_neg (by simpa using l),ax (by omega)]
    exact ih q (j+1) (by omega) (by omega) (by omega) (fun m hm'=>by
     by_cases h:m=j
     ·subst h;exact l
     exact a m (by omega))
  rcases key i aY 0 (by omega) (cx (by omega)) (by omega) (fun m a=>by omega) with ⟨h1,f⟩|⟨h1,f⟩
  ·exact .inl ⟨fun _=>⟨p,h1⟩,f⟩
  exact .inr ⟨fun g=>h1 (g c).2,f⟩
 rw [e];exact .inr ⟨fun g=>p (g c).1,rfl⟩
theorem Rk {x:ae}(s:OkS x):Dec (iz x aY 0 []) (NI x.c_):=by
 obtain ⟨h1,q,_,_⟩:=s
 have t:Dec (ir (x.c_.map aD.E_)) (yM (x.c_.map aD.E_)):=Fj (by simp;omega) (fun w l=>by
  obtain ⟨a,u,rfl⟩:=List.mem_map.1 l;exact (q a u).1)
 have key:∀(d k i:Nat),x.c_.length-i=d→d<k→i≤x.c_.length→Dec (iz x k (i:Int) ((x.c_.take i).map aD.E_)) ((∀j,i≤j→∀c:j<x.c_.length,sa x.c_[j])∧yM (x.c_.map aD.E_)):=by
  intro d
  induction d with
  | zero =>
   intro k i v hk m;obtain ⟨k,rfl⟩:=kS k (by omega);rw [iz,if_neg (by simp;omega),List.take_of_length_le (by omega)];have:∀o:Option Bool,(o.bind fun y=>some y)=o:=fun o=>by cases o<;>rfl
   rw [this];exact t.of_iff ⟨fun g=>⟨fun j r p=>by omega,g⟩,fun g=>g.2⟩
  | succ d ih =>
   intro k i v hk m;obtain ⟨k,rfl⟩:=kS k (by omega);have f:i<x.c_.length:=by omega
   rw [iz,if_pos (by simp;omega),aH f];simp only [bS];rcases (DK (q _ (List.getElem_mem f))).cases with ⟨e,l⟩|⟨e,l⟩
   ·rw [e];simp only [cS];rw [bC (by simp;omega)];simp only [bS];rw [ax (by omega),show (x.c_.take i).map aD.E_++[x.c_[i].E_]=(x.c_.take (i+1)).map aD.E_ by rw [List.take_succ_eq_append_getElem f,List.map_append];rfl];refine (ih k (i+1) (by omega) (by omega) (by omega)).of_iff ⟨fun g=>⟨fun j r p=>?_,g.2⟩,fun g=>⟨fun j r p=>g.1 j (by omega) p,g.2⟩⟩;by_cases c:j=i
    ·subst c;exact l
    exact g.1 j (by omega) p
   rw [e];exact bW fun g=>l (g.1 i (Nat.le_refl _) f)
 have:=key x.c_.length aY 0 (by omega) (cx (by omega)) (by omega);have A:Dec (iz x aY 0 []) ((∀j,0≤j→∀c:j<x.c_.length,sa x.c_[j])∧yM (x.c_.map aD.E_)):=this;refine A.of_iff ⟨fun g i _ _ h=>⟨g.1 i (Nat.zero_le _) h,fun j c C=>?_⟩,fun g=>⟨fun j _ c=>(g j (Nat.zero_le _) c c).1,fun i _ _ h=>?_⟩⟩
 ·have:=(g.2 i (Nat.zero_le _) (by simpa using h) (by simpa using h)).2 j c;simp at this;exact this C
 have m:i<x.c_.length:=by simpa using h
 obtain ⟨D,E⟩:=g i (Nat.zero_le _) m m;exact ⟨by simpa using D.1,fun j c=>by simpa using E j c⟩
theorem lP {x:ae}(f:OkS x):Dec (eR x) (fL x):=by
 have h:=Rq f;obtain ⟨h1,k,i,j⟩:=f;unfold eR aM fL;simp only [bS];by_cases a:1≤(x.c_.length:Int)∧(x.c_.length:Int)≤5
 ·rw [pF a];simp only [Bool.not_true,Bool.false_eq_true,if_false];by_cases c:2≤(x.f_.length:Int)∧(x.f_.length:Int)≤3
  ·rw [pF c];simp only [cS];rcases (JF i j).cases with ⟨e,d⟩|⟨e,d⟩
   ·rw [e];simp only [cS];exact h.of_iff ⟨fun g=>⟨a,c,d,g⟩,fun g=>g.2.2.2⟩
   rw [e];exact bW fun g=>d g.2.2.1
  rw [qZ c];exact bW fun g=>c g.2.1
 rw [qZ a];exact bW fun g=>a g.1
theorem ox {x:ae}(f:OkS x):Dec (fj x) (fL x):=by
 have h:=Rk f;obtain ⟨h1,k,i,j⟩:=f;unfold fj bc fL;simp only [bS];by_cases a:1≤(x.c_.length:Int)∧(x.c_.length:Int)≤5
 ·rw [pF a];simp only [Bool.not_true,Bool.false_eq_true,if_false];by_cases c:2≤(x.f_.length:Int)∧(x.f_.length:Int)≤3
  ·rw [pF c];simp only [cS];rcases (Fj i j).cases with ⟨e,d⟩|⟨e,d⟩
   ·rw [e];simp only [cS];exact h.of_iff ⟨fun g=>⟨a,c,d,g⟩,fun g=>g.2.2.2⟩
   rw [e];exact bW fun g=>d g.2.2.1
  rw [qZ c];exact bW fun g=>c g.2.1
 rw [qZ a];exact bW fun g=>a g.1
end Go.Vk
/- Masks. -/
namespace Go.Vk
end Go.Vk
/- Two texts of data, walked side by side. -/
namespace Go.Vk
def wM {ρ:Type}(a b:Option ρ)(Q:ρ→Prop):Prop:=∃m,a=some m∧b=some m∧Q m
theorem yr {ρ:Type}{m:ρ}{Q:ρ→Prop}(h:Q m):wM (some m) (some m) Q:=⟨m,rfl,rfl,h⟩
theorem wM.mono {ρ:Type}{a b:Option ρ}{Q R:ρ→Prop}(h:wM a b Q)(f:∀m,Q m→R m):wM a b R:=by
 obtain ⟨m,h1,c,d⟩:=h;exact ⟨m,h1,c,f m d⟩
theorem wM.bind {α ρ:Type}{a b:Option α}{Q:α→Prop}{f g:α→Option ρ}{R:ρ→Prop}(h:wM a b Q)(k:∀m,Q m→wM (f m) (g m) R):wM (a.bind f) (b.bind g) R:=by
 obtain ⟨m,h1,c,d⟩:=h;rw [h1,c];exact k m d
theorem Ls {ρ:Type}{c d:Prop}[Decidable c][Decidable d]{a b a' b':Option ρ}{Q:ρ→Prop}(e:c↔d)(h:c→wM a b Q)(h':¬c→wM a' b' Q):wM (if c then a else a') (if d then b else b') Q:=by
 by_cases f:c
 ·rw [if_pos f,if_pos (e.1 f)];exact h f
 rw [if_neg f,if_neg (fun g=>f (e.2 g))];exact h' f
theorem MP {ρ:Type}{a b:Option Bool}{P:Prop}{f g:Bool→Option ρ}{R:ρ→Prop}(h:Dec a P)(h':Dec b P)(d:P→wM (f true) (g true) R)(i:¬P→wM (f false) (g false) R):wM (a.bind f) (b.bind g) R:=by
 rw [←h.eq h'];rcases h.cases with ⟨e,c⟩|⟨e,c⟩
 ·rw [e];exact d c
 rw [e];exact i c
theorem RL {σ τ ρ:Type}(Lp:Nat→σ→Int→Option ρ)(Lq:Nat→τ→Int→Option ρ)(n:Nat)(I:Nat→σ→τ→Prop){Q:ρ→Prop}(a:∀k s t,I n s t→wM (Lp (k+1) s (n:Int)) (Lq (k+1) t (n:Int)) Q)(c:∀k s t i,i<n→I i s t→(∀s' t',I (i+1) s' t'→wM (Lp k s' ((i+1:Nat):Int)) (Lq k t' ((i+1:Nat):Int)) Q)→wM (Lp (k+1) s (i:Int)) (Lq (k+1) t (i:Int)) Q)(e:n<1000000000000){s:σ}{t:τ}(f:I 0 s t):wM (Lp aY s 0) (Lq aY t 0) Q:=by
 have key:∀(d k i:Nat)(s:σ)(t:τ),n-i=d→d<k→i≤n→I i s t→wM (Lp k s (i:Int)) (Lq k t (i:Int)) Q:=by
  intro d
  induction d with
  | zero =>
   intro k i s t g hk j h;obtain ⟨k,rfl⟩:=kS k (by omega);have:i=n:=by omega
   subst this;exact a k s t h
  | succ d ih =>
   intro k i s t g hk j h;obtain ⟨k,rfl⟩:=kS k (by omega);exact c k s t i (by omega) h (fun s' t' h'=>ih k (i+1) s' t' (by omega) (by omega) (by omega) h')
 exact key n aY 0 s t (by omega) (cx e) (Nat.zero_le _) f
end Go.Vk
/- Statistics: tested alike; the greatest of a list. -/
namespace Go.Vk
theorem yO {a:aD}(h:jK a):OkM a:=by
 obtain ⟨h1,d,c⟩:=h;exact ⟨by omega,by have:=d.1;omega,by have:=c.1;omega,fun y e=>by have:=c.2 y e;omega⟩
theorem kC {s:ae}(h:ba s):OkS s:=by
 obtain ⟨h1,c⟩:=h;exact ⟨by have:=h1.1;omega,fun a d=>yO (h1.2 a d),by have:=c.1;omega,fun y e=>by have:=c.2 y e;omega⟩
theorem yk {o:Option Bool}{P R:Prop}{f:Bool→Option Bool}(h:Dec o P)(c:P→Dec (f true) R)(d:¬P→Dec (f false) R):Dec (o.bind f) R:=by
 rcases h.cases with ⟨e,a⟩|⟨e,a⟩
 ·rw [e];exact c a
 rw [e];exact d a
theorem SG {c:Prop}[Decidable c]{P R:Prop}{a b:Option Bool}(e:c↔P)(f:P→Dec a R)(g:¬P→Dec b R):Dec (if c then a else b) R:=by
 by_cases d:c
 ·rw [if_pos d];exact f (e.1 d)
 rw [if_neg d];exact g (fun h=>d (e.2 h))
theorem fi {x a b:Int}:Dec (bc x a b) (a≤x∧x≤b):=Tj
theorem cz {x a b:Int}:Dec (aM x a b) (a≤x∧x≤b):=Tj
def nb (a:aD):Nat:=if 0<a.z_.length then a.z_.length+1 else a.M_.length
theorem wE {a:aD}(d:jK a):lC a=some (nb a:Int):=by
 have h1:=d.2.1.1;unfold lC nb;by_cases c:0<a.z_.length
 ·rw [if_pos (by simpa using c),if_pos c,ax (by omega)]
 rw [if_neg (by simpa using c),if_neg c]
theorem DZ {a:aD}(h:sa a):2≤nb a∧nb a≤4:=by
 unfold nb;rcases h.2 with ⟨h1,c,_⟩|⟨h1,c,_⟩
 ·rw [if_neg (by omega)];omega
 rw [if_pos (by omega)];omega
theorem uM {a:aD}(c:jK a)(h:sa a):jU a=some (nb a:Int):=by
 obtain ⟨n,d,e,_⟩:=Lh (yO c) h;rw [d,←e,wE c]
theorem fL.attr {s:ae}(h:fL s){i:Nat}(a:i<s.c_.length):sa s.c_[i]:=(h.2.2.2 i (Nat.zero_le _) a a).1
def pq (l:List Int)(c k:Nat):Nat→Int
 | 0=>0
 | b+1=>pq l c k b+l.getD (b*c+k) 0
def Ir (c n:Nat)(tot l:List Int):Prop:=l.length=n*c∧(∀x∈l,0≤x∧x≤999)∧∀k,k<c→pq l c k n≤tot.getD k 0
def xP (s:ae)(t:aE):Prop:=fL s∧t.l_.length=s.f_.length∧(∀x∈t.l_,0≤x∧x≤999)∧t.l_.sum≤999 ∧
 (t.g_.length=0∨(t.g_.length=s.c_.length∧∀i (h:i<t.g_.length) (a:i<s.c_.length),Ir s.f_.length (nb s.c_[i]) t.l_ t.g_[i]))
theorem SI {l:List Int}(h:∀x∈l,0≤x∧x≤999)(i:Nat):0≤l.getD i 0∧l.getD i 0≤999:=by
 rw [List.getD_eq_getElem?_getD];by_cases a:i<l.length
 ·rw [List.getElem?_eq_getElem a];exact h _ (List.getElem_mem a)
 rw [List.getElem?_eq_none (by omega)];simp
theorem xM {l:List Int}{i:Nat}(h:i<l.length):l.getD i 0=l[i]:=by simp [h]
theorem To {l:List Int}{c k:Nat}(h:∀x∈l,0≤x∧x≤999):∀n:Nat,0≤pq l c k n∧pq l c k n≤999*n
 | 0=>by simp [pq]
 | n+1=>by
  have:=To (c:=c) (k:=k) h n;have:=SI h (n*c+k);simp only [pq];omega
theorem Qj {l:List Int}{c k:Nat}(h:∀x∈l,0≤x∧x≤999){n m:Nat}(a:n≤m):pq l c k n≤pq l c k m:=by
 induction m with
 | zero=>rw [show n=0 by omega];exact Int.le_refl _
 | succ m ih =>
  by_cases e:n=m+1
  ·rw [e];exact Int.le_refl _
  have:=ih (by omega);have:=SI h (m*c+k);simp only [pq];omega
theorem IQ {l:List Int}(m:l.length≤1048576)(n:Int):Dec (su l n) ((l.length:Int)=n∧∀x∈l,0≤x∧x≤999):=by
 unfold su;by_cases d:(l.length:Int)=n
 ·rw [if_pos (by simpa using d)]
  have f:Dec (dk l) (∃i,i<l.length∧∀h:i<l.length,¬(0≤l[i]∧l[i]≤999)):=by
   unfold dk eO;refine uD (Lp:=cC l) (n:=l.length) (fun k i a=>?_) (fun k i a=>?_) (by omega)
   ·show (if _ then _ else _)=_;rw [if_neg (by simp;omega)]
   rw [cC,if_pos (by simp;omega),aH a,ax (by omega)];unfold wJ bc;simp only [bS];by_cases h:0≤l[i]∧l[i]≤999
   ·rw [pF h];exact .inr ⟨fun g=>g a h,rfl⟩
   rw [qZ h];exact .inl ⟨fun _=>h,rfl⟩
  rcases f.cases with ⟨e,i,a,h⟩|⟨e,h⟩
  ·rw [e];exact bW fun g=>h a (g.2 _ (List.getElem_mem a))
  rw [e];exact pY ⟨d,fun x j=>by
   obtain ⟨i,a,rfl⟩:=List.getElem_of_mem j;exact Classical.byContradiction fun c=>h ⟨i,a,fun _=>c⟩⟩
 rw [if_neg (by simpa using d)];exact bW fun g=>d g.1
theorem Il {p:List Int}(a:∀x∈p,0≤x∧x≤1000000000)(d:p.length≤1048576):ov p=some p.sum:=by
 unfold ov
 have h:=Df (p:=p) (fun x=>x) (iY p) some (fun k s=>by
  show (if _ then _ else _)=_
  rw [if_neg (by simp)]) (fun k s i c=>by
  rw [iY,if_pos (by simp;omega),aH c,ax (by omega)];rfl) a (by omega)
 simpa using h
theorem LD {s:ae}(a:fL s){l:List Int}(h1:l.length=s.f_.length)(c:∀x∈l,0≤x∧x≤999):0≤l.sum∧l.sum≤2997:=by
 have h:=rW c;have:=a.2.1;omega
def rL (l:List Int)(c i:Nat):List Int:=(List.range c).map fun k=>pq l c k (i / c+if k<i%c then 1 else 0)
theorem zq (l:List Int)(c i:Nat):(rL l c i).length=c:=by simp [rL]
theorem wL {l:List Int}{c i k:Nat}(h:k<c):(rL l c i)[k]'(by simpa [rL] using h)=pq l c k (i / c+if k<i%c then 1 else 0):=by simp [rL]
theorem FO {l:List Int}{c i:Nat}(e:0<c):rL l c (i+1)=(rL l c i).set (i%c) (pq l c (i%c) (i / c+1)):=by
 have j:=Nat.mod_lt i e;have m:=Nat.div_add_mod i c;apply List.ext_getElem (by simp [rL]);intro k h1 o;have hk:k<c:=by simpa [rL] using h1
 rw [wL hk,List.getElem_set];by_cases h:i%c+1=c
 ·have f:(i+1) / c=i / c+1:=by
   have:i+1=c*(i / c+1):=by rw [Nat.mul_add,Nat.mul_one];omega
   rw [this,Nat.mul_div_cancel_left _ e]
  have g:(i+1)%c=0:=by
   have:i+1=c*(i / c+1):=by rw [Nat.mul_add,Nat.mul_one];omega
   rw [this,Nat.mul_mod_right]
  rw [f,g,if_neg (by omega)];by_cases a:i%c=k
  ·rw [if_pos a,a]
  rw [if_neg a,wL hk,if_pos (by omega)]
 have f:(i+1) / c=i / c:=by
  have:i+1=(i%c+1)+c*(i / c):=by omega
  rw [this,Nat.add_mul_div_left _ _ e,Nat.div_eq_of_lt (by omega),Nat.zero_add]
 have g:(i+1)%c=i%c+1:=by
  have:i+1=(i%c+1)+c*(i / c):=by omega
  rw [this,Nat.add_mul_mod_self_left,Nat.mod_eq_of_lt (by omega)]
 rw [f,g];by_cases a:i%c=k
 ·rw [if_pos a,if_pos (by omega),a]
 rw [if_neg a,wL hk];by_cases d:k<i%c
 ·rw [if_pos (by omega),if_pos d]
 rw [if_neg (by omega),if_neg d]
theorem Mj (l:List Int)(c:Nat):rL l c 0=List.replicate c 0:=by
 apply List.ext_getElem (by simp [rL]);intro k h1 a;have hk:k<c:=by simpa [rL] using h1
 rw [wL hk];simp [pq]
theorem NS {s:ae}{t:aE}{l:List Int}{n:Nat}(D:fL s)(X:t.l_.length=s.f_.length)(E:n≤4)(h1:l.length=n*s.f_.length)(h:∀x∈l,0≤x∧x≤999)(R:Int→Option Bool)(i:Nat)(Z:i≤1048576) :
  ((∀k,k<s.f_.length→pq l s.f_.length k n≤t.l_.getD k 0∨n=0)∧fH l s t R (i:Int) aY 0 (List.replicate s.f_.length 0)=R ((i+1:Nat):Int)) ∨
  ((¬ ∀k,k<s.f_.length→pq l s.f_.length k n≤t.l_.getD k 0∨n=0)∧fH l s t R (i:Int) aY 0 (List.replicate s.f_.length 0)=some false):=by
 have u:2≤s.f_.length∧s.f_.length≤3:=by have:=D.2.1;omega
 generalize F:s.f_.length=c at *
 have a:0<c:=by omega
 have G:l.length≤12:=by
  have:n*c≤4*3:=Nat.mul_le_mul E u.2;omega
 rw [←Mj l c]
 rcases Bd (Lp:=fun k j=>fH l s t R (i:Int) k (j:Int) (rL l c j)) (n:=l.length) (Q:=fun j=>pq l c (j%c) (j / c+1)≤t.l_.getD (j%c) 0) (fin:=R ((i+1:Nat):Int)) (bad:=some false) (fun k _=>by
   show fH l s t R (i:Int) (k+1) _ _=_
   rw [fH,if_neg (by simp),ax (by omega)]) (fun k j e _=>by
   show (_∧fH l s t R (i:Int) (k+1) _ _=_)∨(_∧fH l s t R (i:Int) (k+1) _ _=_);have d:=Nat.mod_lt j a
   have o:rem (j:Int) (c:Int)=some ((j%c:Nat):Int):=by
    unfold rem;rw [if_neg (by omega),qa]
   have v:j / c*c+j%c=j:=by rw [Nat.mul_comm];exact Nat.div_add_mod j c
   have p:pq l c (j%c) (j / c+1)=pq l c (j%c) (j / c)+l[j]:=by
    simp only [pq];rw [v,xM e]
   have hb:=To (c:=c) (k:=j%c) h (j / c);have M:j / c≤12:=Nat.le_trans (Nat.div_le_self _ _) (by omega);have P:=h _ (List.getElem_mem e)
   have H:(rL l c j)[j%c]'(by rw [zq];exact d)=pq l c (j%c) (j / c):=by
    rw [wL d,if_neg (by omega)];rfl
   have L:IntKind.i64.wrap (pq l c (j%c) (j / c)+l[j])=pq l c (j%c) (j / c+1):=by
    rw [p,aP (by omega) (by omega)]
   rw [fH,if_pos (by simp;omega),aH e,F,o];simp only [bS];rw [aH (by rw [zq];exact d),H];simp only [Option.bind_some,Int.toNat_natCast];rw [L,←FO a,aH (by rw [zq];exact d),aH (by omega:j%c<t.l_.length)];simp only [bS]
   have w:(rL l c (j+1))[j%c]'(by rw [zq];exact d)=pq l c (j%c) (j / c+1):=by
    simp only [FO a,List.getElem_set_self]
   rw [w,xM (by omega:j%c<t.l_.length),ax (by omega)];by_cases f:pq l c (j%c) (j / c+1)≤t.l_[j%c]
   ·rw [if_neg (by simpa using f)];exact .inl ⟨f,rfl⟩
   rw [if_pos (by simpa using f)];exact .inr ⟨f,rfl⟩) (by omega) with ⟨q,r⟩|⟨q,r⟩
 ·refine .inl ⟨fun k hk=>?_,r⟩;by_cases A:n=0
  ·exact .inr A
  left
  have C:(n-1)*c+k<l.length:=by
   rw [h1];obtain ⟨m,rfl⟩:∃m,n=m+1:=⟨n-1,by omega⟩;rw [Nat.add_sub_cancel,Nat.add_mul];omega
  have:=q _ C;rw [show ((n-1)*c+k)%c=k by rw [Nat.mul_comm,Nat.mul_add_mod,Nat.mod_eq_of_lt hk],show ((n-1)*c+k) / c+1=n by rw [Nat.mul_comm,Nat.mul_add_div a,Nat.div_eq_of_lt hk];omega] at this;exact this
 refine .inr ⟨fun g=>q fun j e=>?_,r⟩;have d:=Nat.mod_lt j a;rcases g _ d with g|g
 ·refine Int.le_trans (Qj h ?_) g;have:j / c<n:=Nat.div_lt_of_lt_mul (by rw [Nat.mul_comm];omega);omega
 rw [h1,g,Nat.zero_mul] at e;omega
theorem Kr {s:ae}{t:aE}(A:ba s)(p:gZ t):Dec (sW s t) (xP s t):=by
 unfold sW xP;refine yk (ox (kC A)) (fun f=>?_) (fun g=>bW fun h=>g h.1);simp only [Bool.not_true,Bool.false_eq_true,if_false];have C:=p.1.1;have P:=p.2.1;rcases (IQ C (s.f_.length:Int)).cases with ⟨e,j⟩|⟨e,j⟩
 ·rw [e];simp only [cS];have q:t.l_.length=s.f_.length:=by omega
  rw [Il (fun x H=>by have:=j.2 x H;omega) C];simp only [bS];by_cases c:t.l_.sum≤999
  ·rw [if_neg (by simp;omega)];by_cases o:t.g_.length=0
   ·rw [if_pos (by simp;exact List.length_eq_zero_iff.1 o)];exact pY ⟨f,q,j.2,c,.inl o⟩
   rw [if_neg (by rw [beq_iff_eq];omega)];by_cases r:t.g_.length=s.c_.length
   ·rw [if_neg (by simp [r])]
    refine (vN (Lp:=fun k i=>fc t s k (i:Int)) (n:=t.g_.length) (Q:=fun i=>∀(h:i<t.g_.length)(a:i<s.c_.length),Ir s.f_.length (nb s.c_[i]) t.l_ t.g_[i]) (F:=True) (fun k _=>?_) (fun k i l _=>?_) (by omega)).of_iff
     ⟨fun g=>⟨f,q,j.2,c,.inr ⟨r,fun i h a=>g.1 i h h a⟩⟩,fun g=>⟨fun i _ h a=>by
      rcases g.2.2.2.2 with g|g
      ·exact absurd g o
      exact g.2 i h a,trivial⟩⟩
    ·show Dec (fc t s (k+1) _) _;rw [fc,if_neg (by simp)];exact pY trivial
    show (_∧fc t s (k+1) _=fc t s k _)∨(_∧fc t s (k+1) _=_);have d:i<s.c_.length:=by omega
    have L:=A.1.2 _ (List.getElem_mem d);have D:=DZ (f.attr d);have E:=p.2.2 _ (List.getElem_mem l);have R:=f.2.1;have M:nb s.c_[i]*s.f_.length≤4*3:=Nat.mul_le_mul (by omega) (by omega);rw [fc,if_pos (by simp;omega),aH l,aH d];simp only [bS];rw [wE L];simp only [bS]
    have G:IntKind.i64.wrap ((nb s.c_[i]:Int)*(s.f_.length:Int))=((nb s.c_[i]*s.f_.length:Nat):Int):=by
     rw [←Int.natCast_mul,fm (by omega)]
    rw [G];rcases (IQ E.1 ((nb s.c_[i]*s.f_.length:Nat):Int)).cases with ⟨u,a⟩|⟨u,a⟩
    ·rw [u];simp only [cS];unfold Cj;rw [OK _ (by omega)];simp only [bS];have m:t.g_[i].length=nb s.c_[i]*s.f_.length:=by omega
     rcases NS (t:=t) f q D.2 m a.2 (fc t s k) i (by omega) with ⟨v,w⟩|⟨v,w⟩
     ·exact .inl ⟨fun _ _=>⟨m,a.2,fun k hk=>by
       rcases v k hk with g|g
       ·exact g
       omega⟩,w⟩
     exact .inr ⟨fun g=>v fun k hk=>.inl ((g l d).2.2 k hk),w⟩
    rw [u];exact .inr ⟨fun g=>a ⟨by have:=(g l d).1;omega,(g l d).2.1⟩,rfl⟩
   rw [if_pos (by simp;omega)]
   exact bW fun g=>by
    rcases g.2.2.2.2 with g|g
    ·exact o g
    exact r g.1
  rw [if_pos (by simp;omega)];exact bW fun g=>c g.2.2.2.1
 rw [e];exact bW fun g=>j ⟨by have:=g.2.1;omega,g.2.2.1⟩
theorem NX {s:ae}{t:aE}{l:List Int}{n i:Nat}(C:fL s)(hT:t.l_.length=s.f_.length)(hn:n≤4)(D:i<t.g_.length)(E:t.g_[i]=l)(h1:l.length=n*s.f_.length)(R:Int→Option Bool)(P:i≤1048576) :
  (((∀x∈l,0≤x∧x≤999)∧∀k,k<s.f_.length→pq l s.f_.length k n≤t.l_.getD k 0)∧cF s (n:Int) t (i:Int) R aY 0=R ((i+1:Nat):Int)) ∨
  ((¬((∀x∈l,0≤x∧x≤999)∧∀k,k<s.f_.length→pq l s.f_.length k n≤t.l_.getD k 0))∧cF s (n:Int) t (i:Int) R aY 0=some false):=by
 have X:2≤s.f_.length∧s.f_.length≤3:=by have:=C.2.1;omega
 generalize r:s.f_.length=c at *
 have u:0<c:=by omega
 have f:∀k b,k<c→b<n→b*c+k<l.length:=fun k b hk h=>by
  rw [h1];have:(b+1)*c≤n*c:=Nat.mul_le_mul_right _ h;rw [Nat.add_mul] at this;omega
 rcases Bd (Lp:=fun q k=>cF s (n:Int) t (i:Int) R q (k:Int)) (n:=c) (Q:=fun k=>(∀b,b<n→0≤l.getD (b*c+k) 0∧l.getD (b*c+k) 0≤999)∧pq l c k n≤t.l_.getD k 0) (fin:=R ((i+1:Nat):Int)) (bad:=some false) (fun q _=>by
   show cF s (n:Int) t (i:Int) R (q+1) _=_
   rw [cF,r,if_neg (by simp),ax (by omega)]) (fun q k hk _=>by
   show (_∧cF s (n:Int) t (i:Int) R (q+1) _=cF s (n:Int) t (i:Int) R q _)∨(_∧cF s (n:Int) t (i:Int) R (q+1) _=_);rw [cF,r,if_pos (by simp;omega)]
   rcases Bd (Lp:=fun e b=>eZ (n:Int) t (i:Int) s (k:Int) (cF s (n:Int) t (i:Int) R q) e (pq l c k b) (b:Int)) (n:=n) (Q:=fun b=>0≤l.getD (b*c+k) 0∧l.getD (b*c+k) 0≤999)
     (fin:=if pq l c k n≤t.l_.getD k 0 then cF s (n:Int) t (i:Int) R q ((k+1:Nat):Int) else some false) (bad:=some false) (fun e _=>by
     show eZ (n:Int) t (i:Int) s (k:Int) (cF s (n:Int) t (i:Int) R q) (e+1) _ _=_;rw [eZ,if_neg (by simp),aH (by omega:k<t.l_.length),ax (by omega),xM (by omega:k<t.l_.length)];simp only [bS];by_cases g:pq l c k n≤t.l_[k]
     ·rw [if_pos g,if_neg (by simpa using g)]
     ·rw [if_neg g,if_pos (by simpa using g)]) (fun e b h F=>by
     show (_∧eZ (n:Int) t (i:Int) s (k:Int) (cF s (n:Int) t (i:Int) R q) (e+1) _ _=eZ (n:Int) t (i:Int) s (k:Int) (cF s (n:Int) t (i:Int) R q) e _ _)∨(_∧eZ (n:Int) t (i:Int) s (k:Int) (cF s (n:Int) t (i:Int) R q) (e+1) _ _=_);have p:=f k b hk h;have Z:b*c≤4*3:=Nat.mul_le_mul (by omega) (by omega)
     have G:IntKind.i64.wrap (IntKind.i64.wrap ((b:Int)*(c:Int))+(k:Int))=((b*c+k:Nat):Int):=by
      rw [←Int.natCast_mul,fm (by omega),←Int.natCast_add,fm (by omega)]
     have v:∀m,m≤b→0≤pq l c k m∧pq l c k m≤999*m:=fun m=>by
      induction m with
      | zero=>intro _;simp [pq]
      | succ m ih =>
       intro w;have d:=ih (by omega);have a:=F m (by omega);simp only [pq];omega
     have H:=v b (Nat.le_refl _);rw [eZ,if_pos (by simp;omega),aH D,r,G];simp only [bS];rw [E,aH p];simp only [bS];unfold aM;simp only [bS];have o:=xM p;by_cases g:0≤l[b*c+k]∧l[b*c+k]≤999
     ·rw [pF g,o];simp only [Bool.not_true,Bool.false_eq_true,if_false];rw [aP (n:=pq l c k b+l[b*c+k]) (by omega) (by omega),ax (by omega)];refine .inl ⟨g,?_⟩;congr 1;simp only [pq];rw [o]
     rw [qZ g,o];exact .inr ⟨g,rfl⟩) (by omega) with ⟨d,a⟩|⟨d,a⟩
   ·have a:eZ (n:Int) t (i:Int) s (k:Int) (cF s (n:Int) t (i:Int) R q) aY 0 0=_:=a;rw [a];by_cases g:pq l c k n≤t.l_.getD k 0
    ·rw [if_pos g];exact .inl ⟨⟨d,g⟩,rfl⟩
    rw [if_neg g];exact .inr ⟨fun x=>g x.2,rfl⟩
   have a:eZ (n:Int) t (i:Int) s (k:Int) (cF s (n:Int) t (i:Int) R q) aY 0 0=_:=a;rw [a];exact .inr ⟨fun x=>d x.1,rfl⟩) (by omega) with ⟨d,a⟩|⟨d,a⟩
 ·refine .inl ⟨⟨fun x L=>?_,fun k hk=>(d k hk).2⟩,a⟩;obtain ⟨j,M,rfl⟩:=List.getElem_of_mem L;have w:=Nat.mod_lt j u;have A:j / c*c+j%c=j:=by rw [Nat.mul_comm];exact Nat.div_add_mod j c
  have:=(d _ w).1 (j / c) (Nat.div_lt_of_lt_mul (by rw [Nat.mul_comm];omega));rw [A,xM M] at this;exact this
 refine .inr ⟨fun g=>d fun k hk=>⟨fun b h=>?_,g.2 k hk⟩,a⟩;rw [xM (f k b hk h)];exact g.1 _ (List.getElem_mem _)
theorem ny {s:ae}{t:aE}(A:ba s)(C:gZ t):Dec (ij s t) (xP s t):=by
 unfold ij xP;refine yk (lP (kC A)) (fun l=>?_) (fun g=>bW fun h=>g h.1);have hl:=C.1.1;have X:=C.2.1;by_cases m:t.l_.length=s.f_.length
 ·rw [if_neg (by simp [m])];have Z:2≤s.f_.length∧s.f_.length≤3:=by have:=l.2.1;omega
  have H:(∀i,i<t.l_.length→∀h:i<t.l_.length,0≤t.l_[i]∧t.l_[i]≤999)→Dec (if decide (t.l_.sum>999) then some false else if ((t.g_.length:Int)==0) then some true else if ((t.g_.length:Int) != (s.c_.length:Int)) then some false else eg t s aY 0) (t.l_.sum≤999 ∧
    (t.g_.length=0∨(t.g_.length=s.c_.length∧∀i (h:i<t.g_.length) (c:i<s.c_.length),Ir s.f_.length (nb s.c_[i]) t.l_ t.g_[i]))):=fun _=>by
   by_cases d:t.l_.sum≤999
   ·rw [if_neg (by simp;omega)];by_cases o:t.g_.length=0
    ·rw [if_pos (by simp;exact List.length_eq_zero_iff.1 o)];exact pY ⟨d,.inl o⟩
    rw [if_neg (by rw [beq_iff_eq];omega)];by_cases r:t.g_.length=s.c_.length
    ·rw [if_neg (by simp [r])]
     refine (vN (Lp:=fun k i=>eg t s k (i:Int)) (n:=t.g_.length) (Q:=fun i=>∀(h:i<t.g_.length)(c:i<s.c_.length),Ir s.f_.length (nb s.c_[i]) t.l_ t.g_[i]) (F:=True) (fun k _=>?_) (fun k i a _=>?_) (by omega)).of_iff
      ⟨fun g=>⟨d,.inr ⟨r,fun i h c=>g.1 i h h c⟩⟩,fun g=>⟨fun i _ h c=>by
       rcases g.2 with g|g
       ·exact absurd g o
       exact g.2 i h c,trivial⟩⟩
     ·show Dec (eg t s (k+1) _) _;rw [eg,if_neg (by simp)];exact pY trivial
     show (_∧eg t s (k+1) _=eg t s k _)∨(_∧eg t s (k+1) _=_);have e:i<s.c_.length:=by omega
     have L:=A.1.2 _ (List.getElem_mem e);have D:=DZ (l.attr e);have M:nb s.c_[i]*s.f_.length≤4*3:=Nat.mul_le_mul (by omega) (by omega)
     have E:IntKind.i64.wrap ((nb s.c_[i]:Int)*(s.f_.length:Int))=((nb s.c_[i]*s.f_.length:Nat):Int):=by
      rw [←Int.natCast_mul,fm (by omega)]
     rw [eg,if_pos (by simp;omega),aH a,aH e];simp only [bS];rw [uM L (l.attr e)];simp only [bS];rw [E];by_cases f:t.g_[i].length=nb s.c_[i]*s.f_.length
     ·rw [if_neg (by rw [bne_iff_ne];omega)];rcases NX l m D.2 a rfl f (eg t s k) (by omega) with ⟨q,u⟩|⟨q,u⟩
      ·exact .inl ⟨fun _ _=>⟨f,q.1,q.2⟩,u⟩
      exact .inr ⟨fun g=>q ⟨(g a e).2.1,(g a e).2.2⟩,u⟩
     rw [if_pos (by rw [bne_iff_ne];omega)];exact .inr ⟨fun g=>f (g a e).1,rfl⟩
    rw [if_pos (by simp;omega)]
    exact bW fun g=>by
     rcases g.2 with g|g
     ·exact o g
     exact r g.1
   rw [if_pos (by simp;omega)];exact bW fun g=>d g.1
  refine Dec.of_iff (P:=(∀i,i<t.l_.length→∀h:i<t.l_.length,0≤t.l_[i]∧t.l_[i]≤999)∧(t.l_.sum≤999 ∧
    (t.g_.length=0∨(t.g_.length=s.c_.length∧∀i (h:i<t.g_.length) (c:i<s.c_.length),Ir s.f_.length (nb s.c_[i]) t.l_ t.g_[i])))) ?_ ⟨fun g=>⟨l,m,fun x v=>by
    obtain ⟨i,a,rfl⟩:=List.getElem_of_mem v;exact g.1 i a a,g.2⟩,fun g=>⟨fun i a _=>g.2.2.1 _ (List.getElem_mem a),g.2.2.2⟩⟩
  have:=vN (Lp:=fun k i=>gx t s k (t.l_.take i).sum (i:Int)) (n:=t.l_.length) (Q:=fun i=>∀h:i<t.l_.length,0≤t.l_[i]∧t.l_[i]≤999) (F:=t.l_.sum≤999 ∧
    (t.g_.length=0∨(t.g_.length=s.c_.length∧∀i (h:i<t.g_.length) (c:i<s.c_.length),Ir s.f_.length (nb s.c_[i]) t.l_ t.g_[i]))) (fun k w=>by
   show Dec (gx t s (k+1) _ _) _;rw [gx,if_neg (by simp),List.take_length]
   exact H w) (fun k i a w=>by
   show (_∧gx t s (k+1) _ _=gx t s k _ _)∨(_∧gx t s (k+1) _ _=_)
   have hb:=rW (p:=t.l_.take i) (b:=999) (fun x v=>by
    obtain ⟨j,R,rfl⟩:=List.getElem_of_mem v;have G:j<i:=by have:j<(t.l_.take i).length:=R;simp at this;omega
    rw [List.getElem_take];exact w j G (by omega))
   have a0:((t.l_.take i).length:Int)≤3:=by simp;omega
   rw [gx,if_pos (by simp;omega),aH a];unfold aM;simp only [bS];by_cases g:0≤t.l_[i]∧t.l_[i]≤999
   ·rw [pF g];simp only [Bool.not_true,Bool.false_eq_true,if_false];rw [aP (n:=(t.l_.take i).sum+t.l_[i]) (by omega) (by omega),ax (by omega),CU a];exact .inl ⟨fun _=>g,rfl⟩
   rw [qZ g];exact .inr ⟨fun x=>g (x a),rfl⟩) (by omega)
  simpa using this
 rw [if_pos (by simp;omega)];exact bW fun g=>m g.2.1
end Go.Vk
/- Forks: tested alike. -/
namespace Go.Vk
def Af (a:aD):Int:=(nb a:Int)-(if 0<a.z_.length then 2 else 1)
def atr (s:ae)(f:aI):aD:=s.c_.getD f.q_.toNat default
def uP (s:ae)(f:aI):Prop:=fL s∧(0≤f.q_∧f.q_≤(s.c_.length:Int)-1)∧(-1≤f.j_∧f.j_≤Af (atr s f))
theorem Fx {s:ae}{f:aI}(h:0≤f.q_∧f.q_≤(s.c_.length:Int)-1):∃(i:Nat)(a:i<s.c_.length),f.q_=i∧atr s f=s.c_[i]:=by
 refine ⟨f.q_.toNat,by omega,by omega,?_⟩;unfold atr;simp [show f.q_.toNat<s.c_.length by omega]
theorem Bp {s:ae}{f:aI}(h:0≤f.q_∧f.q_≤(s.c_.length:Int)-1):idx s.c_ f.q_=some (atr s f):=by
 obtain ⟨i,a,c,d⟩:=Fx h;rw [c,d,aH a]
theorem zy {s:ae}{f:aI}(h:0≤f.q_∧f.q_≤(s.c_.length:Int)-1):atr s f∈s.c_:=by
 obtain ⟨i,a,d,c⟩:=Fx h;rw [c];exact List.getElem_mem a
theorem Cm {s:ae}{f:aI}(a:fL s)(h:0≤f.q_∧f.q_≤(s.c_.length:Int)-1):sa (atr s f):=by
 obtain ⟨i,c,e,d⟩:=Fx h;rw [d];exact a.attr c
theorem rj {s:ae}{f:aI}(d:ba s):Dec (lw s f) (uP s f):=by
 unfold lw uP;refine yk (lP (kC d)) (fun i=>?_) (fun g=>bW fun h=>g h.1);have m:=d.1.1;simp only [Bool.not_true,Bool.false_eq_true,if_false];rw [aP (n:=(s.c_.length:Int)-1) (by omega) (by omega)];rcases (cz (x:=f.q_) (a:=0) (b:=(s.c_.length:Int)-1)).cases with ⟨e,c⟩|⟨e,c⟩
 ·rw [e];simp only [cS];have k:=d.1.2 _ (zy c);have j:=Cm i c;have l:=DZ j;rw [Bp c];simp only [bS];rw [uM k j];simp only [bS];unfold Af;refine SG (P:=0<(atr s f).z_.length) (by simp) (fun h=>?_) (fun h=>?_)
  ·rw [if_pos h,aP (by omega) (by omega)];have:∀o:Option Bool,(o.bind fun y=>some y)=o:=fun o=>by cases o<;>rfl
   rw [this];exact cz.of_iff ⟨fun g=>⟨i,c,g⟩,fun g=>g.2.2⟩
  rw [if_neg h,aP (by omega) (by omega)];have:∀o:Option Bool,(o.bind fun y=>some y)=o:=fun o=>by cases o<;>rfl
  rw [this];exact cz.of_iff ⟨fun g=>⟨i,c,g⟩,fun g=>g.2.2⟩
 rw [e];exact bW fun g=>c g.2.1
theorem It {s:ae}{f:aI}(i:ba s):Dec (ux s f) (uP s f):=by
 unfold ux uP;refine yk (ox (kC i)) (fun j=>?_) (fun g=>bW fun h=>g h.1);have p:=i.1.1;simp only [Bool.not_true,Bool.false_eq_true,if_false];rw [aP (n:=(s.c_.length:Int)-1) (by omega) (by omega)];rcases (fi (x:=f.q_) (a:=0) (b:=(s.c_.length:Int)-1)).cases with ⟨e,c⟩|⟨e,c⟩
 ·rw [e];simp only [cS];have k:=i.1.2 _ (zy c);have l:=Cm j c;have m:=DZ l;rw [Bp c];simp only [bS];rw [wE k];simp only [bS];unfold Af;have d:∀o:Option Bool,(o.bind fun y=>some y)=o:=fun o=>by cases o<;>rfl
  refine SG (P:=0<(atr s f).z_.length) (by simp) (fun h=>?_) (fun h=>?_)
  ·rw [if_pos h,aP (n:=(nb (atr s f):Int)-1) (by omega) (by omega),aP (by omega) (by omega),d,show (nb (atr s f):Int)-1-1=(nb (atr s f):Int)-2 by omega];exact fi.of_iff ⟨fun g=>⟨j,c,g⟩,fun g=>g.2.2⟩
  rw [if_neg h,aP (by omega) (by omega),d];exact fi.of_iff ⟨fun g=>⟨j,c,g⟩,fun g=>g.2.2⟩
 rw [e];exact bW fun g=>c g.2.1
end Go.Vk
