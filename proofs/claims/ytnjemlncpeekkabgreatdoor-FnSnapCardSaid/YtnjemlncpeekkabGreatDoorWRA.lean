/- The code does what the functions of data say. Printed by program. -/
import Derived.Test.YtnjemlncpeekkabGreatDoorRF
import Derived.Test.YtnjemlncpeekkabGreatDoorVkBs
import Derived.Test.YtnjemlncpeekkabGreatDoorChecked
import Derived.Test.YtnjemlncpeekkabGreatDoorShelf
namespace Go.Vk
open Go.Proofs.Tryz
open Go.Proofs.Tryz renaming prog → o
open Go.Vk renaming iV → A, oP → C, sR → D, aa → G, sL → P, ab → Q, Res → V, ai → Z, oR → E, u2 → c, nQ → d, u1 → g, oX → l, St → m
open Value renaming int → I, slice → S, pointer → O, bool → B
open IntKind renaming i64 → J, u8 → K
open Bool renaming true → y, false → n
open Option renaming some → U, none → N
open Res renaming box → b, own → W
open Go.Proofs Go.RowKit
set_option maxHeartbeats 4000000
set_option maxRecDepth 100000
abbrev Cl:=CL o
abbrev Cq:=CQ o
abbrev bf:=cn (cn eI 3) 68
abbrev eLI:=cn eI 3
abbrev eLS:=cn qX 9
abbrev eL8:=cn e8 5
abbrev zL0:List Value:=[I J 0,I J 0,I J 0,I J 0,I J 0,I J 0,B n,B n]
abbrev zL1:List Value:=[S N 0 0,S N 0 0,I J 0,I J 0,I J 0,I J 0,I J 0,I J 0,B n,I J 0,I J 0,I J 0,I J 0,I J 0,S N 0 0,S N 0 0,S N 0 0]
abbrev zL2:List Value:=[S N 0 0,I J 0,B n,S N 0 0,I J 0,S N 0 0,S N 0 0]
abbrev zL3:List Value:=[S N 0 0,S N 0 0,I J 0,I J 0,I J 0,I J 0,I J 0,I J 0,B n,I J 0,I J 0,I J 0,I J 0,I J 0]
abbrev zL4:List Value:=[B n,I J 0,I J 0,S N 0 0,I J 0,S N 0 0,S N 0 0,I J 0,S N 0 0,I J 0,I J 0,I J 0]
def dx:Enc aK:=EK (dU qX (dU eLI eLS)) (λx=>(x.F_,x.B_,x.M_))
abbrev bZ:=cn dx 90
theorem dw {w X x c0 c1 c2}(a:qX.rd w X x.F_ c0)(h1:eLI.rd w X x.B_ c1)(e:eLS.rd w X x.M_ c2):dx.rd w X x (c0++(c1++c2)):=by
 show (dU qX (dU eLI eLS)).rd w X (x.F_,x.B_,x.M_) _;exact (fc a (fc h1 e))
theorem Jx {w X x cs}(h:dx.rd w X x cs):∃c0 c1 c2,cs=(c0++(c1++c2))∧(qX).rd w X x.F_ c0∧eLI.rd w X x.B_ c1∧eLS.rd w X x.M_ c2:=by
 obtain ⟨c0,_,rfl,a,c1,c2,rfl,h1,e⟩:=h;exact ⟨c0,c1,c2,z,a,h1,e⟩
theorem Ih {w a e f x c0 c1 c2}(h:qX.own w a x.F_ c0)(h1:eLI.own w e x.B_ c1)(i:eLS.own w f x.M_ c2):dx.own w (a++(e++f)) x (c0++(c1++c2)):=by
 show (dU qX (dU eLI eLS)).own w _ (x.F_,x.B_,x.M_) _;exact (iR h (iR h1 i))
theorem yn {w0:World}{M:List Nat}{L:List V}{w:World}{x0:List UInt8}{x1:List Int}{a:Option Addr}{e f:Nat}{q:List Nat}{x2:List (List UInt8)}{i:Option Addr}{j k:Nat}{r:List Nat}(idx:List Nat)(h:m w0 M L w)(p:jM L idx=[W eLI q x1 [S a e f],W eLS r x2 [S i j k]])(t:qA idx=y):∃F,m w0 M (nO L idx++[W dx F (aK.mk x0 x1 x2) [vS x0,S a e f,S i j k]]) w:=by
 have u:eLI.own w q x1 [S a e f]:=h.ok' (qY (L:=L) (is:=idx) (by rw [p];simp:W eLI q x1 [S a e f]∈jM L idx));have o1:eLS.own w r x2 [S i j k]:=h.ok' (qY (L:=L) (is:=idx) (by rw [p];simp:W eLS r x2 [S i j k]∈jM L idx));have v:=(Ih (x:=(aK.mk x0 x1 x2)) (⟨z,z⟩:qX.own w [] _ _) u o1);refine ⟨_,h.re idx [W dx _ (aK.mk x0 x1 x2) [vS x0,S a e f,S i j k]] t ?_ (λs p=>by rw [List.mem_singleton.1 p];exact v)⟩;rw [p];simp [eh,W]
def gW:Enc bB:=EK (dU eL8 eI) (λx=>(x.x_,x.j_))
theorem br {w X x c0 c1}(a:eL8.rd w X x.x_ c0)(h1:eI.rd w X x.j_ c1):gW.rd w X x (c0++c1):=by
 show (dU eL8 eI).rd w X (x.x_,x.j_) _;exact (fc a h1)
theorem Jp {w X x cs}(h:gW.rd w X x cs):∃c0 c1,cs=(c0++c1)∧eL8.rd w X x.x_ c0∧eI.rd w X x.j_ c1:=by
 obtain ⟨c0,c1,rfl,a,h1⟩:=h;exact ⟨c0,c1,z,a,h1⟩
theorem fZ {w X x cs}(h:gW.rd w X x cs):∃a c0,cs=[P a x.x_ c0,A x.j_]∧eL8.rd w X x.x_ [P a x.x_ c0]:=by
 obtain ⟨f,i,rfl,e,h1⟩:=Jp h;obtain ⟨a,c0,rfl⟩:=ee e;obtain rfl:=h1;exact ⟨a,c0,z,e⟩
theorem bR {w X x cs}(h:dx.rd w X x cs):∃a c0 e c1,cs=[vS x.F_,P a x.B_ c0,P e x.M_ c1]∧eLI.rd w X x.B_ [P a x.B_ c0]∧eLS.rd w X x.M_ [P e x.M_ c1]:=by
 obtain ⟨j,k,p,rfl,i,h1,f⟩:=Jx h;obtain rfl:=i;obtain ⟨a,c0,rfl⟩:=ee h1;obtain ⟨e,c1,rfl⟩:=ee f;exact ⟨a,c0,e,c1,z,h1,f⟩
def ba:Enc ae:=EK (dU bZ eLS) (λx=>(x.c_,x.g_))
theorem af {w X x c0 c1}(a:bZ.rd w X x.c_ c0)(h1:eLS.rd w X x.g_ c1):ba.rd w X x (c0++c1):=by
 show (dU bZ eLS).rd w X (x.c_,x.g_) _;exact (fc a h1)
theorem GB {w X x cs}(h:ba.rd w X x cs):∃c0 c1,cs=(c0++c1)∧bZ.rd w X x.c_ c0∧eLS.rd w X x.g_ c1:=by
 obtain ⟨c0,c1,rfl,a,h1⟩:=h;exact ⟨c0,c1,z,a,h1⟩
theorem aQ {w X x cs}(h:ba.rd w X x cs):∃a c0 e c1,cs=[P a x.c_ c0,P e x.g_ c1]∧bZ.rd w X x.c_ [P a x.c_ c0]∧eLS.rd w X x.g_ [P e x.g_ c1]:=by
 obtain ⟨i,j,rfl,f,h1⟩:=GB h;obtain ⟨a,c0,rfl⟩:=ee f;obtain ⟨e,c1,rfl⟩:=ee h1;exact ⟨a,c0,e,c1,z,f,h1⟩
def zk:Enc bO:=pz (λx=>[I J x.S_,I J x.Q_,I J x.T_,I J x.r_,I J x.a_,I J x.H_,B x.O_]) 7 (λ_=>z) (by intro x u a;simp only [List.mem_cons,List.not_mem_nil,or_false] at a;rcases a with rfl|rfl|rfl|rfl|rfl|rfl|rfl<;>rfl)
def dm:Enc aZ:=EK (dU ba (dU zk (dU eI (dU eI (dU eI (dU eI eI)))))) (λx=>(x.y_,x.d_,x.u_,x.X_,x.Z_,x.v_,x.w_))
theorem bp {w X x c0 c1 c2 c3 c4 c5 c6}(a:ba.rd w X x.y_ c0)(h1:zk.rd w X x.d_ c1)(e:eI.rd w X x.u_ c2)(f:eI.rd w X x.X_ c3)(h:eI.rd w X x.Z_ c4)(i:eI.rd w X x.v_ c5)(j:eI.rd w X x.w_ c6):dm.rd w X x (c0++(c1++(c2++(c3++(c4++(c5++c6)))))):=by
 show (dU ba (dU zk (dU eI (dU eI (dU eI (dU eI eI)))))).rd w X (x.y_,x.d_,x.u_,x.X_,x.Z_,x.v_,x.w_) _;exact (fc a (fc h1 (fc e (fc f (fc h (fc i j))))))
theorem Kf {w X x cs}(h:dm.rd w X x cs):∃c0 c1 c2 c3 c4 c5 c6,cs=(c0++(c1++(c2++(c3++(c4++(c5++c6))))))∧(ba).rd w X x.y_ c0∧(zk).rd w X x.d_ c1∧eI.rd w X x.u_ c2∧eI.rd w X x.X_ c3∧eI.rd w X x.Z_ c4∧eI.rd w X x.v_ c5∧eI.rd w X x.w_ c6:=by
 obtain ⟨c0,_,rfl,a,c1,_,rfl,h1,c2,_,rfl,e,c3,_,rfl,f,c4,_,rfl,i,c5,c6,rfl,j,k⟩:=h;exact ⟨c0,c1,c2,c3,c4,c5,c6,z,a,h1,e,f,i,j,k⟩
theorem cQ {w X x cs}(h:dm.rd w X x cs):∃a c0 e c1,cs=[P a x.y_.c_ c0,P e x.y_.g_ c1,A x.d_.S_,A x.d_.Q_,A x.d_.T_,A x.d_.r_,A x.d_.a_,A x.d_.H_,B x.d_.O_,A x.u_,A x.X_,A x.Z_,A x.v_,A x.w_]∧bZ.rd w X x.y_.c_ [P a x.y_.c_ c0]∧eLS.rd w X x.y_.g_ [P e x.y_.g_ c1]:=by
 obtain ⟨t,u,v,F,H,L,M,rfl,f,h1,i,j,k,p,q⟩:=Kf h;obtain ⟨a,c0,e,c1,rfl,r,s⟩:=aQ f;obtain rfl:=h1;obtain rfl:=i;obtain rfl:=j;obtain rfl:=k;obtain rfl:=p;obtain rfl:=q;exact ⟨a,c0,e,c1,z,r,s⟩
def ie:Enc aC:=pz (λx=>[I J x.k_,I J x.j_]) 2 (λ_=>z) (by intro x u a;simp only [List.mem_cons,List.not_mem_nil,or_false] at a;rcases a with rfl|rfl<;>rfl)
abbrev dv:=cn ie 94
def cP:Enc aD:=EK (dU eLI bf) (λx=>(x.l_,x.e_))
theorem bg {w X x c0 c1}(a:eLI.rd w X x.l_ c0)(h1:bf.rd w X x.e_ c1):cP.rd w X x (c0++c1):=by
 show (dU eLI bf).rd w X (x.l_,x.e_) _;exact (fc a h1)
theorem In {w X x cs}(h:cP.rd w X x cs):∃c0 c1,cs=(c0++c1)∧eLI.rd w X x.l_ c0∧bf.rd w X x.e_ c1:=by
 obtain ⟨c0,c1,rfl,a,h1⟩:=h;exact ⟨c0,c1,z,a,h1⟩
theorem GA {w a e x c0 c1}(f:eLI.own w a x.l_ c0)(h1:bf.own w e x.e_ c1):cP.own w (a++e) x (c0++c1):=by
 show (dU eLI bf).own w _ (x.l_,x.e_) _;exact (iR f h1)
theorem FR {w F x cs}(h:cP.own w F x cs):∃a e c0 c1,F=(a++e)∧cs=(c0++c1)∧eLI.own w a x.l_ c0∧bf.own w e x.e_ c1:=by
 obtain ⟨a,e,c0,c1,rfl,rfl,f,h1⟩:=h;exact ⟨a,e,c0,c1,z,z,f,h1⟩
def cV:Enc az:=EK (dU xf (dU ie (dU eLI (dU eI (dU cP (dU eI (dU eLI (dU eI (dU eI eI))))))))) (λx=>(x.D_,x.n_,x.C_,x.J_,x.q_,x.K_,x.c_,x.r_,x.G_,x.E_))
abbrev aX:=cn cV 98
theorem iT {w X x c0 c1 c2 c3 c4 c5 c6 c7 c8 c9}(a:xf.rd w X x.D_ c0)(h1:ie.rd w X x.n_ c1)(e:eLI.rd w X x.C_ c2)(f:eI.rd w X x.J_ c3)(h:cP.rd w X x.q_ c4)(i:eI.rd w X x.K_ c5)(j:eLI.rd w X x.c_ c6)(k:eI.rd w X x.r_ c7)(p:eI.rd w X x.G_ c8)(q:eI.rd w X x.E_ c9):cV.rd w X x (c0++(c1++(c2++(c3++(c4++(c5++(c6++(c7++(c8++c9))))))))):=by
 show (dU xf (dU ie (dU eLI (dU eI (dU cP (dU eI (dU eLI (dU eI (dU eI eI))))))))).rd w X (x.D_,x.n_,x.C_,x.J_,x.q_,x.K_,x.c_,x.r_,x.G_,x.E_) _;exact (fc a (fc h1 (fc e (fc f (fc h (fc i (fc j (fc k (fc p q)))))))))
theorem IV {w X x cs}(h:cV.rd w X x cs):∃c0 c1 c2 c3 c4 c5 c6 c7 c8 c9,cs=(c0++(c1++(c2++(c3++(c4++(c5++(c6++(c7++(c8++c9)))))))))∧(xf).rd w X x.D_ c0∧(ie).rd w X x.n_ c1∧eLI.rd w X x.C_ c2∧eI.rd w X x.J_ c3∧(cP).rd w X x.q_ c4∧eI.rd w X x.K_ c5∧eLI.rd w X x.c_ c6∧eI.rd w X x.r_ c7∧eI.rd w X x.G_ c8∧eI.rd w X x.E_ c9:=by
 obtain ⟨c0,_,rfl,a,c1,_,rfl,h1,c2,_,rfl,e,c3,_,rfl,f,c4,_,rfl,i,c5,_,rfl,j,c6,_,rfl,k,c7,_,rfl,p,c8,c9,rfl,q,r⟩:=h;exact ⟨c0,c1,c2,c3,c4,c5,c6,c7,c8,c9,z,a,h1,e,f,i,j,k,p,q,r⟩
theorem Is {w a e f h i j k p q r x c0 c1 c2 c3 c4 c5 c6 c7 c8 c9}(s:xf.own w a x.D_ c0)(h1:ie.own w e x.n_ c1)(t:eLI.own w f x.C_ c2)(u:eI.own w h x.J_ c3)(v:cP.own w i x.q_ c4)(F:eI.own w j x.K_ c5)(H:eLI.own w k x.c_ c6)(L:eI.own w p x.r_ c7)(M:eI.own w q x.G_ c8)(R:eI.own w r x.E_ c9):cV.own w (a++(e++(f++(h++(i++(j++(k++(p++(q++r))))))))) x (c0++(c1++(c2++(c3++(c4++(c5++(c6++(c7++(c8++c9))))))))):=by
 show (dU xf (dU ie (dU eLI (dU eI (dU cP (dU eI (dU eLI (dU eI (dU eI eI))))))))).own w _ (x.D_,x.n_,x.C_,x.J_,x.q_,x.K_,x.c_,x.r_,x.G_,x.E_) _;exact (iR s (iR h1 (iR t (iR u (iR v (iR F (iR H (iR L (iR M R)))))))))
theorem Ie {w F x cs}(h:cV.own w F x cs):∃a e f i j k p q r s c0 c1 c2 c3 c4 c5 c6 c7 c8 c9,F=(a++(e++(f++(i++(j++(k++(p++(q++(r++s)))))))))∧cs=(c0++(c1++(c2++(c3++(c4++(c5++(c6++(c7++(c8++c9)))))))))∧(xf).own w a x.D_ c0∧(ie).own w e x.n_ c1∧eLI.own w f x.C_ c2∧eI.own w i x.J_ c3∧(cP).own w j x.q_ c4∧eI.own w k x.K_ c5∧eLI.own w p x.c_ c6∧eI.own w q x.r_ c7∧eI.own w r x.G_ c8∧eI.own w s x.E_ c9:=by
 obtain ⟨a,_,c0,_,rfl,rfl,t,e,_,c1,_,rfl,rfl,h1,f,_,c2,_,rfl,rfl,u,i,_,c3,_,rfl,rfl,v,j,_,c4,_,rfl,rfl,H,k,_,c5,_,rfl,rfl,L,p,_,c6,_,rfl,rfl,M,q,_,c7,_,rfl,rfl,R,r,s,c8,c9,rfl,rfl,X,h9⟩:=h;exact ⟨a,e,f,i,j,k,p,q,r,s,c0,c1,c2,c3,c4,c5,c6,c7,c8,c9,z,z,t,h1,u,v,H,L,M,R,X,h9⟩
theorem fF {w0:World}{M:List Nat}{L:List V}{w:World}{F:List Nat}{x:az}{cs:List Value}{i:Nat}(h:m w0 M L w)(u:L[i]?=U (W cV F x cs)):∃(e:Option Addr)(f:Nat)(v:List Nat),∃(j:Option Addr)(k:Nat)(H:List Nat),∃(p:Option Addr)(q:Nat)(R:List Nat),∃(r:Option Addr)(t:Nat)(X:List Nat),cs=[B x.D_,A x.n_.k_,A x.n_.j_,S e (x.C_).length f,A x.J_,S j (x.q_.l_).length k,S p (x.q_.e_).length q,A x.K_,S r (x.c_).length t,A x.r_,A x.G_,A x.E_]∧m w0 M (nO L [i]++[W eLI v x.C_ [S e (x.C_).length f],W eLI H x.q_.l_ [S j (x.q_.l_).length k],W bf R x.q_.e_ [S p (x.q_.e_).length q],W eLI X x.c_ [S r (x.c_).length t]]) w:=by
 obtain ⟨a,_,_⟩:=h.one u;have a:cV.own w F x cs:=a;obtain ⟨F1_0,F1_1,F1_2,F1_3,F1_4,F1_5,F1_6,F1_7,F1_8,F1_9,c1_0,c1_1,c1_2,c1_3,c1_4,c1_5,c1_6,c1_7,c1_8,c1_9,rfl,rfl,h1_0,h1_1,h1_2,h1_3,h1_4,h1_5,h1_6,h1_7,h1_8,h1_9⟩:=Ie a;obtain ⟨rfl,rfl⟩:F1_0=[]∧c1_0=[B x.D_]:=h1_0;obtain ⟨rfl,rfl⟩:F1_1=[]∧c1_1=[A x.n_.k_,A x.n_.j_]:=h1_1;obtain ⟨a2,k2,rfl⟩:=tU h1_2;obtain ⟨rfl,rfl⟩:F1_3=[]∧c1_3=[A x.J_]:=h1_3;obtain ⟨F3_0,F3_1,c3_0,c3_1,rfl,rfl,h3_0,h3_1⟩:=FR h1_4;obtain ⟨a4,k4,rfl⟩:=tU h3_0;obtain ⟨a5,k5,rfl⟩:=tU h3_1;obtain ⟨rfl,rfl⟩:F1_5=[]∧c1_5=[A x.K_]:=h1_5;obtain ⟨a6,k6,rfl⟩:=tU h1_6;obtain ⟨rfl,rfl⟩:F1_7=[]∧c1_7=[A x.r_]:=h1_7;obtain ⟨rfl,rfl⟩:F1_8=[]∧c1_8=[A x.G_]:=h1_8;obtain ⟨rfl,rfl⟩:F1_9=[]∧c1_9=[A x.E_]:=h1_9;refine ⟨a2,k2,F1_2,a4,k4,F3_0,a5,k5,F3_1,a6,k6,F1_6,z,h.re [i] _ z ?_ ?_⟩
 ·simp [nc,wx,u,eh,W]
 intro s hs;simp only [List.mem_cons,List.not_mem_nil,or_false] at hs;rcases hs with rfl|rfl|rfl|rfl
 ·exact h1_2
 ·exact h3_0
 ·exact h3_1
 exact h1_6
theorem dN {w0:World}{M:List Nat}{L:List V}{w:World}{x0:Bool}{x1 x2:Int}{i:List Int}{k:Option Addr}{p q:Nat}{G3:List Nat}{x4:Int}{a:List Int}{r:Option Addr}{t u:Nat}{G5:List Nat}{e:List (List Int)}{v:Option Addr}{H R:Nat}{G6:List Nat}{x7:Int}{j:List Int}{X:Option Addr}{n8 k8:Nat}{G8:List Nat}{x9 x10 x11:Int}(idx:List Nat)(h:m w0 M L w)(f:jM L idx=[W eLI G3 i [S k p q],W eLI G5 a [S r t u],W bf G6 e [S v H R],W eLI G8 j [S X n8 k8]])(hn:qA idx=y):∃F,m w0 M (nO L idx++[W cV F (az.mk x0 (aC.mk x1 x2) i x4 (aD.mk a e) x7 j x9 x10 x11) [B x0,A x1,A x2,S k p q,A x4,S r t u,S v H R,A x7,S X n8 k8,A x9,A x10,A x11]]) w:=by
 have o0:eLI.own w G3 i [S k p q]:=h.ok' (qY (L:=L) (is:=idx) (by rw [f];simp:W eLI G3 i [S k p q]∈jM L idx));have o1:eLI.own w G5 a [S r t u]:=h.ok' (qY (L:=L) (is:=idx) (by rw [f];simp:W eLI G5 a [S r t u]∈jM L idx));have o2:bf.own w G6 e [S v H R]:=h.ok' (qY (L:=L) (is:=idx) (by rw [f];simp:W bf G6 e [S v H R]∈jM L idx));have o3:eLI.own w G8 j [S X n8 k8]:=h.ok' (qY (L:=L) (is:=idx) (by rw [f];simp:W eLI G8 j [S X n8 k8]∈jM L idx));have ho:=(Is (x:=(az.mk x0 (aC.mk x1 x2) i x4 (aD.mk a e) x7 j x9 x10 x11)) (⟨z,z⟩:xf.own w [] _ _) (⟨z,z⟩:ie.own w [] _ _) o0 (⟨z,z⟩:eI.own w [] _ _) (GA (x:=(aD.mk a e)) o1 o2) (⟨z,z⟩:eI.own w [] _ _) o3 (⟨z,z⟩:eI.own w [] _ _) (⟨z,z⟩:eI.own w [] _ _) (⟨z,z⟩:eI.own w [] _ _));refine ⟨_,h.re idx [W cV _ (az.mk x0 (aC.mk x1 x2) i x4 (aD.mk a e) x7 j x9 x10 x11) [B x0,A x1,A x2,S k p q,A x4,S r t u,S v H R,A x7,S X n8 k8,A x9,A x10,A x11]] hn ?_ (λs f=>by rw [List.mem_singleton.1 f];exact ho)⟩;rw [f];simp [eh,W]
def bN:Enc am:=EK (dU aX eI) (λx=>(x.a_,x.o_))
theorem aB {w X x c0 c1}(a:aX.rd w X x.a_ c0)(h1:eI.rd w X x.o_ c1):bN.rd w X x (c0++c1):=by
 show (dU aX eI).rd w X (x.a_,x.o_) _;exact (fc a h1)
theorem JM {w X x cs}(h:bN.rd w X x cs):∃c0 c1,cs=(c0++c1)∧aX.rd w X x.a_ c0∧eI.rd w X x.o_ c1:=by
 obtain ⟨c0,c1,rfl,a,h1⟩:=h;exact ⟨c0,c1,z,a,h1⟩
theorem BM {w a e x c0 c1}(f:aX.own w a x.a_ c0)(h1:eI.own w e x.o_ c1):bN.own w (a++e) x (c0++c1):=by
 show (dU aX eI).own w _ (x.a_,x.o_) _;exact (iR f h1)
theorem BR {w F x cs}(h:bN.own w F x cs):∃a e c0 c1,F=(a++e)∧cs=(c0++c1)∧aX.own w a x.a_ c0∧eI.own w e x.o_ c1:=by
 obtain ⟨a,e,c0,c1,rfl,rfl,f,h1⟩:=h;exact ⟨a,e,c0,c1,z,z,f,h1⟩
def cg:Enc au:=EK bf (λx=>x.f_)
theorem aw {w X x c0}(a:bf.rd w X x.f_ c0):cg.rd w X x c0:=by
 show bf.rd w X x.f_ _;exact a
theorem FZ {w X x cs}(h:cg.rd w X x cs):∃c0,cs=c0∧bf.rd w X x.f_ c0:=by
 exact ⟨cs,z,h⟩
theorem yW {w a x c0}(e:bf.own w a x.f_ c0):cg.own w a x c0:=by
 show bf.own w _ x.f_ _;exact e
def fC:Enc cx:=EK (dU cg cg) (λx=>(x.v_,x.w_))
theorem cE {w X x c0 c1}(a:cg.rd w X x.v_ c0)(h1:cg.rd w X x.w_ c1):fC.rd w X x (c0++c1):=by
 show (dU cg cg).rd w X (x.v_,x.w_) _;exact (fc a h1)
theorem KL {w X x cs}(h:fC.rd w X x cs):∃c0 c1,cs=(c0++c1)∧(cg).rd w X x.v_ c0∧(cg).rd w X x.w_ c1:=by
 obtain ⟨c0,c1,rfl,a,h1⟩:=h;exact ⟨c0,c1,z,a,h1⟩
theorem Km {w a e x c0 c1}(f:cg.own w a x.v_ c0)(h1:cg.own w e x.w_ c1):fC.own w (a++e) x (c0++c1):=by
 show (dU cg cg).own w _ (x.v_,x.w_) _;exact (iR f h1)
theorem Jf {w F x cs}(h:fC.own w F x cs):∃a e c0 c1,F=(a++e)∧cs=(c0++c1)∧(cg).own w a x.v_ c0∧(cg).own w e x.w_ c1:=by
 obtain ⟨a,e,c0,c1,rfl,rfl,f,h1⟩:=h;exact ⟨a,e,c0,c1,z,z,f,h1⟩
def cf:Enc aA:=EK (dU bN (dU xf (dU bN fC))) (λx=>(x.A_,x.N_,x.s_,x.z_))
abbrev bC:=cn cf 65
theorem de {w X x c0 c1 c2 c3}(a:bN.rd w X x.A_ c0)(h1:xf.rd w X x.N_ c1)(e:bN.rd w X x.s_ c2)(f:fC.rd w X x.z_ c3):cf.rd w X x (c0++(c1++(c2++c3))):=by
 show (dU bN (dU xf (dU bN fC))).rd w X (x.A_,x.N_,x.s_,x.z_) _;exact (fc a (fc h1 (fc e f)))
theorem Gw {w X x cs}(h:cf.rd w X x cs):∃c0 c1 c2 c3,cs=(c0++(c1++(c2++c3)))∧(bN).rd w X x.A_ c0∧(xf).rd w X x.N_ c1∧(bN).rd w X x.s_ c2∧(fC).rd w X x.z_ c3:=by
 obtain ⟨c0,_,rfl,a,c1,_,rfl,h1,c2,c3,rfl,e,f⟩:=h;exact ⟨c0,c1,c2,c3,z,a,h1,e,f⟩
theorem EY {w a e f h x c0 c1 c2 c3}(i:bN.own w a x.A_ c0)(h1:xf.own w e x.N_ c1)(j:bN.own w f x.s_ c2)(k:fC.own w h x.z_ c3):cf.own w (a++(e++(f++h))) x (c0++(c1++(c2++c3))):=by
 show (dU bN (dU xf (dU bN fC))).own w _ (x.A_,x.N_,x.s_,x.z_) _;exact (iR i (iR h1 (iR j k)))
theorem Fx {w F x cs}(h:cf.own w F x cs):∃a e f i c0 c1 c2 c3,F=(a++(e++(f++i)))∧cs=(c0++(c1++(c2++c3)))∧(bN).own w a x.A_ c0∧(xf).own w e x.N_ c1∧(bN).own w f x.s_ c2∧(fC).own w i x.z_ c3:=by
 obtain ⟨a,_,c0,_,rfl,rfl,j,e,_,c1,_,rfl,rfl,h1,f,i,c2,c3,rfl,rfl,k,p⟩:=h;exact ⟨a,e,f,i,c0,c1,c2,c3,z,z,j,h1,k,p⟩
theorem Gg {w0:World}{M:List Nat}{L:List V}{w:World}{F:List Nat}{x:aA}{cs:List Value}{i:Nat}(h:m w0 M L w)(u:L[i]?=U (W cf F x cs)):∃(e:Option Addr)(f:Nat)(v:List Nat),∃(j:Option Addr)(k:Nat)(H:List Nat),∃(p:Option Addr)(q:Nat)(R:List Nat),∃(r:Option Addr)(t:Nat)(X:List Nat),cs=[S e (x.A_.a_).length f,A x.A_.o_,B x.N_,S j (x.s_.a_).length k,A x.s_.o_,S p (x.z_.v_.f_).length q,S r (x.z_.w_.f_).length t]∧m w0 M (nO L [i]++[W aX v x.A_.a_ [S e (x.A_.a_).length f],W aX H x.s_.a_ [S j (x.s_.a_).length k],W bf R x.z_.v_.f_ [S p (x.z_.v_.f_).length q],W bf X x.z_.w_.f_ [S r (x.z_.w_.f_).length t]]) w:=by
 obtain ⟨a,_,_⟩:=h.one u;have a:cf.own w F x cs:=a;obtain ⟨F1_0,F1_1,F1_2,F1_3,c1_0,c1_1,c1_2,c1_3,rfl,rfl,h1_0,h1_1,h1_2,h1_3⟩:=Fx a;obtain ⟨F2_0,F2_1,c2_0,c2_1,rfl,rfl,h2_0,h2_1⟩:=BR h1_0;obtain ⟨a3,k3,rfl⟩:=tU h2_0;obtain ⟨rfl,rfl⟩:F2_1=[]∧c2_1=[A x.A_.o_]:=h2_1;obtain ⟨rfl,rfl⟩:F1_1=[]∧c1_1=[B x.N_]:=h1_1;obtain ⟨F4_0,F4_1,c4_0,c4_1,rfl,rfl,h4_0,h4_1⟩:=BR h1_2;obtain ⟨a5,k5,rfl⟩:=tU h4_0;obtain ⟨rfl,rfl⟩:F4_1=[]∧c4_1=[A x.s_.o_]:=h4_1;obtain ⟨F6_0,F6_1,c6_0,c6_1,rfl,rfl,h6_0,h6_1⟩:=Jf h1_3;have h7_0:bf.own w F6_0 (x.z_.v_.f_) c6_0:=h6_0;obtain ⟨a8,k8,rfl⟩:=tU h7_0;have h9_0:bf.own w F6_1 (x.z_.w_.f_) c6_1:=h6_1;obtain ⟨a0,a1,rfl⟩:=tU h9_0;refine ⟨a3,k3,F2_0,a5,k5,F4_0,a8,k8,F6_0,a0,a1,F6_1,z,h.re [i] _ z ?_ ?_⟩
 ·simp [nc,wx,u,eh,W]
 intro s hs;simp only [List.mem_cons,List.not_mem_nil,or_false] at hs;rcases hs with rfl|rfl|rfl|rfl
 ·exact h2_0
 ·exact h4_0
 ·exact h7_0
 exact h9_0
theorem mu {w0:World}{M:List Nat}{L:List V}{w:World}{x0:List az}{j:Option Addr}{k p:Nat}{G0:List Nat}{x1:Int}{x2:Bool}{f:List az}{q:Option Addr}{r t:Nat}{G3:List Nat}{x4:Int}{a:List (List Int)}{u:Option Addr}{v H:Nat}{G5:List Nat}{e:List (List Int)}{R:Option Addr}{X k6:Nat}{G6:List Nat}(idx:List Nat)(h:m w0 M L w)(i:jM L idx=[W aX G0 x0 [S j k p],W aX G3 f [S q r t],W bf G5 a [S u v H],W bf G6 e [S R X k6]])(hn:qA idx=y):∃F,m w0 M (nO L idx++[W cf F (aA.mk (am.mk x0 x1) x2 (am.mk f x4) (cx.mk (au.mk a) (au.mk e))) [S j k p,A x1,B x2,S q r t,A x4,S u v H,S R X k6]]) w:=by
 have o0:aX.own w G0 x0 [S j k p]:=h.ok' (qY (L:=L) (is:=idx) (by rw [i];simp:W aX G0 x0 [S j k p]∈jM L idx));have o1:aX.own w G3 f [S q r t]:=h.ok' (qY (L:=L) (is:=idx) (by rw [i];simp:W aX G3 f [S q r t]∈jM L idx));have o2:bf.own w G5 a [S u v H]:=h.ok' (qY (L:=L) (is:=idx) (by rw [i];simp:W bf G5 a [S u v H]∈jM L idx));have o3:bf.own w G6 e [S R X k6]:=h.ok' (qY (L:=L) (is:=idx) (by rw [i];simp:W bf G6 e [S R X k6]∈jM L idx));have ho:=(EY (x:=(aA.mk (am.mk x0 x1) x2 (am.mk f x4) (cx.mk (au.mk a) (au.mk e)))) (BM (x:=(am.mk x0 x1)) o0 (⟨z,z⟩:eI.own w [] _ _)) (⟨z,z⟩:xf.own w [] _ _) (BM (x:=(am.mk f x4)) o1 (⟨z,z⟩:eI.own w [] _ _)) (Km (x:=(cx.mk (au.mk a) (au.mk e))) (yW (x:=(au.mk a)) o2) (yW (x:=(au.mk e)) o3)));refine ⟨_,h.re idx [W cf _ (aA.mk (am.mk x0 x1) x2 (am.mk f x4) (cx.mk (au.mk a) (au.mk e))) [S j k p,A x1,B x2,S q r t,A x4,S u v H,S R X k6]] hn ?_ (λs i=>by rw [List.mem_singleton.1 i];exact ho)⟩;rw [i];simp [eh,W]
theorem dF {w X x cs}(h:cP.rd w X x cs):∃a c0 e c1,cs=[P a x.l_ c0,P e x.e_ c1]∧eLI.rd w X x.l_ [P a x.l_ c0]∧bf.rd w X x.e_ [P e x.e_ c1]:=by
 obtain ⟨i,j,rfl,f,h1⟩:=In h;obtain ⟨a,c0,rfl⟩:=ee f;obtain ⟨e,c1,rfl⟩:=ee h1;exact ⟨a,c0,e,c1,z,f,h1⟩
theorem bo {w X x cs}(h:cV.rd w X x cs):∃a c0 e c1 f c2 i c3,cs=[B x.D_,A x.n_.k_,A x.n_.j_,P a x.C_ c0,A x.J_,P e x.q_.l_ c1,P f x.q_.e_ c2,A x.K_,P i x.c_ c3,A x.r_,A x.G_,A x.E_]∧eLI.rd w X x.C_ [P a x.C_ c0]∧eLI.rd w X x.q_.l_ [P e x.q_.l_ c1]∧bf.rd w X x.q_.e_ [P f x.q_.e_ c2]∧eLI.rd w X x.c_ [P i x.c_ c3]:=by
 obtain ⟨L,M,R,d3,d4,d5,d6,d7,d8,d9,rfl,p,h1,j,q,r,s,k,t,u,v⟩:=IV h;obtain rfl:=p;obtain rfl:=h1;obtain ⟨a,c0,rfl⟩:=ee j;obtain rfl:=q;obtain ⟨e,c1,f,c2,rfl,F,H⟩:=dF r;obtain rfl:=s;obtain ⟨i,c3,rfl⟩:=ee k;obtain rfl:=t;obtain rfl:=u;obtain rfl:=v;exact ⟨a,c0,e,c1,f,c2,i,c3,z,j,F,H,k⟩
theorem cl {w X x cs}(h:bN.rd w X x cs):∃a c0,cs=[P a x.a_ c0,A x.o_]∧aX.rd w X x.a_ [P a x.a_ c0]:=by
 obtain ⟨f,i,rfl,e,h1⟩:=JM h;obtain ⟨a,c0,rfl⟩:=ee e;obtain rfl:=h1;exact ⟨a,c0,z,e⟩
theorem dt {w X x cs}(h:cg.rd w X x cs):∃a c0,cs=[P a x.f_ c0]∧bf.rd w X x.f_ [P a x.f_ c0]:=by
 obtain ⟨f,rfl,e⟩:=FZ h;obtain ⟨a,c0,rfl⟩:=ee e;exact ⟨a,c0,z,e⟩
theorem lc {w X x cs}(h:fC.rd w X x cs):∃a c0 e c1,cs=[P a x.v_.f_ c0,P e x.w_.f_ c1]∧bf.rd w X x.v_.f_ [P a x.v_.f_ c0]∧bf.rd w X x.w_.f_ [P e x.w_.f_ c1]:=by
 obtain ⟨k,p,rfl,f,h1⟩:=KL h;obtain ⟨a,c0,rfl,i⟩:=dt f;obtain ⟨e,c1,rfl,j⟩:=dt h1;exact ⟨a,c0,e,c1,z,i,j⟩
theorem dq {w X x cs}(h:cf.rd w X x cs):∃a c0 e c1 f c2 i c3,cs=[P a x.A_.a_ c0,A x.A_.o_,B x.N_,P e x.s_.a_ c1,A x.s_.o_,P f x.z_.v_.f_ c2,P i x.z_.w_.f_ c3]∧aX.rd w X x.A_.a_ [P a x.A_.a_ c0]∧aX.rd w X x.s_.a_ [P e x.s_.a_ c1]∧bf.rd w X x.z_.v_.f_ [P f x.z_.v_.f_ c2]∧bf.rd w X x.z_.w_.f_ [P i x.z_.w_.f_ c3]:=by
 obtain ⟨u,v,F,H,rfl,j,h1,k,p⟩:=Gw h;obtain ⟨a,c0,rfl,q⟩:=cl j;obtain rfl:=h1;obtain ⟨e,c1,rfl,r⟩:=cl k;obtain ⟨f,c2,i,c3,rfl,s,t⟩:=lc p;exact ⟨a,c0,e,c1,f,c2,i,c3,z,q,r,s,t⟩
def fk:Enc bj:=EK bC (λx=>x.u_)
theorem dg {w X x c0}(a:bC.rd w X x.u_ c0):fk.rd w X x c0:=by
 show bC.rd w X x.u_ _;exact a
theorem FY {w X x cs}(h:fk.rd w X x cs):∃c0,cs=c0∧bC.rd w X x.u_ c0:=by
 exact ⟨cs,z,h⟩
theorem iu {w X x cs}(h:fk.rd w X x cs):∃a c0,cs=[P a x.u_ c0]∧bC.rd w X x.u_ [P a x.u_ c0]:=by
 obtain ⟨f,rfl,e⟩:=FY h;obtain ⟨a,c0,rfl⟩:=ee e;exact ⟨a,c0,z,e⟩
def iQ:Enc cq:=EK (dU eLI eI) (λx=>(x.R_,x.Y_))
abbrev EE:=cn iQ 175
theorem dM {w X x c0 c1}(a:eLI.rd w X x.R_ c0)(h1:eI.rd w X x.Y_ c1):iQ.rd w X x (c0++c1):=by
 show (dU eLI eI).rd w X (x.R_,x.Y_) _;exact (fc a h1)
theorem MP {w X x cs}(h:iQ.rd w X x cs):∃c0 c1,cs=(c0++c1)∧eLI.rd w X x.R_ c0∧eI.rd w X x.Y_ c1:=by
 obtain ⟨c0,c1,rfl,a,h1⟩:=h;exact ⟨c0,c1,z,a,h1⟩
theorem KT {w a e x c0 c1}(f:eLI.own w a x.R_ c0)(h1:eI.own w e x.Y_ c1):iQ.own w (a++e) x (c0++c1):=by
 show (dU eLI eI).own w _ (x.R_,x.Y_) _;exact (iR f h1)
theorem MQ {w0:World}{M:List Nat}{L:List V}{w:World}{x0:List Int}{a:Option Addr}{e f:Nat}{j:List Nat}{x1:Int}(idx:List Nat)(h:m w0 M L w)(i:jM L idx=[W eLI j x0 [S a e f]])(k:qA idx=y):∃F,m w0 M (nO L idx++[W iQ F (cq.mk x0 x1) [S a e f,A x1]]) w:=by
 have p:eLI.own w j x0 [S a e f]:=h.ok' (qY (L:=L) (is:=idx) (by rw [i];simp:W eLI j x0 [S a e f]∈jM L idx));have q:=(KT (x:=(cq.mk x0 x1)) p (⟨z,z⟩:eI.own w [] _ _));refine ⟨_,h.re idx [W iQ _ (cq.mk x0 x1) [S a e f,A x1]] k ?_ (λs i=>by rw [List.mem_singleton.1 i];exact q)⟩;rw [i];simp [eh,W]
theorem lh {w X x cs}(h:iQ.rd w X x cs):∃a c0,cs=[P a x.R_ c0,A x.Y_]∧eLI.rd w X x.R_ [P a x.R_ c0]:=by
 obtain ⟨f,i,rfl,e,h1⟩:=MP h;obtain ⟨a,c0,rfl⟩:=ee e;obtain rfl:=h1;exact ⟨a,c0,z,e⟩
def mg:Enc cA:=pz (λx=>[I J x.n_.k_,I J x.n_.j_,I J x.W_.I_,I J x.W_.ab_]) 4 (λ_=>z) (by intro x u a;simp only [List.mem_cons,List.not_mem_nil,or_false] at a;rcases a with rfl|rfl|rfl|rfl<;>rfl)
abbrev dr:=cn mg 291
def pO:Enc dl:=pz (λx=>[I J x.af_,I J x.ac_]) 2 (λ_=>z) (by intro x u a;simp only [List.mem_cons,List.not_mem_nil,or_false] at a;rcases a with rfl|rfl<;>rfl)
abbrev dB:=cn pO 325
def zp:Enc dW:=pz (λx=>[I J x.V_,I J x.ae_,I J x.ah_,I J x.ag_,I J x.s_,I J x.z_,B x.aj_,B x.ai_]) 8 (λ_=>z) (by intro x u a;simp only [List.mem_cons,List.not_mem_nil,or_false] at a;rcases a with rfl|rfl|rfl|rfl|rfl|rfl|rfl|rfl<;>rfl)
abbrev mF:=cn zp 213
def dI:Enc aG:=pz (λx=>[I J x.U_,I J x.V_]) 2 (λ_=>z) (by intro x u a;simp only [List.mem_cons,List.not_mem_nil,or_false] at a;rcases a with rfl|rfl<;>rfl)
abbrev bx:=cn dI 71
def fw:Enc aW:=EK (dU bf bx) (λx=>(x.p_,x.t_))
theorem da {w X x c0 c1}(a:bf.rd w X x.p_ c0)(h1:bx.rd w X x.t_ c1):fw.rd w X x (c0++c1):=by
 show (dU bf bx).rd w X (x.p_,x.t_) _;exact (fc a h1)
theorem HT {w X x cs}(h:fw.rd w X x cs):∃c0 c1,cs=(c0++c1)∧bf.rd w X x.p_ c0∧bx.rd w X x.t_ c1:=by
 obtain ⟨c0,c1,rfl,a,h1⟩:=h;exact ⟨c0,c1,z,a,h1⟩
theorem il {w X x cs}(h:fw.rd w X x cs):∃a c0 e c1,cs=[P a x.p_ c0,P e x.t_ c1]∧bf.rd w X x.p_ [P a x.p_ c0]∧bx.rd w X x.t_ [P e x.t_ c1]:=by
 obtain ⟨i,j,rfl,f,h1⟩:=HT h;obtain ⟨a,c0,rfl⟩:=ee f;obtain ⟨e,c1,rfl⟩:=ee h1;exact ⟨a,c0,e,c1,z,f,h1⟩
def ld (x:aG):List Value:=[I J x.U_,I J x.V_]
theorem ZO:∀a b:aG,IR o 71 (ld a) (ld b)=U (a.U_==b.U_&&(a.V_==b.V_&&y)):=by
 intro a b
 kernel_rfl
theorem Yr:Lr o 71 ld:=Vl ZO (by intro a b;cases a;cases b;rw [Bool.eq_iff_iff];simp) (by intro a;simp [ld,Instr.sameBits]) (by kernel_rfl)
def lf:Enc aF:=EK (dU dm (dU fk fw)) (λx=>(x.m_,x.aa_,x.L_))
theorem km {w X x c0 c1 c2}(a:dm.rd w X x.m_ c0)(h1:fk.rd w X x.aa_ c1)(e:fw.rd w X x.L_ c2):lf.rd w X x (c0++(c1++c2)):=by
 show (dU dm (dU fk fw)).rd w X (x.m_,x.aa_,x.L_) _;exact (fc a (fc h1 e))
theorem HJ {w X x cs}(h:lf.rd w X x cs):∃c0 c1 c2,cs=(c0++(c1++c2))∧(dm).rd w X x.m_ c0∧(fk).rd w X x.aa_ c1∧(fw).rd w X x.L_ c2:=by
 obtain ⟨c0,_,rfl,a,c1,c2,rfl,h1,e⟩:=h;exact ⟨c0,c1,c2,z,a,h1,e⟩
theorem lB {w X x cs}(h:lf.rd w X x cs):∃a c0 e c1 f c2 i c3 j c4,cs=[P a x.m_.y_.c_ c0,P e x.m_.y_.g_ c1,A x.m_.d_.S_,A x.m_.d_.Q_,A x.m_.d_.T_,A x.m_.d_.r_,A x.m_.d_.a_,A x.m_.d_.H_,B x.m_.d_.O_,A x.m_.u_,A x.m_.X_,A x.m_.Z_,A x.m_.v_,A x.m_.w_,P f x.aa_.u_ c2,P i x.L_.p_ c3,P j x.L_.t_ c4]∧bZ.rd w X x.m_.y_.c_ [P a x.m_.y_.c_ c0]∧eLS.rd w X x.m_.y_.g_ [P e x.m_.y_.g_ c1]∧bC.rd w X x.aa_.u_ [P f x.aa_.u_ c2]∧bf.rd w X x.L_.p_ [P i x.L_.p_ c3]∧bx.rd w X x.L_.t_ [P j x.L_.t_ c4]:=by
 obtain ⟨v,F,H,rfl,k,h1,p⟩:=HJ h;obtain ⟨a,c0,e,c1,rfl,q,r⟩:=cQ k;obtain ⟨f,c2,rfl,s⟩:=iu h1;obtain ⟨i,c3,j,c4,rfl,t,u⟩:=il p;exact ⟨a,c0,e,c1,f,c2,i,c3,j,c4,z,q,r,s,t,u⟩
theorem lv:isSl o 22 5:=nZ
theorem ty5:eN o 5 n 1 1 [I K 0]:=eF
theorem us5:(o.underlying 5).isSome=y:=by kernel_rfl
theorem in3:Es o 3 J:=Kq (by kernel_rfl)
theorem ZR:eN o 86 y 3 40 [S N 0 0,A 0,A 0]:=eF
theorem ZS:vo o 86 [(0,1),(1,1),(2,1)]:=jI
theorem Nl:fR o 86 2 2:=cd
theorem ty3:eN o 3 n 1 8 [A 0]:=eF
theorem bz:o.follows .mixedOrders=y:=by kernel_rfl
theorem MO:fR o 86 1 1:=cd
theorem UF:fR o 86 0 0:=cd
theorem Dh:eN o 22 n 1 24 [S N 0 0]:=eF
theorem aO:isSl o 68 3:=nZ
theorem dJ:eN o 90 y 3 64 [vS [],S N 0 0,S N 0 0]:=eF
theorem fq:isSl o 25 9:=nZ
theorem ty9:eN o 9 n 1 16 [vS []]:=eF
theorem TM:vo o 90 [(0,1),(1,1),(2,1)]:=jI
theorem jP:fR o 90 1 1:=cd
theorem bt:eN o 68 n 1 24 [S N 0 0]:=eF
theorem qd:fR o 90 2 2:=cd
theorem kZ:eN o 25 n 1 24 [S N 0 0]:=eF
theorem cz:eN o 27 y 2 48 [S N 0 0,S N 0 0]:=eF
theorem UM:vo o 27 [(0,1),(1,1)]:=jI
theorem gO:fR o 27 1 1:=cd
theorem dH:fR o 27 0 0:=cd
theorem jS:eN o 24 n 1 24 [S N 0 0]:=eF
theorem jb:isSl o 24 90:=nZ
theorem jV:eN o 29 y 7 56 [A 0,A 0,A 0,A 0,A 0,A 0,B n]:=eF
theorem ZI:vo o 29 [(0,1),(1,1),(2,1),(3,1),(4,1),(5,1),(6,1)]:=jI
theorem gC:eN o 31 y 14 144 zL3:=eF
theorem Dy:fR o 29 2 2:=cd
theorem Cy:fR o 29 0 0:=cd
theorem Bs:fR o 29 3 3:=cd
theorem Bd:fR o 29 4 4:=cd
theorem ZN:vo o 31 [(0,2),(2,7),(9,1),(10,1),(11,1),(12,1),(13,1)]:=jI
theorem uN:fR o 31 5 12:=cd
theorem uQ:fR o 31 6 13:=cd
theorem us3:(o.underlying 3).isSome=y:=by kernel_rfl
theorem in5:Es o 5 K:=Kq (by kernel_rfl)
theorem bv:eN o 170 y 2 32 [S N 0 0,A 0]:=eF
theorem CY:fR o 170 0 0:=cd
theorem Bw:fR o 170 1 1:=cd
theorem Ho:vo o 170 [(0,1),(1,1)]:=jI
theorem st9:JK o 9:=UD (by kernel_rfl)
theorem uY:fR o 90 0 0:=cd
theorem DO:fR o 29 1 1:=cd
theorem zI:fR o 29 5 5:=cd
theorem jQ:fR o 31 0 0:=cd
theorem sT:fR o 31 1 2:=cd
theorem uT:fR o 31 2 9:=cd
theorem wI:fR o 31 3 10:=cd
theorem zX:fR o 31 4 11:=cd
theorem dX:eN o 96 y 2 48 [S N 0 0,S N 0 0]:=eF
theorem Xb:vo o 96 [(0,1),(1,1)]:=jI
theorem ep:fR o 96 1 1:=cd
theorem cU:eN o 35 n 1 24 [S N 0 0]:=eF
theorem cH:isSl o 35 68:=nZ
theorem bT:eN o 59 y 2 32 [S N 0 0,A 0]:=eF
theorem Oq:vo o 59 [(0,1),(1,1)]:=jI
theorem du:eN o 98 y 12 160 zL4:=eF
theorem VS:vo o 98 [(0,1),(1,2),(3,1),(4,1),(5,2),(7,1),(8,1),(9,1),(10,1),(11,1)]:=jI
theorem eG:isSl o 57 98:=nZ
theorem dQ:eN o 65 y 7 120 zL2:=eF
theorem TJ:vo o 65 [(0,2),(2,1),(3,2),(5,2)]:=jI
theorem gU:eN o 34 y 1 24 [S N 0 0]:=eF
theorem Xh:vo o 34 [(0,1)]:=jI
theorem iG:fR o 34 0 0:=cd
theorem rI:eN o 32 n 1 24 [S N 0 0]:=eF
theorem pW:isSl o 32 65:=nZ
theorem gB:eN o 175 y 2 32 [S N 0 0,A 0]:=eF
theorem Zb:vo o 175 [(0,1),(1,1)]:=jI
theorem ui:fR o 175 0 0:=cd
theorem rh:fR o 175 1 1:=cd
theorem kB:fR o 96 0 0:=cd
theorem qE:fR o 98 1 1:=cd
theorem ek:eN o 94 y 2 16 [A 0,A 0]:=eF
theorem MN:vo o 94 [(0,1),(1,1)]:=jI
theorem WH (a e f h:Int):IR o 94 [A a,A f] [A e,A h]=U (a==e&&(f==h&&y)):=by kernel_rfl
theorem kz:fR o 98 2 3:=cd
theorem wC:fR o 98 3 4:=cd
theorem fJ:fR o 98 4 5:=cd
theorem uj:fR o 98 6 8:=cd
theorem qT:fR o 98 5 7:=cd
theorem qn:fR o 94 0 0:=cd
theorem wN:fR o 94 1 1:=cd
theorem cw:fR o 59 0 0:=cd
theorem fj:eN o 57 n 1 24 [S N 0 0]:=eF
theorem rF:fR o 98 8 10:=cd
theorem pV:fR o 59 1 1:=cd
theorem mN:fR o 98 7 9:=cd
theorem rJ:fR o 98 9 11:=cd
theorem qb:fR o 98 0 0:=cd
theorem ty4:eN o 4 n 1 1 [B n]:=eF
theorem dC:fR o 61 0 0:=cd
theorem zK:fR o 63 0 0:=cd
theorem dj:eN o 61 y 1 24 [S N 0 0]:=eF
theorem zU:fR o 63 1 1:=cd
theorem ul:fR o 65 0 0:=cd
theorem tS:fR o 65 3 5:=cd
theorem mr:eN o 63 y 2 48 [S N 0 0,S N 0 0]:=eF
theorem qF:fR o 65 1 2:=cd
theorem pl:fR o 65 2 3:=cd
theorem XT:vo o 61 [(0,1)]:=jI
theorem RO:vo o 63 [(0,1),(1,1)]:=jI
theorem yI:isSl o 274 94:=nZ
theorem xr:fR o 289 0 0:=cd
theorem vu:fR o 289 1 1:=cd
theorem ed:eN o 289 y 2 16 [A 0,A 0]:=eF
theorem Hg:vo o 289 [(0,1),(1,1)]:=jI
theorem IB:fR o 291 1 2:=cd
theorem zE:isSl o 312 291:=nZ
theorem oW:eN o 291 y 4 32 [A 0,A 0,A 0,A 0]:=eF
theorem XO:vo o 291 [(0,2),(2,2)]:=jI
theorem PK:fR o 29 6 6:=cd
theorem WX:fR o 291 0 0:=cd
theorem Ds:isSl o 322 325:=nZ
theorem He:eN o 325 y 2 16 [A 0,A 0]:=eF
theorem Zk:vo o 325 [(0,1),(1,1)]:=jI
theorem Re:fR o 325 0 0:=cd
theorem QE:fR o 325 1 1:=cd
theorem lL:eN o 213 y 8 56 zL0:=eF
theorem Jk:vo o 213 [(0,1),(1,1),(2,1),(3,1),(4,1),(5,1),(6,1),(7,1)]:=jI
theorem XB:fR o 213 0 0:=cd
theorem QO:fR o 213 1 1:=cd
theorem IA:fR o 213 2 2:=cd
theorem Rj:fR o 213 3 3:=cd
theorem Qr:fR o 213 4 4:=cd
theorem Mr:fR o 213 5 5:=cd
theorem Xs:fR o 213 6 6:=cd
theorem Rm:fR o 213 7 7:=cd
theorem OF:isSl o 177 213:=nZ
theorem fL:eN o 38 y 2 48 [S N 0 0,S N 0 0]:=eF
theorem Zc:vo o 38 [(0,1),(1,1)]:=jI
theorem iv:fR o 38 0 0:=cd
theorem pm:isSl o 36 71:=nZ
theorem nJ:eN o 71 y 2 16 [A 0,A 0]:=eF
theorem jL:fR o 38 1 1:=cd
theorem tz:eN o 36 n 1 24 [S N 0 0]:=eF
theorem Ka:fR o 71 0 0:=cd
theorem Eb:fR o 71 1 1:=cd
theorem Wl:vo o 71 [(0,1),(1,1)]:=jI
theorem gM:eN o 40 y 17 216 zL1:=eF
theorem KX:vo o 40 [(0,14),(14,1),(15,2)]:=jI
theorem sW:fR o 40 2 15:=cd
theorem TV:isSl o 247 175:=nZ
theorem nE:fR o 40 0 0:=cd
theorem zG:fR o 40 1 14:=cd
theorem bl4:Yu o 4:=Xd (by kernel_rfl)
theorem iz3:Wn o 3:=Wb (by kernel_rfl)
theorem Uu:Vt o 138 71 3:=(by kernel_rfl:o.underlying 138=U (.map 71 3))
theorem ZT:YC o 5:=Xi (by kernel_rfl)
theorem UE:fR o 52 1 1:=cd
theorem Gu:fR o 52 0 0:=cd
theorem ZK:eN o 52 y 2 32 [S N 0 0,B n]:=eF
theorem ZQ:vo o 52 [(0,1),(1,1)]:=jI
theorem YM:Yw o 147:=by unfold Yw;kernel_rfl
theorem sj:fR o 107 2 2:=cd
theorem QY:fR o 107 0 0:=cd
theorem Nj:fR o 107 1 1:=cd
theorem Zl:eN o 107 y 3 40 [S N 0 0,A 0,B n]:=eF
theorem ZC:vo o 107 [(0,1),(1,1),(2,1)]:=jI
theorem yb:isSl o 110 109:=nZ
theorem qe:eN o 109 n 1 8 [O N]:=eF
theorem Zw (a e f h i j k p q r s t:Int)(u v:Bool):IR o 29 [A a,A f,A i,A k,A q,A s,B u] [A e,A h,A j,A p,A r,A t,B v]=U (a==e&&(f==h&&(i==j&&(k==p&&(q==r&&(s==t&&(u==v&&y))))))):=by kernel_rfl
theorem Zg (a e f h:Int):IR o 71 [A a,A f] [A e,A h]=U (a==e&&(f==h&&y)):=by kernel_rfl
theorem OZ (w){p0 a e f r}(H:Kl p0=U r)(h:eL8.rd w [] p0 [S a e f]):Cq 4 [S a e f] w (B r):=by
 obtain rfl:=dz h;exact fe0 func4 ntmps4 z<|D<|C z<|nR<|G [.p,.lenS 22 5 lv,.p,.p] z<|nT<|ah H▸xw z
theorem KM (w){j p0 e i f r}(H:AP p0=U r)(HS:m w j [] w)(q:eL8.rd w j p0 [S e i f]):Cl 12 [S e i f] w λv w'=>∃s,v=pA s∧m w j [b s 86 [S e i f,A r.i_,A r.h_]] w':=by
 obtain rfl:=dz q;refine fe func12 ntmps12 HS z<|D<|C z<|nR<|G [.p,.lenS 22 5 lv,.p,.p] z<|d<|Z<|D<|C z<|d<|aI<|lp [Int,Int] (λa h=>[]) (λa h=>[(0,P e p0 f),(3,A a),(4,A h)]) (λkk a h=>pJ p0 kk a h=U r) [] (λF k a h H=>?_) ⟨_,_,H,z⟩;exact Z<|D<|G [.p,.p,.lenS 22 5 lv,.p,.p] z<|jA [0,3,4] u3 3 12 3 15 3 (decide (h<4000)) z z (λkey=>oPP z<|C z<|oK key z)<|cJ H z (λH=>ck<|cb<|ay<|oN 4 z<|bE H λu t H=>ix1 lv ty5 (Q q) t z z<|G [.cv 5 3 J us5 in3,.p,.p,.p,.p] z<|ao<|xb<|ay<|oN 3 z<|ao<|iA [] (k H) z) λH=>ce<|bM<|D<|oPP z<|o1 z (aY [(0,[P e p0 f]),(2,[A a])] [P e p0 f,A 0,A a] z z ZR ZS z ⟨z,z,nl z,z,z,nl z,Y⟩ z)<|ob _ z λx=>C z<|nT<|ah H▸xo z λw' hw'=>⟨_,z,_,z,hw'.sel [0] z z⟩
theorem oh (w){e p0b p0 a a_p0b n_p0b c_p0b r}(H:nt p0b p0=U r)(HS:m w e [b a 86 [P a_p0b p0b c_p0b,A p0.i_,A p0.h_]] w)(g_p0b:eL8.rd w e p0b [S a_p0b n_p0b c_p0b]):Cl 71 [pA a] w λv w'=>v=A r.1∧m w e [b a 86 [S a_p0b n_p0b c_p0b,A r.2.i_,A r.2.h_]] w':=by
 obtain rfl:=dz g_p0b;refine fe func71 ntmps71 HS z<|D<|C z<|nR<|G [.p,.p,.p,.fa 86 2 2 Nl] z<|E 2 0 ty3 z<|G [.p,.p,.p,.fa 86 2 2 Nl] z<|sD 2 g u3 0 ty3 z<|d<|Z<|dE bz (by kernel_rfl)<|G [.p,.p,.fa 86 2 2 Nl] z<|E 2 0 ty3 z<|G [.p,.p,.p,.fa 86 2 2 Nl] z<|E 2 0 ty3 z<|oN 4 z<|cu<|bM<|Z<|Z<|dE bz (by kernel_rfl)<|G [.p,.p,.fa 86 1 1 MO] z<|E 1 0 ty3 z<|G [.p,.p,.fa 86 0 0 UF] z<|E 0 0 Dh z<|G [.lenS 22 5 lv,.p] z<|cu<|bM<|cI H z ?_ ?_<;>intro H
 ·exact Z<|dE bz (by kernel_rfl)<|G [.p,.p,.p,.fa 86 0 0 UF] z<|E 0 0 Dh z<|G [.p,.p,.fa 86 1 1 MO] z<|E 1 0 ty3 z<|bE H λh f H=>ix1 lv ty5 (Q g_p0b) f z z<|G [.cv 5 3 J us5 in3,.p,.p,.p] z<|cu<|bM<|ay<|G [.p,.p,.p,.fa 86 1 1 MO] z<|E 1 0 ty3 z<|G [.p,.p,.fa 86 1 1 MO] z<|sD 1 g u3 0 ty3 z<|nR<|oPP z<|nT<|ah H▸xo z (y0 [0] z)
 exact ck<|D<|oPP z<|nT<|ah H▸xo z (y0 [0] z)
theorem bl (w){q p0b p0 p1 f a_p0b n_p0b c_p0b r}(H:bJ p0b p0 p1=U r)(HS:m w q [b f 86 [P a_p0b p0b c_p0b,A p0.i_,A p0.h_]] w)(g_p0b:eL8.rd w q p0b [S a_p0b n_p0b c_p0b]):Cl 33 [pA f,A p1] w λv w'=>v=A r.1∧m w q [b f 86 [S a_p0b n_p0b c_p0b,A r.2.i_,A r.2.h_]] w':=by
 obtain rfl:=dz g_p0b;refine fe func33 ntmps33 HS z<|D<|C z<|d<|Z<|D<|oPP z<|cJ H z (λH=>D<|C z<|nT<|bi<|ah H▸xo z (y0 [0] z)) λH=>ck<|Z<|D<|oPP z<|cJ H z ?_ ?_<;>intro H
 ·exact D<|C z<|oV0 [0] H func71 (λh e a=>oh e h (a.carve [0] z z) (rdB [0] z z a g_p0b)) z (λ_=>(z:_=c)) kf λu h H=>C z<|bE H λx s H=>o1 z (Bh z z z s)<|C z<|nT<|bi<|ah H▸xo z (y0 [1] z)
 exact ck<|D<|C z<|oV0 [0] H func71 (λi e a=>oh e i (a.carve [0] z z) (rdB [0] z z a g_p0b)) z (λ_=>(z:_=c)) kf λF i H=>C z<|nR<|C z<|oV0 [1] H func71 (λj e a=>oh e j (a.carve [1] z z) (rdB [1] z z a g_p0b)) z (λ_=>(z:_=u3)) kf λL j H=>C z<|d<|Z<|wk g [2] z<|ay<|C z<|oV0 [0] H func71 (λk e a=>oh e k (a.carve [0] z z) (rdB [0] z z a g_p0b)) z (λ_=>(z:_=c)) kf λM k H=>C z<|nR<|C z<|oV0 [1] H func71 (λp e a=>oh e p (a.carve [1] z z) (rdB [1] z z a g_p0b)) z (λ_=>(z:_=u3)) kf λR p H=>C z<|d<|Z<|wk g [2] z<|ay<|oN 11 z<|bE H λX t H=>o1 z (Bh z z z t)<|C z<|nT<|ah H▸xo z (y0 [0] z)
theorem fg (w){h p0b p0 p1 a a_p0b n_p0b c_p0b r}(H:fM p0b p0 p1=U r)(HS:m w h [b a 86 [P a_p0b p0b c_p0b,A p0.i_,A p0.h_]] w)(g_p0b:eL8.rd w h p0b [S a_p0b n_p0b c_p0b]):Cl 113 [pA a,A p1] w λv w'=>v=B r.1∧m w h [b a 86 [S a_p0b n_p0b c_p0b,A r.2.i_,A r.2.h_]] w':=by
 obtain rfl:=dz g_p0b;exact fe func113 ntmps113 HS z<|D<|C z<|nR<|oPP z<|oV0 [0] H func33 (λe i f=>bl i e (f.carve [0] z z) (rdB [0] z z f g_p0b)) z (λ_=>(z:_=c)) kf λj e H=>oPP z<|nT<|ah H▸xo z (y0 [1] z)
theorem aS (w){e p0b p0 p1 a a_p0b n_p0b c_p0b f h i r}(H:bh p0b p0 p1=U r)(HS:m w e [b a 86 [P a_p0b p0b c_p0b,A p0.i_,A p0.h_]] w)(g_p0b:eL8.rd w e p0b [S a_p0b n_p0b c_p0b])(q:eLI.rd w e p1 [S f h i]):Cl 69 [pA a,S f h i] w λv w'=>v=A r.1∧m w e [b a 86 [S a_p0b n_p0b c_p0b,A r.2.i_,A r.2.h_]] w':=by
 obtain rfl:=dz g_p0b;obtain rfl:=dz q;exact fe func69 ntmps69 HS z<|D<|C z<|nR<|G [.p,.p,.p,.lenS 68 3 aO] z<|oV0 [0] H func33 (λj t k=>bl t j (k.carve [0] z z) (rdB [0] z z k g_p0b)) z (λ_=>(z:_=c)) kf λu j H=>bE H λx s H=>ix1 aO ty3 (Q q) s z z<|C z<|nT<|ah H▸xo z (y0 [1] z)
theorem xe (w){M0 p0b p0 p1 q a_p0b n_p0b c_p0b r}(H:kV p0b p0 p1=U r)(HS:m w M0 [b q 86 [P a_p0b p0b c_p0b,A p0.i_,A p0.h_]] w)(g_p0b:eL8.rd w M0 p0b [S a_p0b n_p0b c_p0b]):Cl 149 [pA q,A p1] w λv w'=>∃a0 n0 c0 F0 a1 n1 c1 F1,v=.agg #[vS r.1.F_,S a0 n0 c0,S a1 n1 c1]∧m w M0 [W eLI F0 r.1.B_ [S a0 n0 c0],W eLS F1 r.1.M_ [S a1 n1 c1],b q 86 [S a_p0b n_p0b c_p0b,A r.2.i_,A r.2.h_]] w':=by
 obtain rfl:=dz g_p0b;refine fe func149 ntmps149 HS z<|D<|oA dJ z λa7=>nR<|kC (val:=vS) (h1:=λ_=>z) [([97,103,101]:List UInt8),([115,105,122,101]:List UInt8),([99,111,108,111,117,114]:List UInt8),([107]:List UInt8),([108,111,110,103,110,97,109,101]:List UInt8)] [(0,[vS ([97,103,101]:List UInt8)]),(1,[vS ([115,105,122,101]:List UInt8)]),(2,[vS ([99,111,108,111,117,114]:List UInt8)]),(3,[vS ([107]:List UInt8)]),(4,[vS ([108,111,110,103,110,97,109,101]:List UInt8)])] z z z z z fq ty9 z z z ⟨z,z,nl z,z,z,nl z,z,z,nl z,z,z,nl z,z,z,nl z,Y⟩ z z kf λd9=>oPP z<|bE H λM c9 H=>ix1 fq ty9 (aq (e:=eLS) (r:=2) z) c9 z z<|o1 z (aY [(0,[vS M])] [vS M,S N 0 0,S N 0 0] z z dJ TM z ⟨z,z,nl z,Y⟩ z)<|oA dJ z λa8=>sD 0 u3 u3 3 dJ z<|d<|Z<|D<|C z<|oV0 [0] H func113 (λb4 s a=>fg s b4 (a.carve [0] z z) (rdB [0] z z a g_p0b)) z (λ_=>(z:_=u5)) kf λe0 b4 H=>cJ H z ?_ ?_<;>intro H
 ·refine D<|C z<|oV0 [4] H func33 (λb5 s a=>bl s b5 (a.carve [4] z z) (rdB [4] z z a g_p0b)) z (λ_=>(z:_=u6)) kf λb6 b5 H=>oPP z<|d<|Z<|wk u4 [1,2,3,5] z<|ay<|C z<|bI [(-9999),(-7),0,3,20] aO ty3 z kf λe1=>oV0 [3] H func69 (λb7 s a=>aS s b7 (a.carve [3] z z) (rdB [3] z z a g_p0b) (rdO 4 [3] z a z z)) z (λ_=>(z:_=u6)) kf λe2 b7 H=>C z<|d<|Z<|D<|C z<|d<|aI<|CW.weak ?_ (pN eI 3)
  refine lp (Int::Int::(oT Int [Int,Int])) (λX a2 t a3 a4 a9 u a5=>[b q 86 [P a_p0b p0b c_p0b,A X,A a2],b a7 90 [vS ([]:List UInt8),S N 0 0,S N 0 0],b a8 90 [vS M,P a3 t a4,S N 0 0],W eLI a9 t [P a3 t a4]]) (λX a2 t a3 a4 a9 u a5=>[(0,pA q),(4,pA a7),(5,pA a8),(6,A (J.wrap (1+b6.1))),(7,A u),(8,A a5)]) (λkk X a2 t a3 a4 a9 u a5=>dR b6 p0b M kk X a2 t u a5=U r) [5,0,2,6] (λk1 c3 X a2 t a3 a4 a9 u a5 H=>?_) ⟨_,_,_,_,_,_,_,_,H,z⟩;refine Z<|D<|oN 3 z<|cJ H z ?_ ?_<;>intro H
  ·exact ck<|cb<|D<|G [.fa 90 1 1 jP] z<|E 1 2 bt z<|C z<|bI [u] aO ty3 z kf λe3=>bE H λe4 b8 H=>cK (r:=3) (ys:=([u]:List Int)) z z z z z z aO ty3 z z z (aq (e:=eLI) (r:=4) z) b8 kg λe5 e6 e7=>cr z (λs a=>ex (i:=3) a z (eC b8)) λd3=>G [.fa 90 1 1 jP] z<|sD 1 g u3 2 bt z<|d<|ay<|oN 3 z<|oV0 [0] H func33 (λb9 s a=>bl s b9 (a.carve [0] z z) (rdB [0] z z a g_p0b)) z (λ_=>(z:_=u6)) kf λe9 b9 H=>oPP z<|ao<|xb<|ay<|oN 3 z<|ao<|iA [5,1,2,3] (c3 H) z
  exact ce<|bM<|D<|l 0 2 dJ z<|sD 0 u3 u3 1 dJ z<|nT<|bi<|ca (pN qX 9)<|ah H▸xc 1 dJ z (y2 [3,4,0] z)
 refine ck<|D<|C z<|oV0 [4] H func33 (λc2 s a=>bl s c2 (a.carve [4] z z) (rdB [4] z z a g_p0b)) z (λ_=>(z:_=u6)) kf λb0 c2 H=>oPP z<|d<|Z<|Z<|wk u4 [1,2,3,5] z<|ay<|C z<|d<|aI<|CW.weak ?_ (pN qX 9)
 refine lp (Int::(oT (List UInt8) [])) (λp f x F R=>[b q 86 [P a_p0b p0b c_p0b,A b0.2.i_,A b0.2.h_],b a7 90 [vS ([]:List UInt8),S N 0 0,S N 0 0],b a8 90 [vS M,S N 0 0,P x f F],W eLS R f [P x f F]]) (λp f x F R=>[(0,pA q),(4,pA a7),(5,pA a8),(9,A (J.wrap (2+b0.1))),(10,A p)]) (λkk p f x F R=>dS b0 M kk p f=U r) [3,0,2,4] (λk2 c4 p f x F R H=>?_) ⟨_,_,_,_,_,H,z⟩;refine Z<|D<|oN 3 z<|cJ H z ?_ ?_<;>intro H
 ·refine ck<|cb<|bE H λa6 b1 H=>pY 7 [(0,y),(1,y),(3,y)] (tr 4 [⟨4,[],[2]⟩,⟨5,[],[2]⟩,⟨6,[],[2]⟩] [2]) (m w M0 u4) bz (by kernel_rfl) (aR (av (cO (aR (av aE))))) (mA [y,y,y,y] z)<|G [.fa 90 2 2 qd] z<|aT z (aj z) (r1 2 2 z kZ z)<|C z<|aM<|xs1 ⟨2,52,λL=>S (U ⟨L,0,N⟩) (([([114,101,100]:List UInt8),([98,108,117,101]:List UInt8),([120]:List UInt8),([103,114,101,101,110]:List UInt8)]:List (List UInt8)).length) 4,λL=>W eLS [L] ([([114,101,100]:List UInt8),([98,108,117,101]:List UInt8),([120]:List UInt8),([103,114,101,101,110]:List UInt8)]:List (List UInt8)) [S (U ⟨L,0,N⟩) (([([114,101,100]:List UInt8),([98,108,117,101]:List UInt8),([120]:List UInt8),([103,114,101,101,110]:List UInt8)]:List (List UInt8)).length) 4]⟩ z z ⟨z,λ_ _ _ _ h k=>kC (val:=vS) (h1:=λ_=>z) [([114,101,100]:List UInt8),([98,108,117,101]:List UInt8),([120]:List UInt8),([103,114,101,101,110]:List UInt8)] [(0,[vS ([114,101,100]:List UInt8)]),(1,[vS ([98,108,117,101]:List UInt8)]),(2,[vS ([120]:List UInt8)]),(3,[vS ([103,114,101,101,110]:List UInt8)])] z z z z z fq ty9 z z z ⟨z,z,nl z,z,z,nl z,z,z,nl z,z,z,nl z,Y⟩ z z h λb=>aM (k b)⟩<|UZ 0 4 ⟨λ_=>z,λ_=>z,z⟩ (λ_=>mA [y,y,y,y] z) z λL=>?_
  dsimp only [sr,sv];exact xfd [(4,n),(5,n),(6,n)] z z (mA [y,y,y,y] z)<|XG (e:=qX) (xs:=([([114,101,100]:List UInt8),([98,108,117,101]:List UInt8),([120]:List UInt8),([103,114,101,101,110]:List UInt8)]:List (List UInt8))) (j:=p) z z z z z z fq ty9 z (aq (e:=eLS) (r:=4) z) b1 (by rw [Nat.mul_one])<|Ak z z (aj z) (bw z z ty9 (yF (aq (e:=eLS) (r:=4) z) b1))<|kC (val:=vS) (h1:=λ_=>z) [a6] [(0,[vS a6])] z z z z z fq ty9 z z z ⟨z,z,nl z,Y⟩ z z (λ_=>(mA [y,y,y,y] z)) λd4=>aM<|pZ<|bE H λd5 b2 H=>cK (r:=3) (ys:=([a6]:List (List UInt8))) z z z z z z fq ty9 z z z (aq (e:=eLS) (r:=5) z) b2 kg λd6 d7 d8=>cr z (λs a=>ex (i:=3) a z (eC b2)) λd0=>G [.fa 90 2 2 qd] z<|sD 2 g u3 2 kZ z<|ao<|xb<|ay<|oN 3 z<|ao<|iA [0,1,2,3] (c4 H) z
 exact ce<|bM<|D<|l 0 2 dJ z<|sD 0 u3 u3 1 dJ z<|nT<|ca (pN eI 3)<|ah H▸xc 1 dJ z (y2 [4,3,0] z)
theorem BJ (w){M0 p0b p0 t a_p0b n_p0b c_p0b r}(H:tR p0b p0=U r)(HS:m w M0 [b t 86 [P a_p0b p0b c_p0b,A p0.i_,A p0.h_]] w)(g_p0b:eL8.rd w M0 p0b [S a_p0b n_p0b c_p0b]):Cl 111 [pA t] w λv w'=>∃a0 n0 c0 F0 a1 n1 c1 F1,v=.agg #[S a0 n0 c0,S a1 n1 c1]∧m w M0 [W bZ F0 r.1.c_ [S a0 n0 c0],W eLS F1 r.1.g_ [S a1 n1 c1],b t 86 [S a_p0b n_p0b c_p0b,A r.2.i_,A r.2.h_]] w':=by
 obtain rfl:=dz g_p0b;refine fe func111 ntmps111 HS z<|D<|oA cz z λa6=>nR<|kC (val:=vS) (h1:=λ_=>z) [([110,111]:List UInt8),([121,101,115]:List UInt8)] [(0,[vS ([110,111]:List UInt8)]),(1,[vS ([121,101,115]:List UInt8)])] z z z z z fq ty9 z z z ⟨z,z,nl z,z,z,nl z,Y⟩ z z kf λb8=>o1 z (aY [(1,[S (U ⟨b8,0,N⟩) (([([110,111]:List UInt8),([121,101,115]:List UInt8)]:List (List UInt8)).length) 2])] [S N 0 0,S (U ⟨b8,0,N⟩) (([([110,111]:List UInt8),([121,101,115]:List UInt8)]:List (List UInt8)).length) 2] z z cz UM z ⟨z,z,nl z,Y⟩ z)<|oA cz z λa7=>sD 0 c c 3 cz z<|d<|jn (Int::Int::(oT (List UInt8) [])) (λF L f s u M=>[b t 86 [P a_p0b p0b c_p0b,A F,A L],b a6 27 [S N 0 0,S N 0 0],b a7 27 [S N 0 0,P s f u],W eLS M f [P s f u]]) (λF L f s u M=>[(0,pA t),(2,pA a6),(3,pA a7)]) (λF L f s u M=>s.isNone=n∧nj p0b F L f=U r) (λF L f s u M ⟨d2,H⟩=>?_) (λJ1=>?_)
 ·unfold nj at H;refine D<|C z<|oV0 [0] H func33 (λb9 w1 a=>bl w1 b9 (a.carve [0] z z) (rdB [0] z z a g_p0b)) z (λ_=>(z:_=u5)) kf λc2 b9 H=>oPP z<|d<|Z<|D<|C z<|d<|aI<|CW.weak ?_ (pN dx 90)
  refine lp (Int::Int::(oT aK [Int])) (λR X x a2 a3 a8 a4=>[b t 86 [P a_p0b p0b c_p0b,A R,A X],b a6 27 [S N 0 0,S N 0 0],b a7 27 [P a2 x a3,P s f u],W bZ a8 x [P a2 x a3],W eLS M f [P s f u]]) (λR X x a2 a3 a8 a4=>[(0,pA t),(2,pA a6),(3,pA a7),(4,A (J.wrap (1+c2.1))),(5,A a4)]) (λkk R X x a2 a3 a8 a4=>ky c2 p0b f kk R X x a4=U r) [4,1,2,5,3] (λk1 c3 R X x a2 a3 a8 a4 H=>?_) ⟨_,_,_,_,_,_,_,H,z⟩;refine Z<|D<|oN 3 z<|cJ H z ?_ ?_<;>intro H
  ·exact ck<|cb<|bW 6 [(0,y),(1,y),(2,y),(3,y),(4,n),(5,n)] (m w M0 u5) bz (by kernel_rfl) (aR (av (cO (aR (av aE))))) (mA [n,y,y,y,y] z)<|G [.fa 27 0 0 dH] z<|aT z (aj z) (r1 0 2 z jS z)<|oPP z<|oV2 [0] H func149 (λb0 w1 a=>xe w1 b0 (a.carve [0] z z) (rdB [0] z z a g_p0b)) z (λ_ _ _ _ _ _ _=>(z:_=u8)) (λ_ _ _ _ _ _ _=>(mA [n,y,y,y,y] z)) λk b0 H b1 b2 d3 b3 b4 d4=>tE z (λw1 a=>yn (x0:=k.1.F_) [5,6] a z z) λd5=>dT (C':=m w M0 u9) z (λ_ h=>h)<|dP [(0,[vS k.1.F_,P b1 k.1.B_ b2,P b3 k.1.M_ b4])] z z z z z jb dJ z z ⟨z,z,nl z,Y⟩ [vS k.1.F_,P b1 k.1.B_ b2,P b3 k.1.M_ b4] z (λ_=>(mA [n,y,y,y,y] z)) λd6=>dT z (λ_ h=>uy (p:=9) (q:=8) h z z z)<|aM<|fK<|bE H λd7 c4 H=>gV (r:=3) (j:=10) z z z z z z jb dJ z z z z z z z c4 kg λd8 d9 e0=>G [.fa 27 0 0 dH] z<|sD 0 g c 2 jS z<|ao<|xb<|wk u5 [1,2,4,7,11] z<|ay<|oN 3 z<|ao<|iA [3,0,1,4,2] (c3 H) z
  exact ce<|bM<|D<|l 0 2 cz z<|sD 0 c c 1 cz z<|nT<|ah H▸xc 1 cz z (y2 [3,4,0] z)
 refine D<|C z<|oV0 [0] H func113 (λb5 w1 a=>fg w1 b5 (a.carve [0] z z) (rdB [0] z z a g_p0b)) z (λ_=>(z:_=u5)) kf λe1 b5 H=>cJ H z (λH=>ay<|G [.fa 27 1 1 gO] z<|E 1 3 kZ z<|kC (val:=vS) (h1:=λ_=>z) [([112,101,114,104,97,112,115]:List UInt8)] [(0,[vS ([112,101,114,104,97,112,115]:List UInt8)])] z z z z z fq ty9 z z z ⟨z,z,nl z,Y⟩ z z kf λe2=>bE H λe3 b6 H=>cK (r:=2) (ys:=([([112,101,114,104,97,112,115]:List UInt8)]:List (List UInt8))) z z z z z z fq ty9 z z z (aq (e:=eLS) (r:=5) z) b6 kg λe4 e5 e6=>cr z (λw1 a=>ex (i:=2) a z (eC b6)) λb7=>G [.fa 27 1 1 gO] z<|sD 1 g c 3 kZ z<|ao<|iJ [4,1,3,2] (J1 ⟨b7,H⟩) z) λH=>bK<|iJ [4,1,3,2] (J1 ⟨z,H⟩) z
theorem vf (w){X p0b p0 f a_p0b n_p0b c_p0b r}(H:me p0b p0=U r)(HS:m w X [b f 86 [P a_p0b p0b c_p0b,A p0.i_,A p0.h_]] w)(g_p0b:eL8.rd w X p0b [S a_p0b n_p0b c_p0b]):Cl 112 [pA f] w λv w'=>v=.agg #[A r.1.S_,A r.1.Q_,A r.1.T_,A r.1.r_,A r.1.a_,A r.1.H_,B r.1.O_]∧m w X [b f 86 [S a_p0b n_p0b c_p0b,A r.2.i_,A r.2.h_]] w':=by
 obtain rfl:=dz g_p0b;exact fe func112 ntmps112 HS z<|D<|oA jV z λa0=>nR<|C z<|bI [1,1,2,3,9] aO ty3 z kf λa1=>oV0 [0] H func69 (λh e a=>aS e h (a.carve [0] z z) (rdB [0] z z a g_p0b) (rdO 2 [0] z a z z)) z (λ_=>(z:_=u4)) kf λi h H=>C z<|bI [0,50,200,500,999] aO ty3 z kf λa2=>oV0 [3] H func69 (λj e a=>aS e j (a.carve [3] z z) (rdB [3] z z a g_p0b) (rdO 4 [3] z a z z)) z (λ_=>(z:_=u6)) kf λk j H=>C z<|bI [1,4,10,25,200] aO ty3 z kf λa3=>oV0 [5] H func69 (λp e a=>aS e p (a.carve [5] z z) (rdB [5] z z a g_p0b) (rdO 6 [5] z a z z)) z (λ_=>(z:_=u8)) kf λq p H=>C z<|bI [0,1,2,4,6,6] aO ty3 z kf λa4=>oV0 [7] H func69 (λs e a=>aS e s (a.carve [7] z z) (rdB [7] z z a g_p0b) (rdO 8 [7] z a z z)) z (λ_=>(z:_=u10)) kf λt s H=>C z<|bI [1,3,7,15,31,31] aO ty3 z kf λa5=>oV0 [9] H func69 (λu e a=>aS e u (a.carve [9] z z) (rdB [9] z z a g_p0b) (rdO 10 [9] z a z z)) z (λ_=>(z:_=u12)) kf λx u H=>C z<|bI [62,63,80,100,150,2000] aO ty3 z kf λa6=>oV0 [11] H func69 (λF e a=>aS e F (a.carve [11] z z) (rdB [11] z z a g_p0b) (rdO 12 [11] z a z z)) z (λ_=>(z:_=u14)) kf λL F H=>C z<|oV0 [13] H func113 (λM e a=>fg e M (a.carve [13] z z) (rdB [13] z z a g_p0b)) z (λ_=>(z:_=u15)) kf λR M H=>o1 z (aY [(0,[A i.1]),(1,[A k.1]),(2,[A q.1]),(3,[A t.1]),(4,[A x.1]),(5,[A L.1]),(6,[B R.1])] [A i.1,A k.1,A q.1,A t.1,A x.1,A L.1,B R.1] z z jV ZI z ⟨z,z,nl z,z,z,nl z,z,z,nl z,z,z,nl z,z,z,nl z,z,z,nl z,z,z,nl z,Y⟩ z)<|sD 0 u7 u7 1 jV z<|nT<|ah H▸xc 1 jV z (y0 [14] z)
theorem BO (w){F p0b p0 L a_p0b n_p0b c_p0b r}(H:uC p0b p0=U r)(HS:m w F [b L 86 [P a_p0b p0b c_p0b,A p0.i_,A p0.h_]] w)(g_p0b:eL8.rd w F p0b [S a_p0b n_p0b c_p0b]):Cl 67 [pA L] w λv w'=>∃a0 n0 c0 F0 a1 n1 c1 F1,v=.agg #[S a0 n0 c0,S a1 n1 c1,A r.1.d_.S_,A r.1.d_.Q_,A r.1.d_.T_,A r.1.d_.r_,A r.1.d_.a_,A r.1.d_.H_,B r.1.d_.O_,A r.1.u_,A r.1.X_,A r.1.Z_,A r.1.v_,A r.1.w_]∧m w F [W bZ F0 r.1.y_.c_ [S a0 n0 c0],W eLS F1 r.1.y_.g_ [S a1 n1 c1],b L 86 [S a_p0b n_p0b c_p0b,A r.2.i_,A r.2.h_]] w':=by
 obtain rfl:=dz g_p0b;refine fe func67 ntmps67 HS z<|D<|oA gC z λb1=>nR<|C z<|oV2 [0] H func111 (λb2 e a=>BJ e b2 (a.carve [0] z z) (rdB [0] z z a g_p0b)) z (λ_ _ _ _ _ _ _=>(z:_=u5)) kh2 λf b2 H a2 a3 d5 a4 a5 d6=>oA cz z λb3=>sD 0 c c 5 cz z<|nR<|C z<|oV0 [4] H func112 (λb4 e a=>vf e b4 (a.carve [4] z z) (rdB [4] z z a g_p0b)) z (λ_=>(z:_=u7)) kf λj b4 H=>oA jV z λb5=>sD 0 u7 u7 7 jV z<|d<|jn [Int,Int,Int,Int,Int,Int] (λM R s t u x=>[b L 86 [P a_p0b p0b c_p0b,A M,A R],b b1 31 zL3,b b3 27 [P a2 f.1.c_ a3,P a4 f.1.g_ a5],W bZ d5 f.1.c_ [P a2 f.1.c_ a3],W eLS d6 f.1.g_ [P a4 f.1.g_ a5],b b5 29 [A s,A j.1.Q_,A t,A u,A x,A j.1.H_,B j.1.O_]]) (λM R s t u x=>[(0,pA L),(2,pA b1),(3,pA b3),(4,pA b5)]) (λM R s t u x=>nk p0b f j M R s t u x=U r) (λM R s t u x H=>?_) (λJ1=>?_)
 ·unfold nk at H;refine Z<|bE H λb6 d8 H=>bE H λb7 d9 H=>bE H λb8 e0 H=>bE H λb9 e1 H=>pY 19 [(0,y),(1,y),(2,y),(5,y),(6,y),(7,y),(8,y),(11,y),(14,y)] (tr 6 [⟨3,[(4,y)],[]⟩,⟨9,[(10,y)],[]⟩,⟨13,[],[12]⟩,⟨15,[(16,y),(17,y)],[12]⟩] [12,18]) (m w F u6) bz (by kernel_rfl) (av aE) (mA [n,y,y,y,y,y] z)<|aT z (aj z) (rx 0 2 _ z cz z)<|aT z (aj z) (rx 0 5 _ z jV z)<|G [.p,.p,.fa 27 0 0 dH] z<|aT z (aj z) (r1 0 2 z jS z)<|G [.lenS 24 90 jb,.p,.p] z<|aM<|xs2 ⟨12,31,λX=>S (U ⟨X,0,N⟩) (([1,6,6]:List Int).length) 3,λX=>W eLI [X] ([1,6,6]:List Int) [S (U ⟨X,0,N⟩) (([1,6,6]:List Int).length) 3]⟩ ⟨18,5,λa6=>pA a6,λa6=>b a6 31 zL3⟩ z z ⟨z,λ_ _ _ _ h k=>bI [1,6,6] aO ty3 z h λb=>aM (k b)⟩ (sgA (i:=18) z z z z z z gC)<|xq2 0 6 ⟨λ_ _=>z,λ_ _=>z,z⟩ (λ_ _=>mA [n,y,y,y,y,y] z) z λa7 q=>cy z (iF func33 z) z z z z (λe a=>bl e d8 (a.carve [0] z z) (rdB [0] z z a g_p0b)) λe7 e w2 a c3=>?_
  obtain ⟨rfl,c4⟩:=c3;refine ⟨m w F u9,a.comp [0] z z c4,(mA [n,y,y,y,y,y] z),?_⟩;refine C z<|aM<|?_;clear a;revert a7 q;refine xq2 2 6 ⟨λ_ _=>z,λ_ _=>z,z⟩ (λ_ _=>mA [n,y,y,y,y,y] z) z λa7 q=>cy z (iF func33 z) z z z z (λe a=>bl e d9 (a.carve [8] z z) (rdB [8] z z a g_p0b)) λe9 e w2 a c5=>?_;obtain ⟨rfl,c6⟩:=c5;refine ⟨m w F u10,a.comp [8] z z c6,(mA [n,y,y,y,y,y] z),?_⟩;refine C z<|aM<|?_;clear a;revert a7 q;refine ZF 4 6 ⟨λ_ _=>z,λ_ _=>z,z⟩ (λ_ _=>mA [n,y,y,y,y,y] z) z (λX q=>?_);dsimp only [sr,sv];revert q;refine xq1 5 7 ⟨λ_=>z,λ_=>z,z⟩ (λ_=>mA [n,y,y,y,y,y] z) z λq=>cy z (iF func69 z) z z z z (λe a=>aS e e0 (a.carve [9] z z) (rdB [9] z z a g_p0b) (rdO 6 [9] z a z z)) λf0 e w2 a c7=>?_;obtain ⟨rfl,c8⟩:=c7;refine ⟨m w F u11,a.comp [9] z z c8,(mA [n,y,y,y,y,y] z),?_⟩;refine aM ?_;clear a;revert q;refine xq1 6 7 ⟨λ_=>z,λ_=>z,z⟩ (λ_=>mA [n,y,y,y,y,y] z) z λq=>cy z (iF func33 z) z z z z (λe a=>bl e e1 (a.carve [10] z z) (rdB [10] z z a g_p0b)) λf1 e w2 a c9=>?_;obtain ⟨rfl,d0⟩:=c9;refine ⟨m w F u12,a.comp [10] z z d0,(mA [n,y,y,y,y,y] z),?_⟩;refine C z<|aT z (aj z) (aY [(0,[P a2 f.1.c_ a3,P a4 f.1.g_ a5]),(2,[A s,A j.1.Q_,A t,A u,A x,A j.1.H_,B j.1.O_]),(9,[A (J.wrap (1+b6.1))]),(10,[A (J.wrap (1+b7.1))]),(11,[A b8.1]),(12,[A (J.wrap (1+b9.1))])] [P a2 f.1.c_ a3,P a4 f.1.g_ a5,A s,A j.1.Q_,A t,A u,A x,A j.1.H_,B j.1.O_,A (J.wrap (1+b6.1)),A (J.wrap (1+b7.1)),A b8.1,A (J.wrap (1+b9.1)),A 0] z z gC ZN z ⟨z,z,nl z,z,z,nl z,z,z,nl z,z,z,nl z,z,z,nl z,z,z,nl z,Y⟩ z)<|aM<|?_;clear a;revert q;refine xe1 9 7 ⟨λ_=>z,λ_=>z,z⟩ (λ_=>mA [n,y,y,y,y,y] z) (λa6=>?_);dsimp only [sr,sv];exact pZ<|sD 0 u14 u14 7 gC z<|d<|Z<|wk u8 [1,2,3,4,5,6,7,11] z<|bW 4 [(0,y),(1,y),(2,y),(3,n)] (m w F u8) bz (by kernel_rfl) (av aE) (mA [y,y,y,y,y,y,y,n] z)<|G [.fa 31 5 12 uN] z<|aT z (aj z) (r1 12 6 z ty3 z)<|C z<|oV0 [7] H func33 (λa8 e a=>bl e a8 (a.carve [7] z z) (rdB [7] z z a g_p0b)) z (λ_=>(z:_=u9)) (λ_=>(mA [y,y,y,y,y,y,y,n] z)) λf2 a8 H=>aM<|fK<|G [.p,.fa 31 6 13 uQ] z<|sD 13 g u14 6 ty3 z<|nR<|l 0 6 gC z<|sD 0 u14 u14 0 gC z<|nT<|ah H▸xc 0 gC z (y2 [2,3,8] z)
 refine Z<|wk u6 [1,2,3,5,6,7] z<|ay<|C z<|oV0 [4] H func113 (λa9 e a=>fg e a9 (a.carve [4] z z) (rdB [4] z z a g_p0b)) z (λ_=>(z:_=u7)) kf λe4 a9 H=>cJ H z ?_ ?_<;>intro H
 ·exact D<|C z<|bI [4,10] aO ty3 z kf λe5=>oV0 [6] H func69 (λb0 e a=>aS e b0 (a.carve [6] z z) (rdB [6] z z a g_p0b) (rdO 7 [6] z a z z)) z (λ_=>(z:_=u9)) kf λe6 b0 H=>G [.fa 29 2 2 Dy] z<|sD 2 g u7 5 ty3 z<|d<|Z<|wk u7 [0,1,2,3,5,7,8] z<|ay<|G [.fa 29 0 0 Cy] z<|sD 0 g u7 4 ty3 z<|nR<|G [.fa 29 3 3 Bs] z<|sD 3 g u7 4 ty3 z<|d<|ay<|G [.fa 29 4 4 Bd] z<|sD 4 g u7 4 ty3 z<|ao<|iJ [6,0,3,1,2,4] (J1 H) z
 exact bK<|iJ [6,0,3,1,2,5] (J1 H) z
theorem kI (w){L p0b p0 p1 h a_p0b n_p0b c_p0b r}(H:lY p0b p0 p1=U r)(HS:m w L [b h 86 [P a_p0b p0b c_p0b,A p0.i_,A p0.h_]] w)(g_p0b:eL8.rd w L p0b [S a_p0b n_p0b c_p0b]):Cl 115 [pA h,A p1] w λv w'=>∃X n0 c0 F0,v=S X n0 c0∧m w L [W eL8 F0 r.1 [S X n0 c0],b h 86 [S a_p0b n_p0b c_p0b,A r.2.i_,A r.2.h_]] w':=by
 obtain rfl:=dz g_p0b;refine fe func115 ntmps115 HS z<|D<|C z<|nR<|cj (e:=e8) z z z z lv ty5 kf λa5=>C z<|d<|Z<|D<|C z<|d<|aI<|lp (Int::Int::(oT Int [Int])) (λj k a f p s q=>[b h 86 [P a_p0b p0b c_p0b,A j,A k],W eL8 s a [P f a p]]) (λj k a f p s q=>[(0,pA h),(1,A p1),(5,P f a p),(6,A q)]) (λkk j k a f p s q=>f.isNone=n∧jF p1 p0b kk j k a q=U r) [0,1] (λk1 M j k a f p s q ⟨a4,H⟩=>?_) ⟨_,_,_,_,_,_,_,⟨z,H⟩,z⟩;refine Z<|D<|oN 3 z<|cJ H z ?_ ?_<;>intro H
 ·exact ck<|cb<|ay<|oPP z<|oV0 [0] H func71 (λx w1 t=>oh w1 x (t.carve [0] z z) (rdB [0] z z t g_p0b)) z (λ_=>(z:_=u3)) kf λu x H=>G [.cv 3 5 K us3 in5] z<|kC (val:=I K) (h1:=λ_=>z) [K.wrap u.1] [(0,[I K (K.wrap u.1)])] z z z z z lv ty5 z z z ⟨z,z,nl z,Y⟩ z z kf λa6=>bE H λa7 F H=>cK (r:=1) (ys:=([K.wrap u.1]:List Int)) z z z z z z lv ty5 z z z (aq (e:=eL8) (r:=3) z) F kg λa8 a9 b0=>cr z (λw1 t=>ex (i:=1) t z (eC F)) λR=>C z<|ao<|xb<|ay<|oN 3 z<|ao<|iA [2,1] (M ⟨R,H⟩) z
 exact ce<|bM<|D<|oPP z<|nT<|ah H▸xo z (y1 [1,0] z)
theorem cL (w){a p0 f r}(H:dp p0=U r)(HS:m w a [] w)(t:gW.rd w a p0 f):Cl 150 [.agg f.toArray] w λv w'=>∃k p c0 u,v=.agg #[S k p c0,A r.j_]∧m w a [W eL8 u r.x_ [S k p c0]] w':=by
 obtain ⟨x,F,rfl,q⟩:=fZ t;exact fe func150 ntmps150 HS z<|D<|ob _ z λL=>oA bv z λM=>d<|Z<|bW 6 [(1,y),(2,y),(4,y),(5,y),(0,n),(3,n)] (m w a c) bz (by kernel_rfl) (av aE) (mA [y,y] z)<|G [.fa 170 0 0 CY] z<|aT z (aj z) (r1 0 0 z Dh z)<|G [.fa 170 1 1 Bw] z<|aT z (aj z) (r1 1 0 z ty3 z)<|cj (e:=e8) z z z z lv ty5 (λ_=>(mA [y,y] z)) λR=>bE H λh s H=>cK (r:=2) (ys:=p0.x_) z z z z z z lv ty5 z z z (Q q) s (λ_ _ _=>(mA [y,y] z)) λi j X=>aM<|fK<|o1 z (aY [(0,[P i h j]),(1,[A p0.j_])] [P i h j,A p0.j_] z z bv Ho z ⟨z,z,nl z,z,z,nl z,Y⟩ z)<|sD 0 c c 1 bv z<|nT<|ah H▸xc 1 bv z (y1 [2] z)
theorem bb (w){p0 p1 p2 r}(H:aU p0 p1 p2=U r):Cq 56 [A p0,A p1,A p2] w (B r):=by
 exact fe0 func56 ntmps56 z<|D<|C z<|nR<|oN 4 z<|jA [6,0,2] u3 1 10 4 14 4 (decide (p0≤p2)) z z (λkey=>oN 3 z<|C z<|oK key z)<|C z<|nT<|ah H▸xw z
theorem CB (w){p0 r}(H:wq p0=U r):Cq 179 [vS p0] w (B r):=by
 refine fe0 func179 ntmps179 z<|D<|C z<|d<|Z<|D<|G [.p,.lenT 9 st9] z<|bQ H func56 (λ_ f k t=>bb k f) z tt2 λu H=>C z<|cR H z λH=>ck<|Z<|D<|C z<|d<|aI<|lp [Int] (λa=>[]) (λa=>[(0,vS p0),(3,A a)]) (λkk a=>ql p0 kk a=U r) [] (λF e a H=>?_) ⟨_,H,z⟩
 refine Z<|D<|G [.p,.p,.lenT 9 st9,.p] z<|cJ H z ?_ ?_<;>intro H
 ·exact ck<|cb<|D<|oPP z<|bE H λv h H=>o1 z (EC (s:=p0) z z z st9 h)<|oPP z<|jO [0,3] c 2 18 5 23 5 H z z (λi H key=>oPP z<|bE H λx j H=>o1 z (EC (s:=p0) z z z st9 j)<|C z<|C z<|oL H key z) λi q H=>cR H z λH=>bK<|xb<|ay<|oN 3 z<|ao<|iA [] (e H) z
 exact ce<|bM<|D<|C z<|nT<|ah H▸xw z
theorem BQ (w){p0 f j h r}(H:ub p0=U r)(i:eLS.rd w [] p0 [S f j h]):Cq 138 [S f j h] w (B r):=by
 obtain rfl:=dz i;refine fe0 func138 ntmps138 z<|D<|C z<|d<|Z<|D<|C z<|d<|aI<|lp [Int] (λa=>[]) (λa=>[(0,P f p0 h),(3,A a)]) (λkk a=>jd p0 kk a=U r) [] (λx k a H=>?_) ⟨_,H,z⟩;refine Z<|D<|G [.p,.p,.lenS 25 9 fq,.p] z<|cJ H z ?_ ?_<;>intro H
 ·refine ck<|cb<|Z<|D<|oPP z<|bE H λL s H=>ix1 fq ty9 (Q i) s z z<|bQ H func179 (λ_ t F M=>CB F t) z tt2 λR H=>C z<|cR H z λH=>ck<|D<|C z<|d<|aI<|lp [Int] (λe=>[]) (λe=>[(0,P f p0 h),(3,A a),(4,A e)]) (λkk e=>lJ a p0 (jd p0 x) kk e=U r) [] (λk2 q e H=>?_) ⟨_,H,z⟩
  refine Z<|D<|oN 3 z<|cJ H z ?_ ?_<;>intro H
  ·refine ck<|cb<|Z<|dE bz (by kernel_rfl)<|oPP z<|bE H λX u H=>ix1 fq ty9 (Q i) u z z<|oPP z<|bE H λa0 v H=>ix1 fq ty9 (Q i) v z z<|C z<|cu<|bM<|cI H z ?_ ?_<;>intro H
   ·exact yE H z
   exact bK<|xb<|ay<|oN 3 z<|ao<|iA [] (q H) z
  exact ce<|xb<|ay<|oN 3 z<|ao<|iA [] (k H) z
 exact ce<|bM<|D<|C z<|nT<|ah H▸xw z
theorem CA (w){p0 i r}(H:oZ p0=U r)(g0:dx.rd w [] p0 i):Cq 139 [.agg i.toArray] w (B r):=by
 obtain ⟨q,s,t,u,rfl,h,v⟩:=bR g0;refine fe0 func139 ntmps139 z<|D<|ob _ z λj=>C z<|d<|Z<|D<|G [.fa 90 0 0 uY] z<|E 0 0 ty9 z<|bQ H func179 (λ_ x a f=>CB a x) z tt2 λa7 H=>C z<|cR H z λH=>ck<|Z<|D<|G [.fa 90 1 1 jP] z<|E 1 0 bt z<|G [.lenS 68 3 aO,.p] z<|cJ H z ?_ ?_<;>intro H
 ·exact D<|G [.fa 90 2 2 qd] z<|E 2 0 kZ z<|G [.lenS 25 9 fq] z<|bQ H func56 (λ_ F a f=>bb a F) z tt2 λa8 H=>C z<|jB [2,1] c 1 16 4 20 4 H z z (λu21 H key=>G [.fa 90 2 2 qd] z<|E 2 0 kZ z<|bQ H func138 (λ_ L a f=>BQ a L (Q v a f)) z tt2 λa9 H=>C z<|oL H key z) λu21 a4 H=>C z<|nT<|ah H▸xw z
 refine ck<|Z<|D<|G [.fa 90 2 2 qd] z<|E 2 0 kZ z<|G [.lenS 25 9 fq,.p,.p] z<|jR [1] g 1 25 5 30 5 (decide ((p0.B_.length:Int)>3)) z z (λkey=>G [.fa 90 1 1 jP] z<|E 1 0 bt z<|G [.lenS 68 3 aO,.p] z<|C z<|oK key z)<|cR H z λH=>ck<|Z<|D<|C z<|d<|aI<|lp [Int] (λe=>[b j 90 [vS p0.F_,P q p0.B_ s,P t p0.M_ u]]) (λe=>[(1,pA j),(3,A e)]) (λkk e=>oB p0 kk e=U r) [0] (λk1 k e H=>?_) ⟨_,H,z⟩
 refine Z<|D<|G [.p,.fa 90 1 1 jP] z<|E 1 0 bt z<|G [.lenS 68 3 aO,.p] z<|cJ H z ?_ ?_<;>intro H
 ·refine ck<|cb<|Z<|dE bz (by kernel_rfl)<|G [.fa 90 1 1 jP] z<|E 1 0 bt z<|C z<|bE H λb0 M H=>ix1 aO ty3 (Q h) M z z<|bQ H func56 (λ_ R a f=>bb a R) z tt2 λb1 H=>oPP z<|jO [1,3] c 2 45 17 62 17 H z z (λX H key=>?_) λX a5 H=>?_
  ·exact oN 3 z<|jB [1,3,45] u3 3 48 13 61 13 H z z (λa0 H key=>G [.fa 90 1 1 jP] z<|E 1 0 bt z<|C z<|bE H λb2 a1 H=>ix1 aO ty3 (Q h) a1 z z<|G [.fa 90 1 1 jP] z<|E 1 0 bt z<|oPP z<|bE H λb3 a2 H=>ix1 aO ty3 (Q h) a2 z z<|C z<|C z<|oL H key z) λa0 a6 H=>G [.p] z<|oL H key z
  refine cu<|bM<|cI H z ?_ ?_<;>intro H
  ·exact yE H z
  exact bK<|xb<|ay<|oN 3 z<|ao<|iA [0] (k H) z
 exact ce<|bM<|D<|C z<|nT<|ah H▸xw z
theorem kO (w){p0 F r}(H:fH p0=U r)(g0:ba.rd w [] p0 F):Cq 95 [.agg F.toArray] w (B r):=by
 obtain ⟨L,M,R,X,rfl,k,b2⟩:=aQ g0;refine fe0 func95 ntmps95 z<|D<|ob _ z λj=>C z<|d<|Z<|D<|G [.fa 27 0 0 dH] z<|E 0 0 jS z<|G [.lenS 24 90 jb] z<|bQ H func56 (λ_ b3 f h=>bb f b3) z tt2 λe2 H=>oPP z<|jO [1] g 1 10 6 16 6 H z z (λu19 H key=>G [.fa 27 1 1 gO] z<|E 1 0 kZ z<|G [.lenS 25 9 fq] z<|bQ H func56 (λ_ b4 f h=>bb f b4) z tt2 λe3 H=>C z<|C z<|oL H key z) λu19 b8 H=>C z<|jO [1] g 1 17 5 22 5 H z z (λb5 H key=>G [.fa 27 1 1 gO] z<|E 1 0 kZ z<|bQ H func138 (λ_ b6 f h=>BQ f b6 (Q b2 f h)) z tt2 λe4 H=>C z<|C z<|oL H key z) λb5 b9 H=>cR H z λH=>ck<|Z<|D<|C z<|d<|aI<|lp [Int] (λa=>[b j 27 [P L p0.c_ M,P R p0.g_ X]]) (λa=>[(1,pA j),(3,A a)]) (λkk a=>gp p0 kk a=U r) [0] (λk1 a0 a H=>?_) ⟨_,H,z⟩;refine Z<|D<|G [.p,.fa 27 0 0 dH] z<|E 0 0 jS z<|G [.lenS 24 90 jb,.p] z<|cJ H z ?_ ?_<;>intro H
 ·refine ck<|cb<|Z<|D<|G [.fa 27 0 0 dH] z<|E 0 0 jS z<|C z<|bE H λi a1 H=>bL z z z z z jb dJ z k a1 λc1 c2 q s=>?_
  obtain ⟨a2,a3,a4,a5,rfl,a6,a7⟩:=bR q;refine o1 z (cC (cs:=[vS i.F_,P a2 i.B_ a3,P a4 i.M_ a5]) z z dJ (bD bor s) z)<|bQ H func139 (λ_ a8 f h=>CA f a8 (dw z (Q a6 f h) (Q a7 f h))) z tt2 λc3 H=>C z<|cR H z λH=>ck<|D<|C z<|d<|aI<|lp [Int] (λe=>[b j 27 [P L p0.c_ M,P R p0.g_ X]]) (λe=>[(1,pA j),(3,A a),(4,A e)]) (λkk e=>kJ a p0 (gp p0 k1) kk e=U r) [0] (λk2 a9 e H=>?_) ⟨_,H,z⟩;refine Z<|D<|oN 3 z<|cJ H z ?_ ?_<;>intro H
  ·refine ck<|cb<|Z<|dE bz (by kernel_rfl)<|G [.fa 27 0 0 dH] z<|E 0 0 jS z<|C z<|bE H λc4 b0 H=>bL z z z z z jb dJ z k b0 λc5 c6 t u=>?_
   obtain ⟨c7,c8,c9,d0,rfl,d1,d2⟩:=bR t;refine G [.fa 90 0 0 uY] z<|o1 z (bw z z ty9 (bD bor (pU u 0 1)))<|G [.fa 27 0 0 dH] z<|E 0 0 jS z<|C z<|bE H λd3 b1 H=>bL z z z z z jb dJ z k b1 λd4 d5 v x=>?_;obtain ⟨d6,d7,d8,d9,rfl,e0,e1⟩:=bR v;refine G [.fa 90 0 0 uY] z<|o1 z (bw z z ty9 (bD bor (pU x 0 1)))<|C z<|cu<|bM<|cI H z ?_ ?_<;>intro H
   ·exact yE H z
   exact bK<|xb<|ay<|oN 3 z<|ao<|iA [0] (a9 H) z
  exact ce<|xb<|ay<|oN 3 z<|ao<|iA [0] (a0 H) z
 exact ce<|bM<|D<|C z<|nT<|ah H▸xw z
theorem uo (w){p0 r}(H:qR p0=U r):Cq 96 [.agg #[A p0.S_,A p0.Q_,A p0.T_,A p0.r_,A p0.a_,A p0.H_,B p0.O_]] w (B r):=by
 exact fe0 func96 ntmps96 z<|D<|ob _ z λM=>C z<|nR<|G [.fa 29 0 0 Cy] z<|E 0 0 ty3 z<|bQ H func56 (λ_ f a e=>bb a f) z tt2 λR H=>C z<|jB [1,2] c 2 6 4 10 4 H z z (λu13 H key=>G [.fa 29 1 1 DO] z<|E 1 0 ty3 z<|bQ H func56 (λ_ h a e=>bb a h) z tt2 λX H=>C z<|oL H key z) λu13 u H=>C z<|jB [1,2] c 2 11 4 15 4 H z z (λu18 H key=>G [.fa 29 2 2 Dy] z<|E 2 0 ty3 z<|bQ H func56 (λ_ i a e=>bb a i) z tt2 λa0 H=>C z<|oL H key z) λu18 v H=>C z<|jB [1,2] c 2 16 4 20 4 H z z (λj H key=>G [.fa 29 3 3 Bs] z<|E 3 0 ty3 z<|bQ H func56 (λ_ k a e=>bb a k) z tt2 λa1 H=>C z<|oL H key z) λj x H=>C z<|jB [1,2] c 2 21 4 25 4 H z z (λp H key=>G [.fa 29 4 4 Bd] z<|E 4 0 ty3 z<|bQ H func56 (λ_ q a e=>bb a q) z tt2 λa2 H=>C z<|oL H key z) λp F H=>C z<|jB [2,1] c 1 26 4 30 4 H z z (λs H key=>G [.fa 29 5 5 zI] z<|E 5 0 ty3 z<|bQ H func56 (λ_ t a e=>bb a t) z tt2 λa3 H=>C z<|oL H key z) λs L H=>C z<|nT<|ah H▸xw z
theorem yO (w){a p0 r}(H:lz p0=U r)(HS:m w a [] w):Cl 97 [A p0] w λv w'=>∃f h c0 i,v=S f h c0∧m w a [W eLI i r [S f h c0]] w':=by
 refine fe func97 ntmps97 HS z<|D<|C z<|d<|Z<|D<|C z<|d<|aI<|D<|oPP z<|cJ H z (λH=>D<|bI [24109,48218,60273,64291,65296,65497,65530] aO ty3 z kf λj=>C z<|nT<|fB<|bi<|ah H▸xo z (y1 [0] z)) λH=>D<|oPP z<|cJ H z (λH=>D<|bI [162,1137,4061,9909,18681,29208,39734] aO ty3 z kf λk=>C z<|nT<|fB<|bi<|ah H▸xo z (y1 [0] z)) λH=>bK<|xb<|D<|cj (e:=eI) z z z z aO ty3 kf λp=>C z<|nT<|ah H▸xo z (y1 [0] z)
theorem tC (w){p0 f r}(H:lZ p0=U r)(X:dm.rd w [] p0 f):Cq 54 [.agg f.toArray] w (B r):=by
 obtain ⟨a6,a7,a8,a9,rfl,i,j⟩:=cQ X;exact fe0 func54 ntmps54 z<|D<|ob _ z λb0=>C z<|nR<|G [.fa 31 0 0 jQ] z<|l 0 0 cz z<|bQ H func95 (λ_ k a e=>kO a k (af (Q i a e) (Q j a e))) z tt2 λb1 H=>C z<|jB [1,2] c 2 6 4 10 4 H z z (λu19 H key=>G [.fa 31 1 2 sT] z<|l 2 0 jV z<|bQ H func96 (λ_ q a e=>uo a (p0:=p0.d_) q) z tt2 λb2 H=>C z<|oL H key z) λu19 a0 H=>C z<|jB [1,2] c 2 11 4 15 4 H z z (λs H key=>G [.fa 31 2 9 uT] z<|E 9 0 ty3 z<|bQ H func56 (λ_ t a e=>bb a t) z tt2 λb3 H=>C z<|oL H key z) λs a1 H=>C z<|jB [1,2] c 2 16 8 24 8 H z z (λu H key=>G [.fa 31 3 10 wI] z<|E 10 0 ty3 z<|G [.fa 31 0 0 jQ,.fa 27 0 0 dH] z<|E 0 0 jS z<|G [.lenS 24 90 jb] z<|bQ H func56 (λ_ v a e=>bb a v) z tt2 λb4 H=>C z<|oL H key z) λu a2 H=>C z<|jB [1,2] c 2 25 6 31 6 H z z (λx H key=>G [.fa 31 4 11 zX] z<|E 11 0 ty3 z<|oV1 [] H func97 (λh a e=>yO a h (e.carve [] z z)) z (λ_ _ _ _=>(z:_=c)) kh1 λb5 h H b6 b7 b8=>G [.lenS 68 3 aO,.p] z<|dT z (C':=m w [] g) (ss [0] z z)<|C z<|oL H key z) λx a3 H=>C z<|jB [1,2] c 2 32 4 36 4 H z z (λF H key=>G [.fa 31 5 12 uN] z<|E 12 0 ty3 z<|bQ H func56 (λ_ L a e=>bb a L) z tt2 λb9 H=>C z<|oL H key z) λF a4 H=>C z<|jB [1,2] c 2 37 4 41 4 H z z (λM H key=>G [.fa 31 6 13 uQ] z<|E 13 0 ty3 z<|bQ H func56 (λ_ R a e=>bb a R) z tt2 λc0 H=>C z<|oL H key z) λM a5 H=>C z<|jA [2,1] c 1 42 6 48 6 (decide (p0.v_≤p0.w_)) z z (λkey=>G [.fa 31 5 12 uN] z<|E 12 0 ty3 z<|G [.fa 31 6 13 uQ] z<|E 13 0 ty3 z<|C z<|C z<|oK key z)<|C z<|nT<|ah H▸xw z
theorem uU (w){p0 p1 r}(H:pF p0 p1=U r):Cq 245 [A p0,A p1] w (I J r):=by
 refine fe0 func245 ntmps245 z<|D<|C z<|d<|Z<|D<|C z<|bQ H func56 (λ_ a8 L F=>bb L a8) z tt2 λc6 H=>oPP z<|jO [0,1] c 2 12 5 17 5 H z z (λu12 H key=>oPP z<|bQ H func56 (λ_ a9 L F=>bb L a9) z tt2 λc7 H=>C z<|C z<|oL H key z) λu12 b2 H=>cR H z λH=>ck<|D<|bI [1] aO ty3 z kf λc8=>C z<|d<|Z<|D<|C z<|d<|aI<|lp (oT Int [Int]) (λa t f u h=>[W eLI u a [P t a f]]) (λa t f u h=>[(0,A p0),(1,A p1),(5,P t a f),(6,A h)]) (λkk a t f u h=>t.isNone=n∧eT p0 p1 kk a h=U r) [0] (λk1 a5 a t f u h ⟨b0,H⟩=>?_) ⟨_,_,_,_,_,⟨z,H⟩,z⟩
 refine Z<|D<|oN 3 z<|cJ H z ?_ ?_<;>intro H
 ·refine ck<|cb<|D<|bI [1] aO ty3 z kf λb4=>C z<|d<|Z<|D<|C z<|d<|aI<|lp (oT Int [Int]) (λk s v x q=>[W eLI u a [P t a f],W eLI x k [P s k v]]) (λk s v x q=>[(0,A p0),(1,A p1),(5,P t a f),(6,A h),(7,P s k v),(8,A q)]) (λkk k s v x q=>s.isNone=n∧mn a (eT p0 p1 k1) h kk k q=U r) [0,1] (λk2 a6 k s v x q ⟨b1,H⟩=>?_) ⟨_,_,_,_,_,⟨z,H⟩,z⟩
  refine Z<|D<|G [.p,.p,.lenS 68 3 aO,.p] z<|cJ H z (λH=>ck<|cb<|bW 12 [(0,y),(1,y),(2,y),(3,y),(4,y),(5,y),(6,y),(7,y),(8,y),(9,y),(10,y),(11,n)] (m w [] c) bz (by kernel_rfl) (aR (av (cO (aR (av (aR (av (cO (aR (av aE)))))))))) (mA [y,y] z)<|oN 4 z<|bE H λM R H=>eJ (e:=eI) (xs:=a) (j:=J.wrap (q-1)) z z z z z aO ty3 z (aq (e:=eLI) (r:=0) z) R (by rw [Nat.mul_one])<|aT z (aj z) (bw z z ty3 (yF (aq (e:=eLI) (r:=0) z) R))<|oPP z<|bE H λX a0 H=>eJ (e:=eI) (xs:=a) (j:=q) z z z z z aO ty3 z (aq (e:=eLI) (r:=0) z) a0 (by rw [Nat.mul_one])<|aT z (aj z) (bw z z ty3 (yF (aq (e:=eLI) (r:=0) z) a0))<|C z<|bI [J.wrap (M+X)] aO ty3 z (λ_=>(mA [y,y] z)) λb5=>aM<|fK<|bE H λb6 a1 H=>cK (r:=1) (ys:=([J.wrap (M+X)]:List Int)) z z z z z z aO ty3 z z z (aq (e:=eLI) (r:=2) z) a1 kg λb7 b8 b9=>cr z (λL F=>ex (i:=1) F z (eC a1)) λa3=>C z<|ao<|xb<|ay<|oN 3 z<|ao<|iA [0,1] (a6 ⟨a3,H⟩) z) λH=>ce<|bM<|ay<|C z<|bI [1] aO ty3 z kf λc0=>bE H λc1 a2 H=>cK (r:=1) (ys:=([1]:List Int)) z z z z z z aO ty3 z z z (aq (e:=eLI) (r:=2) z) a2 kg λc2 c3 c4=>cr z (λL F=>ex (i:=1) F z (eC a2)) λa4=>C z<|ao<|xb<|ay<|oN 3 z<|ao<|iA [1] (a5 ⟨a4,H⟩) z
 exact ce<|bM<|D<|oPP z<|bE H λc5 a7 H=>ix1 aO ty3 (aq (e:=eLI) (r:=0) z) a7 z z<|C z<|nT<|ah H▸xw z
theorem tN (w){p0 a r}(H:qU p0=U r)(f:gW.rd w [] p0 a):Cq 154 [.agg a.toArray] w (B r):=by
 obtain ⟨j,k,rfl,q⟩:=fZ f;exact fe0 func154 ntmps154 z<|D<|ob _ z λs=>C z<|nR<|G [.fa 170 0 0 CY] z<|E 0 0 Dh z<|G [.lenS 22 5 lv,.p,.p] z<|jB [2,1] c 1 7 7 14 7 H z z (λu14 H key=>G [.fa 170 1 1 Bw] z<|E 1 0 ty3 z<|G [.fa 170 0 0 CY] z<|E 0 0 Dh z<|G [.lenS 22 5 lv] z<|bQ H func56 (λ_ e h t=>bb h e) z tt2 λu H=>C z<|oL H key z) λu14 i H=>C z<|nT<|ah H▸xw z
theorem GJ (w){p0 a r}(H:zQ p0=U r)(j:gW.rd w [] p0 a):Cq 223 [.agg a.toArray] w (I J r):=by
 obtain ⟨k,p,rfl,e⟩:=fZ j;refine fe0 func223 ntmps223 z<|D<|ob _ z λq=>C z<|d<|Z<|D<|l 0 0 bv z<|bQ H func154 (λ_ f h i=>tN h f (br (Q e h i) z)) z tt2 λs H=>C z<|cR H z λH=>ck<|D<|G [.fa 170 0 0 CY] z<|E 0 0 Dh z<|G [.lenS 22 5 lv,.fa 170 1 1 Bw] z<|E 1 0 ty3 z<|oPP z<|nT<|ah H▸xw z
theorem Ej (w){i p0 k r}(H:Ay p0=U r)(HS:m w i [] w)(L:gW.rd w i p0 k):Cl 192 [.agg k.toArray] w λv w'=>∃u x c0 M,v=.tuple #[.agg #[S u x c0,A r.1.j_],A r.2.1,B r.2.2]∧m w i [W eL8 M r.1.x_ [S u x c0]] w':=by
 obtain ⟨R,X,rfl,a⟩:=fZ L;refine fe func192 ntmps192 HS z<|D<|ob _ z λa1=>oA bv z λa2=>oPP z<|nR<|l 0 0 bv z<|oV1 [] H func150 (λq h f=>cL h q (f.carve [] z z) (br (Q a h f) z)) z (λ_ _ _ _=>(z:_=u3)) kh1 λa3 q H a4 a5 a6=>oA bv z λa7=>sD 0 c c 3 bv z<|d<|Z<|D<|l 0 0 bv z<|bQ H func223 (λ_ F h f=>GJ h F (br (Q a h f) z)) z tt2 λa8 H=>C z<|cJ H z (λH=>D<|l 0 3 bv z<|sD 0 c c 1 bv z<|oPP z<|nT<|bi<|ah H▸xc 1 bv z (y1 [2] z)) λH=>ck<|D<|G [.fa 170 1 1 Bw] z<|E 1 0 ty3 z<|G [.p,.fa 170 1 1 Bw] z<|sD 1 g c 3 ty3 z<|d<|Z<|bW 19 [(0,y),(1,y),(2,y),(3,y),(4,y),(5,y),(6,y),(7,y),(8,y),(9,y),(10,y),(11,y),(12,y),(13,y),(14,y),(15,y),(16,y),(17,y),(18,n)] (m w i u4) bz (by kernel_rfl) (av aE) (mA [y,n,y,y] z)<|aT z (aj z) (rx 0 3 _ z bv z)<|G [.fa 170 0 0 CY] z<|aT z (aj z) (r1 0 0 z Dh z)<|G [.fa 170 1 1 Bw] z<|aT z (aj z) (r1 1 0 z ty3 z)<|bE H λa9 s H=>eJ (e:=e8) (xs:=p0.x_) (j:=p0.j_) z z z z z lv ty5 z (Q a) s (by rw [Nat.mul_one])<|aT z (aj z) (bw z z ty5 (yF (Q a) s))<|G [.cv 5 3 J us5 in3,.p,.fa 170 0 0 CY] z<|aT z (aj z) (r1 0 0 z Dh z)<|G [.fa 170 1 1 Bw] z<|aT z (aj z) (r1 1 0 z ty3 z)<|C z<|bE H λb0 t H=>eJ (e:=e8) (xs:=p0.x_) (j:=J.wrap (p0.j_+1)) z z z z z lv ty5 z (Q a) t (by rw [Nat.mul_one])<|aT z (aj z) (bw z z ty5 (yF (Q a) t))<|G [.cv 5 3 J us5 in3,.p] z<|sE 0 c c 1 bv z (mA [y,n,y,y] z)<|aM<|fK<|oPP z<|nT<|ah H▸xc 1 bv z (y1 [2] z)
theorem FF (w){f p0 p1 h r}(H:ym p0 p1=U r)(HS:m w f [] w)(x:gW.rd w f p0 h):Cl 244 [.agg h.toArray,A p1] w λv w'=>∃p q c0 F,v=.tuple #[.agg #[S p q c0,A r.1.j_],A r.2.1,B r.2.2]∧m w f [W eL8 F r.1.x_ [S p q c0]] w':=by
 obtain ⟨M,R,rfl,i⟩:=fZ x;exact fe func244 ntmps244 HS z<|D<|ob _ z λX=>oA bv z λa1=>oPP z<|nR<|l 0 0 bv z<|oV1 [] H func192 (λj e a=>Ej e j (a.carve [] z z) (br (Q i e a) z)) z (λ_ _ _ _=>(z:_=u3)) kh1 λa2 j H a3 a4 a5=>oN 4 z<|oA bv z λa6=>sD 0 c c 3 bv z<|oPP z<|d<|Z<|D<|oN 3 z<|jO [1,2,4,7,8] u5 5 18 4 22 4 H z z (λs H key=>C z<|bQ H func56 (λ_ t e a=>bb e t) z tt2 λa7 H=>C z<|C z<|oL H key z) λs L H=>cJ H z (λH=>D<|l 0 0 bv z<|oV1 [] H func150 (λk e a=>cL e k (a.carve [] z z) (br (Q i e a) z)) z (λ_ _ _ _=>(z:_=u5)) kh1 λa8 k H a9 b0 b1=>sD 0 c c 1 bv z<|oPP z<|nT<|bi<|ah H▸xc 1 bv z (y1 [4] z)) λH=>ck<|Z<|bW 5 [(0,y),(1,y),(2,y),(3,y),(4,n)] (m w f u4) bz (by kernel_rfl) (av aE) (mA [y,n,y,y] z)<|aT z (aj z) (rx 0 3 _ z bv z)<|oPP z<|bE H λb2 u H=>aT z (aj z) (Bh z z z u)<|sE 0 c c 1 bv z (mA [y,n,y,y] z)<|aM<|fK<|oPP z<|nT<|ah H▸xc 1 bv z (y1 [2] z)
theorem Gl (w){M p0 p1 p2 r}(H:pS p0 p1 p2=U r)(HS:m w M [] w):Cl 246 [A p0,A p1,A p2] w λv w'=>∃R X c0 F0,v=S R X c0∧m w M [W eLI F0 r [S R X c0]] w':=by
 refine fe func246 ntmps246 HS z<|D<|C z<|nR<|cj (e:=eI) z z z z aO ty3 kf λa5=>C z<|d<|Z<|D<|oN 3 z<|bQ H func245 (λ_ a1 t q=>uU t a1) z tt2 λa6 H=>C z<|bQ H func56 (λ_ a2 t q=>bb t a2) z tt2 λa7 H=>C z<|cJ H z (λH=>D<|oPP z<|nT<|bi<|ah H▸xo z (y1 [0] z)) λH=>ck<|D<|C z<|d<|cb<|lp (Int::(oT Int [Int])) (λj a h k s f=>[W eLI s a [P h a k]]) (λj a h k s f=>[(0,A p0),(1,A p1),(2,A j),(7,P h a k),(8,A f)]) (λkk j a h k s f=>h.isNone=n∧kL p1 p0 kk j a f=U r) [0] (λk1 u j a h k s f ⟨F,H⟩=>?_) ⟨_,_,_,_,_,_,⟨z,H⟩,z⟩
 refine Z<|D<|G [.p,.lenS 68 3 aO,.p,.p] z<|cJ H z ?_ ?_<;>intro H
 ·refine ck<|aI<|D<|G [.p,.p,.p,.p,.p,.p,.lenS 68 3 aO,.p,.p] z<|bQ H func245 (λ_ a3 t q=>uU t a3) z tt2 λa8 H=>C z<|d<|Z<|D<|oN 3 z<|cJ H z (λH=>ay<|oPP z<|bI [f] aO ty3 z kf λa9=>bE H λb0 x H=>cK (r:=0) (ys:=([f]:List Int)) z z z z z z aO ty3 z z z (aq (e:=eLI) (r:=1) z) x kg λb1 b2 b3=>cr z (λt q=>ex (i:=0) q z (eC x)) λL=>C z<|d<|ay<|oN 3 z<|ao<|GG<|iA [0] (u ⟨L,H⟩) z) λH=>ay<|oN 4 z<|d<|ay<|oN 3 z<|ao<|GG<|iA [0] (u ⟨F,H⟩) z
 exact ce<|bM<|D<|oPP z<|nT<|ah H▸xo z (y1 [0] z)
end Go.Vk
