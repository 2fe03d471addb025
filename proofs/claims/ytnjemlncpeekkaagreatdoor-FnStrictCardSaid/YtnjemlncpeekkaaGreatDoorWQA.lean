/- The code does what the functions of data say. Printed by program. -/
import Derived.Test.YtnjemlncpeekkaaGreatDoorRF
import Derived.Test.YtnjemlncpeekkaaGreatDoorVkBs
import Derived.Test.YtnjemlncpeekkaaGreatDoorChecked
import Derived.Test.YtnjemlncpeekkaaGreatDoorShelf
namespace Go.Vk
open Go.Proofs.Tryz
open Go.Proofs.Tryz renaming prog → o
open Go.Vk renaming iV → A, oP → C, sR → D, aa → G, sL → P, ab → Q, Res → V, ah → Z, nQ → E, oPP → c, oR → d, bE → g, u2 → l, u1 → m
open Value renaming int → I, slice → S, pointer → O, bool → B
open IntKind renaming i64 → J, u8 → K
open Bool renaming true → y, false → n
open Option renaming some → U, none → N
open Res renaming box → b, own → W
open Go.Proofs Go.RowKit
set_option maxHeartbeats 4000000
set_option maxRecDepth 100000
abbrev Cl:=CL o
abbrev Cq:=CQ o
abbrev bi:=bU (bU eI 3) 74
abbrev eLI:=bU eI 3
abbrev eLS:=bU jS 9
abbrev eL8:=bU e8 5
abbrev zL0:List Value:=[S N 0 0,S N 0 0,I J 0,I J 0,I J 0,I J 0,I J 0,I J 0,B n,I J 0,I J 0,I J 0,I J 0,I J 0,S N 0 0,S N 0 0,S N 0 0]
abbrev zL1:List Value:=[I J 0,I J 0,I J 0,I J 0,I J 0,I J 0,B n,B n]
abbrev zL2:List Value:=[S N 0 0,I J 0,B n,S N 0 0,I J 0,S N 0 0,S N 0 0]
abbrev zL3:List Value:=[B n,I J 0,I J 0,S N 0 0,I J 0,S N 0 0,S N 0 0,I J 0,S N 0 0,I J 0,I J 0,I J 0]
abbrev zL4:List Value:=[S N 0 0,S N 0 0,I J 0,I J 0,I J 0,I J 0,I J 0,I J 0,B n,I J 0,I J 0,I J 0,I J 0,I J 0]
def bN:Enc aD:=Dc (dr jS (dr eLI eLS)) (fun x=>(x.E_,x.z_,x.M_))
abbrev bt:=bU bN 126
theorem cD {w X x c0 c1 c2}(a:jS.rd w X x.E_ c0)(h1:eLI.rd w X x.z_ c1)(e:eLS.rd w X x.M_ c2):bN.rd w X x (c0++(c1++c2)):=by
 show (dr jS (dr eLI eLS)).rd w X (x.E_,x.z_,x.M_) _;exact (eM a (eM h1 e))
theorem Hr {w X x cs}(h:bN.rd w X x cs):∃c0 c1 c2,cs=(c0++(c1++c2))∧(jS).rd w X x.E_ c0∧eLI.rd w X x.z_ c1∧eLS.rd w X x.M_ c2:=by
 obtain ⟨c0,_,rfl,a,c1,c2,rfl,h1,e⟩:=h;exact ⟨c0,c1,c2,z,a,h1,e⟩
theorem Gy {w a e f x c0 c1 c2}(h:jS.own w a x.E_ c0)(h1:eLI.own w e x.z_ c1)(i:eLS.own w f x.M_ c2):bN.own w (a++(e++f)) x (c0++(c1++c2)):=by
 show (dr jS (dr eLI eLS)).own w _ (x.E_,x.z_,x.M_) _;exact (iO h (iO h1 i))
theorem ww {w0:World}{M:List Nat}{L:List V}{w:World}{x0:List UInt8}{x1:List Int}{a:Option Addr}{e f:Nat}{q:List Nat}{x2:List (List UInt8)}{i:Option Addr}{j k:Nat}{r:List Nat}(idx:List Nat)(h:St w0 M L w)(p:jr L idx=[W eLI q x1 [S a e f],W eLS r x2 [S i j k]])(t:qO idx=y) :
  ∃F,St w0 M (oI L idx++[W bN F (aD.mk x0 x1 x2) [vS x0,S a e f,S i j k]]) w:=by
 have u:eLI.own w q x1 [S a e f]:=h.ok' (rm (L:=L) (is:=idx) (by rw [p];simp:W eLI q x1 [S a e f]∈jr L idx));have o1:eLS.own w r x2 [S i j k]:=h.ok' (rm (L:=L) (is:=idx) (by rw [p];simp:W eLS r x2 [S i j k]∈jr L idx));have v:=(Gy (x:=(aD.mk x0 x1 x2)) (⟨z,z⟩:jS.own w [] _ _) u o1);refine ⟨_,h.re idx [W bN _ (aD.mk x0 x1 x2) [vS x0,S a e f,S i j k]] t ?_ (fun s p=>by rw [List.mem_singleton.1 p];exact v)⟩;rw [p];simp [dW,W]
def gp:Enc bp:=Dc (dr eL8 eI) (fun x=>(x.v_,x.j_))
theorem bl {w X x c0 c1}(a:eL8.rd w X x.v_ c0)(h1:eI.rd w X x.j_ c1):gp.rd w X x (c0++c1):=by
 show (dr eL8 eI).rd w X (x.v_,x.j_) _;exact (eM a h1)
theorem IT {w X x cs}(h:gp.rd w X x cs):∃c0 c1,cs=(c0++c1)∧eL8.rd w X x.v_ c0∧eI.rd w X x.j_ c1:=by
 obtain ⟨c0,c1,rfl,a,h1⟩:=h;exact ⟨c0,c1,z,a,h1⟩
theorem fE {w X x cs}(h:gp.rd w X x cs):∃a c0,cs=[P a x.v_ c0,A x.j_]∧eL8.rd w X x.v_ [P a x.v_ c0]:=by
 obtain ⟨f,i,rfl,e,h1⟩:=IT h;obtain ⟨a,c0,rfl⟩:=dM e;obtain rfl:=h1;exact ⟨a,c0,z,e⟩
theorem cc {w X x cs}(h:bN.rd w X x cs):∃a c0 e c1,cs=[vS x.E_,P a x.z_ c0,P e x.M_ c1]∧eLI.rd w X x.z_ [P a x.z_ c0]∧eLS.rd w X x.M_ [P e x.M_ c1]:=by
 obtain ⟨j,k,p,rfl,i,h1,f⟩:=Hr h;obtain rfl:=i;obtain ⟨a,c0,rfl⟩:=dM h1;obtain ⟨e,c1,rfl⟩:=dM f;exact ⟨a,c0,e,c1,z,h1,f⟩
def be:Enc ae:=Dc (dr bt eLS) (fun x=>(x.c_,x.f_))
theorem ai {w X x c0 c1}(a:bt.rd w X x.c_ c0)(h1:eLS.rd w X x.f_ c1):be.rd w X x (c0++c1):=by
 show (dr bt eLS).rd w X (x.c_,x.f_) _;exact (eM a h1)
theorem FD {w X x cs}(h:be.rd w X x cs):∃c0 c1,cs=(c0++c1)∧bt.rd w X x.c_ c0∧eLS.rd w X x.f_ c1:=by
 obtain ⟨c0,c1,rfl,a,h1⟩:=h;exact ⟨c0,c1,z,a,h1⟩
theorem aX {w X x cs}(h:be.rd w X x cs):∃a c0 e c1,cs=[P a x.c_ c0,P e x.f_ c1]∧bt.rd w X x.c_ [P a x.c_ c0]∧eLS.rd w X x.f_ [P e x.f_ c1]:=by
 obtain ⟨i,j,rfl,f,h1⟩:=FD h;obtain ⟨a,c0,rfl⟩:=dM f;obtain ⟨e,c1,rfl⟩:=dM h1;exact ⟨a,c0,e,c1,z,f,h1⟩
def xp:Enc bA:=pC (fun x=>[I J x.T_,I J x.S_,I J x.U_,I J x.o_,I J x.b_,I J x.L_,B x.P_]) 7 (fun _=>z) (by intro x u a;simp only [List.mem_cons,List.not_mem_nil,or_false] at a;rcases a with rfl|rfl|rfl|rfl|rfl|rfl|rfl<;>rfl)
def dH:Enc aU:=Dc (dr be (dr xp (dr eI (dr eI (dr eI (dr eI eI)))))) (fun x=>(x.w_,x.e_,x.t_,x.V_,x.X_,x.x_,x.y_))
theorem bB {w X x c0 c1 c2 c3 c4 c5 c6}(a:be.rd w X x.w_ c0)(h1:xp.rd w X x.e_ c1)(e:eI.rd w X x.t_ c2)(f:eI.rd w X x.V_ c3)(h:eI.rd w X x.X_ c4)(i:eI.rd w X x.x_ c5)(j:eI.rd w X x.y_ c6):dH.rd w X x (c0++(c1++(c2++(c3++(c4++(c5++c6)))))):=by
 show (dr be (dr xp (dr eI (dr eI (dr eI (dr eI eI)))))).rd w X (x.w_,x.e_,x.t_,x.V_,x.X_,x.x_,x.y_) _;exact (eM a (eM h1 (eM e (eM f (eM h (eM i j))))))
theorem HM {w X x cs}(h:dH.rd w X x cs):∃c0 c1 c2 c3 c4 c5 c6,cs=(c0++(c1++(c2++(c3++(c4++(c5++c6))))))∧(be).rd w X x.w_ c0∧(xp).rd w X x.e_ c1∧eI.rd w X x.t_ c2∧eI.rd w X x.V_ c3∧eI.rd w X x.X_ c4∧eI.rd w X x.x_ c5∧eI.rd w X x.y_ c6:=by
 obtain ⟨c0,_,rfl,a,c1,_,rfl,h1,c2,_,rfl,e,c3,_,rfl,f,c4,_,rfl,i,c5,c6,rfl,j,k⟩:=h;exact ⟨c0,c1,c2,c3,c4,c5,c6,z,a,h1,e,f,i,j,k⟩
theorem dK {w X x cs}(h:dH.rd w X x cs):∃a c0 e c1,cs=[P a x.w_.c_ c0,P e x.w_.f_ c1,A x.e_.T_,A x.e_.S_,A x.e_.U_,A x.e_.o_,A x.e_.b_,A x.e_.L_,B x.e_.P_,A x.t_,A x.V_,A x.X_,A x.x_,A x.y_]∧bt.rd w X x.w_.c_ [P a x.w_.c_ c0]∧eLS.rd w X x.w_.f_ [P e x.w_.f_ c1]:=by
 obtain ⟨t,u,v,F,H,L,M,rfl,f,h1,i,j,k,p,q⟩:=HM h;obtain ⟨a,c0,e,c1,rfl,r,s⟩:=aX f;obtain rfl:=h1;obtain rfl:=i;obtain rfl:=j;obtain rfl:=k;obtain rfl:=p;obtain rfl:=q;exact ⟨a,c0,e,c1,z,r,s⟩
def iH:Enc aI:=pC (fun x=>[I J x.q_,I J x.j_]) 2 (fun _=>z) (by intro x u a;simp only [List.mem_cons,List.not_mem_nil,or_false] at a;rcases a with rfl|rfl<;>rfl)
abbrev dU:=bU iH 130
def cN:Enc aE:=Dc (dr eLI bi) (fun x=>(x.l_,x.g_))
theorem bf {w X x c0 c1}(a:eLI.rd w X x.l_ c0)(h1:bi.rd w X x.g_ c1):cN.rd w X x (c0++c1):=by
 show (dr eLI bi).rd w X (x.l_,x.g_) _;exact (eM a h1)
theorem GX {w X x cs}(h:cN.rd w X x cs):∃c0 c1,cs=(c0++c1)∧eLI.rd w X x.l_ c0∧bi.rd w X x.g_ c1:=by
 obtain ⟨c0,c1,rfl,a,h1⟩:=h;exact ⟨c0,c1,z,a,h1⟩
theorem Fw {w a e x c0 c1}(f:eLI.own w a x.l_ c0)(h1:bi.own w e x.g_ c1):cN.own w (a++e) x (c0++c1):=by
 show (dr eLI bi).own w _ (x.l_,x.g_) _;exact (iO f h1)
theorem Ew {w F x cs}(h:cN.own w F x cs):∃a e c0 c1,F=(a++e)∧cs=(c0++c1)∧eLI.own w a x.l_ c0∧bi.own w e x.g_ c1:=by
 obtain ⟨a,e,c0,c1,rfl,rfl,f,h1⟩:=h;exact ⟨a,e,c0,c1,z,z,f,h1⟩
def bM:Enc au:=Dc (dr xd (dr iH (dr eLI (dr eI (dr cN (dr eI (dr eLI (dr eI (dr eI eI))))))))) (fun x=>(x.D_,x.n_,x.A_,x.K_,x.m_,x.J_,x.c_,x.o_,x.H_,x.F_))
abbrev aW:=bU bM 134
theorem hY {w X x c0 c1 c2 c3 c4 c5 c6 c7 c8 c9}(a:xd.rd w X x.D_ c0)(h1:iH.rd w X x.n_ c1)(e:eLI.rd w X x.A_ c2)(f:eI.rd w X x.K_ c3)(h:cN.rd w X x.m_ c4)(i:eI.rd w X x.J_ c5)(j:eLI.rd w X x.c_ c6)(k:eI.rd w X x.o_ c7)(p:eI.rd w X x.H_ c8)(q:eI.rd w X x.F_ c9):bM.rd w X x (c0++(c1++(c2++(c3++(c4++(c5++(c6++(c7++(c8++c9))))))))):=by
 show (dr xd (dr iH (dr eLI (dr eI (dr cN (dr eI (dr eLI (dr eI (dr eI eI))))))))).rd w X (x.D_,x.n_,x.A_,x.K_,x.m_,x.J_,x.c_,x.o_,x.H_,x.F_) _;exact (eM a (eM h1 (eM e (eM f (eM h (eM i (eM j (eM k (eM p q)))))))))
theorem Ht {w X x cs}(h:bM.rd w X x cs):∃c0 c1 c2 c3 c4 c5 c6 c7 c8 c9,cs=(c0++(c1++(c2++(c3++(c4++(c5++(c6++(c7++(c8++c9)))))))))∧(xd).rd w X x.D_ c0∧(iH).rd w X x.n_ c1∧eLI.rd w X x.A_ c2∧eI.rd w X x.K_ c3∧(cN).rd w X x.m_ c4∧eI.rd w X x.J_ c5∧eLI.rd w X x.c_ c6∧eI.rd w X x.o_ c7∧eI.rd w X x.H_ c8∧eI.rd w X x.F_ c9:=by
 obtain ⟨c0,_,rfl,a,c1,_,rfl,h1,c2,_,rfl,e,c3,_,rfl,f,c4,_,rfl,i,c5,_,rfl,j,c6,_,rfl,k,c7,_,rfl,p,c8,c9,rfl,q,r⟩:=h;exact ⟨c0,c1,c2,c3,c4,c5,c6,c7,c8,c9,z,a,h1,e,f,i,j,k,p,q,r⟩
theorem GF {w a e f h i j k p q r x c0 c1 c2 c3 c4 c5 c6 c7 c8 c9}(s:xd.own w a x.D_ c0)(h1:iH.own w e x.n_ c1)(t:eLI.own w f x.A_ c2)(u:eI.own w h x.K_ c3)(v:cN.own w i x.m_ c4)(F:eI.own w j x.J_ c5)(H:eLI.own w k x.c_ c6)(L:eI.own w p x.o_ c7)(M:eI.own w q x.H_ c8)(R:eI.own w r x.F_ c9):bM.own w (a++(e++(f++(h++(i++(j++(k++(p++(q++r))))))))) x (c0++(c1++(c2++(c3++(c4++(c5++(c6++(c7++(c8++c9))))))))):=by
 show (dr xd (dr iH (dr eLI (dr eI (dr cN (dr eI (dr eLI (dr eI (dr eI eI))))))))).own w _ (x.D_,x.n_,x.A_,x.K_,x.m_,x.J_,x.c_,x.o_,x.H_,x.F_) _;exact (iO s (iO h1 (iO t (iO u (iO v (iO F (iO H (iO L (iO M R)))))))))
theorem Gl {w F x cs}(h:bM.own w F x cs):∃a e f i j k p q r s c0 c1 c2 c3 c4 c5 c6 c7 c8 c9,F=(a++(e++(f++(i++(j++(k++(p++(q++(r++s)))))))))∧cs=(c0++(c1++(c2++(c3++(c4++(c5++(c6++(c7++(c8++c9)))))))))∧(xd).own w a x.D_ c0∧(iH).own w e x.n_ c1∧eLI.own w f x.A_ c2∧eI.own w i x.K_ c3∧(cN).own w j x.m_ c4∧eI.own w k x.J_ c5∧eLI.own w p x.c_ c6∧eI.own w q x.o_ c7∧eI.own w r x.H_ c8∧eI.own w s x.F_ c9:=by
 obtain ⟨a,_,c0,_,rfl,rfl,t,e,_,c1,_,rfl,rfl,h1,f,_,c2,_,rfl,rfl,u,i,_,c3,_,rfl,rfl,v,j,_,c4,_,rfl,rfl,H,k,_,c5,_,rfl,rfl,L,p,_,c6,_,rfl,rfl,M,q,_,c7,_,rfl,rfl,R,r,s,c8,c9,rfl,rfl,X,h9⟩:=h;exact ⟨a,e,f,i,j,k,p,q,r,s,c0,c1,c2,c3,c4,c5,c6,c7,c8,c9,z,z,t,h1,u,v,H,L,M,R,X,h9⟩
theorem xf {w0:World}{M:List Nat}{L:List V}{w:World}{F:List Nat}{x:au}{cs:List Value}{i:Nat}(h:St w0 M L w)(u:L[i]?=U (W bM F x cs)) :
  ∃(e:Option Addr)(f:Nat)(v:List Nat),∃(j:Option Addr)(k:Nat)(H:List Nat),∃(p:Option Addr)(q:Nat)(R:List Nat),∃(r:Option Addr)(t:Nat)(X:List Nat),cs=[B x.D_,A x.n_.q_,A x.n_.j_,S e (x.A_).length f,A x.K_,S j (x.m_.l_).length k,S p (x.m_.g_).length q,A x.J_,S r (x.c_).length t,A x.o_,A x.H_,A x.F_]∧St w0 M (oI L [i]++[W eLI v x.A_ [S e (x.A_).length f],W eLI H x.m_.l_ [S j (x.m_.l_).length k],W bi R x.m_.g_ [S p (x.m_.g_).length q],W eLI X x.c_ [S r (x.c_).length t]]) w:=by
 obtain ⟨a,_,_⟩:=h.one u;have a:bM.own w F x cs:=a;obtain ⟨F1_0,F1_1,F1_2,F1_3,F1_4,F1_5,F1_6,F1_7,F1_8,F1_9,c1_0,c1_1,c1_2,c1_3,c1_4,c1_5,c1_6,c1_7,c1_8,c1_9,rfl,rfl,h1_0,h1_1,h1_2,h1_3,h1_4,h1_5,h1_6,h1_7,h1_8,h1_9⟩:=Gl a;obtain ⟨rfl,rfl⟩:F1_0=[]∧c1_0=[B x.D_]:=h1_0;obtain ⟨rfl,rfl⟩:F1_1=[]∧c1_1=[A x.n_.q_,A x.n_.j_]:=h1_1;obtain ⟨a2,k2,rfl⟩:=zg h1_2;obtain ⟨rfl,rfl⟩:F1_3=[]∧c1_3=[A x.K_]:=h1_3;obtain ⟨F3_0,F3_1,c3_0,c3_1,rfl,rfl,h3_0,h3_1⟩:=Ew h1_4;obtain ⟨a4,k4,rfl⟩:=zg h3_0;obtain ⟨a5,k5,rfl⟩:=zg h3_1;obtain ⟨rfl,rfl⟩:F1_5=[]∧c1_5=[A x.J_]:=h1_5;obtain ⟨a6,k6,rfl⟩:=zg h1_6;obtain ⟨rfl,rfl⟩:F1_7=[]∧c1_7=[A x.o_]:=h1_7;obtain ⟨rfl,rfl⟩:F1_8=[]∧c1_8=[A x.H_]:=h1_8;obtain ⟨rfl,rfl⟩:F1_9=[]∧c1_9=[A x.F_]:=h1_9;refine ⟨a2,k2,F1_2,a4,k4,F3_0,a5,k5,F3_1,a6,k6,F1_6,z,h.re [i] _ z ?_ ?_⟩
 ·simp [nK,wQ,u,dW,W]
 intro s hs;simp only [List.mem_cons,List.not_mem_nil,or_false] at hs;rcases hs with rfl|rfl|rfl|rfl
 ·exact h1_2
 ·exact h3_0
 ·exact h3_1
 exact h1_6
theorem hH {w0:World}{M:List Nat}{L:List V}{w:World}{x0:Bool}{x1 x2:Int}{i:List Int}{k:Option Addr}{p q:Nat}{G3:List Nat}{x4:Int}{a:List Int}{r:Option Addr}{t u:Nat}{G5:List Nat}{e:List (List Int)}{v:Option Addr}{H R:Nat}{G6:List Nat}{x7:Int}{j:List Int}{X:Option Addr}{n8 k8:Nat}{G8:List Nat}{x9 x10 x11:Int}(idx:List Nat)(h:St w0 M L w)(f:jr L idx=[W eLI G3 i [S k p q],W eLI G5 a [S r t u],W bi G6 e [S v H R],W eLI G8 j [S X n8 k8]])(hn:qO idx=y) :
  ∃F,St w0 M (oI L idx++[W bM F (au.mk x0 (aI.mk x1 x2) i x4 (aE.mk a e) x7 j x9 x10 x11) [B x0,A x1,A x2,S k p q,A x4,S r t u,S v H R,A x7,S X n8 k8,A x9,A x10,A x11]]) w:=by
 have o0:eLI.own w G3 i [S k p q]:=h.ok' (rm (L:=L) (is:=idx) (by rw [f];simp:W eLI G3 i [S k p q]∈jr L idx));have o1:eLI.own w G5 a [S r t u]:=h.ok' (rm (L:=L) (is:=idx) (by rw [f];simp:W eLI G5 a [S r t u]∈jr L idx));have o2:bi.own w G6 e [S v H R]:=h.ok' (rm (L:=L) (is:=idx) (by rw [f];simp:W bi G6 e [S v H R]∈jr L idx));have o3:eLI.own w G8 j [S X n8 k8]:=h.ok' (rm (L:=L) (is:=idx) (by rw [f];simp:W eLI G8 j [S X n8 k8]∈jr L idx));have ho:=(GF (x:=(au.mk x0 (aI.mk x1 x2) i x4 (aE.mk a e) x7 j x9 x10 x11)) (⟨z,z⟩:xd.own w [] _ _) (⟨z,z⟩:iH.own w [] _ _) o0 (⟨z,z⟩:eI.own w [] _ _) (Fw (x:=(aE.mk a e)) o1 o2) (⟨z,z⟩:eI.own w [] _ _) o3 (⟨z,z⟩:eI.own w [] _ _) (⟨z,z⟩:eI.own w [] _ _) (⟨z,z⟩:eI.own w [] _ _));refine ⟨_,h.re idx [W bM _ (au.mk x0 (aI.mk x1 x2) i x4 (aE.mk a e) x7 j x9 x10 x11) [B x0,A x1,A x2,S k p q,A x4,S r t u,S v H R,A x7,S X n8 k8,A x9,A x10,A x11]] hn ?_ (fun s f=>by rw [List.mem_singleton.1 f];exact ho)⟩;rw [f];simp [dW,W]
def bH:Enc am:=Dc (dr aW eI) (fun x=>(x.b_,x.p_))
theorem aF {w X x c0 c1}(a:aW.rd w X x.b_ c0)(h1:eI.rd w X x.p_ c1):bH.rd w X x (c0++c1):=by
 show (dr aW eI).rd w X (x.b_,x.p_) _;exact (eM a h1)
theorem Ix {w X x cs}(h:bH.rd w X x cs):∃c0 c1,cs=(c0++c1)∧aW.rd w X x.b_ c0∧eI.rd w X x.p_ c1:=by
 obtain ⟨c0,c1,rfl,a,h1⟩:=h;exact ⟨c0,c1,z,a,h1⟩
theorem zP {w a e x c0 c1}(f:aW.own w a x.b_ c0)(h1:eI.own w e x.p_ c1):bH.own w (a++e) x (c0++c1):=by
 show (dr aW eI).own w _ (x.b_,x.p_) _;exact (iO f h1)
def cf:Enc aw:=Dc bi (fun x=>x.k_)
theorem aB {w X x c0}(a:bi.rd w X x.k_ c0):cf.rd w X x c0:=by
 show bi.rd w X x.k_ _;exact a
theorem ER {w X x cs}(h:cf.rd w X x cs):∃c0,cs=c0∧bi.rd w X x.k_ c0:=by
 exact ⟨cs,z,h⟩
theorem xC {w a x c0}(e:bi.own w a x.k_ c0):cf.own w a x c0:=by
 show bi.own w _ x.k_ _;exact e
def jl:Enc dd:=Dc (dr cf cf) (fun x=>(x.x_,x.y_))
theorem dR {w X x c0 c1}(a:cf.rd w X x.x_ c0)(h1:cf.rd w X x.y_ c1):jl.rd w X x (c0++c1):=by
 show (dr cf cf).rd w X (x.x_,x.y_) _;exact (eM a h1)
theorem Jh {w X x cs}(h:jl.rd w X x cs):∃c0 c1,cs=(c0++c1)∧(cf).rd w X x.x_ c0∧(cf).rd w X x.y_ c1:=by
 obtain ⟨c0,c1,rfl,a,h1⟩:=h;exact ⟨c0,c1,z,a,h1⟩
theorem HV {w a e x c0 c1}(f:cf.own w a x.x_ c0)(h1:cf.own w e x.y_ c1):jl.own w (a++e) x (c0++c1):=by
 show (dr cf cf).own w _ (x.x_,x.y_) _;exact (iO f h1)
def bz:Enc av:=Dc (dr bH (dr xd (dr bH jl))) (fun x=>(x.C_,x.R_,x.u_,x.G_))
abbrev bm:=bU bz 71
theorem ed {w X x c0 c1 c2 c3}(a:bH.rd w X x.C_ c0)(h1:xd.rd w X x.R_ c1)(e:bH.rd w X x.u_ c2)(f:jl.rd w X x.G_ c3):bz.rd w X x (c0++(c1++(c2++c3))):=by
 show (dr bH (dr xd (dr bH jl))).rd w X (x.C_,x.R_,x.u_,x.G_) _;exact (eM a (eM h1 (eM e f)))
theorem EO {w X x cs}(h:bz.rd w X x cs):∃c0 c1 c2 c3,cs=(c0++(c1++(c2++c3)))∧(bH).rd w X x.C_ c0∧(xd).rd w X x.R_ c1∧(bH).rd w X x.u_ c2∧(jl).rd w X x.G_ c3:=by
 obtain ⟨c0,_,rfl,a,c1,_,rfl,h1,c2,c3,rfl,e,f⟩:=h;exact ⟨c0,c1,c2,c3,z,a,h1,e,f⟩
theorem DJ {w a e f h x c0 c1 c2 c3}(i:bH.own w a x.C_ c0)(h1:xd.own w e x.R_ c1)(j:bH.own w f x.u_ c2)(k:jl.own w h x.G_ c3):bz.own w (a++(e++(f++h))) x (c0++(c1++(c2++c3))):=by
 show (dr bH (dr xd (dr bH jl))).own w _ (x.C_,x.R_,x.u_,x.G_) _;exact (iO i (iO h1 (iO j k)))
theorem nL {w0:World}{M:List Nat}{L:List V}{w:World}{x0:List au}{j:Option Addr}{k p:Nat}{G0:List Nat}{x1:Int}{x2:Bool}{f:List au}{q:Option Addr}{r t:Nat}{G3:List Nat}{x4:Int}{a:List (List Int)}{u:Option Addr}{v H:Nat}{G5:List Nat}{e:List (List Int)}{R:Option Addr}{X k6:Nat}{G6:List Nat}(idx:List Nat)(h:St w0 M L w)(i:jr L idx=[W aW G0 x0 [S j k p],W aW G3 f [S q r t],W bi G5 a [S u v H],W bi G6 e [S R X k6]])(hn:qO idx=y) :
  ∃F,St w0 M (oI L idx++[W bz F (av.mk (am.mk x0 x1) x2 (am.mk f x4) (dd.mk (aw.mk a) (aw.mk e))) [S j k p,A x1,B x2,S q r t,A x4,S u v H,S R X k6]]) w:=by
 have o0:aW.own w G0 x0 [S j k p]:=h.ok' (rm (L:=L) (is:=idx) (by rw [i];simp:W aW G0 x0 [S j k p]∈jr L idx));have o1:aW.own w G3 f [S q r t]:=h.ok' (rm (L:=L) (is:=idx) (by rw [i];simp:W aW G3 f [S q r t]∈jr L idx));have o2:bi.own w G5 a [S u v H]:=h.ok' (rm (L:=L) (is:=idx) (by rw [i];simp:W bi G5 a [S u v H]∈jr L idx));have o3:bi.own w G6 e [S R X k6]:=h.ok' (rm (L:=L) (is:=idx) (by rw [i];simp:W bi G6 e [S R X k6]∈jr L idx));have ho:=(DJ (x:=(av.mk (am.mk x0 x1) x2 (am.mk f x4) (dd.mk (aw.mk a) (aw.mk e)))) (zP (x:=(am.mk x0 x1)) o0 (⟨z,z⟩:eI.own w [] _ _)) (⟨z,z⟩:xd.own w [] _ _) (zP (x:=(am.mk f x4)) o1 (⟨z,z⟩:eI.own w [] _ _)) (HV (x:=(dd.mk (aw.mk a) (aw.mk e))) (xC (x:=(aw.mk a)) o2) (xC (x:=(aw.mk e)) o3)));refine ⟨_,h.re idx [W bz _ (av.mk (am.mk x0 x1) x2 (am.mk f x4) (dd.mk (aw.mk a) (aw.mk e))) [S j k p,A x1,B x2,S q r t,A x4,S u v H,S R X k6]] hn ?_ (fun s i=>by rw [List.mem_singleton.1 i];exact ho)⟩;rw [i];simp [dW,W]
theorem dC {w X x cs}(h:cN.rd w X x cs):∃a c0 e c1,cs=[P a x.l_ c0,P e x.g_ c1]∧eLI.rd w X x.l_ [P a x.l_ c0]∧bi.rd w X x.g_ [P e x.g_ c1]:=by
 obtain ⟨i,j,rfl,f,h1⟩:=GX h;obtain ⟨a,c0,rfl⟩:=dM f;obtain ⟨e,c1,rfl⟩:=dM h1;exact ⟨a,c0,e,c1,z,f,h1⟩
theorem bd {w X x cs}(h:bM.rd w X x cs):∃a c0 e c1 f c2 i c3,cs=[B x.D_,A x.n_.q_,A x.n_.j_,P a x.A_ c0,A x.K_,P e x.m_.l_ c1,P f x.m_.g_ c2,A x.J_,P i x.c_ c3,A x.o_,A x.H_,A x.F_]∧eLI.rd w X x.A_ [P a x.A_ c0]∧eLI.rd w X x.m_.l_ [P e x.m_.l_ c1]∧bi.rd w X x.m_.g_ [P f x.m_.g_ c2]∧eLI.rd w X x.c_ [P i x.c_ c3]:=by
 obtain ⟨L,M,R,d3,d4,d5,d6,d7,d8,d9,rfl,p,h1,j,q,r,s,k,t,u,v⟩:=Ht h;obtain rfl:=p;obtain rfl:=h1;obtain ⟨a,c0,rfl⟩:=dM j;obtain rfl:=q;obtain ⟨e,c1,f,c2,rfl,F,H⟩:=dC r;obtain rfl:=s;obtain ⟨i,c3,rfl⟩:=dM k;obtain rfl:=t;obtain rfl:=u;obtain rfl:=v;exact ⟨a,c0,e,c1,f,c2,i,c3,z,j,F,H,k⟩
theorem bR {w X x cs}(h:bH.rd w X x cs):∃a c0,cs=[P a x.b_ c0,A x.p_]∧aW.rd w X x.b_ [P a x.b_ c0]:=by
 obtain ⟨f,i,rfl,e,h1⟩:=Ix h;obtain ⟨a,c0,rfl⟩:=dM e;obtain rfl:=h1;exact ⟨a,c0,z,e⟩
theorem dz {w X x cs}(h:cf.rd w X x cs):∃a c0,cs=[P a x.k_ c0]∧bi.rd w X x.k_ [P a x.k_ c0]:=by
 obtain ⟨f,rfl,e⟩:=ER h;obtain ⟨a,c0,rfl⟩:=dM e;exact ⟨a,c0,z,e⟩
theorem qV {w X x cs}(h:jl.rd w X x cs):∃a c0 e c1,cs=[P a x.x_.k_ c0,P e x.y_.k_ c1]∧bi.rd w X x.x_.k_ [P a x.x_.k_ c0]∧bi.rd w X x.y_.k_ [P e x.y_.k_ c1]:=by
 obtain ⟨k,p,rfl,f,h1⟩:=Jh h;obtain ⟨a,c0,rfl,i⟩:=dz f;obtain ⟨e,c1,rfl,j⟩:=dz h1;exact ⟨a,c0,e,c1,z,i,j⟩
theorem fg {w X x cs}(h:bz.rd w X x cs):∃a c0 e c1 f c2 i c3,cs=[P a x.C_.b_ c0,A x.C_.p_,B x.R_,P e x.u_.b_ c1,A x.u_.p_,P f x.G_.x_.k_ c2,P i x.G_.y_.k_ c3]∧aW.rd w X x.C_.b_ [P a x.C_.b_ c0]∧aW.rd w X x.u_.b_ [P e x.u_.b_ c1]∧bi.rd w X x.G_.x_.k_ [P f x.G_.x_.k_ c2]∧bi.rd w X x.G_.y_.k_ [P i x.G_.y_.k_ c3]:=by
 obtain ⟨u,v,F,H,rfl,j,h1,k,p⟩:=EO h;obtain ⟨a,c0,rfl,q⟩:=bR j;obtain rfl:=h1;obtain ⟨e,c1,rfl,r⟩:=bR k;obtain ⟨f,c2,i,c3,rfl,s,t⟩:=qV p;exact ⟨a,c0,e,c1,f,c2,i,c3,z,q,r,s,t⟩
def ia:Enc bh:=Dc bm (fun x=>x.t_)
theorem dn {w X x c0}(a:bm.rd w X x.t_ c0):ia.rd w X x c0:=by
 show bm.rd w X x.t_ _;exact a
theorem Fh {w X x cs}(h:ia.rd w X x cs):∃c0,cs=c0∧bm.rd w X x.t_ c0:=by
 exact ⟨cs,z,h⟩
theorem nX {w X x cs}(h:ia.rd w X x cs):∃a c0,cs=[P a x.t_ c0]∧bm.rd w X x.t_ [P a x.t_ c0]:=by
 obtain ⟨f,rfl,e⟩:=Fh h;obtain ⟨a,c0,rfl⟩:=dM e;exact ⟨a,c0,z,e⟩
def lE:Enc cl:=Dc (dr eLI eI) (fun x=>(x.O_,x.W_))
theorem eN {w X x c0 c1}(a:eLI.rd w X x.O_ c0)(h1:eI.rd w X x.W_ c1):lE.rd w X x (c0++c1):=by
 show (dr eLI eI).rd w X (x.O_,x.W_) _;exact (eM a h1)
theorem Kz {w X x cs}(h:lE.rd w X x cs):∃c0 c1,cs=(c0++c1)∧eLI.rd w X x.O_ c0∧eI.rd w X x.W_ c1:=by
 obtain ⟨c0,c1,rfl,a,h1⟩:=h;exact ⟨c0,c1,z,a,h1⟩
theorem kl {w X x cs}(h:lE.rd w X x cs):∃a c0,cs=[P a x.O_ c0,A x.W_]∧eLI.rd w X x.O_ [P a x.O_ c0]:=by
 obtain ⟨f,i,rfl,e,h1⟩:=Kz h;obtain ⟨a,c0,rfl⟩:=dM e;obtain rfl:=h1;exact ⟨a,c0,z,e⟩
def ls:Enc ca:=pC (fun x=>[I J x.n_.q_,I J x.n_.j_,I J x.Q_.B_,I J x.Q_.ab_]) 4 (fun _=>z) (by intro x u a;simp only [List.mem_cons,List.not_mem_nil,or_false] at a;rcases a with rfl|rfl|rfl|rfl<;>rfl)
abbrev cY:=bU ls 270
def pk:Enc cO:=pC (fun x=>[I J x.af_,I J x.ac_]) 2 (fun _=>z) (by intro x u a;simp only [List.mem_cons,List.not_mem_nil,or_false] at a;rcases a with rfl|rfl<;>rfl)
abbrev dc:=bU pk 301
def xJ:Enc dt:=pC (fun x=>[I J x.Y_,I J x.ae_,I J x.ai_,I J x.ag_,I J x.u_,I J x.G_,B x.ah_,B x.aj_]) 8 (fun _=>z) (by intro x u a;simp only [List.mem_cons,List.not_mem_nil,or_false] at a;rcases a with rfl|rfl|rfl|rfl|rfl|rfl|rfl|rfl<;>rfl)
abbrev mb:=bU xJ 196
def bZ:Enc aC:=pC (fun x=>[I J x.aa_,I J x.Y_]) 2 (fun _=>z) (by intro x u a;simp only [List.mem_cons,List.not_mem_nil,or_false] at a;rcases a with rfl|rfl<;>rfl)
abbrev bo:=bU bZ 77
def im:Enc aT:=Dc (dr bi bo) (fun x=>(x.r_,x.s_))
theorem dg {w X x c0 c1}(a:bi.rd w X x.r_ c0)(h1:bo.rd w X x.s_ c1):im.rd w X x (c0++c1):=by
 show (dr bi bo).rd w X (x.r_,x.s_) _;exact (eM a h1)
theorem GT {w X x cs}(h:im.rd w X x cs):∃c0 c1,cs=(c0++c1)∧bi.rd w X x.r_ c0∧bo.rd w X x.s_ c1:=by
 obtain ⟨c0,c1,rfl,a,h1⟩:=h;exact ⟨c0,c1,z,a,h1⟩
theorem mt {w X x cs}(h:im.rd w X x cs):∃a c0 e c1,cs=[P a x.r_ c0,P e x.s_ c1]∧bi.rd w X x.r_ [P a x.r_ c0]∧bo.rd w X x.s_ [P e x.s_ c1]:=by
 obtain ⟨i,j,rfl,f,h1⟩:=GT h;obtain ⟨a,c0,rfl⟩:=dM f;obtain ⟨e,c1,rfl⟩:=dM h1;exact ⟨a,c0,e,c1,z,f,h1⟩
def ow:Enc az:=Dc (dr dH (dr ia im)) (fun x=>(x.d_,x.Z_,x.I_))
theorem ie {w X x c0 c1 c2}(a:dH.rd w X x.d_ c0)(h1:ia.rd w X x.Z_ c1)(e:im.rd w X x.I_ c2):ow.rd w X x (c0++(c1++c2)):=by
 show (dr dH (dr ia im)).rd w X (x.d_,x.Z_,x.I_) _;exact (eM a (eM h1 e))
theorem GI {w X x cs}(h:ow.rd w X x cs):∃c0 c1 c2,cs=(c0++(c1++c2))∧(dH).rd w X x.d_ c0∧(ia).rd w X x.Z_ c1∧(im).rd w X x.I_ c2:=by
 obtain ⟨c0,_,rfl,a,c1,c2,rfl,h1,e⟩:=h;exact ⟨c0,c1,c2,z,a,h1,e⟩
theorem rq {w X x cs}(h:ow.rd w X x cs):∃a c0 e c1 f c2 i c3 j c4,cs=[P a x.d_.w_.c_ c0,P e x.d_.w_.f_ c1,A x.d_.e_.T_,A x.d_.e_.S_,A x.d_.e_.U_,A x.d_.e_.o_,A x.d_.e_.b_,A x.d_.e_.L_,B x.d_.e_.P_,A x.d_.t_,A x.d_.V_,A x.d_.X_,A x.d_.x_,A x.d_.y_,P f x.Z_.t_ c2,P i x.I_.r_ c3,P j x.I_.s_ c4]∧bt.rd w X x.d_.w_.c_ [P a x.d_.w_.c_ c0]∧eLS.rd w X x.d_.w_.f_ [P e x.d_.w_.f_ c1]∧bm.rd w X x.Z_.t_ [P f x.Z_.t_ c2]∧bi.rd w X x.I_.r_ [P i x.I_.r_ c3]∧bo.rd w X x.I_.s_ [P j x.I_.s_ c4]:=by
 obtain ⟨v,F,H,rfl,k,h1,p⟩:=GI h;obtain ⟨a,c0,e,c1,rfl,q,r⟩:=dK k;obtain ⟨f,c2,rfl,s⟩:=nX h1;obtain ⟨i,c3,j,c4,rfl,t,u⟩:=mt p;exact ⟨a,c0,e,c1,f,c2,i,c3,j,c4,z,q,r,s,t,u⟩
def kn (x:aC):List Value:=[I J x.aa_,I J x.Y_]
theorem Xw:∀a b:aC,LE o 77 (kn a) (kn b)=U (a.aa_==b.aa_&&(a.Y_==b.Y_&&y)):=by
 intro a b
 kernel_rfl
theorem We:Kk o 77 kn:=TJ Xw (by intro a b;cases a;cases b;rw [Bool.eq_iff_iff];simp) (by intro a;simp [kn,Instr.sameBits]) (by kernel_rfl)
theorem cH:isSl o 22 5:=oB (by kernel_rfl)
theorem ty5:eE o 5 n 1 1 [I K 0]:=eo (by kernel_rfl)
theorem us5:(o.underlying 5).isSome=y:=by kernel_rfl
theorem in3:BT o 3 J:=IH (by kernel_rfl)
theorem XB:eE o 79 y 3 40 [S N 0 0,A 0,A 0]:=eo (by kernel_rfl)
theorem Xz:tK o 79 [(0,1),(1,1),(2,1)]:=iR (by kernel_rfl)
theorem KS:fv o 79 2 2:=bP (by kernel_rfl)
theorem ty3:eE o 3 n 1 8 [A 0]:=eo (by kernel_rfl)
theorem bG:o.follows .mixedOrders=y:=by kernel_rfl
theorem LG:fv o 79 1 1:=bP (by kernel_rfl)
theorem Sf:fv o 79 0 0:=bP (by kernel_rfl)
theorem BF:eE o 22 n 1 24 [S N 0 0]:=eo (by kernel_rfl)
theorem aO:isSl o 74 3:=oB (by kernel_rfl)
theorem cn:eE o 126 y 3 64 [vS [],S N 0 0,S N 0 0]:=eo (by kernel_rfl)
theorem eD:isSl o 26 9:=oB (by kernel_rfl)
theorem ty9:eE o 9 n 1 16 [vS []]:=eo (by kernel_rfl)
theorem Gd:tK o 126 [(0,1),(1,1),(2,1)]:=iR (by kernel_rfl)
theorem gV:fv o 126 1 1:=bP (by kernel_rfl)
theorem br:eE o 74 n 1 24 [S N 0 0]:=eo (by kernel_rfl)
theorem pB:fv o 126 2 2:=bP (by kernel_rfl)
theorem mO:eE o 26 n 1 24 [S N 0 0]:=eo (by kernel_rfl)
theorem cu:eE o 28 y 2 48 [S N 0 0,S N 0 0]:=eo (by kernel_rfl)
theorem Lb:tK o 28 [(0,1),(1,1)]:=iR (by kernel_rfl)
theorem iU:fv o 28 1 1:=bP (by kernel_rfl)
theorem ek:fv o 28 0 0:=bP (by kernel_rfl)
theorem lU:eE o 25 n 1 24 [S N 0 0]:=eo (by kernel_rfl)
theorem lc:isSl o 25 126:=oB (by kernel_rfl)
theorem sj:eE o 30 y 7 56 [A 0,A 0,A 0,A 0,A 0,A 0,B n]:=eo (by kernel_rfl)
theorem WZ:tK o 30 [(0,1),(1,1),(2,1),(3,1),(4,1),(5,1),(6,1)]:=iR (by kernel_rfl)
theorem pp:eE o 32 y 14 144 zL4:=eo (by kernel_rfl)
theorem Cz:fv o 30 2 2:=bP (by kernel_rfl)
theorem AR:fv o 30 0 0:=bP (by kernel_rfl)
theorem yZ:fv o 30 3 3:=bP (by kernel_rfl)
theorem zm:fv o 30 4 4:=bP (by kernel_rfl)
theorem WQ:tK o 32 [(0,2),(2,7),(9,1),(10,1),(11,1),(12,1),(13,1)]:=iR (by kernel_rfl)
theorem zr:fv o 32 5 12:=bP (by kernel_rfl)
theorem yS:fv o 32 6 13:=bP (by kernel_rfl)
theorem us3:(o.underlying 3).isSome=y:=by kernel_rfl
theorem in5:BT o 5 K:=IH (by kernel_rfl)
theorem bn:eE o 142 y 2 32 [S N 0 0,A 0]:=eo (by kernel_rfl)
theorem Bk:fv o 142 0 0:=bP (by kernel_rfl)
theorem yP:fv o 142 1 1:=bP (by kernel_rfl)
theorem OF:tK o 142 [(0,1),(1,1)]:=iR (by kernel_rfl)
theorem st9:FH o 9:=TT (by kernel_rfl)
theorem rn:fv o 126 0 0:=bP (by kernel_rfl)
theorem Ci:fv o 30 1 1:=bP (by kernel_rfl)
theorem AH:fv o 30 5 5:=bP (by kernel_rfl)
theorem kZ:fv o 32 0 0:=bP (by kernel_rfl)
theorem wY:fv o 32 1 2:=bP (by kernel_rfl)
theorem xX:fv o 32 2 9:=bP (by kernel_rfl)
theorem Am:fv o 32 3 10:=bP (by kernel_rfl)
theorem Fe:fv o 32 4 11:=bP (by kernel_rfl)
theorem dL:eE o 132 y 2 48 [S N 0 0,S N 0 0]:=eo (by kernel_rfl)
theorem Ni:tK o 132 [(0,1),(1,1)]:=iR (by kernel_rfl)
theorem dQ:fv o 132 1 1:=bP (by kernel_rfl)
theorem dw:eE o 36 n 1 24 [S N 0 0]:=eo (by kernel_rfl)
theorem cP:isSl o 36 74:=oB (by kernel_rfl)
theorem cq:eE o 65 y 2 32 [S N 0 0,A 0]:=eo (by kernel_rfl)
theorem Hs:tK o 65 [(0,1),(1,1)]:=iR (by kernel_rfl)
theorem bu:eE o 134 y 12 160 zL3:=eo (by kernel_rfl)
theorem JS:tK o 134 [(0,1),(1,2),(3,1),(4,1),(5,2),(7,1),(8,1),(9,1),(10,1),(11,1)]:=iR (by kernel_rfl)
theorem fw:isSl o 63 134:=oB (by kernel_rfl)
theorem dT:eE o 71 y 7 120 zL2:=eo (by kernel_rfl)
theorem Nv:tK o 71 [(0,2),(2,1),(3,2),(5,2)]:=iR (by kernel_rfl)
theorem mi:eE o 35 y 1 24 [S N 0 0]:=eo (by kernel_rfl)
theorem Vh:tK o 35 [(0,1)]:=iR (by kernel_rfl)
theorem mr:fv o 35 0 0:=bP (by kernel_rfl)
theorem xj:eE o 33 n 1 24 [S N 0 0]:=eo (by kernel_rfl)
theorem vz:isSl o 33 71:=oB (by kernel_rfl)
theorem jI:eE o 147 y 2 32 [S N 0 0,A 0]:=eo (by kernel_rfl)
theorem Xa:tK o 147 [(0,1),(1,1)]:=iR (by kernel_rfl)
theorem tc:fv o 147 0 0:=bP (by kernel_rfl)
theorem qG:fv o 147 1 1:=bP (by kernel_rfl)
theorem iS:fv o 132 0 0:=bP (by kernel_rfl)
theorem mg:fv o 134 1 1:=bP (by kernel_rfl)
theorem dE:eE o 130 y 2 16 [A 0,A 0]:=eo (by kernel_rfl)
theorem Gi:tK o 130 [(0,1),(1,1)]:=iR (by kernel_rfl)
theorem SB (a e f h:Int):LE o 130 [A a,A f] [A e,A h]=U (a==e&&(f==h&&y)):=by kernel_rfl
theorem gC:fv o 134 2 3:=bP (by kernel_rfl)
theorem rz:fv o 134 3 4:=bP (by kernel_rfl)
theorem dD:fv o 134 4 5:=bP (by kernel_rfl)
theorem pt:fv o 134 6 8:=bP (by kernel_rfl)
theorem mM:fv o 134 5 7:=bP (by kernel_rfl)
theorem mh:fv o 130 0 0:=bP (by kernel_rfl)
theorem qq:fv o 130 1 1:=bP (by kernel_rfl)
theorem cB:fv o 65 0 0:=bP (by kernel_rfl)
theorem gh:eE o 63 n 1 24 [S N 0 0]:=eo (by kernel_rfl)
theorem nq:fv o 134 8 10:=bP (by kernel_rfl)
theorem rP:fv o 65 1 1:=bP (by kernel_rfl)
theorem jh:fv o 134 7 9:=bP (by kernel_rfl)
theorem nk:fv o 134 9 11:=bP (by kernel_rfl)
theorem oD:fv o 134 0 0:=bP (by kernel_rfl)
theorem ty4:eE o 4 n 1 1 [B n]:=eo (by kernel_rfl)
theorem ex:fv o 67 0 0:=bP (by kernel_rfl)
theorem Cc:fv o 69 0 0:=bP (by kernel_rfl)
theorem dy:eE o 67 y 1 24 [S N 0 0]:=eo (by kernel_rfl)
theorem CB:fv o 69 1 1:=bP (by kernel_rfl)
theorem yb:fv o 71 0 0:=bP (by kernel_rfl)
theorem wy:fv o 71 3 5:=bP (by kernel_rfl)
theorem xg:eE o 69 y 2 48 [S N 0 0,S N 0 0]:=eo (by kernel_rfl)
theorem va:fv o 71 1 2:=bP (by kernel_rfl)
theorem rO:fv o 71 2 3:=bP (by kernel_rfl)
theorem Vi:tK o 67 [(0,1)]:=iR (by kernel_rfl)
theorem SZ:tK o 69 [(0,1),(1,1)]:=iR (by kernel_rfl)
theorem Db:isSl o 334 130:=oB (by kernel_rfl)
theorem vU:fv o 268 0 0:=bP (by kernel_rfl)
theorem tW:fv o 268 1 1:=bP (by kernel_rfl)
theorem dB:eE o 268 y 2 16 [A 0,A 0]:=eo (by kernel_rfl)
theorem FU:tK o 268 [(0,1),(1,1)]:=iR (by kernel_rfl)
theorem Hk:fv o 270 1 2:=bP (by kernel_rfl)
theorem xv:isSl o 288 270:=oB (by kernel_rfl)
theorem ou:eE o 270 y 4 32 [A 0,A 0,A 0,A 0]:=eo (by kernel_rfl)
theorem VA:tK o 270 [(0,2),(2,2)]:=iR (by kernel_rfl)
theorem KD:fv o 30 6 6:=bP (by kernel_rfl)
theorem Va:fv o 270 0 0:=bP (by kernel_rfl)
theorem BN:isSl o 298 301:=oB (by kernel_rfl)
theorem FI:eE o 301 y 2 16 [A 0,A 0]:=eo (by kernel_rfl)
theorem Xc:tK o 301 [(0,1),(1,1)]:=iR (by kernel_rfl)
theorem OT:fv o 301 0 0:=bP (by kernel_rfl)
theorem OO:fv o 301 1 1:=bP (by kernel_rfl)
theorem kU:eE o 196 y 8 56 zL1:=eo (by kernel_rfl)
theorem IJ:tK o 196 [(0,1),(1,1),(2,1),(3,1),(4,1),(5,1),(6,1),(7,1)]:=iR (by kernel_rfl)
theorem UA:fv o 196 0 0:=bP (by kernel_rfl)
theorem OS:fv o 196 1 1:=bP (by kernel_rfl)
theorem Hc:fv o 196 2 2:=bP (by kernel_rfl)
theorem Pe:fv o 196 3 3:=bP (by kernel_rfl)
theorem OQ:fv o 196 4 4:=bP (by kernel_rfl)
theorem LF:fv o 196 5 5:=bP (by kernel_rfl)
theorem Vd:fv o 196 6 6:=bP (by kernel_rfl)
theorem OD:fv o 196 7 7:=bP (by kernel_rfl)
theorem MK:isSl o 149 196:=oB (by kernel_rfl)
theorem kO:eE o 39 y 2 48 [S N 0 0,S N 0 0]:=eo (by kernel_rfl)
theorem WR:tK o 39 [(0,1),(1,1)]:=iR (by kernel_rfl)
theorem kB:fv o 39 0 0:=bP (by kernel_rfl)
theorem rR:isSl o 37 77:=oB (by kernel_rfl)
theorem pE:eE o 77 y 2 16 [A 0,A 0]:=eo (by kernel_rfl)
theorem kN:fv o 39 1 1:=bP (by kernel_rfl)
theorem ve:eE o 37 n 1 24 [S N 0 0]:=eo (by kernel_rfl)
theorem Fp:fv o 77 0 0:=bP (by kernel_rfl)
theorem Cp:fv o 77 1 1:=bP (by kernel_rfl)
theorem Ue:tK o 77 [(0,1),(1,1)]:=iR (by kernel_rfl)
theorem dv:eE o 41 y 17 216 zL0:=eo (by kernel_rfl)
theorem Eo:tK o 41 [(0,14),(14,1),(15,2)]:=iR (by kernel_rfl)
theorem nD:fv o 41 2 15:=bP (by kernel_rfl)
theorem ld:fv o 41 0 0:=bP (by kernel_rfl)
theorem zc:fv o 41 1 14:=bP (by kernel_rfl)
theorem Wl:Wc o 182:=by unfold Wc;kernel_rfl
theorem vc:fv o 99 2 2:=bP (by kernel_rfl)
theorem Sz:fv o 99 0 0:=bP (by kernel_rfl)
theorem Nu:fv o 99 1 1:=bP (by kernel_rfl)
theorem Xv:eE o 99 y 3 40 [S N 0 0,A 0,B n]:=eo (by kernel_rfl)
theorem XD:tK o 99 [(0,1),(1,1),(2,1)]:=iR (by kernel_rfl)
theorem wT:isSl o 102 101:=oB (by kernel_rfl)
theorem pz:eE o 101 n 1 8 [O N]:=eo (by kernel_rfl)
theorem bl4:Wg o 4:=UJ (by kernel_rfl)
theorem iz3:Vu o 3:=Vv (by kernel_rfl)
theorem RG:TF o 123 77 3:=(by kernel_rfl:o.underlying 123=U (.map 77 3))
theorem Xr:Ws o 5:=UN (by kernel_rfl)
theorem RB:fv o 58 1 1:=bP (by kernel_rfl)
theorem EE:fv o 58 0 0:=bP (by kernel_rfl)
theorem XA:eE o 58 y 2 32 [S N 0 0,B n]:=eo (by kernel_rfl)
theorem Xx:tK o 58 [(0,1),(1,1)]:=iR (by kernel_rfl)
theorem LJ (w){p0 a e f r}(H:Ij p0=U r)(h:eL8.rd w [] p0 [S a e f]) :
    Cq 4 [S a e f] w (B r):=by
 obtain rfl:=dA h;exact fe0 func4 ntmps4 z<|D<|C z<|nR<|G [.p,.lenS 22 5 cH,.p,.p] z<|nT<|af H▸xw z
theorem Jp (w){j p0 e i f r}(H:zj p0=U r)(HS:St w j [] w)(q:eL8.rd w j p0 [S e i f]) :
    Cl 10 [S e i f] w fun v w'=>∃s,v=pA s∧St w j [b s 79 [S e i f,A r.i_,A r.h_]] w':=by
 obtain rfl:=dA q;refine fe func10 ntmps10 HS z<|D<|C z<|nR<|G [.p,.lenS 22 5 cH,.p,.p] z<|E<|Z<|D<|C z<|E<|aG<|lp [Int,Int] (fun a h=>[]) (fun a h=>[(0,P e p0 f),(3,A a),(4,A h)]) (fun kk a h=>oZ p0 kk a h=U r) [] (fun F k a h H=>?_) ⟨_,_,H,z⟩;exact Z<|D<|G [.p,.p,.lenS 22 5 cH,.p,.p] z<|jA [0,3,4] u3 3 12 3 15 3 (decide (h<4000)) z z (fun key=>c z<|C z<|oK key z)<|cJ H z (fun H=>ck<|cb<|ay<|oN 4 z<|g H fun u t H=>ix1 cH ty5 (Q q) t z z<|G [.cv 5 3 J us5 in3,.p,.p,.p,.p] z<|ap<|xb<|ay<|oN 3 z<|ap<|iA [] (k H) z) fun H=>ce<|bF<|D<|c z<|o1 z (aL [(0,[P e p0 f]),(2,[A a])] [P e p0 f,A 0,A a] z z XB Xz z ⟨z,z,nl z,z,z,nl z,Y⟩ z)<|ob _ z fun x=>C z<|nT<|af H▸xo z fun w' hw'=>⟨_,z,_,z,hw'.sel [0] z z⟩
theorem lT (w){e p0b p0 a a_p0b n_p0b c_p0b r}(H:lu p0b p0=U r)(HS:St w e [b a 79 [P a_p0b p0b c_p0b,A p0.i_,A p0.h_]] w)(g_p0b:eL8.rd w e p0b [S a_p0b n_p0b c_p0b]) :
    Cl 43 [pA a] w fun v w'=>v=A r.1∧St w e [b a 79 [S a_p0b n_p0b c_p0b,A r.2.i_,A r.2.h_]] w':=by
 obtain rfl:=dA g_p0b;refine fe func43 ntmps43 HS z<|D<|C z<|nR<|G [.p,.p,.p,.fa 79 2 2 KS] z<|d 2 0 ty3 z<|G [.p,.p,.p,.fa 79 2 2 KS] z<|sD 2 m u3 0 ty3 z<|E<|Z<|dG bG (by kernel_rfl)<|G [.p,.p,.fa 79 2 2 KS] z<|d 2 0 ty3 z<|G [.p,.p,.p,.fa 79 2 2 KS] z<|d 2 0 ty3 z<|oN 4 z<|ct<|bF<|Z<|Z<|dG bG (by kernel_rfl)<|G [.p,.p,.fa 79 1 1 LG] z<|d 1 0 ty3 z<|G [.p,.p,.fa 79 0 0 Sf] z<|d 0 0 BF z<|G [.lenS 22 5 cH,.p] z<|ct<|bF<|cI H z ?_ ?_<;>intro H
 ·exact Z<|dG bG (by kernel_rfl)<|G [.p,.p,.p,.fa 79 0 0 Sf] z<|d 0 0 BF z<|G [.p,.p,.fa 79 1 1 LG] z<|d 1 0 ty3 z<|g H fun h f H=>ix1 cH ty5 (Q g_p0b) f z z<|G [.cv 5 3 J us5 in3,.p,.p,.p] z<|ct<|bF<|ay<|G [.p,.p,.p,.fa 79 1 1 LG] z<|d 1 0 ty3 z<|G [.p,.p,.fa 79 1 1 LG] z<|sD 1 m u3 0 ty3 z<|nR<|c z<|nT<|af H▸xo z (y0 [0] z)
 exact ck<|D<|c z<|nT<|af H▸xo z (y0 [0] z)
theorem bX (w){q p0b p0 p1 f a_p0b n_p0b c_p0b r}(H:cV p0b p0 p1=U r)(HS:St w q [b f 79 [P a_p0b p0b c_p0b,A p0.i_,A p0.h_]] w)(g_p0b:eL8.rd w q p0b [S a_p0b n_p0b c_p0b]) :
    Cl 41 [pA f,A p1] w fun v w'=>v=A r.1∧St w q [b f 79 [S a_p0b n_p0b c_p0b,A r.2.i_,A r.2.h_]] w':=by
 obtain rfl:=dA g_p0b;refine fe func41 ntmps41 HS z<|D<|C z<|E<|Z<|D<|c z<|cJ H z (fun H=>D<|C z<|nT<|aA<|af H▸xo z (y0 [0] z)) fun H=>ck<|Z<|D<|c z<|cJ H z ?_ ?_<;>intro H
 ·exact D<|C z<|oV0 [0] H func43 (fun h e a=>lT e h (a.carve [0] z z) (rdB [0] z z a g_p0b)) z (fun _=>(z:_=l)) kf fun u h H=>C z<|g H fun x s H=>o1 z (yT z z z s)<|C z<|nT<|aA<|af H▸xo z (y0 [1] z)
 exact ck<|D<|C z<|oV0 [0] H func43 (fun i e a=>lT e i (a.carve [0] z z) (rdB [0] z z a g_p0b)) z (fun _=>(z:_=l)) kf fun F i H=>C z<|nR<|C z<|oV0 [1] H func43 (fun j e a=>lT e j (a.carve [1] z z) (rdB [1] z z a g_p0b)) z (fun _=>(z:_=u3)) kf fun L j H=>C z<|E<|Z<|wk m [2] z<|ay<|C z<|oV0 [0] H func43 (fun k e a=>lT e k (a.carve [0] z z) (rdB [0] z z a g_p0b)) z (fun _=>(z:_=l)) kf fun M k H=>C z<|nR<|C z<|oV0 [1] H func43 (fun p e a=>lT e p (a.carve [1] z z) (rdB [1] z z a g_p0b)) z (fun _=>(z:_=u3)) kf fun R p H=>C z<|E<|Z<|wk m [2] z<|ay<|oN 11 z<|g H fun X t H=>o1 z (yT z z z t)<|C z<|nT<|af H▸xo z (y0 [0] z)
theorem kx (w){h p0b p0 p1 a a_p0b n_p0b c_p0b r}(H:kD p0b p0 p1=U r)(HS:St w h [b a 79 [P a_p0b p0b c_p0b,A p0.i_,A p0.h_]] w)(g_p0b:eL8.rd w h p0b [S a_p0b n_p0b c_p0b]) :
    Cl 13 [pA a,A p1] w fun v w'=>v=B r.1∧St w h [b a 79 [S a_p0b n_p0b c_p0b,A r.2.i_,A r.2.h_]] w':=by
 obtain rfl:=dA g_p0b;exact fe func13 ntmps13 HS z<|D<|C z<|nR<|c z<|oV0 [0] H func41 (fun e i f=>bX i e (f.carve [0] z z) (rdB [0] z z f g_p0b)) z (fun _=>(z:_=l)) kf fun j e H=>c z<|nT<|af H▸xo z (y0 [1] z)
theorem eK (w){e p0b p0 p1 a a_p0b n_p0b c_p0b f h i r}(H:eh p0b p0 p1=U r)(HS:St w e [b a 79 [P a_p0b p0b c_p0b,A p0.i_,A p0.h_]] w)(g_p0b:eL8.rd w e p0b [S a_p0b n_p0b c_p0b])(q:eLI.rd w e p1 [S f h i]) :
    Cl 39 [pA a,S f h i] w fun v w'=>v=A r.1∧St w e [b a 79 [S a_p0b n_p0b c_p0b,A r.2.i_,A r.2.h_]] w':=by
 obtain rfl:=dA g_p0b;obtain rfl:=dA q;exact fe func39 ntmps39 HS z<|D<|C z<|nR<|G [.p,.p,.p,.lenS 74 3 aO] z<|oV0 [0] H func41 (fun j t k=>bX t j (k.carve [0] z z) (rdB [0] z z k g_p0b)) z (fun _=>(z:_=l)) kf fun u j H=>g H fun x s H=>ix1 aO ty3 (Q q) s z z<|C z<|nT<|af H▸xo z (y0 [1] z)
theorem BG (w){M0 p0b p0 p1 q a_p0b n_p0b c_p0b r}(H:qB p0b p0 p1=U r)(HS:St w M0 [b q 79 [P a_p0b p0b c_p0b,A p0.i_,A p0.h_]] w)(g_p0b:eL8.rd w M0 p0b [S a_p0b n_p0b c_p0b]) :
    Cl 125 [pA q,A p1] w fun v w'=>∃a0 n0 c0 F0 a1 n1 c1 F1,v=.agg #[vS r.1.E_,S a0 n0 c0,S a1 n1 c1]∧St w M0 [W eLI F0 r.1.z_ [S a0 n0 c0],W eLS F1 r.1.M_ [S a1 n1 c1],b q 79 [S a_p0b n_p0b c_p0b,A r.2.i_,A r.2.h_]] w':=by
 obtain rfl:=dA g_p0b;refine fe func125 ntmps125 HS z<|D<|oA cn z fun a7=>nR<|gA (val:=vS) (h1:=fun _=>z) [([97,103,101]:List UInt8),([115,105,122,101]:List UInt8),([99,111,108,111,117,114]:List UInt8),([107]:List UInt8),([108,111,110,103,110,97,109,101]:List UInt8)] [(0,[vS ([97,103,101]:List UInt8)]),(1,[vS ([115,105,122,101]:List UInt8)]),(2,[vS ([99,111,108,111,117,114]:List UInt8)]),(3,[vS ([107]:List UInt8)]),(4,[vS ([108,111,110,103,110,97,109,101]:List UInt8)])] z z z z z eD ty9 z z z ⟨z,z,nl z,z,z,nl z,z,z,nl z,z,z,nl z,z,z,nl z,Y⟩ z z kf fun d9=>c z<|g H fun M c9 H=>ix1 eD ty9 (aj (e:=eLS) (r:=2) z) c9 z z<|o1 z (aL [(0,[vS M])] [vS M,S N 0 0,S N 0 0] z z cn Gd z ⟨z,z,nl z,Y⟩ z)<|oA cn z fun a8=>sD 0 u3 u3 3 cn z<|E<|Z<|D<|C z<|oV0 [0] H func13 (fun b4 s a=>kx s b4 (a.carve [0] z z) (rdB [0] z z a g_p0b)) z (fun _=>(z:_=u5)) kf fun e0 b4 H=>cJ H z ?_ ?_<;>intro H
 ·refine D<|C z<|oV0 [4] H func41 (fun b5 s a=>bX s b5 (a.carve [4] z z) (rdB [4] z z a g_p0b)) z (fun _=>(z:_=u6)) kf fun b6 b5 H=>c z<|E<|Z<|wk u4 [1,2,3,5] z<|ay<|C z<|bI [(-9999),(-7),0,3,20] aO ty3 z kf fun e1=>oV0 [3] H func39 (fun b7 s a=>eK s b7 (a.carve [3] z z) (rdB [3] z z a g_p0b) (rdO 4 [3] z a z z)) z (fun _=>(z:_=u6)) kf fun e2 b7 H=>C z<|E<|Z<|D<|C z<|E<|aG<|CW.weak ?_ (pN eI 3)
  refine lp (Int::Int::(oT Int [Int,Int])) (fun X a2 t a3 a4 a9 u a5=>[b q 79 [P a_p0b p0b c_p0b,A X,A a2],b a7 126 [vS ([]:List UInt8),S N 0 0,S N 0 0],b a8 126 [vS M,P a3 t a4,S N 0 0],W eLI a9 t [P a3 t a4]]) (fun X a2 t a3 a4 a9 u a5=>[(0,pA q),(4,pA a7),(5,pA a8),(6,A (J.wrap (1+b6.1))),(7,A u),(8,A a5)]) (fun kk X a2 t a3 a4 a9 u a5=>fT b6 p0b M kk X a2 t u a5=U r) [5,0,2,6] (fun k1 c3 X a2 t a3 a4 a9 u a5 H=>?_) ⟨_,_,_,_,_,_,_,_,H,z⟩;refine Z<|D<|oN 3 z<|cJ H z ?_ ?_<;>intro H
  ·exact ck<|cb<|D<|G [.fa 126 1 1 gV] z<|d 1 2 br z<|C z<|bI [u] aO ty3 z kf fun e3=>g H fun e4 b8 H=>bx (r:=3) (ys:=([u]:List Int)) z z z z z z aO ty3 z z z (aj (e:=eLI) (r:=4) z) b8 kg fun e5 e6 e7=>da z (fun s a=>ew (i:=3) a z (ez b8)) fun d3=>G [.fa 126 1 1 gV] z<|sD 1 m u3 2 br z<|E<|ay<|oN 3 z<|oV0 [0] H func41 (fun b9 s a=>bX s b9 (a.carve [0] z z) (rdB [0] z z a g_p0b)) z (fun _=>(z:_=u6)) kf fun e9 b9 H=>c z<|ap<|xb<|ay<|oN 3 z<|ap<|iA [5,1,2,3] (c3 H) z
  exact ce<|bF<|D<|oX 0 2 cn z<|sD 0 u3 u3 1 cn z<|nT<|aA<|aQ (pN jS 9)<|af H▸xc 1 cn z (y2 [3,4,0] z)
 refine ck<|D<|C z<|oV0 [4] H func41 (fun c2 s a=>bX s c2 (a.carve [4] z z) (rdB [4] z z a g_p0b)) z (fun _=>(z:_=u6)) kf fun b0 c2 H=>c z<|E<|Z<|Z<|wk u4 [1,2,3,5] z<|ay<|C z<|E<|aG<|CW.weak ?_ (pN jS 9)
 refine lp (Int::(oT (List UInt8) [])) (fun p f x F R=>[b q 79 [P a_p0b p0b c_p0b,A b0.2.i_,A b0.2.h_],b a7 126 [vS ([]:List UInt8),S N 0 0,S N 0 0],b a8 126 [vS M,S N 0 0,P x f F],W eLS R f [P x f F]]) (fun p f x F R=>[(0,pA q),(4,pA a7),(5,pA a8),(9,A (J.wrap (2+b0.1))),(10,A p)]) (fun kk p f x F R=>fU b0 M kk p f=U r) [3,0,2,4] (fun k2 c4 p f x F R H=>?_) ⟨_,_,_,_,_,H,z⟩;refine Z<|D<|oN 3 z<|cJ H z ?_ ?_<;>intro H
 ·refine ck<|cb<|g H fun a6 b1 H=>tD 7 [(0,y),(1,y),(3,y)] (tr 4 [⟨4,[],[2]⟩,⟨5,[],[2]⟩,⟨6,[],[2]⟩] [2]) (St w M0 u4) bG (by kernel_rfl) (bg (aq (cT (bg (aq aJ))))) (mA [y,y,y,y] z)<|G [.fa 126 2 2 pB] z<|aR z (ak z) (r1 2 2 z mO z)<|C z<|aV<|xs1 ⟨2,52,fun L=>S (U ⟨L,0,N⟩) (([([114,101,100]:List UInt8),([98,108,117,101]:List UInt8),([120]:List UInt8),([103,114,101,101,110]:List UInt8)]:List (List UInt8)).length) 4,fun L=>W eLS [L] ([([114,101,100]:List UInt8),([98,108,117,101]:List UInt8),([120]:List UInt8),([103,114,101,101,110]:List UInt8)]:List (List UInt8)) [S (U ⟨L,0,N⟩) (([([114,101,100]:List UInt8),([98,108,117,101]:List UInt8),([120]:List UInt8),([103,114,101,101,110]:List UInt8)]:List (List UInt8)).length) 4]⟩ z z ⟨z,fun _ _ _ _ h k=>gA (val:=vS) (h1:=fun _=>z) [([114,101,100]:List UInt8),([98,108,117,101]:List UInt8),([120]:List UInt8),([103,114,101,101,110]:List UInt8)] [(0,[vS ([114,101,100]:List UInt8)]),(1,[vS ([98,108,117,101]:List UInt8)]),(2,[vS ([120]:List UInt8)]),(3,[vS ([103,114,101,101,110]:List UInt8)])] z z z z z eD ty9 z z z ⟨z,z,nl z,z,z,nl z,z,z,nl z,z,z,nl z,Y⟩ z z h fun b=>aV (k b)⟩<|Wv 0 4 ⟨fun _=>z,fun _=>z,z⟩ (fun _=>mA [y,y,y,y] z) z fun L=>?_
  dsimp only [sr,sv];exact xfd [(4,n),(5,n),(6,n)] z z (mA [y,y,y,y] z)<|UV (e:=jS) (xs:=([([114,101,100]:List UInt8),([98,108,117,101]:List UInt8),([120]:List UInt8),([103,114,101,101,110]:List UInt8)]:List (List UInt8))) (j:=p) z z z z z z eD ty9 z (aj (e:=eLS) (r:=4) z) b1 (by rw [Nat.mul_one])<|BX z z (ak z) (bb z z ty9 (jF (aj (e:=eLS) (r:=4) z) b1))<|gA (val:=vS) (h1:=fun _=>z) [a6] [(0,[vS a6])] z z z z z eD ty9 z z z ⟨z,z,nl z,Y⟩ z z (fun _=>(mA [y,y,y,y] z)) fun d4=>aV<|tQ<|g H fun d5 b2 H=>bx (r:=3) (ys:=([a6]:List (List UInt8))) z z z z z z eD ty9 z z z (aj (e:=eLS) (r:=5) z) b2 kg fun d6 d7 d8=>da z (fun s a=>ew (i:=3) a z (ez b2)) fun d0=>G [.fa 126 2 2 pB] z<|sD 2 m u3 2 mO z<|ap<|xb<|ay<|oN 3 z<|ap<|iA [0,1,2,3] (c4 H) z
 exact ce<|bF<|D<|oX 0 2 cn z<|sD 0 u3 u3 1 cn z<|nT<|aQ (pN eI 3)<|af H▸xc 1 cn z (y2 [4,3,0] z)
theorem Gw (w){M0 p0b p0 t a_p0b n_p0b c_p0b r}(H:wb p0b p0=U r)(HS:St w M0 [b t 79 [P a_p0b p0b c_p0b,A p0.i_,A p0.h_]] w)(g_p0b:eL8.rd w M0 p0b [S a_p0b n_p0b c_p0b]) :
    Cl 85 [pA t] w fun v w'=>∃a0 n0 c0 F0 a1 n1 c1 F1,v=.agg #[S a0 n0 c0,S a1 n1 c1]∧St w M0 [W bt F0 r.1.c_ [S a0 n0 c0],W eLS F1 r.1.f_ [S a1 n1 c1],b t 79 [S a_p0b n_p0b c_p0b,A r.2.i_,A r.2.h_]] w':=by
 obtain rfl:=dA g_p0b;refine fe func85 ntmps85 HS z<|D<|oA cu z fun a6=>nR<|gA (val:=vS) (h1:=fun _=>z) [([110,111]:List UInt8),([121,101,115]:List UInt8)] [(0,[vS ([110,111]:List UInt8)]),(1,[vS ([121,101,115]:List UInt8)])] z z z z z eD ty9 z z z ⟨z,z,nl z,z,z,nl z,Y⟩ z z kf fun b8=>o1 z (aL [(1,[S (U ⟨b8,0,N⟩) (([([110,111]:List UInt8),([121,101,115]:List UInt8)]:List (List UInt8)).length) 2])] [S N 0 0,S (U ⟨b8,0,N⟩) (([([110,111]:List UInt8),([121,101,115]:List UInt8)]:List (List UInt8)).length) 2] z z cu Lb z ⟨z,z,nl z,Y⟩ z)<|oA cu z fun a7=>sD 0 l l 3 cu z<|E<|jn (Int::Int::(oT (List UInt8) [])) (fun F L f s u M=>[b t 79 [P a_p0b p0b c_p0b,A F,A L],b a6 28 [S N 0 0,S N 0 0],b a7 28 [S N 0 0,P s f u],W eLS M f [P s f u]]) (fun F L f s u M=>[(0,pA t),(2,pA a6),(3,pA a7)]) (fun F L f s u M=>s.isNone=n∧my p0b F L f=U r) (fun F L f s u M ⟨d2,H⟩=>?_) (fun J1=>?_)
 ·unfold my at H;refine D<|C z<|oV0 [0] H func41 (fun b9 w1 a=>bX w1 b9 (a.carve [0] z z) (rdB [0] z z a g_p0b)) z (fun _=>(z:_=u5)) kf fun c2 b9 H=>c z<|E<|Z<|D<|C z<|E<|aG<|CW.weak ?_ (pN bN 126)
  refine lp (Int::Int::(oT aD [Int])) (fun R X x a2 a3 a8 a4=>[b t 79 [P a_p0b p0b c_p0b,A R,A X],b a6 28 [S N 0 0,S N 0 0],b a7 28 [P a2 x a3,P s f u],W bt a8 x [P a2 x a3],W eLS M f [P s f u]]) (fun R X x a2 a3 a8 a4=>[(0,pA t),(2,pA a6),(3,pA a7),(4,A (J.wrap (1+c2.1))),(5,A a4)]) (fun kk R X x a2 a3 a8 a4=>jw c2 p0b f kk R X x a4=U r) [4,1,2,5,3] (fun k1 c3 R X x a2 a3 a8 a4 H=>?_) ⟨_,_,_,_,_,_,_,H,z⟩;refine Z<|D<|oN 3 z<|cJ H z ?_ ?_<;>intro H
  ·exact ck<|cb<|cd 6 [(0,y),(1,y),(2,y),(3,y),(4,n),(5,n)] (St w M0 u5) bG (by kernel_rfl) (bg (aq (cT (bg (aq aJ))))) (mA [n,y,y,y,y] z)<|G [.fa 28 0 0 ek] z<|aR z (ak z) (r1 0 2 z lU z)<|c z<|oV2 [0] H func125 (fun b0 w1 a=>BG w1 b0 (a.carve [0] z z) (rdB [0] z z a g_p0b)) z (fun _ _ _ _ _ _ _=>(z:_=u8)) (fun _ _ _ _ _ _ _=>(mA [n,y,y,y,y] z)) fun k b0 H b1 b2 d3 b3 b4 d4=>vp z (fun w1 a=>ww (x0:=k.1.E_) [5,6] a z z) fun d5=>fx (C':=St w M0 u9) z (fun _ h=>h)<|dF [(0,[vS k.1.E_,P b1 k.1.z_ b2,P b3 k.1.M_ b4])] z z z z z lc cn z z ⟨z,z,nl z,Y⟩ [vS k.1.E_,P b1 k.1.z_ b2,P b3 k.1.M_ b4] z (fun _=>(mA [n,y,y,y,y] z)) fun d6=>fx z (fun _ h=>uC (p:=9) (q:=8) h z z z)<|aV<|gJ<|g H fun d7 c4 H=>io (r:=3) (j:=10) z z z z z z lc cn z z z z z z z c4 kg fun d8 d9 e0=>G [.fa 28 0 0 ek] z<|sD 0 m l 2 lU z<|ap<|xb<|wk u5 [1,2,4,7,11] z<|ay<|oN 3 z<|ap<|iA [3,0,1,4,2] (c3 H) z
  exact ce<|bF<|D<|oX 0 2 cu z<|sD 0 l l 1 cu z<|nT<|af H▸xc 1 cu z (y2 [3,4,0] z)
 refine D<|C z<|oV0 [0] H func13 (fun b5 w1 a=>kx w1 b5 (a.carve [0] z z) (rdB [0] z z a g_p0b)) z (fun _=>(z:_=u5)) kf fun e1 b5 H=>cJ H z (fun H=>ay<|G [.fa 28 1 1 iU] z<|d 1 3 mO z<|gA (val:=vS) (h1:=fun _=>z) [([112,101,114,104,97,112,115]:List UInt8)] [(0,[vS ([112,101,114,104,97,112,115]:List UInt8)])] z z z z z eD ty9 z z z ⟨z,z,nl z,Y⟩ z z kf fun e2=>g H fun e3 b6 H=>bx (r:=2) (ys:=([([112,101,114,104,97,112,115]:List UInt8)]:List (List UInt8))) z z z z z z eD ty9 z z z (aj (e:=eLS) (r:=5) z) b6 kg fun e4 e5 e6=>da z (fun w1 a=>ew (i:=2) a z (ez b6)) fun b7=>G [.fa 28 1 1 iU] z<|sD 1 m l 3 mO z<|ap<|iJ [4,1,3,2] (J1 ⟨b7,H⟩) z) fun H=>bY<|iJ [4,1,3,2] (J1 ⟨z,H⟩) z
theorem Ez (w){X p0b p0 f a_p0b n_p0b c_p0b r}(H:us p0b p0=U r)(HS:St w X [b f 79 [P a_p0b p0b c_p0b,A p0.i_,A p0.h_]] w)(g_p0b:eL8.rd w X p0b [S a_p0b n_p0b c_p0b]) :
    Cl 86 [pA f] w fun v w'=>v=.agg #[A r.1.T_,A r.1.S_,A r.1.U_,A r.1.o_,A r.1.b_,A r.1.L_,B r.1.P_]∧St w X [b f 79 [S a_p0b n_p0b c_p0b,A r.2.i_,A r.2.h_]] w':=by
 obtain rfl:=dA g_p0b;exact fe func86 ntmps86 HS z<|D<|oA sj z fun a0=>nR<|C z<|bI [1,1,2,3,9] aO ty3 z kf fun a1=>oV0 [0] H func39 (fun h e a=>eK e h (a.carve [0] z z) (rdB [0] z z a g_p0b) (rdO 2 [0] z a z z)) z (fun _=>(z:_=u4)) kf fun i h H=>C z<|bI [0,50,200,500,999] aO ty3 z kf fun a2=>oV0 [3] H func39 (fun j e a=>eK e j (a.carve [3] z z) (rdB [3] z z a g_p0b) (rdO 4 [3] z a z z)) z (fun _=>(z:_=u6)) kf fun k j H=>C z<|bI [1,4,10,25,200] aO ty3 z kf fun a3=>oV0 [5] H func39 (fun p e a=>eK e p (a.carve [5] z z) (rdB [5] z z a g_p0b) (rdO 6 [5] z a z z)) z (fun _=>(z:_=u8)) kf fun q p H=>C z<|bI [0,1,2,4,6,6] aO ty3 z kf fun a4=>oV0 [7] H func39 (fun s e a=>eK e s (a.carve [7] z z) (rdB [7] z z a g_p0b) (rdO 8 [7] z a z z)) z (fun _=>(z:_=u10)) kf fun t s H=>C z<|bI [1,3,7,15,31,31] aO ty3 z kf fun a5=>oV0 [9] H func39 (fun u e a=>eK e u (a.carve [9] z z) (rdB [9] z z a g_p0b) (rdO 10 [9] z a z z)) z (fun _=>(z:_=u12)) kf fun x u H=>C z<|bI [62,63,80,100,150,2000] aO ty3 z kf fun a6=>oV0 [11] H func39 (fun F e a=>eK e F (a.carve [11] z z) (rdB [11] z z a g_p0b) (rdO 12 [11] z a z z)) z (fun _=>(z:_=u14)) kf fun L F H=>C z<|oV0 [13] H func13 (fun M e a=>kx e M (a.carve [13] z z) (rdB [13] z z a g_p0b)) z (fun _=>(z:_=u15)) kf fun R M H=>o1 z (aL [(0,[A i.1]),(1,[A k.1]),(2,[A q.1]),(3,[A t.1]),(4,[A x.1]),(5,[A L.1]),(6,[B R.1])] [A i.1,A k.1,A q.1,A t.1,A x.1,A L.1,B R.1] z z sj WZ z ⟨z,z,nl z,z,z,nl z,z,z,nl z,z,z,nl z,z,z,nl z,z,z,nl z,z,z,nl z,Y⟩ z)<|sD 0 u7 u7 1 sj z<|nT<|af H▸xc 1 sj z (y0 [14] z)
theorem Gm (w){F p0b p0 L a_p0b n_p0b c_p0b r}(H:vW p0b p0=U r)(HS:St w F [b L 79 [P a_p0b p0b c_p0b,A p0.i_,A p0.h_]] w)(g_p0b:eL8.rd w F p0b [S a_p0b n_p0b c_p0b]) :
    Cl 37 [pA L] w fun v w'=>∃a0 n0 c0 F0 a1 n1 c1 F1,v=.agg #[S a0 n0 c0,S a1 n1 c1,A r.1.e_.T_,A r.1.e_.S_,A r.1.e_.U_,A r.1.e_.o_,A r.1.e_.b_,A r.1.e_.L_,B r.1.e_.P_,A r.1.t_,A r.1.V_,A r.1.X_,A r.1.x_,A r.1.y_]∧St w F [W bt F0 r.1.w_.c_ [S a0 n0 c0],W eLS F1 r.1.w_.f_ [S a1 n1 c1],b L 79 [S a_p0b n_p0b c_p0b,A r.2.i_,A r.2.h_]] w':=by
 obtain rfl:=dA g_p0b;refine fe func37 ntmps37 HS z<|D<|oA pp z fun b1=>nR<|C z<|oV2 [0] H func85 (fun b2 e a=>Gw e b2 (a.carve [0] z z) (rdB [0] z z a g_p0b)) z (fun _ _ _ _ _ _ _=>(z:_=u5)) kh2 fun f b2 H a2 a3 d5 a4 a5 d6=>oA cu z fun b3=>sD 0 l l 5 cu z<|nR<|C z<|oV0 [4] H func86 (fun b4 e a=>Ez e b4 (a.carve [4] z z) (rdB [4] z z a g_p0b)) z (fun _=>(z:_=u7)) kf fun j b4 H=>oA sj z fun b5=>sD 0 u7 u7 7 sj z<|E<|jn [Int,Int,Int,Int,Int,Int] (fun M R s t u x=>[b L 79 [P a_p0b p0b c_p0b,A M,A R],b b1 32 zL4,b b3 28 [P a2 f.1.c_ a3,P a4 f.1.f_ a5],W bt d5 f.1.c_ [P a2 f.1.c_ a3],W eLS d6 f.1.f_ [P a4 f.1.f_ a5],b b5 30 [A s,A j.1.S_,A t,A u,A x,A j.1.L_,B j.1.P_]]) (fun M R s t u x=>[(0,pA L),(2,pA b1),(3,pA b3),(4,pA b5)]) (fun M R s t u x=>mz p0b f j M R s t u x=U r) (fun M R s t u x H=>?_) (fun J1=>?_)
 ·unfold mz at H;refine Z<|g H fun b6 d8 H=>g H fun b7 d9 H=>g H fun b8 e0 H=>g H fun b9 e1 H=>tD 19 [(0,y),(1,y),(2,y),(5,y),(6,y),(7,y),(8,y),(11,y),(14,y)] (tr 6 [⟨3,[(4,y)],[]⟩,⟨9,[(10,y)],[]⟩,⟨13,[],[12]⟩,⟨15,[(16,y),(17,y)],[12]⟩] [12,18]) (St w F u6) bG (by kernel_rfl) (aq aJ) (mA [n,y,y,y,y,y] z)<|aR z (ak z) (rx 0 2 _ z cu z)<|aR z (ak z) (rx 0 5 _ z sj z)<|G [.p,.p,.fa 28 0 0 ek] z<|aR z (ak z) (r1 0 2 z lU z)<|G [.lenS 25 126 lc,.p,.p] z<|aV<|xs2 ⟨12,31,fun X=>S (U ⟨X,0,N⟩) (([1,6,6]:List Int).length) 3,fun X=>W eLI [X] ([1,6,6]:List Int) [S (U ⟨X,0,N⟩) (([1,6,6]:List Int).length) 3]⟩ ⟨18,5,fun a6=>pA a6,fun a6=>b a6 32 zL4⟩ z z ⟨z,fun _ _ _ _ h k=>bI [1,6,6] aO ty3 z h fun b=>aV (k b)⟩ (sgA (i:=18) z z z z z z pp)<|xq2 0 6 ⟨fun _ _=>z,fun _ _=>z,z⟩ (fun _ _=>mA [n,y,y,y,y,y] z) z fun a7 q=>dI z (iF func41 z) z z z z (fun e a=>bX e d8 (a.carve [0] z z) (rdB [0] z z a g_p0b)) fun e7 e w2 a c3=>?_
  obtain ⟨rfl,c4⟩:=c3;refine ⟨St w F u9,a.comp [0] z z c4,(mA [n,y,y,y,y,y] z),?_⟩;refine C z<|aV<|?_;clear a;revert a7 q;refine xq2 2 6 ⟨fun _ _=>z,fun _ _=>z,z⟩ (fun _ _=>mA [n,y,y,y,y,y] z) z fun a7 q=>dI z (iF func41 z) z z z z (fun e a=>bX e d9 (a.carve [8] z z) (rdB [8] z z a g_p0b)) fun e9 e w2 a c5=>?_;obtain ⟨rfl,c6⟩:=c5;refine ⟨St w F u10,a.comp [8] z z c6,(mA [n,y,y,y,y,y] z),?_⟩;refine C z<|aV<|?_;clear a;revert a7 q;refine Xd 4 6 ⟨fun _ _=>z,fun _ _=>z,z⟩ (fun _ _=>mA [n,y,y,y,y,y] z) z (fun X q=>?_);dsimp only [sr,sv];revert q;refine xq1 5 7 ⟨fun _=>z,fun _=>z,z⟩ (fun _=>mA [n,y,y,y,y,y] z) z fun q=>dI z (iF func39 z) z z z z (fun e a=>eK e e0 (a.carve [9] z z) (rdB [9] z z a g_p0b) (rdO 6 [9] z a z z)) fun f0 e w2 a c7=>?_;obtain ⟨rfl,c8⟩:=c7;refine ⟨St w F u11,a.comp [9] z z c8,(mA [n,y,y,y,y,y] z),?_⟩;refine aV ?_;clear a;revert q;refine xq1 6 7 ⟨fun _=>z,fun _=>z,z⟩ (fun _=>mA [n,y,y,y,y,y] z) z fun q=>dI z (iF func41 z) z z z z (fun e a=>bX e e1 (a.carve [10] z z) (rdB [10] z z a g_p0b)) fun f1 e w2 a c9=>?_;obtain ⟨rfl,d0⟩:=c9;refine ⟨St w F u12,a.comp [10] z z d0,(mA [n,y,y,y,y,y] z),?_⟩;refine C z<|aR z (ak z) (aL [(0,[P a2 f.1.c_ a3,P a4 f.1.f_ a5]),(2,[A s,A j.1.S_,A t,A u,A x,A j.1.L_,B j.1.P_]),(9,[A (J.wrap (1+b6.1))]),(10,[A (J.wrap (1+b7.1))]),(11,[A b8.1]),(12,[A (J.wrap (1+b9.1))])] [P a2 f.1.c_ a3,P a4 f.1.f_ a5,A s,A j.1.S_,A t,A u,A x,A j.1.L_,B j.1.P_,A (J.wrap (1+b6.1)),A (J.wrap (1+b7.1)),A b8.1,A (J.wrap (1+b9.1)),A 0] z z pp WQ z ⟨z,z,nl z,z,z,nl z,z,z,nl z,z,z,nl z,z,z,nl z,z,z,nl z,Y⟩ z)<|aV<|?_;clear a;revert q;refine xe1 9 7 ⟨fun _=>z,fun _=>z,z⟩ (fun _=>mA [n,y,y,y,y,y] z) (fun a6=>?_);dsimp only [sr,sv];exact tQ<|sD 0 u14 u14 7 pp z<|E<|Z<|wk u8 [1,2,3,4,5,6,7,11] z<|cd 4 [(0,y),(1,y),(2,y),(3,n)] (St w F u8) bG (by kernel_rfl) (aq aJ) (mA [y,y,y,y,y,y,y,n] z)<|G [.fa 32 5 12 zr] z<|aR z (ak z) (r1 12 6 z ty3 z)<|C z<|oV0 [7] H func41 (fun a8 e a=>bX e a8 (a.carve [7] z z) (rdB [7] z z a g_p0b)) z (fun _=>(z:_=u9)) (fun _=>(mA [y,y,y,y,y,y,y,n] z)) fun f2 a8 H=>aV<|gJ<|G [.p,.fa 32 6 13 yS] z<|sD 13 m u14 6 ty3 z<|nR<|oX 0 6 pp z<|sD 0 u14 u14 0 pp z<|nT<|af H▸xc 0 pp z (y2 [2,3,8] z)
 refine Z<|wk u6 [1,2,3,5,6,7] z<|ay<|C z<|oV0 [4] H func13 (fun a9 e a=>kx e a9 (a.carve [4] z z) (rdB [4] z z a g_p0b)) z (fun _=>(z:_=u7)) kf fun e4 a9 H=>cJ H z ?_ ?_<;>intro H
 ·exact D<|C z<|bI [4,10] aO ty3 z kf fun e5=>oV0 [6] H func39 (fun b0 e a=>eK e b0 (a.carve [6] z z) (rdB [6] z z a g_p0b) (rdO 7 [6] z a z z)) z (fun _=>(z:_=u9)) kf fun e6 b0 H=>G [.fa 30 2 2 Cz] z<|sD 2 m u7 5 ty3 z<|E<|Z<|wk u7 [0,1,2,3,5,7,8] z<|ay<|G [.fa 30 0 0 AR] z<|sD 0 m u7 4 ty3 z<|nR<|G [.fa 30 3 3 yZ] z<|sD 3 m u7 4 ty3 z<|E<|ay<|G [.fa 30 4 4 zm] z<|sD 4 m u7 4 ty3 z<|ap<|iJ [6,0,3,1,2,4] (J1 H) z
 exact bY<|iJ [6,0,3,1,2,5] (J1 H) z
theorem tL (w){L p0b p0 p1 h a_p0b n_p0b c_p0b r}(H:qT p0b p0 p1=U r)(HS:St w L [b h 79 [P a_p0b p0b c_p0b,A p0.i_,A p0.h_]] w)(g_p0b:eL8.rd w L p0b [S a_p0b n_p0b c_p0b]) :
    Cl 88 [pA h,A p1] w fun v w'=>∃X n0 c0 F0,v=S X n0 c0∧St w L [W eL8 F0 r.1 [S X n0 c0],b h 79 [S a_p0b n_p0b c_p0b,A r.2.i_,A r.2.h_]] w':=by
 obtain rfl:=dA g_p0b;refine fe func88 ntmps88 HS z<|D<|C z<|nR<|bD (e:=e8) z z z z cH ty5 kf fun a5=>C z<|E<|Z<|D<|C z<|E<|aG<|lp (Int::Int::(oT Int [Int])) (fun j k a f p s q=>[b h 79 [P a_p0b p0b c_p0b,A j,A k],W eL8 s a [P f a p]]) (fun j k a f p s q=>[(0,pA h),(1,A p1),(5,P f a p),(6,A q)]) (fun kk j k a f p s q=>f.isNone=n∧iN p1 p0b kk j k a q=U r) [0,1] (fun k1 M j k a f p s q ⟨a4,H⟩=>?_) ⟨_,_,_,_,_,_,_,⟨z,H⟩,z⟩;refine Z<|D<|oN 3 z<|cJ H z ?_ ?_<;>intro H
 ·exact ck<|cb<|ay<|c z<|oV0 [0] H func43 (fun x w1 t=>lT w1 x (t.carve [0] z z) (rdB [0] z z t g_p0b)) z (fun _=>(z:_=u3)) kf fun u x H=>G [.cv 3 5 K us3 in5] z<|gA (val:=I K) (h1:=fun _=>z) [K.wrap u.1] [(0,[I K (K.wrap u.1)])] z z z z z cH ty5 z z z ⟨z,z,nl z,Y⟩ z z kf fun a6=>g H fun a7 F H=>bx (r:=1) (ys:=([K.wrap u.1]:List Int)) z z z z z z cH ty5 z z z (aj (e:=eL8) (r:=3) z) F kg fun a8 a9 b0=>da z (fun w1 t=>ew (i:=1) t z (ez F)) fun R=>C z<|ap<|xb<|ay<|oN 3 z<|ap<|iA [2,1] (M ⟨R,H⟩) z
 exact ce<|bF<|D<|c z<|nT<|af H▸xo z (y1 [1,0] z)
theorem co (w){a p0 f r}(H:cX p0=U r)(HS:St w a [] w)(t:gp.rd w a p0 f) :
    Cl 126 [.agg f.toArray] w fun v w'=>∃k p c0 u,v=.agg #[S k p c0,A r.j_]∧St w a [W eL8 u r.v_ [S k p c0]] w':=by
 obtain ⟨x,F,rfl,q⟩:=fE t;exact fe func126 ntmps126 HS z<|D<|ob _ z fun L=>oA bn z fun M=>E<|Z<|cd 6 [(1,y),(2,y),(4,y),(5,y),(0,n),(3,n)] (St w a l) bG (by kernel_rfl) (aq aJ) (mA [y,y] z)<|G [.fa 142 0 0 Bk] z<|aR z (ak z) (r1 0 0 z BF z)<|G [.fa 142 1 1 yP] z<|aR z (ak z) (r1 1 0 z ty3 z)<|bD (e:=e8) z z z z cH ty5 (fun _=>(mA [y,y] z)) fun R=>g H fun h s H=>bx (r:=2) (ys:=p0.v_) z z z z z z cH ty5 z z z (Q q) s (fun _ _ _=>(mA [y,y] z)) fun i j X=>aV<|gJ<|o1 z (aL [(0,[P i h j]),(1,[A p0.j_])] [P i h j,A p0.j_] z z bn OF z ⟨z,z,nl z,z,z,nl z,Y⟩ z)<|sD 0 l l 1 bn z<|nT<|af H▸xc 1 bn z (y1 [2] z)
theorem aN (w){p0 p1 p2 r}(H:aM p0 p1 p2=U r) :
    Cq 62 [A p0,A p1,A p2] w (B r):=by
 exact fe0 func62 ntmps62 z<|D<|C z<|nR<|oN 4 z<|jA [6,0,2] u3 1 10 4 14 4 (decide (p0≤p2)) z z (fun key=>oN 3 z<|C z<|oK key z)<|C z<|nT<|af H▸xw z
theorem Aa (w){p0 r}(H:uA p0=U r) :
    Cq 154 [vS p0] w (B r):=by
 refine fe0 func154 ntmps154 z<|D<|C z<|E<|Z<|D<|G [.p,.lenT 9 st9] z<|bQ H func62 (fun _ f k t=>aN k f) z tt2 fun u H=>C z<|cR H z fun H=>ck<|Z<|D<|C z<|E<|aG<|lp [Int] (fun a=>[]) (fun a=>[(0,vS p0),(3,A a)]) (fun kk a=>qd p0 kk a=U r) [] (fun F e a H=>?_) ⟨_,H,z⟩
 refine Z<|D<|G [.p,.p,.lenT 9 st9,.p] z<|cJ H z ?_ ?_<;>intro H
 ·exact ck<|cb<|D<|c z<|g H fun v h H=>o1 z (ug (s:=p0) z z z st9 h)<|c z<|jO [0,3] l 2 18 5 23 5 H z z (fun i H key=>c z<|g H fun x j H=>o1 z (ug (s:=p0) z z z st9 j)<|C z<|C z<|oL H key z) fun i q H=>cR H z fun H=>bY<|xb<|ay<|oN 3 z<|ap<|iA [] (e H) z
 exact ce<|bF<|D<|C z<|nT<|af H▸xw z
theorem zF (w){p0 f j h r}(H:sQ p0=U r)(i:eLS.rd w [] p0 [S f j h]) :
    Cq 122 [S f j h] w (B r):=by
 obtain rfl:=dA i;refine fe0 func122 ntmps122 z<|D<|C z<|E<|Z<|D<|C z<|E<|aG<|lp [Int] (fun a=>[]) (fun a=>[(0,P f p0 h),(3,A a)]) (fun kk a=>ip p0 kk a=U r) [] (fun x k a H=>?_) ⟨_,H,z⟩;refine Z<|D<|G [.p,.p,.lenS 26 9 eD,.p] z<|cJ H z ?_ ?_<;>intro H
 ·refine ck<|cb<|Z<|D<|c z<|g H fun L s H=>ix1 eD ty9 (Q i) s z z<|bQ H func154 (fun _ t F M=>Aa F t) z tt2 fun R H=>C z<|cR H z fun H=>ck<|D<|C z<|E<|aG<|lp [Int] (fun e=>[]) (fun e=>[(0,P f p0 h),(3,A a),(4,A e)]) (fun kk e=>kM a p0 (ip p0 x) kk e=U r) [] (fun k2 q e H=>?_) ⟨_,H,z⟩
  refine Z<|D<|oN 3 z<|cJ H z ?_ ?_<;>intro H
  ·refine ck<|cb<|Z<|dG bG (by kernel_rfl)<|c z<|g H fun X u H=>ix1 eD ty9 (Q i) u z z<|c z<|g H fun a0 v H=>ix1 eD ty9 (Q i) v z z<|C z<|ct<|bF<|cI H z ?_ ?_<;>intro H
   ·exact yE H z
   exact bY<|xb<|ay<|oN 3 z<|ap<|iA [] (q H) z
  exact ce<|xb<|ay<|oN 3 z<|ap<|iA [] (k H) z
 exact ce<|bF<|D<|C z<|nT<|af H▸xw z
theorem th (w){p0 i r}(H:ol p0=U r)(g0:bN.rd w [] p0 i) :
    Cq 123 [.agg i.toArray] w (B r):=by
 obtain ⟨q,s,t,u,rfl,h,v⟩:=cc g0;refine fe0 func123 ntmps123 z<|D<|ob _ z fun j=>C z<|E<|Z<|D<|G [.fa 126 0 0 rn] z<|d 0 0 ty9 z<|bQ H func154 (fun _ x a f=>Aa a x) z tt2 fun a7 H=>C z<|cR H z fun H=>ck<|Z<|D<|G [.fa 126 1 1 gV] z<|d 1 0 br z<|G [.lenS 74 3 aO,.p] z<|cJ H z ?_ ?_<;>intro H
 ·exact D<|G [.fa 126 2 2 pB] z<|d 2 0 mO z<|G [.lenS 26 9 eD] z<|bQ H func62 (fun _ F a f=>aN a F) z tt2 fun a8 H=>C z<|jB [2,1] l 1 16 4 20 4 H z z (fun u21 H key=>G [.fa 126 2 2 pB] z<|d 2 0 mO z<|bQ H func122 (fun _ L a f=>zF a L (Q v a f)) z tt2 fun a9 H=>C z<|oL H key z) fun u21 a4 H=>C z<|nT<|af H▸xw z
 refine ck<|Z<|D<|G [.fa 126 2 2 pB] z<|d 2 0 mO z<|G [.lenS 26 9 eD,.p,.p] z<|jR [1] m 1 25 5 30 5 (decide ((p0.z_.length:Int)>3)) z z (fun key=>G [.fa 126 1 1 gV] z<|d 1 0 br z<|G [.lenS 74 3 aO,.p] z<|C z<|oK key z)<|cR H z fun H=>ck<|Z<|D<|C z<|E<|aG<|lp [Int] (fun e=>[b j 126 [vS p0.E_,P q p0.z_ s,P t p0.M_ u]]) (fun e=>[(1,pA j),(3,A e)]) (fun kk e=>nI p0 kk e=U r) [0] (fun k1 k e H=>?_) ⟨_,H,z⟩
 refine Z<|D<|G [.p,.fa 126 1 1 gV] z<|d 1 0 br z<|G [.lenS 74 3 aO,.p] z<|cJ H z ?_ ?_<;>intro H
 ·refine ck<|cb<|Z<|dG bG (by kernel_rfl)<|G [.fa 126 1 1 gV] z<|d 1 0 br z<|C z<|g H fun b0 M H=>ix1 aO ty3 (Q h) M z z<|bQ H func62 (fun _ R a f=>aN a R) z tt2 fun b1 H=>c z<|jO [1,3] l 2 45 17 62 17 H z z (fun X H key=>?_) fun X a5 H=>?_
  ·exact oN 3 z<|jB [1,3,45] u3 3 48 13 61 13 H z z (fun a0 H key=>G [.fa 126 1 1 gV] z<|d 1 0 br z<|C z<|g H fun b2 a1 H=>ix1 aO ty3 (Q h) a1 z z<|G [.fa 126 1 1 gV] z<|d 1 0 br z<|c z<|g H fun b3 a2 H=>ix1 aO ty3 (Q h) a2 z z<|C z<|C z<|oL H key z) fun a0 a6 H=>G [.p] z<|oL H key z
  refine ct<|bF<|cI H z ?_ ?_<;>intro H
  ·exact yE H z
  exact bY<|xb<|ay<|oN 3 z<|ap<|iA [0] (k H) z
 exact ce<|bF<|D<|C z<|nT<|af H▸xw z
theorem gz (w){p0 F r}(H:eR p0=U r)(g0:be.rd w [] p0 F) :
    Cq 78 [.agg F.toArray] w (B r):=by
 obtain ⟨L,M,R,X,rfl,k,b2⟩:=aX g0;refine fe0 func78 ntmps78 z<|D<|ob _ z fun j=>C z<|E<|Z<|D<|G [.fa 28 0 0 ek] z<|d 0 0 lU z<|G [.lenS 25 126 lc] z<|bQ H func62 (fun _ b3 f h=>aN f b3) z tt2 fun e2 H=>c z<|jO [1] m 1 10 6 16 6 H z z (fun u19 H key=>G [.fa 28 1 1 iU] z<|d 1 0 mO z<|G [.lenS 26 9 eD] z<|bQ H func62 (fun _ b4 f h=>aN f b4) z tt2 fun e3 H=>C z<|C z<|oL H key z) fun u19 b8 H=>C z<|jO [1] m 1 17 5 22 5 H z z (fun b5 H key=>G [.fa 28 1 1 iU] z<|d 1 0 mO z<|bQ H func122 (fun _ b6 f h=>zF f b6 (Q b2 f h)) z tt2 fun e4 H=>C z<|C z<|oL H key z) fun b5 b9 H=>cR H z fun H=>ck<|Z<|D<|C z<|E<|aG<|lp [Int] (fun a=>[b j 28 [P L p0.c_ M,P R p0.f_ X]]) (fun a=>[(1,pA j),(3,A a)]) (fun kk a=>fO p0 kk a=U r) [0] (fun k1 a0 a H=>?_) ⟨_,H,z⟩;refine Z<|D<|G [.p,.fa 28 0 0 ek] z<|d 0 0 lU z<|G [.lenS 25 126 lc,.p] z<|cJ H z ?_ ?_<;>intro H
 ·refine ck<|cb<|Z<|D<|G [.fa 28 0 0 ek] z<|d 0 0 lU z<|C z<|g H fun i a1 H=>bL z z z z z lc cn z k a1 fun c1 c2 q s=>?_
  obtain ⟨a2,a3,a4,a5,rfl,a6,a7⟩:=cc q;refine o1 z (cG (cs:=[vS i.E_,P a2 i.z_ a3,P a4 i.M_ a5]) z z cn (bw bor s) z)<|bQ H func123 (fun _ a8 f h=>th f a8 (cD z (Q a6 f h) (Q a7 f h))) z tt2 fun c3 H=>C z<|cR H z fun H=>ck<|D<|C z<|E<|aG<|lp [Int] (fun e=>[b j 28 [P L p0.c_ M,P R p0.f_ X]]) (fun e=>[(1,pA j),(3,A a),(4,A e)]) (fun kk e=>jW a p0 (fO p0 k1) kk e=U r) [0] (fun k2 a9 e H=>?_) ⟨_,H,z⟩;refine Z<|D<|oN 3 z<|cJ H z ?_ ?_<;>intro H
  ·refine ck<|cb<|Z<|dG bG (by kernel_rfl)<|G [.fa 28 0 0 ek] z<|d 0 0 lU z<|C z<|g H fun c4 b0 H=>bL z z z z z lc cn z k b0 fun c5 c6 t u=>?_
   obtain ⟨c7,c8,c9,d0,rfl,d1,d2⟩:=cc t;refine G [.fa 126 0 0 rn] z<|o1 z (bb z z ty9 (bw bor (rK u 0 1)))<|G [.fa 28 0 0 ek] z<|d 0 0 lU z<|C z<|g H fun d3 b1 H=>bL z z z z z lc cn z k b1 fun d4 d5 v x=>?_;obtain ⟨d6,d7,d8,d9,rfl,e0,e1⟩:=cc v;refine G [.fa 126 0 0 rn] z<|o1 z (bb z z ty9 (bw bor (rK x 0 1)))<|C z<|ct<|bF<|cI H z ?_ ?_<;>intro H
   ·exact yE H z
   exact bY<|xb<|ay<|oN 3 z<|ap<|iA [0] (a9 H) z
  exact ce<|xb<|ay<|oN 3 z<|ap<|iA [0] (a0 H) z
 exact ce<|bF<|D<|C z<|nT<|af H▸xw z
theorem sA (w){p0 r}(H:pK p0=U r) :
    Cq 103 [.agg #[A p0.T_,A p0.S_,A p0.U_,A p0.o_,A p0.b_,A p0.L_,B p0.P_]] w (B r):=by
 exact fe0 func103 ntmps103 z<|D<|ob _ z fun M=>C z<|nR<|G [.fa 30 0 0 AR] z<|d 0 0 ty3 z<|bQ H func62 (fun _ f a e=>aN a f) z tt2 fun R H=>C z<|jB [1,2] l 2 6 4 10 4 H z z (fun u13 H key=>G [.fa 30 1 1 Ci] z<|d 1 0 ty3 z<|bQ H func62 (fun _ h a e=>aN a h) z tt2 fun X H=>C z<|oL H key z) fun u13 u H=>C z<|jB [1,2] l 2 11 4 15 4 H z z (fun u18 H key=>G [.fa 30 2 2 Cz] z<|d 2 0 ty3 z<|bQ H func62 (fun _ i a e=>aN a i) z tt2 fun a0 H=>C z<|oL H key z) fun u18 v H=>C z<|jB [1,2] l 2 16 4 20 4 H z z (fun j H key=>G [.fa 30 3 3 yZ] z<|d 3 0 ty3 z<|bQ H func62 (fun _ k a e=>aN a k) z tt2 fun a1 H=>C z<|oL H key z) fun j x H=>C z<|jB [1,2] l 2 21 4 25 4 H z z (fun p H key=>G [.fa 30 4 4 zm] z<|d 4 0 ty3 z<|bQ H func62 (fun _ q a e=>aN a q) z tt2 fun a2 H=>C z<|oL H key z) fun p F H=>C z<|jB [2,1] l 1 26 4 30 4 H z z (fun s H key=>G [.fa 30 5 5 AH] z<|d 5 0 ty3 z<|bQ H func62 (fun _ t a e=>aN a t) z tt2 fun a3 H=>C z<|oL H key z) fun s L H=>C z<|nT<|af H▸xw z
theorem wS (w){a p0 r}(H:kK p0=U r)(HS:St w a [] w) :
    Cl 104 [A p0] w fun v w'=>∃f h c0 i,v=S f h c0∧St w a [W eLI i r [S f h c0]] w':=by
 refine fe func104 ntmps104 HS z<|D<|C z<|E<|Z<|D<|C z<|E<|aG<|D<|c z<|cJ H z (fun H=>D<|bI [24109,48218,60273,64291,65296,65497,65530] aO ty3 z kf fun j=>C z<|nT<|cA<|aA<|af H▸xo z (y1 [0] z)) fun H=>D<|c z<|cJ H z (fun H=>D<|bI [162,1137,4061,9909,18681,29208,39734] aO ty3 z kf fun k=>C z<|nT<|cA<|aA<|af H▸xo z (y1 [0] z)) fun H=>bY<|xb<|D<|bD (e:=eI) z z z z aO ty3 kf fun p=>C z<|nT<|af H▸xo z (y1 [0] z)
theorem qi (w){p0 f r}(H:lx p0=U r)(X:dH.rd w [] p0 f) :
    Cq 58 [.agg f.toArray] w (B r):=by
 obtain ⟨a6,a7,a8,a9,rfl,i,j⟩:=dK X;exact fe0 func58 ntmps58 z<|D<|ob _ z fun b0=>C z<|nR<|G [.fa 32 0 0 kZ] z<|oX 0 0 cu z<|bQ H func78 (fun _ k a e=>gz a k (ai (Q i a e) (Q j a e))) z tt2 fun b1 H=>C z<|jB [1,2] l 2 6 4 10 4 H z z (fun u19 H key=>G [.fa 32 1 2 wY] z<|oX 2 0 sj z<|bQ H func103 (fun _ q a e=>sA a (p0:=p0.e_) q) z tt2 fun b2 H=>C z<|oL H key z) fun u19 a0 H=>C z<|jB [1,2] l 2 11 4 15 4 H z z (fun s H key=>G [.fa 32 2 9 xX] z<|d 9 0 ty3 z<|bQ H func62 (fun _ t a e=>aN a t) z tt2 fun b3 H=>C z<|oL H key z) fun s a1 H=>C z<|jB [1,2] l 2 16 8 24 8 H z z (fun u H key=>G [.fa 32 3 10 Am] z<|d 10 0 ty3 z<|G [.fa 32 0 0 kZ,.fa 28 0 0 ek] z<|d 0 0 lU z<|G [.lenS 25 126 lc] z<|bQ H func62 (fun _ v a e=>aN a v) z tt2 fun b4 H=>C z<|oL H key z) fun u a2 H=>C z<|jB [1,2] l 2 25 6 31 6 H z z (fun x H key=>G [.fa 32 4 11 Fe] z<|d 11 0 ty3 z<|oV1 [] H func104 (fun h a e=>wS a h (e.carve [] z z)) z (fun _ _ _ _=>(z:_=l)) kh1 fun b5 h H b6 b7 b8=>G [.lenS 74 3 aO,.p] z<|fx z (C':=St w [] m) (ss [0] z z)<|C z<|oL H key z) fun x a3 H=>C z<|jB [1,2] l 2 32 4 36 4 H z z (fun F H key=>G [.fa 32 5 12 zr] z<|d 12 0 ty3 z<|bQ H func62 (fun _ L a e=>aN a L) z tt2 fun b9 H=>C z<|oL H key z) fun F a4 H=>C z<|jB [1,2] l 2 37 4 41 4 H z z (fun M H key=>G [.fa 32 6 13 yS] z<|d 13 0 ty3 z<|bQ H func62 (fun _ R a e=>aN a R) z tt2 fun c0 H=>C z<|oL H key z) fun M a5 H=>C z<|jA [2,1] l 1 42 6 48 6 (decide (p0.x_≤p0.y_)) z z (fun key=>G [.fa 32 5 12 zr] z<|d 12 0 ty3 z<|G [.fa 32 6 13 yS] z<|d 13 0 ty3 z<|C z<|C z<|oK key z)<|C z<|nT<|af H▸xw z
theorem tN (w){p0 p1 r}(H:pb p0 p1=U r) :
    Cq 217 [A p0,A p1] w (I J r):=by
 refine fe0 func217 ntmps217 z<|D<|C z<|E<|Z<|D<|C z<|bQ H func62 (fun _ a8 L F=>aN L a8) z tt2 fun c6 H=>c z<|jO [0,1] l 2 12 5 17 5 H z z (fun u12 H key=>c z<|bQ H func62 (fun _ a9 L F=>aN L a9) z tt2 fun c7 H=>C z<|C z<|oL H key z) fun u12 b2 H=>cR H z fun H=>ck<|D<|bI [1] aO ty3 z kf fun c8=>C z<|E<|Z<|D<|C z<|E<|aG<|lp (oT Int [Int]) (fun a t f u h=>[W eLI u a [P t a f]]) (fun a t f u h=>[(0,A p0),(1,A p1),(5,P t a f),(6,A h)]) (fun kk a t f u h=>t.isNone=n∧eJ p0 p1 kk a h=U r) [0] (fun k1 a5 a t f u h ⟨b0,H⟩=>?_) ⟨_,_,_,_,_,⟨z,H⟩,z⟩
 refine Z<|D<|oN 3 z<|cJ H z ?_ ?_<;>intro H
 ·refine ck<|cb<|D<|bI [1] aO ty3 z kf fun b4=>C z<|E<|Z<|D<|C z<|E<|aG<|lp (oT Int [Int]) (fun k s v x q=>[W eLI u a [P t a f],W eLI x k [P s k v]]) (fun k s v x q=>[(0,A p0),(1,A p1),(5,P t a f),(6,A h),(7,P s k v),(8,A q)]) (fun kk k s v x q=>s.isNone=n∧lD a (eJ p0 p1 k1) h kk k q=U r) [0,1] (fun k2 a6 k s v x q ⟨b1,H⟩=>?_) ⟨_,_,_,_,_,⟨z,H⟩,z⟩
  refine Z<|D<|G [.p,.p,.lenS 74 3 aO,.p] z<|cJ H z (fun H=>ck<|cb<|cd 12 [(0,y),(1,y),(2,y),(3,y),(4,y),(5,y),(6,y),(7,y),(8,y),(9,y),(10,y),(11,n)] (St w [] l) bG (by kernel_rfl) (bg (aq (cT (bg (aq (bg (aq (cT (bg (aq aJ)))))))))) (mA [y,y] z)<|oN 4 z<|g H fun M R H=>dp (e:=eI) (xs:=a) (j:=J.wrap (q-1)) z z z z z aO ty3 z (aj (e:=eLI) (r:=0) z) R (by rw [Nat.mul_one])<|aR z (ak z) (bb z z ty3 (jF (aj (e:=eLI) (r:=0) z) R))<|c z<|g H fun X a0 H=>dp (e:=eI) (xs:=a) (j:=q) z z z z z aO ty3 z (aj (e:=eLI) (r:=0) z) a0 (by rw [Nat.mul_one])<|aR z (ak z) (bb z z ty3 (jF (aj (e:=eLI) (r:=0) z) a0))<|C z<|bI [J.wrap (M+X)] aO ty3 z (fun _=>(mA [y,y] z)) fun b5=>aV<|gJ<|g H fun b6 a1 H=>bx (r:=1) (ys:=([J.wrap (M+X)]:List Int)) z z z z z z aO ty3 z z z (aj (e:=eLI) (r:=2) z) a1 kg fun b7 b8 b9=>da z (fun L F=>ew (i:=1) F z (ez a1)) fun a3=>C z<|ap<|xb<|ay<|oN 3 z<|ap<|iA [0,1] (a6 ⟨a3,H⟩) z) fun H=>ce<|bF<|ay<|C z<|bI [1] aO ty3 z kf fun c0=>g H fun c1 a2 H=>bx (r:=1) (ys:=([1]:List Int)) z z z z z z aO ty3 z z z (aj (e:=eLI) (r:=2) z) a2 kg fun c2 c3 c4=>da z (fun L F=>ew (i:=1) F z (ez a2)) fun a4=>C z<|ap<|xb<|ay<|oN 3 z<|ap<|iA [1] (a5 ⟨a4,H⟩) z
 exact ce<|bF<|D<|c z<|g H fun c5 a7 H=>ix1 aO ty3 (aj (e:=eLI) (r:=0) z) a7 z z<|C z<|nT<|af H▸xw z
theorem sV (w){p0 a r}(H:qb p0=U r)(f:gp.rd w [] p0 a) :
    Cq 130 [.agg a.toArray] w (B r):=by
 obtain ⟨j,k,rfl,q⟩:=fE f;exact fe0 func130 ntmps130 z<|D<|ob _ z fun s=>C z<|nR<|G [.fa 142 0 0 Bk] z<|d 0 0 BF z<|G [.lenS 22 5 cH,.p,.p] z<|jB [2,1] l 1 7 7 14 7 H z z (fun u14 H key=>G [.fa 142 1 1 yP] z<|d 1 0 ty3 z<|G [.fa 142 0 0 Bk] z<|d 0 0 BF z<|G [.lenS 22 5 cH] z<|bQ H func62 (fun _ e h t=>aN h e) z tt2 fun u H=>C z<|oL H key z) fun u14 i H=>C z<|nT<|af H▸xw z
theorem Fq (w){p0 a r}(H:xY p0=U r)(j:gp.rd w [] p0 a) :
    Cq 190 [.agg a.toArray] w (I J r):=by
 obtain ⟨k,p,rfl,e⟩:=fE j;refine fe0 func190 ntmps190 z<|D<|ob _ z fun q=>C z<|E<|Z<|D<|oX 0 0 bn z<|bQ H func130 (fun _ f h i=>sV h f (bl (Q e h i) z)) z tt2 fun s H=>C z<|cR H z fun H=>ck<|D<|G [.fa 142 0 0 Bk] z<|d 0 0 BF z<|G [.lenS 22 5 cH,.fa 142 1 1 yP] z<|d 1 0 ty3 z<|c z<|nT<|af H▸xw z
theorem DB (w){i p0 k r}(H:yo p0=U r)(HS:St w i [] w)(L:gp.rd w i p0 k) :
    Cl 159 [.agg k.toArray] w fun v w'=>∃u x c0 M,v=.tuple #[.agg #[S u x c0,A r.1.j_],A r.2.1,B r.2.2]∧St w i [W eL8 M r.1.v_ [S u x c0]] w':=by
 obtain ⟨R,X,rfl,a⟩:=fE L;refine fe func159 ntmps159 HS z<|D<|ob _ z fun a1=>oA bn z fun a2=>c z<|nR<|oX 0 0 bn z<|oV1 [] H func126 (fun q h f=>co h q (f.carve [] z z) (bl (Q a h f) z)) z (fun _ _ _ _=>(z:_=u3)) kh1 fun a3 q H a4 a5 a6=>oA bn z fun a7=>sD 0 l l 3 bn z<|E<|Z<|D<|oX 0 0 bn z<|bQ H func190 (fun _ F h f=>Fq h F (bl (Q a h f) z)) z tt2 fun a8 H=>C z<|cJ H z (fun H=>D<|oX 0 3 bn z<|sD 0 l l 1 bn z<|c z<|nT<|aA<|af H▸xc 1 bn z (y1 [2] z)) fun H=>ck<|D<|G [.fa 142 1 1 yP] z<|d 1 0 ty3 z<|G [.p,.fa 142 1 1 yP] z<|sD 1 m l 3 ty3 z<|E<|Z<|cd 19 [(0,y),(1,y),(2,y),(3,y),(4,y),(5,y),(6,y),(7,y),(8,y),(9,y),(10,y),(11,y),(12,y),(13,y),(14,y),(15,y),(16,y),(17,y),(18,n)] (St w i u4) bG (by kernel_rfl) (aq aJ) (mA [y,n,y,y] z)<|aR z (ak z) (rx 0 3 _ z bn z)<|G [.fa 142 0 0 Bk] z<|aR z (ak z) (r1 0 0 z BF z)<|G [.fa 142 1 1 yP] z<|aR z (ak z) (r1 1 0 z ty3 z)<|g H fun a9 s H=>dp (e:=e8) (xs:=p0.v_) (j:=p0.j_) z z z z z cH ty5 z (Q a) s (by rw [Nat.mul_one])<|aR z (ak z) (bb z z ty5 (jF (Q a) s))<|G [.cv 5 3 J us5 in3,.p,.fa 142 0 0 Bk] z<|aR z (ak z) (r1 0 0 z BF z)<|G [.fa 142 1 1 yP] z<|aR z (ak z) (r1 1 0 z ty3 z)<|C z<|g H fun b0 t H=>dp (e:=e8) (xs:=p0.v_) (j:=J.wrap (p0.j_+1)) z z z z z cH ty5 z (Q a) t (by rw [Nat.mul_one])<|aR z (ak z) (bb z z ty5 (jF (Q a) t))<|G [.cv 5 3 J us5 in3,.p] z<|sE 0 l l 1 bn z (mA [y,n,y,y] z)<|aV<|gJ<|c z<|nT<|af H▸xc 1 bn z (y1 [2] z)
theorem Dp (w){f p0 p1 h r}(H:wF p0 p1=U r)(HS:St w f [] w)(x:gp.rd w f p0 h) :
    Cl 216 [.agg h.toArray,A p1] w fun v w'=>∃p q c0 F,v=.tuple #[.agg #[S p q c0,A r.1.j_],A r.2.1,B r.2.2]∧St w f [W eL8 F r.1.v_ [S p q c0]] w':=by
 obtain ⟨M,R,rfl,i⟩:=fE x;exact fe func216 ntmps216 HS z<|D<|ob _ z fun X=>oA bn z fun a1=>c z<|nR<|oX 0 0 bn z<|oV1 [] H func159 (fun j e a=>DB e j (a.carve [] z z) (bl (Q i e a) z)) z (fun _ _ _ _=>(z:_=u3)) kh1 fun a2 j H a3 a4 a5=>oN 4 z<|oA bn z fun a6=>sD 0 l l 3 bn z<|c z<|E<|Z<|D<|oN 3 z<|jO [1,2,4,7,8] u5 5 18 4 22 4 H z z (fun s H key=>C z<|bQ H func62 (fun _ t e a=>aN e t) z tt2 fun a7 H=>C z<|C z<|oL H key z) fun s L H=>cJ H z (fun H=>D<|oX 0 0 bn z<|oV1 [] H func126 (fun k e a=>co e k (a.carve [] z z) (bl (Q i e a) z)) z (fun _ _ _ _=>(z:_=u5)) kh1 fun a8 k H a9 b0 b1=>sD 0 l l 1 bn z<|c z<|nT<|aA<|af H▸xc 1 bn z (y1 [4] z)) fun H=>ck<|Z<|cd 5 [(0,y),(1,y),(2,y),(3,y),(4,n)] (St w f u4) bG (by kernel_rfl) (aq aJ) (mA [y,n,y,y] z)<|aR z (ak z) (rx 0 3 _ z bn z)<|c z<|g H fun b2 u H=>aR z (ak z) (yT z z z u)<|sE 0 l l 1 bn z (mA [y,n,y,y] z)<|aV<|gJ<|c z<|nT<|af H▸xc 1 bn z (y1 [2] z)
theorem El (w){M p0 p1 p2 r}(H:pl p0 p1 p2=U r)(HS:St w M [] w) :
    Cl 218 [A p0,A p1,A p2] w fun v w'=>∃R X c0 F0,v=S R X c0∧St w M [W eLI F0 r [S R X c0]] w':=by
 refine fe func218 ntmps218 HS z<|D<|C z<|nR<|bD (e:=eI) z z z z aO ty3 kf fun a5=>C z<|E<|Z<|D<|oN 3 z<|bQ H func217 (fun _ a1 t q=>tN t a1) z tt2 fun a6 H=>C z<|bQ H func62 (fun _ a2 t q=>aN t a2) z tt2 fun a7 H=>C z<|cJ H z (fun H=>D<|c z<|nT<|aA<|af H▸xo z (y1 [0] z)) fun H=>ck<|D<|C z<|E<|cb<|lp (Int::(oT Int [Int])) (fun j a h k s f=>[W eLI s a [P h a k]]) (fun j a h k s f=>[(0,A p0),(1,A p1),(2,A j),(7,P h a k),(8,A f)]) (fun kk j a h k s f=>h.isNone=n∧jQ p1 p0 kk j a f=U r) [0] (fun k1 u j a h k s f ⟨F,H⟩=>?_) ⟨_,_,_,_,_,_,⟨z,H⟩,z⟩
 refine Z<|D<|G [.p,.lenS 74 3 aO,.p,.p] z<|cJ H z ?_ ?_<;>intro H
 ·refine ck<|aG<|D<|G [.p,.p,.p,.p,.p,.p,.lenS 74 3 aO,.p,.p] z<|bQ H func217 (fun _ a3 t q=>tN t a3) z tt2 fun a8 H=>C z<|E<|Z<|D<|oN 3 z<|cJ H z (fun H=>ay<|c z<|bI [f] aO ty3 z kf fun a9=>g H fun b0 x H=>bx (r:=0) (ys:=([f]:List Int)) z z z z z z aO ty3 z z z (aj (e:=eLI) (r:=1) z) x kg fun b1 b2 b3=>da z (fun t q=>ew (i:=0) q z (ez x)) fun L=>C z<|E<|ay<|oN 3 z<|ap<|DE<|iA [0] (u ⟨L,H⟩) z) fun H=>ay<|oN 4 z<|E<|ay<|oN 3 z<|ap<|DE<|iA [0] (u ⟨F,H⟩) z
 exact ce<|bF<|D<|c z<|nT<|af H▸xo z (y1 [0] z)
theorem wr (w){j p0 p1 p2 q r}(H:oQ p0 p1 p2=U r)(HS:St w j [] w)(g0:gp.rd w j p0 q) :
    Cl 184 [.agg q.toArray,A p1,A p2] w fun v w'=>∃F L c0 F0 M R c1 F1,v=.tuple #[.agg #[S F L c0,A r.1.j_],S M R c1,B r.2.2]∧St w j [W eL8 F0 r.1.v_ [S F L c0],W eLI F1 r.2.1 [S M R c1]] w':=by
 obtain ⟨a6,a7,rfl,s⟩:=fE g0;refine fe func184 ntmps184 HS z<|D<|ob _ z fun a8=>oA bn z fun a9=>c z<|E<|Z<|g H fun b0 X H=>g H fun b1 a2 H=>tD 12 [(0,y),(1,y),(2,y)] (tr 4 [⟨3,[],[]⟩,⟨4,[(5,y),(6,y),(7,y),(8,y)],[]⟩,⟨10,[(11,y)],[9]⟩] [9]) (St w j l) bG (by kernel_rfl) (aq aJ) (mA [y,y] z)<|aR z (ak z) (rx 0 0 _ z bn z)<|c z<|aV<|xs1 ⟨9,9,fun h=>pA h,fun h=>b h 142 [S N 0 0,A 0]⟩ z z (sgA (i:=9) z z z z z z bn)<|xq1 0 2 ⟨fun _=>z,fun _=>z,z⟩ (fun _=>mA [y,y] z) z fun k=>oq z (qc z (iF func217 z) (fun f a=>tN f X)) (mA [y,y] z)<|aV<|?_;revert k;refine xq1 1 2 ⟨fun _=>z,fun _=>z,z⟩ (fun _=>mA [y,y] z) z fun k=>dI z (iF func216 z) z z z z (fun f a=>Dp f a2 (a.carve [] z z) (bl (Q s f a) z)) fun b2 f w2 a x=>?_;obtain ⟨b3,b4,b5,b6,rfl,p⟩:=x;obtain rfl:=cj (i:=0) p z;refine ⟨St w j u4,a.comp [] z z p,(mA [y,y] z),?_⟩;refine oN 4 z<|aV<|?_;clear a;revert k;refine Wv 6 2 ⟨fun _=>z,fun _=>z,z⟩ (fun _=>mA [y,y] z) z (fun h=>?_);dsimp only [sr,sv];exact xfd [(10,n),(11,y)] z z (mA [y,y] z)<|sE 0 l l 2 bn z (mA [y,y] z)<|C z<|aV<|tQ<|C z<|E<|Z<|D<|c z<|cJ H z (fun H=>D<|oX 0 0 bn z<|oV1 [] H func126 (fun t f a=>co f t (a.carve [] z z) (bl (Q s f a) z)) z (fun _ _ _ _=>(z:_=u5)) kh1 fun b7 t H b8 b9 c2=>bD (e:=eI) z z z z aO ty3 kf fun c3=>sD 0 l l 1 bn z<|c z<|nT<|aA<|af H▸xc 1 bn z (y2 [4,5] z)) fun H=>ck<|Z<|cd 5 [(0,y),(1,y),(2,y),(3,y),(4,n)] (St w j u4) bG (by kernel_rfl) (aq aJ) (mA [y,y,y,y] z)<|aR z (ak z) (rx 0 2 _ z bn z)<|oN 3 z<|oV1 [] H func218 (fun u f a=>El f u (a.carve [] z z)) z (fun _ _ _ _=>(z:_=u5)) (fun _ _ _ _=>(mA [y,y,y,y] z)) fun c4 u H c5 c6 c7=>aV<|gJ<|sD 0 l l 1 bn z<|c z<|nT<|af H▸xc 1 bn z (y2 [3,4] z)
theorem mB (w){p0 p1 k e q f r}(H:lf p0 p1=U r)(g0:be.rd w [] p0 k)(j:eLI.rd w [] p1 [S e q f]) :
    Cq 219 [.agg k.toArray,S e q f] w (B r):=by
 obtain ⟨u,v,x,F,rfl,L,M⟩:=aX g0;obtain rfl:=dA j;refine fe0 func219 ntmps219 z<|D<|ob _ z fun s=>C z<|E<|Z<|D<|oX 0 0 cu z<|bQ H func78 (fun _ R h i=>gz h R (ai (Q L h i) (Q M h i))) z tt2 fun a8 H=>c z<|jR [1,2] l 2 9 4 13 4 ((p1.length:Int)==0) z z (fun key=>G [.p,.lenS 74 3 aO,.p] z<|C z<|oK key z)<|cR H z fun H=>ck<|Z<|D<|C z<|E<|aG<|lp [Int] (fun a=>[b s 28 [P u p0.c_ v,P x p0.f_ F]]) (fun a=>[(1,P e p1 f),(2,pA s),(5,A a)]) (fun kk a=>oG p1 p0 kk a=U r) [0] (fun k1 t a H=>?_) ⟨_,H,z⟩;refine Z<|D<|G [.p,.p,.lenS 74 3 aO,.p] z<|cJ H z ?_ ?_<;>intro H
 ·refine ck<|cb<|Z<|dG bG (by kernel_rfl)<|c z<|g H fun a9 X H=>ix1 aO ty3 (Q j) X z z<|G [.fa 28 0 0 ek] z<|d 0 0 lU z<|G [.lenS 25 126 lc,.p] z<|bQ H func62 (fun _ a0 h i=>aN h a0) z tt2 fun b0 H=>c z<|jO [1,2,5] u3 3 30 15 45 15 H z z (fun a1 H key=>?_) fun a1 a6 H=>?_
  ·exact oN 3 z<|jB [1,2,5,30] u4 4 33 11 44 11 H z z (fun a2 H key=>c z<|g H fun b1 a3 H=>ix1 aO ty3 (Q j) a3 z z<|oN 3 z<|g H fun b2 a4 H=>ix1 aO ty3 (Q j) a4 z z<|C z<|C z<|oL H key z) fun a2 a7 H=>G [.p] z<|oL H key z
  refine ct<|bF<|cI H z ?_ ?_<;>intro H
  ·exact yE H z
  exact bY<|xb<|ay<|oN 3 z<|ap<|iA [0] (t H) z
 exact ce<|bF<|D<|C z<|nT<|af H▸xw z
end Go.Vk
