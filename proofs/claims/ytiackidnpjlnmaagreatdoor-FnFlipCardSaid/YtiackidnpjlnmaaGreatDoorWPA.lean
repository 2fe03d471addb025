/- The code does what the functions of data say. Printed by program. -/
import Derived.Test.YtiackidnpjlnmaaGreatDoorRF
import Derived.Test.YtiackidnpjlnmaaGreatDoorVkBs
import Derived.Test.YtiackidnpjlnmaaGreatDoorChecked
import Derived.Test.YtiackidnpjlnmaaGreatDoorShelf
namespace Go.Vk
open Go.Proofs.Tryz
open Go.Proofs.Tryz renaming prog → o
open Go.Vk renaming iV → A, oP → C, sR → D, aa → G, sL → P, Res → Q, ab → V, ai → Z, u2 → E, nQ → c, u1 → d, St → g, oR → l, oPP → m
open Value renaming int → I, slice → S, pointer → O, bool → B
open IntKind renaming i64 → J, u8 → K
open Bool renaming true → y, false → n
open Option renaming some → U, none → N
open Res renaming box → b, own → W
open Go.Proofs Go.RowKit
set_option maxHeartbeats 4000000
set_option maxRecDepth 100000
abbrev Cl:=CL o
abbrev Cq:=CQ o
abbrev aY:=bR (bR eI 3) 69
abbrev eLI:=bR eI 3
abbrev eLS:=bR pL 9
abbrev eL8:=bR e8 5
abbrev zL0:List Value:=[I J 0,I J 0,I J 0,I J 0,I J 0,I J 0,B n,B n]
abbrev zL1:List Value:=[S N 0 0,S N 0 0,I J 0,I J 0,I J 0,I J 0,I J 0,I J 0,B n,I J 0,I J 0,I J 0,I J 0,I J 0,S N 0 0,S N 0 0,S N 0 0]
abbrev zL2:List Value:=[S N 0 0,I J 0,B n,S N 0 0,I J 0,S N 0 0,S N 0 0]
abbrev zL3:List Value:=[S N 0 0,S N 0 0,I J 0,I J 0,I J 0,I J 0,I J 0,I J 0,B n,I J 0,I J 0,I J 0,I J 0,I J 0]
abbrev zL4:List Value:=[B n,I J 0,I J 0,S N 0 0,I J 0,S N 0 0,S N 0 0,I J 0,S N 0 0,I J 0,I J 0,I J 0]
def dl:Enc aK:=CO (dy pL (dy eLI eLS)) (fun x=>(x.H_,x.B_,x.O_))
abbrev cn:=bR dl 88
theorem dr {w X x c0 c1 c2} (a:pL.rd w X x.H_ c0) (h1:eLI.rd w X x.B_ c1) (e:eLS.rd w X x.O_ c2):dl.rd w X x (c0++(c1++c2)):=by
 show (dy pL (dy eLI eLS)).rd w X (x.H_,x.B_,x.O_) _;exact (eL a (eL h1 e))
theorem Ht {w X x cs} (h:dl.rd w X x cs):∃c0 c1 c2,cs=(c0++(c1++c2))∧(pL).rd w X x.H_ c0∧eLI.rd w X x.B_ c1∧eLS.rd w X x.O_ c2:=by
 obtain ⟨c0,_,rfl,a,c1,c2,rfl,h1,e⟩:=h;exact ⟨c0,c1,c2,z,a,h1,e⟩
theorem FX {w a e f x c0 c1 c2} (h:pL.own w a x.H_ c0) (h1:eLI.own w e x.B_ c1) (i:eLS.own w f x.O_ c2):dl.own w (a++(e++f)) x (c0++(c1++c2)):=by
 show (dy pL (dy eLI eLS)).own w _ (x.H_,x.B_,x.O_) _;exact (gZ h (gZ h1 i))
theorem wi {w0:World} {M:List Nat} {L:List Q} {w:World} {x0:List UInt8} {x1:List Int} {a:Option Addr} {e f:Nat} {q:List Nat} {x2:List (List UInt8)} {i:Option Addr} {j k:Nat} {r:List Nat} (idx:List Nat) (h:g w0 M L w) (p:iY L idx=[W eLI q x1 [S a e f],W eLS r x2 [S i j k]]) (t:pq idx=y) :
  ∃F,g w0 M (mO L idx++[W dl F (aK.mk x0 x1 x2) [vS x0,S a e f,S i j k]]) w:=by
 have u:eLI.own w q x1 [S a e f]:=h.ok' (qd (L:=L) (is:=idx) (by rw [p];simp:W eLI q x1 [S a e f]∈iY L idx));have o1:eLS.own w r x2 [S i j k]:=h.ok' (qd (L:=L) (is:=idx) (by rw [p];simp:W eLS r x2 [S i j k]∈iY L idx));have v:=(FX (x:=(aK.mk x0 x1 x2)) (⟨z,z⟩:pL.own w [] _ _) u o1);refine ⟨_,h.re idx [W dl _ (aK.mk x0 x1 x2) [vS x0,S a e f,S i j k]] t ?_ (fun s p=>by rw [List.mem_singleton.1 p];exact v)⟩;rw [p];simp [dL,W]
def gj:Enc bn:=CO (dy eL8 eI) (fun x=>(x.v_,x.f_))
theorem bg {w X x c0 c1} (a:eL8.rd w X x.v_ c0) (h1:eI.rd w X x.f_ c1):gj.rd w X x (c0++c1):=by
 show (dy eL8 eI).rd w X (x.v_,x.f_) _;exact (eL a h1)
theorem HR {w X x cs} (h:gj.rd w X x cs):∃c0 c1,cs=(c0++c1)∧eL8.rd w X x.v_ c0∧eI.rd w X x.f_ c1:=by
 obtain ⟨c0,c1,rfl,a,h1⟩:=h;exact ⟨c0,c1,z,a,h1⟩
theorem fx {w X x cs} (h:gj.rd w X x cs):∃a c0,cs=[P a x.v_ c0,A x.f_]∧eL8.rd w X x.v_ [P a x.v_ c0]:=by
 obtain ⟨f,i,rfl,e,h1⟩:=HR h;obtain ⟨a,c0,rfl⟩:=ec e;obtain rfl:=h1;exact ⟨a,c0,z,e⟩
theorem cu {w X x cs} (h:dl.rd w X x cs):∃a c0 e c1,cs=[vS x.H_,P a x.B_ c0,P e x.O_ c1]∧eLI.rd w X x.B_ [P a x.B_ c0]∧eLS.rd w X x.O_ [P e x.O_ c1]:=by
 obtain ⟨j,k,p,rfl,i,h1,f⟩:=Ht h;obtain rfl:=i;obtain ⟨a,c0,rfl⟩:=ec h1;obtain ⟨e,c1,rfl⟩:=ec f;exact ⟨a,c0,e,c1,z,h1,f⟩
def aX:Enc ae:=CO (dy cn eLS) (fun x=>(x.c_,x.g_))
theorem ah {w X x c0 c1} (a:cn.rd w X x.c_ c0) (h1:eLS.rd w X x.g_ c1):aX.rd w X x (c0++c1):=by
 show (dy cn eLS).rd w X (x.c_,x.g_) _;exact (eL a h1)
theorem DN {w X x cs} (h:aX.rd w X x cs):∃c0 c1,cs=(c0++c1)∧cn.rd w X x.c_ c0∧eLS.rd w X x.g_ c1:=by
 obtain ⟨c0,c1,rfl,a,h1⟩:=h;exact ⟨c0,c1,z,a,h1⟩
theorem aQ {w X x cs} (h:aX.rd w X x cs):∃a c0 e c1,cs=[P a x.c_ c0,P e x.g_ c1]∧cn.rd w X x.c_ [P a x.c_ c0]∧eLS.rd w X x.g_ [P e x.g_ c1]:=by
 obtain ⟨i,j,rfl,f,h1⟩:=DN h;obtain ⟨a,c0,rfl⟩:=ec f;obtain ⟨e,c1,rfl⟩:=ec h1;exact ⟨a,c0,e,c1,z,f,h1⟩
def wW:Enc bZ:=od (fun x=>[I J x.U_,I J x.T_,I J x.V_,I J x.r_,I J x.a_,I J x.K_,B x.R_]) 7 (fun _=>z) (by intro x u a;simp only [List.mem_cons,List.not_mem_nil,or_false] at a;rcases a with rfl|rfl|rfl|rfl|rfl|rfl|rfl<;>rfl)
def dk:Enc bh:=CO (dy aX (dy wW (dy eI (dy eI (dy eI (dy eI eI)))))) (fun x=>(x.y_,x.k_,x.u_,x.W_,x.Y_,x.w_,x.x_))
theorem bt {w X x c0 c1 c2 c3 c4 c5 c6} (a:aX.rd w X x.y_ c0) (h1:wW.rd w X x.k_ c1) (e:eI.rd w X x.u_ c2) (f:eI.rd w X x.W_ c3) (h:eI.rd w X x.Y_ c4) (i:eI.rd w X x.w_ c5) (j:eI.rd w X x.x_ c6):dk.rd w X x (c0++(c1++(c2++(c3++(c4++(c5++c6)))))):=by
 show (dy aX (dy wW (dy eI (dy eI (dy eI (dy eI eI)))))).rd w X (x.y_,x.k_,x.u_,x.W_,x.Y_,x.w_,x.x_) _;exact (eL a (eL h1 (eL e (eL f (eL h (eL i j))))))
theorem Hx {w X x cs} (h:dk.rd w X x cs):∃c0 c1 c2 c3 c4 c5 c6,cs=(c0++(c1++(c2++(c3++(c4++(c5++c6))))))∧(aX).rd w X x.y_ c0∧(wW).rd w X x.k_ c1∧eI.rd w X x.u_ c2∧eI.rd w X x.W_ c3∧eI.rd w X x.Y_ c4∧eI.rd w X x.w_ c5∧eI.rd w X x.x_ c6:=by
 obtain ⟨c0,_,rfl,a,c1,_,rfl,h1,c2,_,rfl,e,c3,_,rfl,f,c4,_,rfl,i,c5,c6,rfl,j,k⟩:=h;exact ⟨c0,c1,c2,c3,c4,c5,c6,z,a,h1,e,f,i,j,k⟩
theorem dg {w X x cs} (h:dk.rd w X x cs):∃a c0 e c1,cs=[P a x.y_.c_ c0,P e x.y_.g_ c1,A x.k_.U_,A x.k_.T_,A x.k_.V_,A x.k_.r_,A x.k_.a_,A x.k_.K_,B x.k_.R_,A x.u_,A x.W_,A x.Y_,A x.w_,A x.x_]∧cn.rd w X x.y_.c_ [P a x.y_.c_ c0]∧eLS.rd w X x.y_.g_ [P e x.y_.g_ c1]:=by
 obtain ⟨t,u,v,F,H,L,M,rfl,f,h1,i,j,k,p,q⟩:=Hx h;obtain ⟨a,c0,e,c1,rfl,r,s⟩:=aQ f;obtain rfl:=h1;obtain rfl:=i;obtain rfl:=j;obtain rfl:=k;obtain rfl:=p;obtain rfl:=q;exact ⟨a,c0,e,c1,z,r,s⟩
def go:Enc aB:=od (fun x=>[I J x.p_,I J x.f_]) 2 (fun _=>z) (by intro x u a;simp only [List.mem_cons,List.not_mem_nil,or_false] at a;rcases a with rfl|rfl<;>rfl)
abbrev cX:=bR go 92
def cM:Enc aE:=CO (dy eLI aY) (fun x=>(x.j_,x.d_))
theorem bd {w X x c0 c1} (a:eLI.rd w X x.j_ c0) (h1:aY.rd w X x.d_ c1):cM.rd w X x (c0++c1):=by
 show (dy eLI aY).rd w X (x.j_,x.d_) _;exact (eL a h1)
theorem Fu {w X x cs} (h:cM.rd w X x cs):∃c0 c1,cs=(c0++c1)∧eLI.rd w X x.j_ c0∧aY.rd w X x.d_ c1:=by
 obtain ⟨c0,c1,rfl,a,h1⟩:=h;exact ⟨c0,c1,z,a,h1⟩
theorem DM {w a e x c0 c1} (f:eLI.own w a x.j_ c0) (h1:aY.own w e x.d_ c1):cM.own w (a++e) x (c0++c1):=by
 show (dy eLI aY).own w _ (x.j_,x.d_) _;exact (gZ f h1)
theorem DX {w F x cs} (h:cM.own w F x cs):∃a e c0 c1,F=(a++e)∧cs=(c0++c1)∧eLI.own w a x.j_ c0∧aY.own w e x.d_ c1:=by
 obtain ⟨a,e,c0,c1,rfl,rfl,f,h1⟩:=h;exact ⟨a,e,c0,c1,z,z,f,h1⟩
def cP:Enc aA:=CO (dy uW (dy go (dy eLI (dy eI (dy cM (dy eI (dy eLI (dy eI (dy eI eI))))))))) (fun x=>(x.A_,x.n_,x.z_,x.J_,x.o_,x.I_,x.c_,x.r_,x.F_,x.E_))
abbrev aP:=bR cP 96
theorem ku {w X x c0 c1 c2 c3 c4 c5 c6 c7 c8 c9} (a:uW.rd w X x.A_ c0) (h1:go.rd w X x.n_ c1) (e:eLI.rd w X x.z_ c2) (f:eI.rd w X x.J_ c3) (h:cM.rd w X x.o_ c4) (i:eI.rd w X x.I_ c5) (j:eLI.rd w X x.c_ c6) (k:eI.rd w X x.r_ c7) (p:eI.rd w X x.F_ c8) (q:eI.rd w X x.E_ c9):cP.rd w X x (c0++(c1++(c2++(c3++(c4++(c5++(c6++(c7++(c8++c9))))))))):=by
 show (dy uW (dy go (dy eLI (dy eI (dy cM (dy eI (dy eLI (dy eI (dy eI eI))))))))).rd w X (x.A_,x.n_,x.z_,x.J_,x.o_,x.I_,x.c_,x.r_,x.F_,x.E_) _;exact (eL a (eL h1 (eL e (eL f (eL h (eL i (eL j (eL k (eL p q)))))))))
theorem HE {w X x cs} (h:cP.rd w X x cs):∃c0 c1 c2 c3 c4 c5 c6 c7 c8 c9,cs=(c0++(c1++(c2++(c3++(c4++(c5++(c6++(c7++(c8++c9)))))))))∧(uW).rd w X x.A_ c0∧(go).rd w X x.n_ c1∧eLI.rd w X x.z_ c2∧eI.rd w X x.J_ c3∧(cM).rd w X x.o_ c4∧eI.rd w X x.I_ c5∧eLI.rd w X x.c_ c6∧eI.rd w X x.r_ c7∧eI.rd w X x.F_ c8∧eI.rd w X x.E_ c9:=by
 obtain ⟨c0,_,rfl,a,c1,_,rfl,h1,c2,_,rfl,e,c3,_,rfl,f,c4,_,rfl,i,c5,_,rfl,j,c6,_,rfl,k,c7,_,rfl,p,c8,c9,rfl,q,r⟩:=h;exact ⟨c0,c1,c2,c3,c4,c5,c6,c7,c8,c9,z,a,h1,e,f,i,j,k,p,q,r⟩
theorem FC {w a e f h i j k p q r x c0 c1 c2 c3 c4 c5 c6 c7 c8 c9} (s:uW.own w a x.A_ c0) (h1:go.own w e x.n_ c1) (t:eLI.own w f x.z_ c2) (u:eI.own w h x.J_ c3) (v:cM.own w i x.o_ c4) (F:eI.own w j x.I_ c5) (H:eLI.own w k x.c_ c6) (L:eI.own w p x.r_ c7) (M:eI.own w q x.F_ c8) (R:eI.own w r x.E_ c9):cP.own w (a++(e++(f++(h++(i++(j++(k++(p++(q++r))))))))) x (c0++(c1++(c2++(c3++(c4++(c5++(c6++(c7++(c8++c9))))))))):=by
 show (dy uW (dy go (dy eLI (dy eI (dy cM (dy eI (dy eLI (dy eI (dy eI eI))))))))).own w _ (x.A_,x.n_,x.z_,x.J_,x.o_,x.I_,x.c_,x.r_,x.F_,x.E_) _;exact (gZ s (gZ h1 (gZ t (gZ u (gZ v (gZ F (gZ H (gZ L (gZ M R)))))))))
theorem FR {w F x cs} (h:cP.own w F x cs):∃a e f i j k p q r s c0 c1 c2 c3 c4 c5 c6 c7 c8 c9,F=(a++(e++(f++(i++(j++(k++(p++(q++(r++s)))))))))∧cs=(c0++(c1++(c2++(c3++(c4++(c5++(c6++(c7++(c8++c9)))))))))∧(uW).own w a x.A_ c0∧(go).own w e x.n_ c1∧eLI.own w f x.z_ c2∧eI.own w i x.J_ c3∧(cM).own w j x.o_ c4∧eI.own w k x.I_ c5∧eLI.own w p x.c_ c6∧eI.own w q x.r_ c7∧eI.own w r x.F_ c8∧eI.own w s x.E_ c9:=by
 obtain ⟨a,_,c0,_,rfl,rfl,t,e,_,c1,_,rfl,rfl,h1,f,_,c2,_,rfl,rfl,u,i,_,c3,_,rfl,rfl,v,j,_,c4,_,rfl,rfl,H,k,_,c5,_,rfl,rfl,L,p,_,c6,_,rfl,rfl,M,q,_,c7,_,rfl,rfl,R,r,s,c8,c9,rfl,rfl,X,h9⟩:=h;exact ⟨a,e,f,i,j,k,p,q,r,s,c0,c1,c2,c3,c4,c5,c6,c7,c8,c9,z,z,t,h1,u,v,H,L,M,R,X,h9⟩
theorem eY {w0:World} {M:List Nat} {L:List Q} {w:World} {F:List Nat} {x:aA} {cs:List Value} {i:Nat} (h:g w0 M L w) (hi:L[i]?=U (W cP F x cs)) :
  ∃(e:Option Addr) (f:Nat) (u:List Nat),∃(j:Option Addr) (k:Nat) (v:List Nat),∃(p:Option Addr) (q:Nat) (H:List Nat),∃(r:Option Addr) (t:Nat) (R:List Nat),cs=[B x.A_,A x.n_.p_,A x.n_.f_,S e (x.z_).length f,A x.J_,S j (x.o_.j_).length k,S p (x.o_.d_).length q,A x.I_,S r (x.c_).length t,A x.r_,A x.F_,A x.E_]∧g w0 M (mO L [i]++[W eLI u x.z_ [S e (x.z_).length f],W eLI v x.o_.j_ [S j (x.o_.j_).length k],W aY H x.o_.d_ [S p (x.o_.d_).length q],W eLI R x.c_ [S r (x.c_).length t]]) w:=by
 obtain ⟨a,_,_⟩:=h.one hi;have a:cP.own w F x cs:=a;obtain ⟨F1_0,F1_1,F1_2,F1_3,F1_4,F1_5,F1_6,F1_7,F1_8,F1_9,c1_0,c1_1,c1_2,c1_3,c1_4,c1_5,c1_6,c1_7,c1_8,c1_9,rfl,rfl,h1_0,h1_1,h1_2,h1_3,h1_4,h1_5,h1_6,h1_7,h1_8,h1_9⟩:=FR a;obtain ⟨rfl,rfl⟩:F1_0=[]∧c1_0=[B x.A_]:=h1_0;obtain ⟨rfl,rfl⟩:F1_1=[]∧c1_1=[A x.n_.p_,A x.n_.f_]:=h1_1;obtain ⟨a2,k2,rfl⟩:=rJ h1_2;obtain ⟨rfl,rfl⟩:F1_3=[]∧c1_3=[A x.J_]:=h1_3;obtain ⟨F3_0,F3_1,c3_0,c3_1,rfl,rfl,h3_0,h3_1⟩:=DX h1_4;obtain ⟨a4,k4,rfl⟩:=rJ h3_0;obtain ⟨a5,k5,rfl⟩:=rJ h3_1;obtain ⟨rfl,rfl⟩:F1_5=[]∧c1_5=[A x.I_]:=h1_5;obtain ⟨a6,k6,rfl⟩:=rJ h1_6;obtain ⟨rfl,rfl⟩:F1_7=[]∧c1_7=[A x.r_]:=h1_7;obtain ⟨rfl,rfl⟩:F1_8=[]∧c1_8=[A x.F_]:=h1_8;obtain ⟨rfl,rfl⟩:F1_9=[]∧c1_9=[A x.E_]:=h1_9;refine ⟨a2,k2,F1_2,a4,k4,F3_0,a5,k5,F3_1,a6,k6,F1_6,z,h.re [i] _ z ?_ ?_⟩
 ·simp [mo,uv,hi,dL,W]
 intro s X;simp only [List.mem_cons,List.not_mem_nil,or_false] at X;rcases X with rfl|rfl|rfl|rfl
 ·exact h1_2
 ·exact h3_0
 ·exact h3_1
 exact h1_6
theorem dt {w0:World} {M:List Nat} {L:List Q} {w:World} {x0:Bool} {x1:Int} {x2:Int} {i:List Int} {k:Option Addr} {p q:Nat} {G3:List Nat} {x4:Int} {a:List Int} {r:Option Addr} {t u:Nat} {G5:List Nat} {e:List (List Int)} {v:Option Addr} {H R:Nat} {G6:List Nat} {x7:Int} {j:List Int} {X:Option Addr} {n8 k8:Nat} {G8:List Nat} {x9:Int} {x10:Int} {x11:Int} (idx:List Nat) (h:g w0 M L w) (f:iY L idx=[W eLI G3 i [S k p q],W eLI G5 a [S r t u],W aY G6 e [S v H R],W eLI G8 j [S X n8 k8]]) (hn:pq idx=y) :
  ∃F,g w0 M (mO L idx++[W cP F (aA.mk x0 (aB.mk x1 x2) i x4 (aE.mk a e) x7 j x9 x10 x11) [B x0,A x1,A x2,S k p q,A x4,S r t u,S v H R,A x7,S X n8 k8,A x9,A x10,A x11]]) w:=by
 have o0:eLI.own w G3 i [S k p q]:=h.ok' (qd (L:=L) (is:=idx) (by rw [f];simp:W eLI G3 i [S k p q]∈iY L idx));have o1:eLI.own w G5 a [S r t u]:=h.ok' (qd (L:=L) (is:=idx) (by rw [f];simp:W eLI G5 a [S r t u]∈iY L idx));have o2:aY.own w G6 e [S v H R]:=h.ok' (qd (L:=L) (is:=idx) (by rw [f];simp:W aY G6 e [S v H R]∈iY L idx));have o3:eLI.own w G8 j [S X n8 k8]:=h.ok' (qd (L:=L) (is:=idx) (by rw [f];simp:W eLI G8 j [S X n8 k8]∈iY L idx));have ho:=(FC (x:=(aA.mk x0 (aB.mk x1 x2) i x4 (aE.mk a e) x7 j x9 x10 x11)) (⟨z,z⟩:uW.own w [] _ _) (⟨z,z⟩:go.own w [] _ _) o0 (⟨z,z⟩:eI.own w [] _ _) (DM (x:=(aE.mk a e)) o1 o2) (⟨z,z⟩:eI.own w [] _ _) o3 (⟨z,z⟩:eI.own w [] _ _) (⟨z,z⟩:eI.own w [] _ _) (⟨z,z⟩:eI.own w [] _ _));refine ⟨_,h.re idx [W cP _ (aA.mk x0 (aB.mk x1 x2) i x4 (aE.mk a e) x7 j x9 x10 x11) [B x0,A x1,A x2,S k p q,A x4,S r t u,S v H R,A x7,S X n8 k8,A x9,A x10,A x11]] hn ?_ (fun s f=>by rw [List.mem_singleton.1 f];exact ho)⟩;rw [f];simp [dL,W]
def bD:Enc ao:=CO (dy aP eI) (fun x=>(x.a_,x.m_))
theorem aC {w X x c0 c1} (a:aP.rd w X x.a_ c0) (h1:eI.rd w X x.m_ c1):bD.rd w X x (c0++c1):=by
 show (dy aP eI).rd w X (x.a_,x.m_) _;exact (eL a h1)
theorem GJ {w X x cs} (h:bD.rd w X x cs):∃c0 c1,cs=(c0++c1)∧aP.rd w X x.a_ c0∧eI.rd w X x.m_ c1:=by
 obtain ⟨c0,c1,rfl,a,h1⟩:=h;exact ⟨c0,c1,z,a,h1⟩
theorem zy {w a e x c0 c1} (f:aP.own w a x.a_ c0) (h1:eI.own w e x.m_ c1):bD.own w (a++e) x (c0++c1):=by
 show (dy aP eI).own w _ (x.a_,x.m_) _;exact (gZ f h1)
theorem zo {w F x cs} (h:bD.own w F x cs):∃a e c0 c1,F=(a++e)∧cs=(c0++c1)∧aP.own w a x.a_ c0∧eI.own w e x.m_ c1:=by
 obtain ⟨a,e,c0,c1,rfl,rfl,f,h1⟩:=h;exact ⟨a,e,c0,c1,z,z,f,h1⟩
def cf:Enc aw:=CO aY (fun x=>x.e_)
theorem az {w X x c0} (a:aY.rd w X x.e_ c0):cf.rd w X x c0:=by
 show aY.rd w X x.e_ _;exact a
theorem EF {w X x cs} (h:cf.rd w X x cs):∃c0,cs=c0∧aY.rd w X x.e_ c0:=by
 exact ⟨cs,z,h⟩
theorem xg {w a x c0} (e:aY.own w a x.e_ c0):cf.own w a x c0:=by
 show aY.own w _ x.e_ _;exact e
def gO:Enc cW:=CO (dy cf cf) (fun x=>(x.w_,x.x_))
theorem dm {w X x c0 c1} (a:cf.rd w X x.w_ c0) (h1:cf.rd w X x.x_ c1):gO.rd w X x (c0++c1):=by
 show (dy cf cf).rd w X (x.w_,x.x_) _;exact (eL a h1)
theorem In {w X x cs} (h:gO.rd w X x cs):∃c0 c1,cs=(c0++c1)∧(cf).rd w X x.w_ c0∧(cf).rd w X x.x_ c1:=by
 obtain ⟨c0,c1,rfl,a,h1⟩:=h;exact ⟨c0,c1,z,a,h1⟩
theorem HY {w a e x c0 c1} (f:cf.own w a x.w_ c0) (h1:cf.own w e x.x_ c1):gO.own w (a++e) x (c0++c1):=by
 show (dy cf cf).own w _ (x.w_,x.x_) _;exact (gZ f h1)
theorem Hr {w F x cs} (h:gO.own w F x cs):∃a e c0 c1,F=(a++e)∧cs=(c0++c1)∧(cf).own w a x.w_ c0∧(cf).own w e x.x_ c1:=by
 obtain ⟨a,e,c0,c1,rfl,rfl,f,h1⟩:=h;exact ⟨a,e,c0,c1,z,z,f,h1⟩
def cd:Enc aF:=CO (dy bD (dy uW (dy bD gO))) (fun x=>(x.D_,x.Q_,x.t_,x.C_))
abbrev bB:=bR cd 66
theorem dE {w X x c0 c1 c2 c3} (a:bD.rd w X x.D_ c0) (h1:uW.rd w X x.Q_ c1) (e:bD.rd w X x.t_ c2) (f:gO.rd w X x.C_ c3):cd.rd w X x (c0++(c1++(c2++c3))):=by
 show (dy bD (dy uW (dy bD gO))).rd w X (x.D_,x.Q_,x.t_,x.C_) _;exact (eL a (eL h1 (eL e f)))
theorem Er {w X x cs} (h:cd.rd w X x cs):∃c0 c1 c2 c3,cs=(c0++(c1++(c2++c3)))∧(bD).rd w X x.D_ c0∧(uW).rd w X x.Q_ c1∧(bD).rd w X x.t_ c2∧(gO).rd w X x.C_ c3:=by
 obtain ⟨c0,_,rfl,a,c1,_,rfl,h1,c2,c3,rfl,e,f⟩:=h;exact ⟨c0,c1,c2,c3,z,a,h1,e,f⟩
theorem Db {w a e f h x c0 c1 c2 c3} (i:bD.own w a x.D_ c0) (h1:uW.own w e x.Q_ c1) (j:bD.own w f x.t_ c2) (k:gO.own w h x.C_ c3):cd.own w (a++(e++(f++h))) x (c0++(c1++(c2++c3))):=by
 show (dy bD (dy uW (dy bD gO))).own w _ (x.D_,x.Q_,x.t_,x.C_) _;exact (gZ i (gZ h1 (gZ j k)))
theorem CK {w F x cs} (h:cd.own w F x cs):∃a e f i c0 c1 c2 c3,F=(a++(e++(f++i)))∧cs=(c0++(c1++(c2++c3)))∧(bD).own w a x.D_ c0∧(uW).own w e x.Q_ c1∧(bD).own w f x.t_ c2∧(gO).own w i x.C_ c3:=by
 obtain ⟨a,_,c0,_,rfl,rfl,j,e,_,c1,_,rfl,rfl,h1,f,i,c2,c3,rfl,rfl,k,p⟩:=h;exact ⟨a,e,f,i,c0,c1,c2,c3,z,z,j,h1,k,p⟩
theorem DF {w0:World} {M:List Nat} {L:List Q} {w:World} {F:List Nat} {x:aF} {cs:List Value} {i:Nat} (h:g w0 M L w) (hi:L[i]?=U (W cd F x cs)) :
  ∃(e:Option Addr) (f:Nat) (u:List Nat),∃(j:Option Addr) (k:Nat) (v:List Nat),∃(p:Option Addr) (q:Nat) (H:List Nat),∃(r:Option Addr) (t:Nat) (R:List Nat),cs=[S e (x.D_.a_).length f,A x.D_.m_,B x.Q_,S j (x.t_.a_).length k,A x.t_.m_,S p (x.C_.w_.e_).length q,S r (x.C_.x_.e_).length t]∧g w0 M (mO L [i]++[W aP u x.D_.a_ [S e (x.D_.a_).length f],W aP v x.t_.a_ [S j (x.t_.a_).length k],W aY H x.C_.w_.e_ [S p (x.C_.w_.e_).length q],W aY R x.C_.x_.e_ [S r (x.C_.x_.e_).length t]]) w:=by
 obtain ⟨a,_,_⟩:=h.one hi;have a:cd.own w F x cs:=a;obtain ⟨F1_0,F1_1,F1_2,F1_3,c1_0,c1_1,c1_2,c1_3,rfl,rfl,h1_0,h1_1,h1_2,h1_3⟩:=CK a;obtain ⟨F2_0,F2_1,c2_0,c2_1,rfl,rfl,h2_0,h2_1⟩:=zo h1_0;obtain ⟨a3,k3,rfl⟩:=rJ h2_0;obtain ⟨rfl,rfl⟩:F2_1=[]∧c2_1=[A x.D_.m_]:=h2_1;obtain ⟨rfl,rfl⟩:F1_1=[]∧c1_1=[B x.Q_]:=h1_1;obtain ⟨F4_0,F4_1,c4_0,c4_1,rfl,rfl,h4_0,h4_1⟩:=zo h1_2;obtain ⟨a5,k5,rfl⟩:=rJ h4_0;obtain ⟨rfl,rfl⟩:F4_1=[]∧c4_1=[A x.t_.m_]:=h4_1;obtain ⟨F6_0,F6_1,c6_0,c6_1,rfl,rfl,h6_0,h6_1⟩:=Hr h1_3;have h7_0:aY.own w F6_0 (x.C_.w_.e_) c6_0:=h6_0;obtain ⟨a8,k8,rfl⟩:=rJ h7_0;have h9_0:aY.own w F6_1 (x.C_.x_.e_) c6_1:=h6_1;obtain ⟨X,a0,rfl⟩:=rJ h9_0;refine ⟨a3,k3,F2_0,a5,k5,F4_0,a8,k8,F6_0,X,a0,F6_1,z,h.re [i] _ z ?_ ?_⟩
 ·simp [mo,uv,hi,dL,W]
 intro s hs;simp only [List.mem_cons,List.not_mem_nil,or_false] at hs;rcases hs with rfl|rfl|rfl|rfl
 ·exact h2_0
 ·exact h4_0
 ·exact h7_0
 exact h9_0
theorem lz {w0:World} {M:List Nat} {L:List Q} {w:World} {x0:List aA} {j:Option Addr} {k p:Nat} {G0:List Nat} {x1:Int} {x2:Bool} {f:List aA} {q:Option Addr} {r t:Nat} {G3:List Nat} {x4:Int} {a:List (List Int)} {u:Option Addr} {v H:Nat} {G5:List Nat} {e:List (List Int)} {R:Option Addr} {X k6:Nat} {G6:List Nat} (idx:List Nat) (h:g w0 M L w) (i:iY L idx=[W aP G0 x0 [S j k p],W aP G3 f [S q r t],W aY G5 a [S u v H],W aY G6 e [S R X k6]]) (hn:pq idx=y) :
  ∃F,g w0 M (mO L idx++[W cd F (aF.mk (ao.mk x0 x1) x2 (ao.mk f x4) (cW.mk (aw.mk a) (aw.mk e))) [S j k p,A x1,B x2,S q r t,A x4,S u v H,S R X k6]]) w:=by
 have o0:aP.own w G0 x0 [S j k p]:=h.ok' (qd (L:=L) (is:=idx) (by rw [i];simp:W aP G0 x0 [S j k p]∈iY L idx));have o1:aP.own w G3 f [S q r t]:=h.ok' (qd (L:=L) (is:=idx) (by rw [i];simp:W aP G3 f [S q r t]∈iY L idx));have o2:aY.own w G5 a [S u v H]:=h.ok' (qd (L:=L) (is:=idx) (by rw [i];simp:W aY G5 a [S u v H]∈iY L idx));have o3:aY.own w G6 e [S R X k6]:=h.ok' (qd (L:=L) (is:=idx) (by rw [i];simp:W aY G6 e [S R X k6]∈iY L idx));have ho:=(Db (x:=(aF.mk (ao.mk x0 x1) x2 (ao.mk f x4) (cW.mk (aw.mk a) (aw.mk e)))) (zy (x:=(ao.mk x0 x1)) o0 (⟨z,z⟩:eI.own w [] _ _)) (⟨z,z⟩:uW.own w [] _ _) (zy (x:=(ao.mk f x4)) o1 (⟨z,z⟩:eI.own w [] _ _)) (HY (x:=(cW.mk (aw.mk a) (aw.mk e))) (xg (x:=(aw.mk a)) o2) (xg (x:=(aw.mk e)) o3)));refine ⟨_,h.re idx [W cd _ (aF.mk (ao.mk x0 x1) x2 (ao.mk f x4) (cW.mk (aw.mk a) (aw.mk e))) [S j k p,A x1,B x2,S q r t,A x4,S u v H,S R X k6]] hn ?_ (fun s i=>by rw [List.mem_singleton.1 i];exact ho)⟩;rw [i];simp [dL,W]
theorem dH {w X x cs} (h:cM.rd w X x cs):∃a c0 e c1,cs=[P a x.j_ c0,P e x.d_ c1]∧eLI.rd w X x.j_ [P a x.j_ c0]∧aY.rd w X x.d_ [P e x.d_ c1]:=by
 obtain ⟨i,j,rfl,f,h1⟩:=Fu h;obtain ⟨a,c0,rfl⟩:=ec f;obtain ⟨e,c1,rfl⟩:=ec h1;exact ⟨a,c0,e,c1,z,f,h1⟩
theorem bm {w X x cs} (h:cP.rd w X x cs):∃a c0 e c1 f c2 i c3,cs=[B x.A_,A x.n_.p_,A x.n_.f_,P a x.z_ c0,A x.J_,P e x.o_.j_ c1,P f x.o_.d_ c2,A x.I_,P i x.c_ c3,A x.r_,A x.F_,A x.E_]∧eLI.rd w X x.z_ [P a x.z_ c0]∧eLI.rd w X x.o_.j_ [P e x.o_.j_ c1]∧aY.rd w X x.o_.d_ [P f x.o_.d_ c2]∧eLI.rd w X x.c_ [P i x.c_ c3]:=by
 obtain ⟨L,M,R,d3,d4,d5,d6,d7,d8,d9,rfl,p,h1,j,q,r,s,k,t,u,v⟩:=HE h;obtain rfl:=p;obtain rfl:=h1;obtain ⟨a,c0,rfl⟩:=ec j;obtain rfl:=q;obtain ⟨e,c1,f,c2,rfl,F,H⟩:=dH r;obtain rfl:=s;obtain ⟨i,c3,rfl⟩:=ec k;obtain rfl:=t;obtain rfl:=u;obtain rfl:=v;exact ⟨a,c0,e,c1,f,c2,i,c3,z,j,F,H,k⟩
theorem ca {w X x cs} (h:bD.rd w X x cs):∃a c0,cs=[P a x.a_ c0,A x.m_]∧aP.rd w X x.a_ [P a x.a_ c0]:=by
 obtain ⟨f,i,rfl,e,h1⟩:=GJ h;obtain ⟨a,c0,rfl⟩:=ec e;obtain rfl:=h1;exact ⟨a,c0,z,e⟩
theorem dM {w X x cs} (h:cf.rd w X x cs):∃a c0,cs=[P a x.e_ c0]∧aY.rd w X x.e_ [P a x.e_ c0]:=by
 obtain ⟨f,rfl,e⟩:=EF h;obtain ⟨a,c0,rfl⟩:=ec e;exact ⟨a,c0,z,e⟩
theorem qC {w X x cs} (h:gO.rd w X x cs):∃a c0 e c1,cs=[P a x.w_.e_ c0,P e x.x_.e_ c1]∧aY.rd w X x.w_.e_ [P a x.w_.e_ c0]∧aY.rd w X x.x_.e_ [P e x.x_.e_ c1]:=by
 obtain ⟨k,p,rfl,f,h1⟩:=In h;obtain ⟨a,c0,rfl,i⟩:=dM f;obtain ⟨e,c1,rfl,j⟩:=dM h1;exact ⟨a,c0,e,c1,z,i,j⟩
theorem fI {w X x cs} (h:cd.rd w X x cs):∃a c0 e c1 f c2 i c3,cs=[P a x.D_.a_ c0,A x.D_.m_,B x.Q_,P e x.t_.a_ c1,A x.t_.m_,P f x.C_.w_.e_ c2,P i x.C_.x_.e_ c3]∧aP.rd w X x.D_.a_ [P a x.D_.a_ c0]∧aP.rd w X x.t_.a_ [P e x.t_.a_ c1]∧aY.rd w X x.C_.w_.e_ [P f x.C_.w_.e_ c2]∧aY.rd w X x.C_.x_.e_ [P i x.C_.x_.e_ c3]:=by
 obtain ⟨u,v,F,H,rfl,j,h1,k,p⟩:=Er h;obtain ⟨a,c0,rfl,q⟩:=ca j;obtain rfl:=h1;obtain ⟨e,c1,rfl,r⟩:=ca k;obtain ⟨f,c2,i,c3,rfl,s,t⟩:=qC p;exact ⟨a,c0,e,c1,f,c2,i,c3,z,q,r,s,t⟩
def ia:Enc bA:=CO bB (fun x=>x.u_)
theorem eZ {w X x c0} (a:bB.rd w X x.u_ c0):ia.rd w X x c0:=by
 show bB.rd w X x.u_ _;exact a
theorem Ep {w X x cs} (h:ia.rd w X x cs):∃c0,cs=c0∧bB.rd w X x.u_ c0:=by
 exact ⟨cs,z,h⟩
theorem nA {w X x cs} (h:ia.rd w X x cs):∃a c0,cs=[P a x.u_ c0]∧bB.rd w X x.u_ [P a x.u_ c0]:=by
 obtain ⟨f,rfl,e⟩:=Ep h;obtain ⟨a,c0,rfl⟩:=ec e;exact ⟨a,c0,z,e⟩
def hH:Enc bW:=CO (dy eLI eI) (fun x=>(x.M_,x.S_))
abbrev Cn:=bR hH 161
theorem dq {w X x c0 c1} (a:eLI.rd w X x.M_ c0) (h1:eI.rd w X x.S_ c1):hH.rd w X x (c0++c1):=by
 show (dy eLI eI).rd w X (x.M_,x.S_) _;exact (eL a h1)
theorem Ke {w X x cs} (h:hH.rd w X x cs):∃c0 c1,cs=(c0++c1)∧eLI.rd w X x.M_ c0∧eI.rd w X x.S_ c1:=by
 obtain ⟨c0,c1,rfl,a,h1⟩:=h;exact ⟨c0,c1,z,a,h1⟩
theorem ID {w a e x c0 c1} (f:eLI.own w a x.M_ c0) (h1:eI.own w e x.S_ c1):hH.own w (a++e) x (c0++c1):=by
 show (dy eLI eI).own w _ (x.M_,x.S_) _;exact (gZ f h1)
theorem KS {w0:World} {M:List Nat} {L:List Q} {w:World} {x0:List Int} {a:Option Addr} {e f:Nat} {j:List Nat} {x1:Int} (idx:List Nat) (h:g w0 M L w) (i:iY L idx=[W eLI j x0 [S a e f]]) (k:pq idx=y) :
  ∃F,g w0 M (mO L idx++[W hH F (bW.mk x0 x1) [S a e f,A x1]]) w:=by
 have p:eLI.own w j x0 [S a e f]:=h.ok' (qd (L:=L) (is:=idx) (by rw [i];simp:W eLI j x0 [S a e f]∈iY L idx));have q:=(ID (x:=(bW.mk x0 x1)) p (⟨z,z⟩:eI.own w [] _ _));refine ⟨_,h.re idx [W hH _ (bW.mk x0 x1) [S a e f,A x1]] k ?_ (fun s i=>by rw [List.mem_singleton.1 i];exact q)⟩;rw [i];simp [dL,W]
theorem ki {w X x cs} (h:hH.rd w X x cs):∃a c0,cs=[P a x.M_ c0,A x.S_]∧eLI.rd w X x.M_ [P a x.M_ c0]:=by
 obtain ⟨f,i,rfl,e,h1⟩:=Ke h;obtain ⟨a,c0,rfl⟩:=ec e;obtain rfl:=h1;exact ⟨a,c0,z,e⟩
def ln:Enc cg:=od (fun x=>[I J x.n_.p_,I J x.n_.f_,I J x.P_.G_,I J x.P_.X_]) 4 (fun _=>z) (by intro x u a;simp only [List.mem_cons,List.not_mem_nil,or_false] at a;rcases a with rfl|rfl|rfl|rfl<;>rfl)
abbrev cV:=bR ln 279
def ow:Enc cL:=od (fun x=>[I J x.af_,I J x.ac_]) 2 (fun _=>z) (by intro x u a;simp only [List.mem_cons,List.not_mem_nil,or_false] at a;rcases a with rfl|rfl<;>rfl)
abbrev de:=bR ow 314
def xv:Enc dB:=od (fun x=>[I J x.aa_,I J x.ae_,I J x.ag_,I J x.ai_,I J x.t_,I J x.C_,B x.ah_,B x.aj_]) 8 (fun _=>z) (by intro x u a;simp only [List.mem_cons,List.not_mem_nil,or_false] at a;rcases a with rfl|rfl|rfl|rfl|rfl|rfl|rfl|rfl<;>rfl)
abbrev lG:=bR xv 197
def dQ:Enc aS:=od (fun x=>[I J x.Z_,I J x.aa_]) 2 (fun _=>z) (by intro x u a;simp only [List.mem_cons,List.not_mem_nil,or_false] at a;rcases a with rfl|rfl<;>rfl)
abbrev bx:=bR dQ 72
def ik:Enc bc:=CO (dy aY bx) (fun x=>(x.q_,x.s_))
theorem ez {w X x c0 c1} (a:aY.rd w X x.q_ c0) (h1:bx.rd w X x.s_ c1):ik.rd w X x (c0++c1):=by
 show (dy aY bx).rd w X (x.q_,x.s_) _;exact (eL a h1)
theorem Ga {w X x cs} (h:ik.rd w X x cs):∃c0 c1,cs=(c0++c1)∧aY.rd w X x.q_ c0∧bx.rd w X x.s_ c1:=by
 obtain ⟨c0,c1,rfl,a,h1⟩:=h;exact ⟨c0,c1,z,a,h1⟩
theorem mt {w X x cs} (h:ik.rd w X x cs):∃a c0 e c1,cs=[P a x.q_ c0,P e x.s_ c1]∧aY.rd w X x.q_ [P a x.q_ c0]∧bx.rd w X x.s_ [P e x.s_ c1]:=by
 obtain ⟨i,j,rfl,f,h1⟩:=Ga h;obtain ⟨a,c0,rfl⟩:=ec f;obtain ⟨e,c1,rfl⟩:=ec h1;exact ⟨a,c0,e,c1,z,f,h1⟩
def km (x:aS):List Value:=[I J x.Z_,I J x.aa_]
theorem WT:∀a b:aS,KU o 72 (km a) (km b)=U (a.Z_==b.Z_&&(a.aa_==b.aa_&&y)):=by
 intro a b
 kernel_rfl
theorem VJ:JD o 72 km:=Rb WT (by intro a b;cases a;cases b;rw [Bool.eq_iff_iff];simp) (by intro a;simp [km,Instr.sameBits]) (by kernel_rfl)
def pJ:Enc aM:=CO (dy dk (dy ia ik)) (fun x=>(x.l_,x.ab_,x.N_))
theorem qR {w X x c0 c1 c2} (a:dk.rd w X x.l_ c0) (h1:ia.rd w X x.ab_ c1) (e:ik.rd w X x.N_ c2):pJ.rd w X x (c0++(c1++c2)):=by
 show (dy dk (dy ia ik)).rd w X (x.l_,x.ab_,x.N_) _;exact (eL a (eL h1 e))
theorem Gi {w X x cs} (h:pJ.rd w X x cs):∃c0 c1 c2,cs=(c0++(c1++c2))∧(dk).rd w X x.l_ c0∧(ia).rd w X x.ab_ c1∧(ik).rd w X x.N_ c2:=by
 obtain ⟨c0,_,rfl,a,c1,c2,rfl,h1,e⟩:=h;exact ⟨c0,c1,c2,z,a,h1,e⟩
theorem uB {w X x cs} (h:pJ.rd w X x cs):∃a c0 e c1 f c2 i c3 j c4,cs=[P a x.l_.y_.c_ c0,P e x.l_.y_.g_ c1,A x.l_.k_.U_,A x.l_.k_.T_,A x.l_.k_.V_,A x.l_.k_.r_,A x.l_.k_.a_,A x.l_.k_.K_,B x.l_.k_.R_,A x.l_.u_,A x.l_.W_,A x.l_.Y_,A x.l_.w_,A x.l_.x_,P f x.ab_.u_ c2,P i x.N_.q_ c3,P j x.N_.s_ c4]∧cn.rd w X x.l_.y_.c_ [P a x.l_.y_.c_ c0]∧eLS.rd w X x.l_.y_.g_ [P e x.l_.y_.g_ c1]∧bB.rd w X x.ab_.u_ [P f x.ab_.u_ c2]∧aY.rd w X x.N_.q_ [P i x.N_.q_ c3]∧bx.rd w X x.N_.s_ [P j x.N_.s_ c4]:=by
 obtain ⟨v,F,H,rfl,k,h1,p⟩:=Gi h;obtain ⟨a,c0,e,c1,rfl,q,r⟩:=dg k;obtain ⟨f,c2,rfl,s⟩:=nA h1;obtain ⟨i,c3,j,c4,rfl,t,u⟩:=mt p;exact ⟨a,c0,e,c1,f,c2,i,c3,j,c4,z,q,r,s,t,u⟩
theorem iX:isSl o 22 5:=mV (by kernel_rfl)
theorem ty5:el o 5 n 1 1 [I K 0]:=eh (by kernel_rfl)
theorem us5:(o.underlying 5).isSome=y:=by kernel_rfl
theorem in3:Cm o 3 J:=HN (by kernel_rfl)
theorem WU:el o 84 y 3 40 [S N 0 0,A 0,A 0]:=eh (by kernel_rfl)
theorem WI:tg o 84 [(0,1),(1,1),(2,1)]:=iU (by kernel_rfl)
theorem JW:fo o 84 2 2:=bP (by kernel_rfl)
theorem ty3:el o 3 n 1 8 [A 0]:=eh (by kernel_rfl)
theorem br:o.follows .mixedOrders=y:=by kernel_rfl
theorem JV:fo o 84 1 1:=bP (by kernel_rfl)
theorem SZ:fo o 84 0 0:=bP (by kernel_rfl)
theorem Ba:el o 22 n 1 24 [S N 0 0]:=eh (by kernel_rfl)
theorem aJ:isSl o 69 3:=mV (by kernel_rfl)
theorem dO:el o 88 y 3 64 [vS [],S N 0 0,S N 0 0]:=eh (by kernel_rfl)
theorem fM:isSl o 25 9:=mV (by kernel_rfl)
theorem ty9:el o 9 n 1 16 [vS []]:=eh (by kernel_rfl)
theorem RO:tg o 88 [(0,1),(1,1),(2,1)]:=iU (by kernel_rfl)
theorem kD:fo o 88 1 1:=bP (by kernel_rfl)
theorem bp:el o 69 n 1 24 [S N 0 0]:=eh (by kernel_rfl)
theorem sl:fo o 88 2 2:=bP (by kernel_rfl)
theorem lW:el o 25 n 1 24 [S N 0 0]:=eh (by kernel_rfl)
theorem cj:el o 27 y 2 48 [S N 0 0,S N 0 0]:=eh (by kernel_rfl)
theorem QQ:tg o 27 [(0,1),(1,1)]:=iU (by kernel_rfl)
theorem ii:fo o 27 1 1:=bP (by kernel_rfl)
theorem dV:fo o 27 0 0:=bP (by kernel_rfl)
theorem kZ:el o 24 n 1 24 [S N 0 0]:=eh (by kernel_rfl)
theorem kR:isSl o 24 88:=mV (by kernel_rfl)
theorem kh:el o 29 y 7 56 [A 0,A 0,A 0,A 0,A 0,A 0,B n]:=eh (by kernel_rfl)
theorem WP:tg o 29 [(0,1),(1,1),(2,1),(3,1),(4,1),(5,1),(6,1)]:=iU (by kernel_rfl)
theorem gn:el o 31 y 14 144 zL3:=eh (by kernel_rfl)
theorem BO:fo o 29 2 2:=bP (by kernel_rfl)
theorem zN:fo o 29 0 0:=bP (by kernel_rfl)
theorem yH:fo o 29 3 3:=bP (by kernel_rfl)
theorem yv:fo o 29 4 4:=bP (by kernel_rfl)
theorem WR:tg o 31 [(0,2),(2,7),(9,1),(10,1),(11,1),(12,1),(13,1)]:=iU (by kernel_rfl)
theorem zd:fo o 31 5 12:=bP (by kernel_rfl)
theorem yA:fo o 31 6 13:=bP (by kernel_rfl)
theorem us3:(o.underlying 3).isSome=y:=by kernel_rfl
theorem in5:Cm o 5 K:=HN (by kernel_rfl)
theorem bl:el o 156 y 2 32 [S N 0 0,A 0]:=eh (by kernel_rfl)
theorem AM:fo o 156 0 0:=bP (by kernel_rfl)
theorem yV:fo o 156 1 1:=bP (by kernel_rfl)
theorem Fj:tg o 156 [(0,1),(1,1)]:=iU (by kernel_rfl)
theorem st9:He o 9:=SV (by kernel_rfl)
theorem yN:fo o 88 0 0:=bP (by kernel_rfl)
theorem Bu:fo o 29 1 1:=bP (by kernel_rfl)
theorem xC:fo o 29 5 5:=bP (by kernel_rfl)
theorem kz:fo o 31 0 0:=bP (by kernel_rfl)
theorem vR:fo o 31 1 2:=bP (by kernel_rfl)
theorem yT:fo o 31 2 9:=bP (by kernel_rfl)
theorem Ap:fo o 31 3 10:=bP (by kernel_rfl)
theorem Es:fo o 31 4 11:=bP (by kernel_rfl)
theorem dD:el o 94 y 2 48 [S N 0 0,S N 0 0]:=eh (by kernel_rfl)
theorem Uh:tg o 94 [(0,1),(1,1)]:=iU (by kernel_rfl)
theorem eD:fo o 94 1 1:=bP (by kernel_rfl)
theorem dc:el o 35 n 1 24 [S N 0 0]:=eh (by kernel_rfl)
theorem cC:isSl o 35 69:=mV (by kernel_rfl)
theorem bL:el o 60 y 2 32 [S N 0 0,A 0]:=eh (by kernel_rfl)
theorem Lt:tg o 60 [(0,1),(1,1)]:=iU (by kernel_rfl)
theorem da:el o 96 y 12 160 zL4:=eh (by kernel_rfl)
theorem Tp:tg o 96 [(0,1),(1,2),(3,1),(4,1),(5,2),(7,1),(8,1),(9,1),(10,1),(11,1)]:=iU (by kernel_rfl)
theorem eA:isSl o 58 96:=mV (by kernel_rfl)
theorem dP:el o 66 y 7 120 zL2:=eh (by kernel_rfl)
theorem Ri:tg o 66 [(0,2),(2,1),(3,2),(5,2)]:=iU (by kernel_rfl)
theorem gJ:el o 34 y 1 24 [S N 0 0]:=eh (by kernel_rfl)
theorem TH:tg o 34 [(0,1)]:=iU (by kernel_rfl)
theorem ka:fo o 34 0 0:=bP (by kernel_rfl)
theorem tu:el o 32 n 1 24 [S N 0 0]:=eh (by kernel_rfl)
theorem sQ:isSl o 32 66:=mV (by kernel_rfl)
theorem fS:el o 161 y 2 32 [S N 0 0,A 0]:=eh (by kernel_rfl)
theorem Wh:tg o 161 [(0,1),(1,1)]:=iU (by kernel_rfl)
theorem rG:fo o 161 0 0:=bP (by kernel_rfl)
theorem pW:fo o 161 1 1:=bP (by kernel_rfl)
theorem ky:fo o 94 0 0:=bP (by kernel_rfl)
theorem qX:fo o 96 1 1:=bP (by kernel_rfl)
theorem dT:el o 92 y 2 16 [A 0,A 0]:=eh (by kernel_rfl)
theorem Kd:tg o 92 [(0,1),(1,1)]:=iU (by kernel_rfl)
theorem Vf (a e:Int) (f h:Int):KU o 92 [A a,A f] [A e,A h]=U (a==e&&(f==h&&y)):=by kernel_rfl
theorem kE:fo o 96 2 3:=bP (by kernel_rfl)
theorem xL:fo o 96 3 4:=bP (by kernel_rfl)
theorem fw:fo o 96 4 5:=bP (by kernel_rfl)
theorem uU:fo o 96 6 8:=bP (by kernel_rfl)
theorem qY:fo o 96 5 7:=bP (by kernel_rfl)
theorem pB:fo o 92 0 0:=bP (by kernel_rfl)
theorem uD:fo o 92 1 1:=bP (by kernel_rfl)
theorem cl:fo o 60 0 0:=bP (by kernel_rfl)
theorem ff:el o 58 n 1 24 [S N 0 0]:=eh (by kernel_rfl)
theorem rU:fo o 96 8 10:=bP (by kernel_rfl)
theorem qp:fo o 60 1 1:=bP (by kernel_rfl)
theorem mL:fo o 96 7 9:=bP (by kernel_rfl)
theorem rS:fo o 96 9 11:=bP (by kernel_rfl)
theorem qk:fo o 96 0 0:=bP (by kernel_rfl)
theorem ty4:el o 4 n 1 1 [B n]:=eh (by kernel_rfl)
theorem dF:fo o 62 0 0:=bP (by kernel_rfl)
theorem Eb:fo o 64 0 0:=bP (by kernel_rfl)
theorem cY:el o 62 y 1 24 [S N 0 0]:=eh (by kernel_rfl)
theorem Ez:fo o 64 1 1:=bP (by kernel_rfl)
theorem xI:fo o 66 0 0:=bP (by kernel_rfl)
theorem xN:fo o 66 3 5:=bP (by kernel_rfl)
theorem mu:el o 64 y 2 48 [S N 0 0,S N 0 0]:=eh (by kernel_rfl)
theorem tl:fo o 66 1 2:=bP (by kernel_rfl)
theorem qV:fo o 66 2 3:=bP (by kernel_rfl)
theorem Vj:tg o 62 [(0,1)]:=iU (by kernel_rfl)
theorem PW:tg o 64 [(0,1),(1,1)]:=iU (by kernel_rfl)
theorem wC:isSl o 261 92:=mV (by kernel_rfl)
theorem vl:fo o 277 0 0:=bP (by kernel_rfl)
theorem tV:fo o 277 1 1:=bP (by kernel_rfl)
theorem dG:el o 277 y 2 16 [A 0,A 0]:=eh (by kernel_rfl)
theorem ER:tg o 277 [(0,1),(1,1)]:=iU (by kernel_rfl)
theorem Gv:fo o 279 1 2:=bP (by kernel_rfl)
theorem xu:isSl o 301 279:=mV (by kernel_rfl)
theorem nM:el o 279 y 4 32 [A 0,A 0,A 0,A 0]:=eh (by kernel_rfl)
theorem UR:tg o 279 [(0,2),(2,2)]:=iU (by kernel_rfl)
theorem Nm:fo o 29 6 6:=bP (by kernel_rfl)
theorem TG:fo o 279 0 0:=bP (by kernel_rfl)
theorem Bd:isSl o 311 314:=mV (by kernel_rfl)
theorem Fg:el o 314 y 2 16 [A 0,A 0]:=eh (by kernel_rfl)
theorem Wd:tg o 314 [(0,1),(1,1)]:=iU (by kernel_rfl)
theorem Oa:fo o 314 0 0:=bP (by kernel_rfl)
theorem Oe:fo o 314 1 1:=bP (by kernel_rfl)
theorem kX:el o 197 y 8 56 zL0:=eh (by kernel_rfl)
theorem GM:tg o 197 [(0,1),(1,1),(2,1),(3,1),(4,1),(5,1),(6,1),(7,1)]:=iU (by kernel_rfl)
theorem UC:fo o 197 0 0:=bP (by kernel_rfl)
theorem OR:fo o 197 1 1:=bP (by kernel_rfl)
theorem Gk:fo o 197 2 2:=bP (by kernel_rfl)
theorem Ol:fo o 197 3 3:=bP (by kernel_rfl)
theorem OC:fo o 197 4 4:=bP (by kernel_rfl)
theorem Kw:fo o 197 5 5:=bP (by kernel_rfl)
theorem Tt:fo o 197 6 6:=bP (by kernel_rfl)
theorem OS:fo o 197 7 7:=bP (by kernel_rfl)
theorem Mq:isSl o 163 197:=mV (by kernel_rfl)
theorem fF:el o 38 y 2 48 [S N 0 0,S N 0 0]:=eh (by kernel_rfl)
theorem Wq:tg o 38 [(0,1),(1,1)]:=iU (by kernel_rfl)
theorem jQ:fo o 38 0 0:=bP (by kernel_rfl)
theorem sA:isSl o 36 72:=mV (by kernel_rfl)
theorem pi:el o 72 y 2 16 [A 0,A 0]:=eh (by kernel_rfl)
theorem lN:fo o 38 1 1:=bP (by kernel_rfl)
theorem wq:el o 36 n 1 24 [S N 0 0]:=eh (by kernel_rfl)
theorem Ib:fo o 72 0 0:=bP (by kernel_rfl)
theorem BH:fo o 72 1 1:=bP (by kernel_rfl)
theorem TR:tg o 72 [(0,1),(1,1)]:=iU (by kernel_rfl)
theorem gB:el o 40 y 17 216 zL1:=eh (by kernel_rfl)
theorem Is:tg o 40 [(0,14),(14,1),(15,2)]:=iU (by kernel_rfl)
theorem wE:fo o 40 2 15:=bP (by kernel_rfl)
theorem Sz:isSl o 232 161:=mV (by kernel_rfl)
theorem pf:fo o 40 0 0:=bP (by kernel_rfl)
theorem Bw:fo o 40 1 14:=bP (by kernel_rfl)
theorem bl4:VC o 4:=TN (by kernel_rfl)
theorem iz3:TF o 3:=Ui (by kernel_rfl)
theorem SA:Ru o 130 72 3:=(by kernel_rfl:o.underlying 130=U (.map 72 3))
theorem WL:VN o 5:=Tr (by kernel_rfl)
theorem QN:fo o 53 1 1:=bP (by kernel_rfl)
theorem En:fo o 53 0 0:=bP (by kernel_rfl)
theorem WO:el o 53 y 2 32 [S N 0 0,B n]:=eh (by kernel_rfl)
theorem WQ:tg o 53 [(0,1),(1,1)]:=iU (by kernel_rfl)
theorem Vh:Vi o 139:=by unfold Vi;kernel_rfl
theorem qM:fo o 110 2 2:=bP (by kernel_rfl)
theorem OV:fo o 110 0 0:=bP (by kernel_rfl)
theorem KC:fo o 110 1 1:=bP (by kernel_rfl)
theorem Wl:el o 110 y 3 40 [S N 0 0,A 0,B n]:=eh (by kernel_rfl)
theorem Wm:tg o 110 [(0,1),(1,1),(2,1)]:=iU (by kernel_rfl)
theorem vU:isSl o 113 112:=mV (by kernel_rfl)
theorem oF:el o 112 n 1 8 [O N]:=eh (by kernel_rfl)
theorem Ln (w) {p0 a e f r} (H:Hc p0=U r) (h:eL8.rd w [] p0 [S a e f]) :
    Cq 4 [S a e f] w (B r):=by
 obtain rfl:=dz h;exact fe0 func4 ntmps4 z<|D<|C z<|nR<|G [.p,.lenS 22 5 iX,.p,.p] z<|nT<|af H▸xw z
theorem IC (w) {j p0 e i f r} (H:yF p0=U r) (HS:g w j [] w) (q:eL8.rd w j p0 [S e i f]) :
    Cl 12 [S e i f] w fun v w'=>∃s,v=pA s∧g w j [b s 84 [S e i f,A r.i_,A r.h_]] w':=by
 obtain rfl:=dz q;refine fe func12 ntmps12 HS z<|D<|C z<|nR<|G [.p,.lenS 22 5 iX,.p,.p] z<|c<|Z<|D<|C z<|c<|aI<|lp [Int,Int] (fun a h=>[]) (fun a h=>[(0,P e p0 f),(3,A a),(4,A h)]) (fun kk a h=>oo p0 kk a h=U r) [] (fun F k a h H=>?_) ⟨_,_,H,z⟩;exact Z<|D<|G [.p,.p,.lenS 22 5 iX,.p,.p] z<|jA [0,3,4] u3 3 12 3 15 3 (decide (h<4000)) z z (fun key=>m z<|C z<|oK key z)<|cJ H z (fun H=>ck<|cb<|av<|oN 4 z<|bE H fun u t H=>ix1 iX ty5 (V q) t z z<|G [.cv 5 3 J us5 in3,.p,.p,.p,.p] z<|ap<|xb<|av<|oN 3 z<|ap<|iA [] (k H) z) fun H=>ce<|bH<|D<|m z<|o1 z (aT [(0,[P e p0 f]),(2,[A a])] [P e p0 f,A 0,A a] z z WU WI z ⟨z,z,nl z,z,z,nl z,Y⟩ z)<|ob _ z fun x=>C z<|nT<|af H▸xo z fun w' hw'=>⟨_,z,_,z,hw'.sel [0] z z⟩
theorem nc (w) {e p0b p0 a a_p0b n_p0b c_p0b r} (H:mz p0b p0=U r) (HS:g w e [b a 84 [P a_p0b p0b c_p0b,A p0.i_,A p0.h_]] w) (g_p0b:eL8.rd w e p0b [S a_p0b n_p0b c_p0b]) :
    Cl 57 [pA a] w fun v w'=>v=A r.1∧g w e [b a 84 [S a_p0b n_p0b c_p0b,A r.2.i_,A r.2.h_]] w':=by
 obtain rfl:=dz g_p0b;refine fe func57 ntmps57 HS z<|D<|C z<|nR<|G [.p,.p,.p,.fa 84 2 2 JW] z<|l 2 0 ty3 z<|G [.p,.p,.p,.fa 84 2 2 JW] z<|sD 2 d u3 0 ty3 z<|c<|Z<|dR br (by kernel_rfl)<|G [.p,.p,.fa 84 2 2 JW] z<|l 2 0 ty3 z<|G [.p,.p,.p,.fa 84 2 2 JW] z<|l 2 0 ty3 z<|oN 4 z<|cy<|bH<|Z<|Z<|dR br (by kernel_rfl)<|G [.p,.p,.fa 84 1 1 JV] z<|l 1 0 ty3 z<|G [.p,.p,.fa 84 0 0 SZ] z<|l 0 0 Ba z<|G [.lenS 22 5 iX,.p] z<|cy<|bH<|cI H z ?_ ?_<;>intro H
 ·exact Z<|dR br (by kernel_rfl)<|G [.p,.p,.p,.fa 84 0 0 SZ] z<|l 0 0 Ba z<|G [.p,.p,.fa 84 1 1 JV] z<|l 1 0 ty3 z<|bE H fun h f H=>ix1 iX ty5 (V g_p0b) f z z<|G [.cv 5 3 J us5 in3,.p,.p,.p] z<|cy<|bH<|av<|G [.p,.p,.p,.fa 84 1 1 JV] z<|l 1 0 ty3 z<|G [.p,.p,.fa 84 1 1 JV] z<|sD 1 d u3 0 ty3 z<|nR<|m z<|nT<|af H▸xo z (y0 [0] z)
 exact ck<|D<|m z<|nT<|af H▸xo z (y0 [0] z)
theorem be (w) {q p0b p0 p1 f a_p0b n_p0b c_p0b r} (H:bz p0b p0 p1=U r) (HS:g w q [b f 84 [P a_p0b p0b c_p0b,A p0.i_,A p0.h_]] w) (g_p0b:eL8.rd w q p0b [S a_p0b n_p0b c_p0b]) :
    Cl 27 [pA f,A p1] w fun v w'=>v=A r.1∧g w q [b f 84 [S a_p0b n_p0b c_p0b,A r.2.i_,A r.2.h_]] w':=by
 obtain rfl:=dz g_p0b;refine fe func27 ntmps27 HS z<|D<|C z<|c<|Z<|D<|m z<|cJ H z (fun H=>D<|C z<|nT<|ba<|af H▸xo z (y0 [0] z)) fun H=>ck<|Z<|D<|m z<|cJ H z ?_ ?_<;>intro H
 ·exact D<|C z<|oV0 [0] H func57 (fun h e a=>nc e h (a.carve [0] z z) (rdB [0] z z a g_p0b)) z (fun _=>(z:_=E)) kf fun u h H=>C z<|bE H fun x s H=>o1 z (xH z z z s)<|C z<|nT<|ba<|af H▸xo z (y0 [1] z)
 exact ck<|D<|C z<|oV0 [0] H func57 (fun i e a=>nc e i (a.carve [0] z z) (rdB [0] z z a g_p0b)) z (fun _=>(z:_=E)) kf fun F i H=>C z<|nR<|C z<|oV0 [1] H func57 (fun j e a=>nc e j (a.carve [1] z z) (rdB [1] z z a g_p0b)) z (fun _=>(z:_=u3)) kf fun L j H=>C z<|c<|Z<|wk d [2] z<|av<|C z<|oV0 [0] H func57 (fun k e a=>nc e k (a.carve [0] z z) (rdB [0] z z a g_p0b)) z (fun _=>(z:_=E)) kf fun M k H=>C z<|nR<|C z<|oV0 [1] H func57 (fun p e a=>nc e p (a.carve [1] z z) (rdB [1] z z a g_p0b)) z (fun _=>(z:_=u3)) kf fun R p H=>C z<|c<|Z<|wk d [2] z<|av<|oN 11 z<|bE H fun X t H=>o1 z (xH z z z t)<|C z<|nT<|af H▸xo z (y0 [0] z)
theorem eK (w) {h p0b p0 p1 a a_p0b n_p0b c_p0b r} (H:fj p0b p0 p1=U r) (HS:g w h [b a 84 [P a_p0b p0b c_p0b,A p0.i_,A p0.h_]] w) (g_p0b:eL8.rd w h p0b [S a_p0b n_p0b c_p0b]) :
    Cl 88 [pA a,A p1] w fun v w'=>v=B r.1∧g w h [b a 84 [S a_p0b n_p0b c_p0b,A r.2.i_,A r.2.h_]] w':=by
 obtain rfl:=dz g_p0b;exact fe func88 ntmps88 HS z<|D<|C z<|nR<|m z<|oV0 [0] H func27 (fun e i f=>be i e (f.carve [0] z z) (rdB [0] z z f g_p0b)) z (fun _=>(z:_=E)) kf fun j e H=>m z<|nT<|af H▸xo z (y0 [1] z)
theorem aN (w) {e p0b p0 p1 a a_p0b n_p0b c_p0b f h i r} (H:aZ p0b p0 p1=U r) (HS:g w e [b a 84 [P a_p0b p0b c_p0b,A p0.i_,A p0.h_]] w) (g_p0b:eL8.rd w e p0b [S a_p0b n_p0b c_p0b]) (q:eLI.rd w e p1 [S f h i]) :
    Cl 55 [pA a,S f h i] w fun v w'=>v=A r.1∧g w e [b a 84 [S a_p0b n_p0b c_p0b,A r.2.i_,A r.2.h_]] w':=by
 obtain rfl:=dz g_p0b;obtain rfl:=dz q;exact fe func55 ntmps55 HS z<|D<|C z<|nR<|G [.p,.p,.p,.lenS 69 3 aJ] z<|oV0 [0] H func27 (fun j t k=>be t j (k.carve [0] z z) (rdB [0] z z k g_p0b)) z (fun _=>(z:_=E)) kf fun u j H=>bE H fun x s H=>ix1 aJ ty3 (V q) s z z<|C z<|nT<|af H▸xo z (y0 [1] z)
theorem uZ (w) {M0 p0b p0 p1 q a_p0b n_p0b c_p0b r} (H:jS p0b p0 p1=U r) (HS:g w M0 [b q 84 [P a_p0b p0b c_p0b,A p0.i_,A p0.h_]] w) (g_p0b:eL8.rd w M0 p0b [S a_p0b n_p0b c_p0b]) :
    Cl 120 [pA q,A p1] w fun v w'=>∃a0 n0 c0 F0 a1 n1 c1 F1,v=.agg #[vS r.1.H_,S a0 n0 c0,S a1 n1 c1]∧g w M0 [W eLI F0 r.1.B_ [S a0 n0 c0],W eLS F1 r.1.O_ [S a1 n1 c1],b q 84 [S a_p0b n_p0b c_p0b,A r.2.i_,A r.2.h_]] w':=by
 obtain rfl:=dz g_p0b;refine fe func120 ntmps120 HS z<|D<|oA dO z fun a7=>nR<|jE (val:=vS) (h1:=fun _=>z) [([97,103,101]:List UInt8),([115,105,122,101]:List UInt8),([99,111,108,111,117,114]:List UInt8),([107]:List UInt8),([108,111,110,103,110,97,109,101]:List UInt8)] [(0,[vS ([97,103,101]:List UInt8)]),(1,[vS ([115,105,122,101]:List UInt8)]),(2,[vS ([99,111,108,111,117,114]:List UInt8)]),(3,[vS ([107]:List UInt8)]),(4,[vS ([108,111,110,103,110,97,109,101]:List UInt8)])] z z z z z fM ty9 z z z ⟨z,z,nl z,z,z,nl z,z,z,nl z,z,z,nl z,z,z,nl z,Y⟩ z z kf fun d9=>m z<|bE H fun M c9 H=>ix1 fM ty9 (au (e:=eLS) (r:=2) z) c9 z z<|o1 z (aT [(0,[vS M])] [vS M,S N 0 0,S N 0 0] z z dO RO z ⟨z,z,nl z,Y⟩ z)<|oA dO z fun a8=>sD 0 u3 u3 3 dO z<|c<|Z<|D<|C z<|oV0 [0] H func88 (fun b4 s a=>eK s b4 (a.carve [0] z z) (rdB [0] z z a g_p0b)) z (fun _=>(z:_=u5)) kf fun e0 b4 H=>cJ H z ?_ ?_<;>intro H
 ·refine D<|C z<|oV0 [4] H func27 (fun b5 s a=>be s b5 (a.carve [4] z z) (rdB [4] z z a g_p0b)) z (fun _=>(z:_=u6)) kf fun b6 b5 H=>m z<|c<|Z<|wk u4 [1,2,3,5] z<|av<|C z<|bI [(-9999),(-7),0,3,20] aJ ty3 z kf fun e1=>oV0 [3] H func55 (fun b7 s a=>aN s b7 (a.carve [3] z z) (rdB [3] z z a g_p0b) (rdO 4 [3] z a z z)) z (fun _=>(z:_=u6)) kf fun e2 b7 H=>C z<|c<|Z<|D<|C z<|c<|aI<|CW.weak ?_ (pN eI 3)
  refine lp (Int::Int::(oT Int [Int,Int])) (fun X a2 t a3 a4 a9 u a5=>[b q 84 [P a_p0b p0b c_p0b,A X,A a2],b a7 88 [vS ([]:List UInt8),S N 0 0,S N 0 0],b a8 88 [vS M,P a3 t a4,S N 0 0],W eLI a9 t [P a3 t a4]]) (fun X a2 t a3 a4 a9 u a5=>[(0,pA q),(4,pA a7),(5,pA a8),(6,A (J.wrap (1+b6.1))),(7,A u),(8,A a5)]) (fun kk X a2 t a3 a4 a9 u a5=>du b6 p0b M kk X a2 t u a5=U r) [5,0,2,6] (fun k1 c3 X a2 t a3 a4 a9 u a5 H=>?_) ⟨_,_,_,_,_,_,_,_,H,z⟩;refine Z<|D<|oN 3 z<|cJ H z ?_ ?_<;>intro H
  ·exact ck<|cb<|D<|G [.fa 88 1 1 kD] z<|l 1 2 bp z<|C z<|bI [u] aJ ty3 z kf fun e3=>bE H fun e4 b8 H=>cr (r:=3) (ys:=([u]:List Int)) z z z z z z aJ ty3 z z z (au (e:=eLI) (r:=4) z) b8 kg fun e5 e6 e7=>bX z (fun s a=>dZ (i:=3) a z (ed b8)) fun d3=>G [.fa 88 1 1 kD] z<|sD 1 d u3 2 bp z<|c<|av<|oN 3 z<|oV0 [0] H func27 (fun b9 s a=>be s b9 (a.carve [0] z z) (rdB [0] z z a g_p0b)) z (fun _=>(z:_=u6)) kf fun e9 b9 H=>m z<|ap<|xb<|av<|oN 3 z<|ap<|iA [5,1,2,3] (c3 H) z
  exact ce<|bH<|D<|oX 0 2 dO z<|sD 0 u3 u3 1 dO z<|nT<|ba<|bO (pN pL 9)<|af H▸xc 1 dO z (y2 [3,4,0] z)
 refine ck<|D<|C z<|oV0 [4] H func27 (fun c2 s a=>be s c2 (a.carve [4] z z) (rdB [4] z z a g_p0b)) z (fun _=>(z:_=u6)) kf fun b0 c2 H=>m z<|c<|Z<|Z<|wk u4 [1,2,3,5] z<|av<|C z<|c<|aI<|CW.weak ?_ (pN pL 9)
 refine lp (Int::(oT (List UInt8) [])) (fun p f x F R=>[b q 84 [P a_p0b p0b c_p0b,A b0.2.i_,A b0.2.h_],b a7 88 [vS ([]:List UInt8),S N 0 0,S N 0 0],b a8 88 [vS M,S N 0 0,P x f F],W eLS R f [P x f F]]) (fun p f x F R=>[(0,pA q),(4,pA a7),(5,pA a8),(9,A (J.wrap (2+b0.1))),(10,A p)]) (fun kk p f x F R=>dw b0 M kk p f=U r) [3,0,2,4] (fun k2 c4 p f x F R H=>?_) ⟨_,_,_,_,_,H,z⟩;refine Z<|D<|oN 3 z<|cJ H z ?_ ?_<;>intro H
 ·refine ck<|cb<|bE H fun a6 b1 H=>oD 7 [(0,y),(1,y),(3,y)] (tr 4 [⟨4,[],[2]⟩,⟨5,[],[2]⟩,⟨6,[],[2]⟩] [2]) (g w M0 u4) br (by kernel_rfl) (aL (ar (cA (aL (ar ay))))) (mA [y,y,y,y] z)<|G [.fa 88 2 2 sl] z<|aO z (aj z) (r1 2 2 z lW z)<|C z<|aG<|xs1 ⟨2,52,fun L=>S (U ⟨L,0,N⟩) (([([114,101,100]:List UInt8),([98,108,117,101]:List UInt8),([120]:List UInt8),([103,114,101,101,110]:List UInt8)]:List (List UInt8)).length) 4,fun L=>W eLS [L] ([([114,101,100]:List UInt8),([98,108,117,101]:List UInt8),([120]:List UInt8),([103,114,101,101,110]:List UInt8)]:List (List UInt8)) [S (U ⟨L,0,N⟩) (([([114,101,100]:List UInt8),([98,108,117,101]:List UInt8),([120]:List UInt8),([103,114,101,101,110]:List UInt8)]:List (List UInt8)).length) 4]⟩ z z ⟨z,fun _ _ _ _ h k=>jE (val:=vS) (h1:=fun _=>z) [([114,101,100]:List UInt8),([98,108,117,101]:List UInt8),([120]:List UInt8),([103,114,101,101,110]:List UInt8)] [(0,[vS ([114,101,100]:List UInt8)]),(1,[vS ([98,108,117,101]:List UInt8)]),(2,[vS ([120]:List UInt8)]),(3,[vS ([103,114,101,101,110]:List UInt8)])] z z z z z fM ty9 z z z ⟨z,z,nl z,z,z,nl z,z,z,nl z,z,z,nl z,Y⟩ z z h fun b=>aG (k b)⟩<|SC 0 4 ⟨fun _=>z,fun _=>z,z⟩ (fun _=>mA [y,y,y,y] z) z fun L=>?_
  dsimp only [sr,sv];exact xfd [(4,n),(5,n),(6,n)] z z (mA [y,y,y,y] z)<|UI (e:=pL) (xs:=([([114,101,100]:List UInt8),([98,108,117,101]:List UInt8),([120]:List UInt8),([103,114,101,101,110]:List UInt8)]:List (List UInt8))) (j:=p) z z z z z z fM ty9 z (au (e:=eLS) (r:=4) z) b1 (by rw [Nat.mul_one])<|yp z z (aj z) (bv z z ty9 (wo (au (e:=eLS) (r:=4) z) b1))<|jE (val:=vS) (h1:=fun _=>z) [a6] [(0,[vS a6])] z z z z z fM ty9 z z z ⟨z,z,nl z,Y⟩ z z (fun _=>(mA [y,y,y,y] z)) fun d4=>aG<|oE<|bE H fun d5 b2 H=>cr (r:=3) (ys:=([a6]:List (List UInt8))) z z z z z z fM ty9 z z z (au (e:=eLS) (r:=5) z) b2 kg fun d6 d7 d8=>bX z (fun s a=>dZ (i:=3) a z (ed b2)) fun d0=>G [.fa 88 2 2 sl] z<|sD 2 d u3 2 lW z<|ap<|xb<|av<|oN 3 z<|ap<|iA [0,1,2,3] (c4 H) z
 exact ce<|bH<|D<|oX 0 2 dO z<|sD 0 u3 u3 1 dO z<|nT<|bO (pN eI 3)<|af H▸xc 1 dO z (y2 [4,3,0] z)
theorem zt (w) {M0 p0b p0 t a_p0b n_p0b c_p0b r} (H:rY p0b p0=U r) (HS:g w M0 [b t 84 [P a_p0b p0b c_p0b,A p0.i_,A p0.h_]] w) (g_p0b:eL8.rd w M0 p0b [S a_p0b n_p0b c_p0b]) :
    Cl 86 [pA t] w fun v w'=>∃a0 n0 c0 F0 a1 n1 c1 F1,v=.agg #[S a0 n0 c0,S a1 n1 c1]∧g w M0 [W cn F0 r.1.c_ [S a0 n0 c0],W eLS F1 r.1.g_ [S a1 n1 c1],b t 84 [S a_p0b n_p0b c_p0b,A r.2.i_,A r.2.h_]] w':=by
 obtain rfl:=dz g_p0b;refine fe func86 ntmps86 HS z<|D<|oA cj z fun a6=>nR<|jE (val:=vS) (h1:=fun _=>z) [([110,111]:List UInt8),([121,101,115]:List UInt8)] [(0,[vS ([110,111]:List UInt8)]),(1,[vS ([121,101,115]:List UInt8)])] z z z z z fM ty9 z z z ⟨z,z,nl z,z,z,nl z,Y⟩ z z kf fun b8=>o1 z (aT [(1,[S (U ⟨b8,0,N⟩) (([([110,111]:List UInt8),([121,101,115]:List UInt8)]:List (List UInt8)).length) 2])] [S N 0 0,S (U ⟨b8,0,N⟩) (([([110,111]:List UInt8),([121,101,115]:List UInt8)]:List (List UInt8)).length) 2] z z cj QQ z ⟨z,z,nl z,Y⟩ z)<|oA cj z fun a7=>sD 0 E E 3 cj z<|c<|jn (Int::Int::(oT (List UInt8) [])) (fun F L f s u M=>[b t 84 [P a_p0b p0b c_p0b,A F,A L],b a6 27 [S N 0 0,S N 0 0],b a7 27 [S N 0 0,P s f u],W eLS M f [P s f u]]) (fun F L f s u M=>[(0,pA t),(2,pA a6),(3,pA a7)]) (fun F L f s u M=>s.isNone=n∧mi p0b F L f=U r) (fun F L f s u M ⟨d2,H⟩=>?_) (fun J1=>?_)
 ·unfold mi at H;refine D<|C z<|oV0 [0] H func27 (fun b9 w1 a=>be w1 b9 (a.carve [0] z z) (rdB [0] z z a g_p0b)) z (fun _=>(z:_=u5)) kf fun c2 b9 H=>m z<|c<|Z<|D<|C z<|c<|aI<|CW.weak ?_ (pN dl 88)
  refine lp (Int::Int::(oT aK [Int])) (fun R X x a2 a3 a8 a4=>[b t 84 [P a_p0b p0b c_p0b,A R,A X],b a6 27 [S N 0 0,S N 0 0],b a7 27 [P a2 x a3,P s f u],W cn a8 x [P a2 x a3],W eLS M f [P s f u]]) (fun R X x a2 a3 a8 a4=>[(0,pA t),(2,pA a6),(3,pA a7),(4,A (J.wrap (1+c2.1))),(5,A a4)]) (fun kk R X x a2 a3 a8 a4=>jC c2 p0b f kk R X x a4=U r) [4,1,2,5,3] (fun k1 c3 R X x a2 a3 a8 a4 H=>?_) ⟨_,_,_,_,_,_,_,H,z⟩;refine Z<|D<|oN 3 z<|cJ H z ?_ ?_<;>intro H
  ·exact ck<|cb<|bG 6 [(0,y),(1,y),(2,y),(3,y),(4,n),(5,n)] (g w M0 u5) br (by kernel_rfl) (aL (ar (cA (aL (ar ay))))) (mA [n,y,y,y,y] z)<|G [.fa 27 0 0 dV] z<|aO z (aj z) (r1 0 2 z kZ z)<|m z<|oV2 [0] H func120 (fun b0 w1 a=>uZ w1 b0 (a.carve [0] z z) (rdB [0] z z a g_p0b)) z (fun _ _ _ _ _ _ _=>(z:_=u8)) (fun _ _ _ _ _ _ _=>(mA [n,y,y,y,y] z)) fun k b0 H b1 b2 d3 b3 b4 d4=>rP z (fun w1 a=>wi (x0:=k.1.H_) [5,6] a z z) fun d5=>dx (C':=g w M0 u9) z (fun _ h=>h)<|dv [(0,[vS k.1.H_,P b1 k.1.B_ b2,P b3 k.1.O_ b4])] z z z z z kR dO z z ⟨z,z,nl z,Y⟩ [vS k.1.H_,P b1 k.1.B_ b2,P b3 k.1.O_ b4] z (fun _=>(mA [n,y,y,y,y] z)) fun d6=>dx z (fun _ h=>rZ (p:=9) (q:=8) h z z z)<|aG<|fk<|bE H fun d7 c4 H=>ga (r:=3) (j:=10) z z z z z z kR dO z z z z z z z c4 kg fun d8 d9 e0=>G [.fa 27 0 0 dV] z<|sD 0 d E 2 kZ z<|ap<|xb<|wk u5 [1,2,4,7,11] z<|av<|oN 3 z<|ap<|iA [3,0,1,4,2] (c3 H) z
  exact ce<|bH<|D<|oX 0 2 cj z<|sD 0 E E 1 cj z<|nT<|af H▸xc 1 cj z (y2 [3,4,0] z)
 refine D<|C z<|oV0 [0] H func88 (fun b5 w1 a=>eK w1 b5 (a.carve [0] z z) (rdB [0] z z a g_p0b)) z (fun _=>(z:_=u5)) kf fun e1 b5 H=>cJ H z (fun H=>av<|G [.fa 27 1 1 ii] z<|l 1 3 lW z<|jE (val:=vS) (h1:=fun _=>z) [([112,101,114,104,97,112,115]:List UInt8)] [(0,[vS ([112,101,114,104,97,112,115]:List UInt8)])] z z z z z fM ty9 z z z ⟨z,z,nl z,Y⟩ z z kf fun e2=>bE H fun e3 b6 H=>cr (r:=2) (ys:=([([112,101,114,104,97,112,115]:List UInt8)]:List (List UInt8))) z z z z z z fM ty9 z z z (au (e:=eLS) (r:=5) z) b6 kg fun e4 e5 e6=>bX z (fun w1 a=>dZ (i:=2) a z (ed b6)) fun b7=>G [.fa 27 1 1 ii] z<|sD 1 d E 3 lW z<|ap<|iJ [4,1,3,2] (J1 ⟨b7,H⟩) z) fun H=>bJ<|iJ [4,1,3,2] (J1 ⟨z,H⟩) z
theorem tn (w) {X p0b p0 f a_p0b n_p0b c_p0b r} (H:li p0b p0=U r) (HS:g w X [b f 84 [P a_p0b p0b c_p0b,A p0.i_,A p0.h_]] w) (g_p0b:eL8.rd w X p0b [S a_p0b n_p0b c_p0b]) :
    Cl 87 [pA f] w fun v w'=>v=.agg #[A r.1.U_,A r.1.T_,A r.1.V_,A r.1.r_,A r.1.a_,A r.1.K_,B r.1.R_]∧g w X [b f 84 [S a_p0b n_p0b c_p0b,A r.2.i_,A r.2.h_]] w':=by
 obtain rfl:=dz g_p0b;exact fe func87 ntmps87 HS z<|D<|oA kh z fun a0=>nR<|C z<|bI [1,1,2,3,9] aJ ty3 z kf fun a1=>oV0 [0] H func55 (fun h e a=>aN e h (a.carve [0] z z) (rdB [0] z z a g_p0b) (rdO 2 [0] z a z z)) z (fun _=>(z:_=u4)) kf fun i h H=>C z<|bI [0,50,200,500,999] aJ ty3 z kf fun a2=>oV0 [3] H func55 (fun j e a=>aN e j (a.carve [3] z z) (rdB [3] z z a g_p0b) (rdO 4 [3] z a z z)) z (fun _=>(z:_=u6)) kf fun k j H=>C z<|bI [1,4,10,25,200] aJ ty3 z kf fun a3=>oV0 [5] H func55 (fun p e a=>aN e p (a.carve [5] z z) (rdB [5] z z a g_p0b) (rdO 6 [5] z a z z)) z (fun _=>(z:_=u8)) kf fun q p H=>C z<|bI [0,1,2,4,6,6] aJ ty3 z kf fun a4=>oV0 [7] H func55 (fun s e a=>aN e s (a.carve [7] z z) (rdB [7] z z a g_p0b) (rdO 8 [7] z a z z)) z (fun _=>(z:_=u10)) kf fun t s H=>C z<|bI [1,3,7,15,31,31] aJ ty3 z kf fun a5=>oV0 [9] H func55 (fun u e a=>aN e u (a.carve [9] z z) (rdB [9] z z a g_p0b) (rdO 10 [9] z a z z)) z (fun _=>(z:_=u12)) kf fun x u H=>C z<|bI [62,63,80,100,150,2000] aJ ty3 z kf fun a6=>oV0 [11] H func55 (fun F e a=>aN e F (a.carve [11] z z) (rdB [11] z z a g_p0b) (rdO 12 [11] z a z z)) z (fun _=>(z:_=u14)) kf fun L F H=>C z<|oV0 [13] H func88 (fun M e a=>eK e M (a.carve [13] z z) (rdB [13] z z a g_p0b)) z (fun _=>(z:_=u15)) kf fun R M H=>o1 z (aT [(0,[A i.1]),(1,[A k.1]),(2,[A q.1]),(3,[A t.1]),(4,[A x.1]),(5,[A L.1]),(6,[B R.1])] [A i.1,A k.1,A q.1,A t.1,A x.1,A L.1,B R.1] z z kh WP z ⟨z,z,nl z,z,z,nl z,z,z,nl z,z,z,nl z,z,z,nl z,z,z,nl z,z,z,nl z,Y⟩ z)<|sD 0 u7 u7 1 kh z<|nT<|af H▸xc 1 kh z (y0 [14] z)
theorem zh (w) {F p0b p0 L a_p0b n_p0b c_p0b r} (H:rT p0b p0=U r) (HS:g w F [b L 84 [P a_p0b p0b c_p0b,A p0.i_,A p0.h_]] w) (g_p0b:eL8.rd w F p0b [S a_p0b n_p0b c_p0b]) :
    Cl 53 [pA L] w fun v w'=>∃a0 n0 c0 F0 a1 n1 c1 F1,v=.agg #[S a0 n0 c0,S a1 n1 c1,A r.1.k_.U_,A r.1.k_.T_,A r.1.k_.V_,A r.1.k_.r_,A r.1.k_.a_,A r.1.k_.K_,B r.1.k_.R_,A r.1.u_,A r.1.W_,A r.1.Y_,A r.1.w_,A r.1.x_]∧g w F [W cn F0 r.1.y_.c_ [S a0 n0 c0],W eLS F1 r.1.y_.g_ [S a1 n1 c1],b L 84 [S a_p0b n_p0b c_p0b,A r.2.i_,A r.2.h_]] w':=by
 obtain rfl:=dz g_p0b;refine fe func53 ntmps53 HS z<|D<|oA gn z fun b1=>nR<|C z<|oV2 [0] H func86 (fun b2 e a=>zt e b2 (a.carve [0] z z) (rdB [0] z z a g_p0b)) z (fun _ _ _ _ _ _ _=>(z:_=u5)) kh2 fun f b2 H a2 a3 d5 a4 a5 d6=>oA cj z fun b3=>sD 0 E E 5 cj z<|nR<|C z<|oV0 [4] H func87 (fun b4 e a=>tn e b4 (a.carve [4] z z) (rdB [4] z z a g_p0b)) z (fun _=>(z:_=u7)) kf fun j b4 H=>oA kh z fun b5=>sD 0 u7 u7 7 kh z<|c<|jn [Int,Int,Int,Int,Int,Int] (fun M R s t u x=>[b L 84 [P a_p0b p0b c_p0b,A M,A R],b b1 31 zL3,b b3 27 [P a2 f.1.c_ a3,P a4 f.1.g_ a5],W cn d5 f.1.c_ [P a2 f.1.c_ a3],W eLS d6 f.1.g_ [P a4 f.1.g_ a5],b b5 29 [A s,A j.1.T_,A t,A u,A x,A j.1.K_,B j.1.R_]]) (fun M R s t u x=>[(0,pA L),(2,pA b1),(3,pA b3),(4,pA b5)]) (fun M R s t u x=>mb p0b f j M R s t u x=U r) (fun M R s t u x H=>?_) (fun J1=>?_)
 ·unfold mb at H;refine Z<|bE H fun b6 d8 H=>bE H fun b7 d9 H=>bE H fun b8 e0 H=>bE H fun b9 e1 H=>oD 19 [(0,y),(1,y),(2,y),(5,y),(6,y),(7,y),(8,y),(11,y),(14,y)] (tr 6 [⟨3,[(4,y)],[]⟩,⟨9,[(10,y)],[]⟩,⟨13,[],[12]⟩,⟨15,[(16,y),(17,y)],[12]⟩] [12,18]) (g w F u6) br (by kernel_rfl) (ar ay) (mA [n,y,y,y,y,y] z)<|aO z (aj z) (rx 0 2 _ z cj z)<|aO z (aj z) (rx 0 5 _ z kh z)<|G [.p,.p,.fa 27 0 0 dV] z<|aO z (aj z) (r1 0 2 z kZ z)<|G [.lenS 24 88 kR,.p,.p] z<|aG<|xs2 ⟨12,31,fun X=>S (U ⟨X,0,N⟩) (([1,6,6]:List Int).length) 3,fun X=>W eLI [X] ([1,6,6]:List Int) [S (U ⟨X,0,N⟩) (([1,6,6]:List Int).length) 3]⟩ ⟨18,5,fun a6=>pA a6,fun a6=>b a6 31 zL3⟩ z z ⟨z,fun _ _ _ _ h k=>bI [1,6,6] aJ ty3 z h fun b=>aG (k b)⟩ (sgA (i:=18) z z z z z z gn)<|xq2 0 6 ⟨fun _ _=>z,fun _ _=>z,z⟩ (fun _ _=>mA [n,y,y,y,y,y] z) z fun a7 q=>cc z (iF func27 z) z z z z (fun e a=>be e d8 (a.carve [0] z z) (rdB [0] z z a g_p0b)) fun e7 e w2 a c3=>?_
  obtain ⟨rfl,c4⟩:=c3;refine ⟨g w F u9,a.comp [0] z z c4,(mA [n,y,y,y,y,y] z),?_⟩;refine C z<|aG<|?_;clear a;revert a7 q;refine xq2 2 6 ⟨fun _ _=>z,fun _ _=>z,z⟩ (fun _ _=>mA [n,y,y,y,y,y] z) z fun a7 q=>cc z (iF func27 z) z z z z (fun e a=>be e d9 (a.carve [8] z z) (rdB [8] z z a g_p0b)) fun e9 e w2 a c5=>?_;obtain ⟨rfl,c6⟩:=c5;refine ⟨g w F u10,a.comp [8] z z c6,(mA [n,y,y,y,y,y] z),?_⟩;refine C z<|aG<|?_;clear a;revert a7 q;refine Wi 4 6 ⟨fun _ _=>z,fun _ _=>z,z⟩ (fun _ _=>mA [n,y,y,y,y,y] z) z (fun X q=>?_);dsimp only [sr,sv];revert q;refine xq1 5 7 ⟨fun _=>z,fun _=>z,z⟩ (fun _=>mA [n,y,y,y,y,y] z) z fun q=>cc z (iF func55 z) z z z z (fun e a=>aN e e0 (a.carve [9] z z) (rdB [9] z z a g_p0b) (rdO 6 [9] z a z z)) fun f0 e w2 a c7=>?_;obtain ⟨rfl,c8⟩:=c7;refine ⟨g w F u11,a.comp [9] z z c8,(mA [n,y,y,y,y,y] z),?_⟩;refine aG ?_;clear a;revert q;refine xq1 6 7 ⟨fun _=>z,fun _=>z,z⟩ (fun _=>mA [n,y,y,y,y,y] z) z fun q=>cc z (iF func27 z) z z z z (fun e a=>be e e1 (a.carve [10] z z) (rdB [10] z z a g_p0b)) fun f1 e w2 a c9=>?_;obtain ⟨rfl,d0⟩:=c9;refine ⟨g w F u12,a.comp [10] z z d0,(mA [n,y,y,y,y,y] z),?_⟩;refine C z<|aO z (aj z) (aT [(0,[P a2 f.1.c_ a3,P a4 f.1.g_ a5]),(2,[A s,A j.1.T_,A t,A u,A x,A j.1.K_,B j.1.R_]),(9,[A (J.wrap (1+b6.1))]),(10,[A (J.wrap (1+b7.1))]),(11,[A b8.1]),(12,[A (J.wrap (1+b9.1))])] [P a2 f.1.c_ a3,P a4 f.1.g_ a5,A s,A j.1.T_,A t,A u,A x,A j.1.K_,B j.1.R_,A (J.wrap (1+b6.1)),A (J.wrap (1+b7.1)),A b8.1,A (J.wrap (1+b9.1)),A 0] z z gn WR z ⟨z,z,nl z,z,z,nl z,z,z,nl z,z,z,nl z,z,z,nl z,z,z,nl z,Y⟩ z)<|aG<|?_;clear a;revert q;refine xe1 9 7 ⟨fun _=>z,fun _=>z,z⟩ (fun _=>mA [n,y,y,y,y,y] z) (fun a6=>?_);dsimp only [sr,sv];exact oE<|sD 0 u14 u14 7 gn z<|c<|Z<|wk u8 [1,2,3,4,5,6,7,11] z<|bG 4 [(0,y),(1,y),(2,y),(3,n)] (g w F u8) br (by kernel_rfl) (ar ay) (mA [y,y,y,y,y,y,y,n] z)<|G [.fa 31 5 12 zd] z<|aO z (aj z) (r1 12 6 z ty3 z)<|C z<|oV0 [7] H func27 (fun a8 e a=>be e a8 (a.carve [7] z z) (rdB [7] z z a g_p0b)) z (fun _=>(z:_=u9)) (fun _=>(mA [y,y,y,y,y,y,y,n] z)) fun f2 a8 H=>aG<|fk<|G [.p,.fa 31 6 13 yA] z<|sD 13 d u14 6 ty3 z<|nR<|oX 0 6 gn z<|sD 0 u14 u14 0 gn z<|nT<|af H▸xc 0 gn z (y2 [2,3,8] z)
 refine Z<|wk u6 [1,2,3,5,6,7] z<|av<|C z<|oV0 [4] H func88 (fun a9 e a=>eK e a9 (a.carve [4] z z) (rdB [4] z z a g_p0b)) z (fun _=>(z:_=u7)) kf fun e4 a9 H=>cJ H z ?_ ?_<;>intro H
 ·exact D<|C z<|bI [4,10] aJ ty3 z kf fun e5=>oV0 [6] H func55 (fun b0 e a=>aN e b0 (a.carve [6] z z) (rdB [6] z z a g_p0b) (rdO 7 [6] z a z z)) z (fun _=>(z:_=u9)) kf fun e6 b0 H=>G [.fa 29 2 2 BO] z<|sD 2 d u7 5 ty3 z<|c<|Z<|wk u7 [0,1,2,3,5,7,8] z<|av<|G [.fa 29 0 0 zN] z<|sD 0 d u7 4 ty3 z<|nR<|G [.fa 29 3 3 yH] z<|sD 3 d u7 4 ty3 z<|c<|av<|G [.fa 29 4 4 yv] z<|sD 4 d u7 4 ty3 z<|ap<|iJ [6,0,3,1,2,4] (J1 H) z
 exact bJ<|iJ [6,0,3,1,2,5] (J1 H) z
theorem kc (w) {L p0b p0 p1 h a_p0b n_p0b c_p0b r} (H:lr p0b p0 p1=U r) (HS:g w L [b h 84 [P a_p0b p0b c_p0b,A p0.i_,A p0.h_]] w) (g_p0b:eL8.rd w L p0b [S a_p0b n_p0b c_p0b]) :
    Cl 90 [pA h,A p1] w fun v w'=>∃X n0 c0 F0,v=S X n0 c0∧g w L [W eL8 F0 r.1 [S X n0 c0],b h 84 [S a_p0b n_p0b c_p0b,A r.2.i_,A r.2.h_]] w':=by
 obtain rfl:=dz g_p0b;refine fe func90 ntmps90 HS z<|D<|C z<|nR<|bN (e:=e8) z z z z iX ty5 kf fun a5=>C z<|c<|Z<|D<|C z<|c<|aI<|lp (Int::Int::(oT Int [Int])) (fun j k a f p s q=>[b h 84 [P a_p0b p0b c_p0b,A j,A k],W eL8 s a [P f a p]]) (fun j k a f p s q=>[(0,pA h),(1,A p1),(5,P f a p),(6,A q)]) (fun kk j k a f p s q=>f.isNone=n∧iL p1 p0b kk j k a q=U r) [0,1] (fun k1 M j k a f p s q ⟨a4,H⟩=>?_) ⟨_,_,_,_,_,_,_,⟨z,H⟩,z⟩;refine Z<|D<|oN 3 z<|cJ H z ?_ ?_<;>intro H
 ·exact ck<|cb<|av<|m z<|oV0 [0] H func57 (fun x w1 t=>nc w1 x (t.carve [0] z z) (rdB [0] z z t g_p0b)) z (fun _=>(z:_=u3)) kf fun u x H=>G [.cv 3 5 K us3 in5] z<|jE (val:=I K) (h1:=fun _=>z) [K.wrap u.1] [(0,[I K (K.wrap u.1)])] z z z z z iX ty5 z z z ⟨z,z,nl z,Y⟩ z z kf fun a6=>bE H fun a7 F H=>cr (r:=1) (ys:=([K.wrap u.1]:List Int)) z z z z z z iX ty5 z z z (au (e:=eL8) (r:=3) z) F kg fun a8 a9 b0=>bX z (fun w1 t=>dZ (i:=1) t z (ed F)) fun R=>C z<|ap<|xb<|av<|oN 3 z<|ap<|iA [2,1] (M ⟨R,H⟩) z
 exact ce<|bH<|D<|m z<|nT<|af H▸xo z (y1 [1,0] z)
theorem cw (w) {a p0 f r} (H:cT p0=U r) (HS:g w a [] w) (t:gj.rd w a p0 f) :
    Cl 121 [.agg f.toArray] w fun v w'=>∃k p c0 u,v=.agg #[S k p c0,A r.f_]∧g w a [W eL8 u r.v_ [S k p c0]] w':=by
 obtain ⟨x,F,rfl,q⟩:=fx t;exact fe func121 ntmps121 HS z<|D<|ob _ z fun L=>oA bl z fun M=>c<|Z<|bG 6 [(1,y),(2,y),(4,y),(5,y),(0,n),(3,n)] (g w a E) br (by kernel_rfl) (ar ay) (mA [y,y] z)<|G [.fa 156 0 0 AM] z<|aO z (aj z) (r1 0 0 z Ba z)<|G [.fa 156 1 1 yV] z<|aO z (aj z) (r1 1 0 z ty3 z)<|bN (e:=e8) z z z z iX ty5 (fun _=>(mA [y,y] z)) fun R=>bE H fun h s H=>cr (r:=2) (ys:=p0.v_) z z z z z z iX ty5 z z z (V q) s (fun _ _ _=>(mA [y,y] z)) fun i j X=>aG<|fk<|o1 z (aT [(0,[P i h j]),(1,[A p0.f_])] [P i h j,A p0.f_] z z bl Fj z ⟨z,z,nl z,z,z,nl z,Y⟩ z)<|sD 0 E E 1 bl z<|nT<|af H▸xc 1 bl z (y1 [2] z)
theorem aU (w) {p0 p1 p2 r} (H:aV p0 p1 p2=U r) :
    Cq 41 [A p0,A p1,A p2] w (B r):=by
 exact fe0 func41 ntmps41 z<|D<|C z<|nR<|oN 4 z<|jA [6,0,2] u3 1 10 4 14 4 (decide (p0≤p2)) z z (fun key=>oN 3 z<|C z<|oK key z)<|C z<|nT<|af H▸xw z
theorem Ac (w) {p0 r} (H:uA p0=U r) :
    Cq 150 [vS p0] w (B r):=by
 refine fe0 func150 ntmps150 z<|D<|C z<|c<|Z<|D<|G [.p,.lenT 9 st9] z<|bQ H func41 (fun _ f k t=>aU k f) z tt2 fun u H=>C z<|cR H z fun H=>ck<|Z<|D<|C z<|c<|aI<|lp [Int] (fun a=>[]) (fun a=>[(0,vS p0),(3,A a)]) (fun kk a=>pw p0 kk a=U r) [] (fun F e a H=>?_) ⟨_,H,z⟩
 refine Z<|D<|G [.p,.p,.lenT 9 st9,.p] z<|cJ H z ?_ ?_<;>intro H
 ·exact ck<|cb<|D<|m z<|bE H fun v h H=>o1 z (Cb (s:=p0) z z z st9 h)<|m z<|jO [0,3] E 2 18 5 23 5 H z z (fun i H key=>m z<|bE H fun x j H=>o1 z (Cb (s:=p0) z z z st9 j)<|C z<|C z<|oL H key z) fun i q H=>cR H z fun H=>bJ<|xb<|av<|oN 3 z<|ap<|iA [] (e H) z
 exact ce<|bH<|D<|C z<|nT<|af H▸xw z
theorem zq (w) {p0 f j h r} (H:sw p0=U r) (i:eLS.rd w [] p0 [S f j h]) :
    Cq 112 [S f j h] w (B r):=by
 obtain rfl:=dz i;refine fe0 func112 ntmps112 z<|D<|C z<|c<|Z<|D<|C z<|c<|aI<|lp [Int] (fun a=>[]) (fun a=>[(0,P f p0 h),(3,A a)]) (fun kk a=>ir p0 kk a=U r) [] (fun x k a H=>?_) ⟨_,H,z⟩;refine Z<|D<|G [.p,.p,.lenS 25 9 fM,.p] z<|cJ H z ?_ ?_<;>intro H
 ·refine ck<|cb<|Z<|D<|m z<|bE H fun L s H=>ix1 fM ty9 (V i) s z z<|bQ H func150 (fun _ t F M=>Ac F t) z tt2 fun R H=>C z<|cR H z fun H=>ck<|D<|C z<|c<|aI<|lp [Int] (fun e=>[]) (fun e=>[(0,P f p0 h),(3,A a),(4,A e)]) (fun kk e=>kO a p0 (ir p0 x) kk e=U r) [] (fun k2 q e H=>?_) ⟨_,H,z⟩
  refine Z<|D<|oN 3 z<|cJ H z ?_ ?_<;>intro H
  ·refine ck<|cb<|Z<|dR br (by kernel_rfl)<|m z<|bE H fun X u H=>ix1 fM ty9 (V i) u z z<|m z<|bE H fun a0 v H=>ix1 fM ty9 (V i) v z z<|C z<|cy<|bH<|cI H z ?_ ?_<;>intro H
   ·exact yE H z
   exact bJ<|xb<|av<|oN 3 z<|ap<|iA [] (q H) z
  exact ce<|xb<|av<|oN 3 z<|ap<|iA [] (k H) z
 exact ce<|bH<|D<|C z<|nT<|af H▸xw z
theorem zY (w) {p0 i r} (H:nL p0=U r) (g0:dl.rd w [] p0 i) :
    Cq 113 [.agg i.toArray] w (B r):=by
 obtain ⟨q,s,t,u,rfl,h,v⟩:=cu g0;refine fe0 func113 ntmps113 z<|D<|ob _ z fun j=>C z<|c<|Z<|D<|G [.fa 88 0 0 yN] z<|l 0 0 ty9 z<|bQ H func150 (fun _ x a f=>Ac a x) z tt2 fun a7 H=>C z<|cR H z fun H=>ck<|Z<|D<|G [.fa 88 1 1 kD] z<|l 1 0 bp z<|G [.lenS 69 3 aJ,.p] z<|cJ H z ?_ ?_<;>intro H
 ·exact D<|G [.fa 88 2 2 sl] z<|l 2 0 lW z<|G [.lenS 25 9 fM] z<|bQ H func41 (fun _ F a f=>aU a F) z tt2 fun a8 H=>C z<|jB [2,1] E 1 16 4 20 4 H z z (fun u21 H key=>G [.fa 88 2 2 sl] z<|l 2 0 lW z<|bQ H func112 (fun _ L a f=>zq a L (V v a f)) z tt2 fun a9 H=>C z<|oL H key z) fun u21 a4 H=>C z<|nT<|af H▸xw z
 refine ck<|Z<|D<|G [.fa 88 2 2 sl] z<|l 2 0 lW z<|G [.lenS 25 9 fM,.p,.p] z<|jR [1] d 1 25 5 30 5 (decide ((p0.B_.length:Int)>3)) z z (fun key=>G [.fa 88 1 1 kD] z<|l 1 0 bp z<|G [.lenS 69 3 aJ,.p] z<|C z<|oK key z)<|cR H z fun H=>ck<|Z<|D<|C z<|c<|aI<|lp [Int] (fun e=>[b j 88 [vS p0.H_,P q p0.B_ s,P t p0.O_ u]]) (fun e=>[(1,pA j),(3,A e)]) (fun kk e=>mZ p0 kk e=U r) [0] (fun k1 k e H=>?_) ⟨_,H,z⟩
 refine Z<|D<|G [.p,.fa 88 1 1 kD] z<|l 1 0 bp z<|G [.lenS 69 3 aJ,.p] z<|cJ H z ?_ ?_<;>intro H
 ·refine ck<|cb<|Z<|dR br (by kernel_rfl)<|G [.fa 88 1 1 kD] z<|l 1 0 bp z<|C z<|bE H fun b0 M H=>ix1 aJ ty3 (V h) M z z<|bQ H func41 (fun _ R a f=>aU a R) z tt2 fun b1 H=>m z<|jO [1,3] E 2 45 17 62 17 H z z (fun X H key=>?_) fun X a5 H=>?_
  ·exact oN 3 z<|jB [1,3,45] u3 3 48 13 61 13 H z z (fun a0 H key=>G [.fa 88 1 1 kD] z<|l 1 0 bp z<|C z<|bE H fun b2 a1 H=>ix1 aJ ty3 (V h) a1 z z<|G [.fa 88 1 1 kD] z<|l 1 0 bp z<|m z<|bE H fun b3 a2 H=>ix1 aJ ty3 (V h) a2 z z<|C z<|C z<|oL H key z) fun a0 a6 H=>G [.p] z<|oL H key z
  refine cy<|bH<|cI H z ?_ ?_<;>intro H
  ·exact yE H z
  exact bJ<|xb<|av<|oN 3 z<|ap<|iA [0] (k H) z
 exact ce<|bH<|D<|C z<|nT<|af H▸xw z
theorem jV (w) {p0 F r} (H:fG p0=U r) (g0:aX.rd w [] p0 F) :
    Cq 74 [.agg F.toArray] w (B r):=by
 obtain ⟨L,M,R,X,rfl,k,b2⟩:=aQ g0;refine fe0 func74 ntmps74 z<|D<|ob _ z fun j=>C z<|c<|Z<|D<|G [.fa 27 0 0 dV] z<|l 0 0 kZ z<|G [.lenS 24 88 kR] z<|bQ H func41 (fun _ b3 f h=>aU f b3) z tt2 fun e2 H=>m z<|jO [1] d 1 10 6 16 6 H z z (fun u19 H key=>G [.fa 27 1 1 ii] z<|l 1 0 lW z<|G [.lenS 25 9 fM] z<|bQ H func41 (fun _ b4 f h=>aU f b4) z tt2 fun e3 H=>C z<|C z<|oL H key z) fun u19 b8 H=>C z<|jO [1] d 1 17 5 22 5 H z z (fun b5 H key=>G [.fa 27 1 1 ii] z<|l 1 0 lW z<|bQ H func112 (fun _ b6 f h=>zq f b6 (V b2 f h)) z tt2 fun e4 H=>C z<|C z<|oL H key z) fun b5 b9 H=>cR H z fun H=>ck<|Z<|D<|C z<|c<|aI<|lp [Int] (fun a=>[b j 27 [P L p0.c_ M,P R p0.g_ X]]) (fun a=>[(1,pA j),(3,A a)]) (fun kk a=>fK p0 kk a=U r) [0] (fun k1 a0 a H=>?_) ⟨_,H,z⟩;refine Z<|D<|G [.p,.fa 27 0 0 dV] z<|l 0 0 kZ z<|G [.lenS 24 88 kR,.p] z<|cJ H z ?_ ?_<;>intro H
 ·refine ck<|cb<|Z<|D<|G [.fa 27 0 0 dV] z<|l 0 0 kZ z<|C z<|bE H fun i a1 H=>bU z z z z z kR dO z k a1 fun c1 c2 q s=>?_
  obtain ⟨a2,a3,a4,a5,rfl,a6,a7⟩:=cu q;refine o1 z (cQ (cs:=[vS i.H_,P a2 i.B_ a3,P a4 i.O_ a5]) z z dO (bC bor s) z)<|bQ H func113 (fun _ a8 f h=>zY f a8 (dr z (V a6 f h) (V a7 f h))) z tt2 fun c3 H=>C z<|cR H z fun H=>ck<|D<|C z<|c<|aI<|lp [Int] (fun e=>[b j 27 [P L p0.c_ M,P R p0.g_ X]]) (fun e=>[(1,pA j),(3,A a),(4,A e)]) (fun kk e=>jI a p0 (fK p0 k1) kk e=U r) [0] (fun k2 a9 e H=>?_) ⟨_,H,z⟩;refine Z<|D<|oN 3 z<|cJ H z ?_ ?_<;>intro H
  ·refine ck<|cb<|Z<|dR br (by kernel_rfl)<|G [.fa 27 0 0 dV] z<|l 0 0 kZ z<|C z<|bE H fun c4 b0 H=>bU z z z z z kR dO z k b0 fun c5 c6 t u=>?_
   obtain ⟨c7,c8,c9,d0,rfl,d1,d2⟩:=cu t;refine G [.fa 88 0 0 yN] z<|o1 z (bv z z ty9 (bC bor (rf u 0 1)))<|G [.fa 27 0 0 dV] z<|l 0 0 kZ z<|C z<|bE H fun d3 b1 H=>bU z z z z z kR dO z k b1 fun d4 d5 v x=>?_;obtain ⟨d6,d7,d8,d9,rfl,e0,e1⟩:=cu v;refine G [.fa 88 0 0 yN] z<|o1 z (bv z z ty9 (bC bor (rf x 0 1)))<|C z<|cy<|bH<|cI H z ?_ ?_<;>intro H
   ·exact yE H z
   exact bJ<|xb<|av<|oN 3 z<|ap<|iA [0] (a9 H) z
  exact ce<|xb<|av<|oN 3 z<|ap<|iA [0] (a0 H) z
 exact ce<|bH<|D<|C z<|nT<|af H▸xw z
theorem se (w) {p0 r} (H:oQ p0=U r) :
    Cq 75 [.agg #[A p0.U_,A p0.T_,A p0.V_,A p0.r_,A p0.a_,A p0.K_,B p0.R_]] w (B r):=by
 exact fe0 func75 ntmps75 z<|D<|ob _ z fun M=>C z<|nR<|G [.fa 29 0 0 zN] z<|l 0 0 ty3 z<|bQ H func41 (fun _ f a e=>aU a f) z tt2 fun R H=>C z<|jB [1,2] E 2 6 4 10 4 H z z (fun u13 H key=>G [.fa 29 1 1 Bu] z<|l 1 0 ty3 z<|bQ H func41 (fun _ h a e=>aU a h) z tt2 fun X H=>C z<|oL H key z) fun u13 u H=>C z<|jB [1,2] E 2 11 4 15 4 H z z (fun u18 H key=>G [.fa 29 2 2 BO] z<|l 2 0 ty3 z<|bQ H func41 (fun _ i a e=>aU a i) z tt2 fun a0 H=>C z<|oL H key z) fun u18 v H=>C z<|jB [1,2] E 2 16 4 20 4 H z z (fun j H key=>G [.fa 29 3 3 yH] z<|l 3 0 ty3 z<|bQ H func41 (fun _ k a e=>aU a k) z tt2 fun a1 H=>C z<|oL H key z) fun j x H=>C z<|jB [1,2] E 2 21 4 25 4 H z z (fun p H key=>G [.fa 29 4 4 yv] z<|l 4 0 ty3 z<|bQ H func41 (fun _ q a e=>aU a q) z tt2 fun a2 H=>C z<|oL H key z) fun p F H=>C z<|jB [2,1] E 1 26 4 30 4 H z z (fun s H key=>G [.fa 29 5 5 xC] z<|l 5 0 ty3 z<|bQ H func41 (fun _ t a e=>aU a t) z tt2 fun a3 H=>C z<|oL H key z) fun s L H=>C z<|nT<|af H▸xw z
theorem wy (w) {a p0 r} (H:kN p0=U r) (HS:g w a [] w) :
    Cl 76 [A p0] w fun v w'=>∃f h c0 i,v=S f h c0∧g w a [W eLI i r [S f h c0]] w':=by
 refine fe func76 ntmps76 HS z<|D<|C z<|c<|Z<|D<|C z<|c<|aI<|D<|m z<|cJ H z (fun H=>D<|bI [24109,48218,60273,64291,65296,65497,65530] aJ ty3 z kf fun j=>C z<|nT<|eV<|ba<|af H▸xo z (y1 [0] z)) fun H=>D<|m z<|cJ H z (fun H=>D<|bI [162,1137,4061,9909,18681,29208,39734] aJ ty3 z kf fun k=>C z<|nT<|eV<|ba<|af H▸xo z (y1 [0] z)) fun H=>bJ<|xb<|D<|bN (e:=eI) z z z z aJ ty3 kf fun p=>C z<|nT<|af H▸xo z (y1 [0] z)
theorem sk (w) {p0 f r} (H:pt p0=U r) (X:dk.rd w [] p0 f) :
    Cq 39 [.agg f.toArray] w (B r):=by
 obtain ⟨a6,a7,a8,a9,rfl,i,j⟩:=dg X;exact fe0 func39 ntmps39 z<|D<|ob _ z fun b0=>C z<|nR<|G [.fa 31 0 0 kz] z<|oX 0 0 cj z<|bQ H func74 (fun _ k a e=>jV a k (ah (V i a e) (V j a e))) z tt2 fun b1 H=>C z<|jB [1,2] E 2 6 4 10 4 H z z (fun u19 H key=>G [.fa 31 1 2 vR] z<|oX 2 0 kh z<|bQ H func75 (fun _ q a e=>se a (p0:=p0.k_) q) z tt2 fun b2 H=>C z<|oL H key z) fun u19 a0 H=>C z<|jB [1,2] E 2 11 4 15 4 H z z (fun s H key=>G [.fa 31 2 9 yT] z<|l 9 0 ty3 z<|bQ H func41 (fun _ t a e=>aU a t) z tt2 fun b3 H=>C z<|oL H key z) fun s a1 H=>C z<|jB [1,2] E 2 16 8 24 8 H z z (fun u H key=>G [.fa 31 3 10 Ap] z<|l 10 0 ty3 z<|G [.fa 31 0 0 kz,.fa 27 0 0 dV] z<|l 0 0 kZ z<|G [.lenS 24 88 kR] z<|bQ H func41 (fun _ v a e=>aU a v) z tt2 fun b4 H=>C z<|oL H key z) fun u a2 H=>C z<|jB [1,2] E 2 25 6 31 6 H z z (fun x H key=>G [.fa 31 4 11 Es] z<|l 11 0 ty3 z<|oV1 [] H func76 (fun h a e=>wy a h (e.carve [] z z)) z (fun _ _ _ _=>(z:_=E)) kh1 fun b5 h H b6 b7 b8=>G [.lenS 69 3 aJ,.p] z<|dx z (C':=g w [] d) (ss [0] z z)<|C z<|oL H key z) fun x a3 H=>C z<|jB [1,2] E 2 32 4 36 4 H z z (fun F H key=>G [.fa 31 5 12 zd] z<|l 12 0 ty3 z<|bQ H func41 (fun _ L a e=>aU a L) z tt2 fun b9 H=>C z<|oL H key z) fun F a4 H=>C z<|jB [1,2] E 2 37 4 41 4 H z z (fun M H key=>G [.fa 31 6 13 yA] z<|l 13 0 ty3 z<|bQ H func41 (fun _ R a e=>aU a R) z tt2 fun c0 H=>C z<|oL H key z) fun M a5 H=>C z<|jA [2,1] E 1 42 6 48 6 (decide (p0.w_≤p0.x_)) z z (fun key=>G [.fa 31 5 12 zd] z<|l 12 0 ty3 z<|G [.fa 31 6 13 yA] z<|l 13 0 ty3 z<|C z<|C z<|oK key z)<|C z<|nT<|af H▸xw z
theorem tm (w) {p0 p1 r} (H:oy p0 p1=U r) :
    Cq 219 [A p0,A p1] w (I J r):=by
 refine fe0 func219 ntmps219 z<|D<|C z<|c<|Z<|D<|C z<|bQ H func41 (fun _ a8 L F=>aU L a8) z tt2 fun c6 H=>m z<|jO [0,1] E 2 12 5 17 5 H z z (fun u12 H key=>m z<|bQ H func41 (fun _ a9 L F=>aU L a9) z tt2 fun c7 H=>C z<|C z<|oL H key z) fun u12 b2 H=>cR H z fun H=>ck<|D<|bI [1] aJ ty3 z kf fun c8=>C z<|c<|Z<|D<|C z<|c<|aI<|lp (oT Int [Int]) (fun a t f u h=>[W eLI u a [P t a f]]) (fun a t f u h=>[(0,A p0),(1,A p1),(5,P t a f),(6,A h)]) (fun kk a t f u h=>t.isNone=n∧ep p0 p1 kk a h=U r) [0] (fun k1 a5 a t f u h ⟨b0,H⟩=>?_) ⟨_,_,_,_,_,⟨z,H⟩,z⟩
 refine Z<|D<|oN 3 z<|cJ H z ?_ ?_<;>intro H
 ·refine ck<|cb<|D<|bI [1] aJ ty3 z kf fun b4=>C z<|c<|Z<|D<|C z<|c<|aI<|lp (oT Int [Int]) (fun k s v x q=>[W eLI u a [P t a f],W eLI x k [P s k v]]) (fun k s v x q=>[(0,A p0),(1,A p1),(5,P t a f),(6,A h),(7,P s k v),(8,A q)]) (fun kk k s v x q=>s.isNone=n∧lE a (ep p0 p1 k1) h kk k q=U r) [0,1] (fun k2 a6 k s v x q ⟨b1,H⟩=>?_) ⟨_,_,_,_,_,⟨z,H⟩,z⟩
  refine Z<|D<|G [.p,.p,.lenS 69 3 aJ,.p] z<|cJ H z (fun H=>ck<|cb<|bG 12 [(0,y),(1,y),(2,y),(3,y),(4,y),(5,y),(6,y),(7,y),(8,y),(9,y),(10,y),(11,n)] (g w [] E) br (by kernel_rfl) (aL (ar (cA (aL (ar (aL (ar (cA (aL (ar ay)))))))))) (mA [y,y] z)<|oN 4 z<|bE H fun M R H=>eO (e:=eI) (xs:=a) (j:=J.wrap (q-1)) z z z z z aJ ty3 z (au (e:=eLI) (r:=0) z) R (by rw [Nat.mul_one])<|aO z (aj z) (bv z z ty3 (wo (au (e:=eLI) (r:=0) z) R))<|m z<|bE H fun X a0 H=>eO (e:=eI) (xs:=a) (j:=q) z z z z z aJ ty3 z (au (e:=eLI) (r:=0) z) a0 (by rw [Nat.mul_one])<|aO z (aj z) (bv z z ty3 (wo (au (e:=eLI) (r:=0) z) a0))<|C z<|bI [J.wrap (M+X)] aJ ty3 z (fun _=>(mA [y,y] z)) fun b5=>aG<|fk<|bE H fun b6 a1 H=>cr (r:=1) (ys:=([J.wrap (M+X)]:List Int)) z z z z z z aJ ty3 z z z (au (e:=eLI) (r:=2) z) a1 kg fun b7 b8 b9=>bX z (fun L F=>dZ (i:=1) F z (ed a1)) fun a3=>C z<|ap<|xb<|av<|oN 3 z<|ap<|iA [0,1] (a6 ⟨a3,H⟩) z) fun H=>ce<|bH<|av<|C z<|bI [1] aJ ty3 z kf fun c0=>bE H fun c1 a2 H=>cr (r:=1) (ys:=([1]:List Int)) z z z z z z aJ ty3 z z z (au (e:=eLI) (r:=2) z) a2 kg fun c2 c3 c4=>bX z (fun L F=>dZ (i:=1) F z (ed a2)) fun a4=>C z<|ap<|xb<|av<|oN 3 z<|ap<|iA [1] (a5 ⟨a4,H⟩) z
 exact ce<|bH<|D<|m z<|bE H fun c5 a7 H=>ix1 aJ ty3 (au (e:=eLI) (r:=0) z) a7 z z<|C z<|nT<|af H▸xw z
theorem sc (w) {p0 a r} (H:pg p0=U r) (f:gj.rd w [] p0 a) :
    Cq 125 [.agg a.toArray] w (B r):=by
 obtain ⟨j,k,rfl,q⟩:=fx f;exact fe0 func125 ntmps125 z<|D<|ob _ z fun s=>C z<|nR<|G [.fa 156 0 0 AM] z<|l 0 0 Ba z<|G [.lenS 22 5 iX,.p,.p] z<|jB [2,1] E 1 7 7 14 7 H z z (fun u14 H key=>G [.fa 156 1 1 yV] z<|l 1 0 ty3 z<|G [.fa 156 0 0 AM] z<|l 0 0 Ba z<|G [.lenS 22 5 iX] z<|bQ H func41 (fun _ e h t=>aU h e) z tt2 fun u H=>C z<|oL H key z) fun u14 i H=>C z<|nT<|af H▸xw z
theorem Dt (w) {p0 a r} (H:xO p0=U r) (j:gj.rd w [] p0 a) :
    Cq 196 [.agg a.toArray] w (I J r):=by
 obtain ⟨k,p,rfl,e⟩:=fx j;refine fe0 func196 ntmps196 z<|D<|ob _ z fun q=>C z<|c<|Z<|D<|oX 0 0 bl z<|bQ H func125 (fun _ f h i=>sc h f (bg (V e h i) z)) z tt2 fun s H=>C z<|cR H z fun H=>ck<|D<|G [.fa 156 0 0 AM] z<|l 0 0 Ba z<|G [.lenS 22 5 iX,.fa 156 1 1 yV] z<|l 1 0 ty3 z<|m z<|nT<|af H▸xw z
theorem Ci (w) {i p0 k r} (H:xU p0=U r) (HS:g w i [] w) (L:gj.rd w i p0 k) :
    Cl 163 [.agg k.toArray] w fun v w'=>∃u x c0 M,v=.tuple #[.agg #[S u x c0,A r.1.f_],A r.2.1,B r.2.2]∧g w i [W eL8 M r.1.v_ [S u x c0]] w':=by
 obtain ⟨R,X,rfl,a⟩:=fx L;refine fe func163 ntmps163 HS z<|D<|ob _ z fun a1=>oA bl z fun a2=>m z<|nR<|oX 0 0 bl z<|oV1 [] H func121 (fun q h f=>cw h q (f.carve [] z z) (bg (V a h f) z)) z (fun _ _ _ _=>(z:_=u3)) kh1 fun a3 q H a4 a5 a6=>oA bl z fun a7=>sD 0 E E 3 bl z<|c<|Z<|D<|oX 0 0 bl z<|bQ H func196 (fun _ F h f=>Dt h F (bg (V a h f) z)) z tt2 fun a8 H=>C z<|cJ H z (fun H=>D<|oX 0 3 bl z<|sD 0 E E 1 bl z<|m z<|nT<|ba<|af H▸xc 1 bl z (y1 [2] z)) fun H=>ck<|D<|G [.fa 156 1 1 yV] z<|l 1 0 ty3 z<|G [.p,.fa 156 1 1 yV] z<|sD 1 d E 3 ty3 z<|c<|Z<|bG 19 [(0,y),(1,y),(2,y),(3,y),(4,y),(5,y),(6,y),(7,y),(8,y),(9,y),(10,y),(11,y),(12,y),(13,y),(14,y),(15,y),(16,y),(17,y),(18,n)] (g w i u4) br (by kernel_rfl) (ar ay) (mA [y,n,y,y] z)<|aO z (aj z) (rx 0 3 _ z bl z)<|G [.fa 156 0 0 AM] z<|aO z (aj z) (r1 0 0 z Ba z)<|G [.fa 156 1 1 yV] z<|aO z (aj z) (r1 1 0 z ty3 z)<|bE H fun a9 s H=>eO (e:=e8) (xs:=p0.v_) (j:=p0.f_) z z z z z iX ty5 z (V a) s (by rw [Nat.mul_one])<|aO z (aj z) (bv z z ty5 (wo (V a) s))<|G [.cv 5 3 J us5 in3,.p,.fa 156 0 0 AM] z<|aO z (aj z) (r1 0 0 z Ba z)<|G [.fa 156 1 1 yV] z<|aO z (aj z) (r1 1 0 z ty3 z)<|C z<|bE H fun b0 t H=>eO (e:=e8) (xs:=p0.v_) (j:=J.wrap (p0.f_+1)) z z z z z iX ty5 z (V a) t (by rw [Nat.mul_one])<|aO z (aj z) (bv z z ty5 (wo (V a) t))<|G [.cv 5 3 J us5 in3,.p] z<|sE 0 E E 1 bl z (mA [y,n,y,y] z)<|aG<|fk<|m z<|nT<|af H▸xc 1 bl z (y1 [2] z)
theorem Cv (w) {f p0 p1 h r} (H:wA p0 p1=U r) (HS:g w f [] w) (x:gj.rd w f p0 h) :
    Cl 218 [.agg h.toArray,A p1] w fun v w'=>∃p q c0 F,v=.tuple #[.agg #[S p q c0,A r.1.f_],A r.2.1,B r.2.2]∧g w f [W eL8 F r.1.v_ [S p q c0]] w':=by
 obtain ⟨M,R,rfl,i⟩:=fx x;exact fe func218 ntmps218 HS z<|D<|ob _ z fun X=>oA bl z fun a1=>m z<|nR<|oX 0 0 bl z<|oV1 [] H func163 (fun j e a=>Ci e j (a.carve [] z z) (bg (V i e a) z)) z (fun _ _ _ _=>(z:_=u3)) kh1 fun a2 j H a3 a4 a5=>oN 4 z<|oA bl z fun a6=>sD 0 E E 3 bl z<|m z<|c<|Z<|D<|oN 3 z<|jO [1,2,4,7,8] u5 5 18 4 22 4 H z z (fun s H key=>C z<|bQ H func41 (fun _ t e a=>aU e t) z tt2 fun a7 H=>C z<|C z<|oL H key z) fun s L H=>cJ H z (fun H=>D<|oX 0 0 bl z<|oV1 [] H func121 (fun k e a=>cw e k (a.carve [] z z) (bg (V i e a) z)) z (fun _ _ _ _=>(z:_=u5)) kh1 fun a8 k H a9 b0 b1=>sD 0 E E 1 bl z<|m z<|nT<|ba<|af H▸xc 1 bl z (y1 [4] z)) fun H=>ck<|Z<|bG 5 [(0,y),(1,y),(2,y),(3,y),(4,n)] (g w f u4) br (by kernel_rfl) (ar ay) (mA [y,n,y,y] z)<|aO z (aj z) (rx 0 3 _ z bl z)<|m z<|bE H fun b2 u H=>aO z (aj z) (xH z z z u)<|sE 0 E E 1 bl z (mA [y,n,y,y] z)<|aG<|fk<|m z<|nT<|af H▸xc 1 bl z (y1 [2] z)
theorem Ec (w) {M p0 p1 p2 r} (H:oh p0 p1 p2=U r) (HS:g w M [] w) :
    Cl 220 [A p0,A p1,A p2] w fun v w'=>∃R X c0 F0,v=S R X c0∧g w M [W eLI F0 r [S R X c0]] w':=by
 refine fe func220 ntmps220 HS z<|D<|C z<|nR<|bN (e:=eI) z z z z aJ ty3 kf fun a5=>C z<|c<|Z<|D<|oN 3 z<|bQ H func219 (fun _ a1 t q=>tm t a1) z tt2 fun a6 H=>C z<|bQ H func41 (fun _ a2 t q=>aU t a2) z tt2 fun a7 H=>C z<|cJ H z (fun H=>D<|m z<|nT<|ba<|af H▸xo z (y1 [0] z)) fun H=>ck<|D<|C z<|c<|cb<|lp (Int::(oT Int [Int])) (fun j a h k s f=>[W eLI s a [P h a k]]) (fun j a h k s f=>[(0,A p0),(1,A p1),(2,A j),(7,P h a k),(8,A f)]) (fun kk j a h k s f=>h.isNone=n∧jY p1 p0 kk j a f=U r) [0] (fun k1 u j a h k s f ⟨F,H⟩=>?_) ⟨_,_,_,_,_,_,⟨z,H⟩,z⟩
 refine Z<|D<|G [.p,.lenS 69 3 aJ,.p,.p] z<|cJ H z ?_ ?_<;>intro H
 ·refine ck<|aI<|D<|G [.p,.p,.p,.p,.p,.p,.lenS 69 3 aJ,.p,.p] z<|bQ H func219 (fun _ a3 t q=>tm t a3) z tt2 fun a8 H=>C z<|c<|Z<|D<|oN 3 z<|cJ H z (fun H=>av<|m z<|bI [f] aJ ty3 z kf fun a9=>bE H fun b0 x H=>cr (r:=0) (ys:=([f]:List Int)) z z z z z z aJ ty3 z z z (au (e:=eLI) (r:=1) z) x kg fun b1 b2 b3=>bX z (fun t q=>dZ (i:=0) q z (ed x)) fun L=>C z<|c<|av<|oN 3 z<|ap<|DO<|iA [0] (u ⟨L,H⟩) z) fun H=>av<|oN 4 z<|c<|av<|oN 3 z<|ap<|DO<|iA [0] (u ⟨F,H⟩) z
 exact ce<|bH<|D<|m z<|nT<|af H▸xo z (y1 [0] z)
theorem wl (w) {j p0 p1 p2 q r} (H:nY p0 p1 p2=U r) (HS:g w j [] w) (g0:gj.rd w j p0 q) :
    Cl 190 [.agg q.toArray,A p1,A p2] w fun v w'=>∃F L c0 F0 M R c1 F1,v=.tuple #[.agg #[S F L c0,A r.1.f_],S M R c1,B r.2.2]∧g w j [W eL8 F0 r.1.v_ [S F L c0],W eLI F1 r.2.1 [S M R c1]] w':=by
 obtain ⟨a6,a7,rfl,s⟩:=fx g0;refine fe func190 ntmps190 HS z<|D<|ob _ z fun a8=>oA bl z fun a9=>m z<|c<|Z<|bE H fun b0 X H=>bE H fun b1 a2 H=>oD 12 [(0,y),(1,y),(2,y)] (tr 4 [⟨3,[],[]⟩,⟨4,[(5,y),(6,y),(7,y),(8,y)],[]⟩,⟨10,[(11,y)],[9]⟩] [9]) (g w j E) br (by kernel_rfl) (ar ay) (mA [y,y] z)<|aO z (aj z) (rx 0 0 _ z bl z)<|m z<|aG<|xs1 ⟨9,9,fun h=>pA h,fun h=>b h 156 [S N 0 0,A 0]⟩ z z (sgA (i:=9) z z z z z z bl)<|xq1 0 2 ⟨fun _=>z,fun _=>z,z⟩ (fun _=>mA [y,y] z) z fun k=>oq z (qc z (iF func219 z) (fun f a=>tm f X)) (mA [y,y] z)<|aG<|?_;revert k;refine xq1 1 2 ⟨fun _=>z,fun _=>z,z⟩ (fun _=>mA [y,y] z) z fun k=>cc z (iF func218 z) z z z z (fun f a=>Cv f a2 (a.carve [] z z) (bg (V s f a) z)) fun b2 f w2 a x=>?_;obtain ⟨b3,b4,b5,b6,rfl,p⟩:=x;obtain rfl:=bw (i:=0) p z;refine ⟨g w j u4,a.comp [] z z p,(mA [y,y] z),?_⟩;refine oN 4 z<|aG<|?_;clear a;revert k;refine SC 6 2 ⟨fun _=>z,fun _=>z,z⟩ (fun _=>mA [y,y] z) z (fun h=>?_);dsimp only [sr,sv];exact xfd [(10,n),(11,y)] z z (mA [y,y] z)<|sE 0 E E 2 bl z (mA [y,y] z)<|C z<|aG<|oE<|C z<|c<|Z<|D<|m z<|cJ H z (fun H=>D<|oX 0 0 bl z<|oV1 [] H func121 (fun t f a=>cw f t (a.carve [] z z) (bg (V s f a) z)) z (fun _ _ _ _=>(z:_=u5)) kh1 fun b7 t H b8 b9 c2=>bN (e:=eI) z z z z aJ ty3 kf fun c3=>sD 0 E E 1 bl z<|m z<|nT<|ba<|af H▸xc 1 bl z (y2 [4,5] z)) fun H=>ck<|Z<|bG 5 [(0,y),(1,y),(2,y),(3,y),(4,n)] (g w j u4) br (by kernel_rfl) (ar ay) (mA [y,y,y,y] z)<|aO z (aj z) (rx 0 2 _ z bl z)<|oN 3 z<|oV1 [] H func220 (fun u f a=>Ec f u (a.carve [] z z)) z (fun _ _ _ _=>(z:_=u5)) (fun _ _ _ _=>(mA [y,y,y,y] z)) fun c4 u H c5 c6 c7=>aG<|fk<|sD 0 E E 1 bl z<|m z<|nT<|af H▸xc 1 bl z (y2 [3,4] z)
end Go.Vk
