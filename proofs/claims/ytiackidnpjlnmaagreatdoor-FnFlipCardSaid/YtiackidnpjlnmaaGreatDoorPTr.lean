/- Attributes' places, branches, nodes, trees: tested alike. -/
import Derived.Test.YtiackidnpjlnmaaGreatDoorRX
import Derived.Test.YtiackidnpjlnmaaGreatDoorVkBr
namespace Go.Vk
def Asc (l:List Int):Prop:=∀i,1≤i→i<l.length→∀h:i<l.length,l[i-1]<l[i]
theorem Tc {l:List Int} (c:l.length≤1048576):Dec (kq l) (Asc l):=by
 unfold kq;refine pI (Lp:=jg l) (n:=l.length) (Q:=fun i=>∀h:i<l.length,l[i-1]<l[i]) 1 (fun k i hi=>?_) (fun k i h1 hi=>?_) (by omega)
 ·show (if _ then _ else _)=_;rw [if_neg (by simp;omega)]
 rw [jg,if_pos (by simp;omega),aH hi,ax (by omega),aR (by omega) (by omega),show (i:Int)-1=((i-1:Nat):Int) by omega,aH (show i-1<l.length by omega)];simp only [bS];by_cases a:l[i]≤l[i-1]
 ·rw [if_pos (by simpa using a)];exact .inr ⟨fun g=>by have:=g hi;omega,rfl⟩
 rw [if_neg (by simpa using a)];exact .inl ⟨fun _=>by omega,rfl⟩
theorem Asc.le {l:List Int} (h:Asc l):∀{j:Nat} (i:Nat) (hi:i≤j) (a:j<l.length),l[i]≤l[j]
 | 0,i,hi,a=>by
  have:i=0:=by omega
  subst this;exact Int.le_refl _
 | j+1,i,hi,a=>by
  by_cases e:i=j+1
  ·subst e;exact Int.le_refl _
  have h1:=h.le (j:=j) i (by omega) (by omega);have c:=h (j+1) (by omega) a a;simp only [Nat.add_sub_cancel] at c;omega
def Af (s:ae) (l:List Int):Prop:=fV s∧l.length≠0∧∀i,0≤i→i<l.length→∀h:i<l.length,(0≤l[i]∧l[i]≤(s.c_.length:Int)-1)∧(0<i→l[i-1]<l[i])
theorem sW {s:ae} {l:List Int} (d:bi s) (m:l.length≤1048576):Dec (lf s l) (Af s l):=by
 unfold lf Af;refine yb (mH (la d)) (fun j=>?_) (fun g=>bY fun h=>g h.1);have o:=d.1.1;by_cases c:l.length=0
 ·rw [if_pos (by simp;exact List.length_eq_zero_iff.1 c)];exact bY fun g=>g.2.1 c
 rw [if_neg (by simp;exact fun e=>c (by rw [e];rfl))];refine (pI (Lp:=nV l s) (n:=l.length) (Q:=fun i=>∀h:i<l.length,(0≤l[i]∧l[i]≤(s.c_.length:Int)-1)∧(0<i→l[i-1]<l[i])) 0 (fun k i hi=>?_) (fun k i _ hi=>?_) (by omega)).of_iff ⟨fun g=>⟨j,c,g⟩,fun g=>g.2.2⟩
 ·show (if _ then _ else _)=_;rw [if_neg (by simp;omega)]
 rw [nV,if_pos (by simp;omega),aH hi,ax (by omega),aR (n:=(s.c_.length:Int)-1) (by omega) (by omega)];unfold aV;simp only [bS];by_cases a:0≤l[i]∧l[i]≤(s.c_.length:Int)-1
 ·rw [qq a];simp only [Bool.not_true,Bool.false_eq_true,if_false];by_cases h1:0<i
  ·rw [if_pos (by simp;omega),aR (n:=(i:Int)-1) (by omega) (by omega),show (i:Int)-1=((i-1:Nat):Int) by omega,aH (show i-1<l.length by omega)];simp only [bS];by_cases f:l[i]≤l[i-1]
   ·rw [if_pos (by simpa using f)];exact .inr ⟨fun g=>by have:=(g hi).2 h1;omega,rfl⟩
   rw [if_neg (by simpa using f)];exact .inl ⟨fun _=>⟨a,fun _=>by omega⟩,rfl⟩
  rw [if_neg (by simp;omega)];exact .inl ⟨fun _=>⟨a,fun g=>absurd g h1⟩,rfl⟩
 rw [ra a];exact .inr ⟨fun g=>a (g hi).1,rfl⟩
theorem Pv {s:ae} {l:List Int} (d:bi s) (f:l.length≤1048576):Dec (vn s l) (Af s l):=by
 unfold vn Af;refine yb (oV (la d)) (fun k=>?_) (fun g=>bY fun h=>g h.1);have o:=d.1.1;by_cases c:l.length=0
 ·rw [if_neg (by simp;exact List.length_eq_zero_iff.1 c)];exact bY fun g=>g.2.1 c
 rw [if_pos (by simp only [Bool.and_eq_true,decide_eq_true_eq,eq_self,true_and];omega)];rcases (Tc f).cases with ⟨e,a⟩|⟨e,a⟩
 ·rw [e];simp only [Option.bind_some,if_true];rw [show (0:Int)=((0:Nat):Int) from rfl,aH (show 0<l.length by omega),aR (by omega) (by omega),show (l.length:Int)-1=((l.length-1:Nat):Int) by omega,aH (show l.length-1<l.length by omega)];simp only [bS];by_cases h1:0≤l[0]
  ·rw [if_pos (by simpa using h1)];refine ⟨_,rfl,?_⟩;rw [decide_eq_true_iff];refine ⟨fun g=>⟨k,c,fun i _ hi _=>⟨⟨?_,?_⟩,fun m=>a i m hi hi⟩⟩,fun g=>?_⟩
   ·exact Int.le_trans h1 (a.le 0 (Nat.zero_le _) hi)
   ·have:=a.le (j:=l.length-1) i (by omega) (by omega);omega
   have:=(g.2.2 (l.length-1) (Nat.zero_le _) (by omega) (by omega)).1;omega
  rw [if_neg (by simpa using h1)];exact bY fun g=>h1 (g.2.2 0 (Nat.zero_le _) (by omega) (by omega)).1.1
 rw [e];exact bY fun g=>a fun i h1 hi _=>(g.2.2 i (Nat.zero_le _) hi hi).2 h1
theorem El {s:ae} {t:aE} (c:bi s) (a:hY t) (h:xF s t):fu s t=some t.j_.sum:=by
 unfold fu;rcases (nE c a).cases with ⟨e,_⟩|⟨_,g⟩
 ·rw [e];simp only [cS]
  have h1:=CG (p:=t.j_) (fun x=>x) (lP t) some (fun k s=>by
   show (if _ then _ else _)=_
   rw [if_neg (by simp)]) (fun k s i hi=>by
   have:=a.1.1;rw [lP,if_pos (by simp;omega),aH hi,ax (by omega)];rfl) (fun x d=>by have:=h.2.2.1 x d;omega) (by have:=a.1.1;omega)
  simpa using h1
 exact absurd h g
def brN (s:ae) (f:aB):Nat:=if f.f_=-1 then nb (atr s f) else 2
theorem LY {s:ae} {f:aB} (h:us s f):2≤brN s f∧brN s f≤4:=by
 have:=Co (Bq h.1 h.2.1);unfold brN;split<;>omega
theorem pU {s:ae} {f:aB} (a:bi s) (h:us s f):fH s f=some (brN s f:Int):=by
 unfold fH brN;rcases (po (f:=f) a).cases with ⟨e,_⟩|⟨_,g⟩
 ·rw [e];simp only [cS];rw [AJ h.2.1];simp only [bS];rw [ut (a.1.2 _ (yw h.2.1)) (Bq h.1 h.2.1)];by_cases h1:f.f_=-1
  ·rw [if_pos (by simpa using h1),if_pos h1];rfl
  rw [if_neg (by simpa using h1),if_neg h1];rfl
 exact absurd h g
theorem KR {s:ae} {f:aB} (a:bi s) (h:us s f):ov s f=some (brN s f:Int):=by
 unfold ov brN;rcases (Il (f:=f) a).cases with ⟨e,_⟩|⟨_,g⟩
 ·rw [e];simp only [cS];rw [AJ h.2.1];simp only [bS];rw [wx (a.1.2 _ (yw h.2.1))];by_cases h1:f.f_=-1
  ·rw [if_pos (by simpa using h1),if_pos h1];rfl
  rw [if_neg (by simpa using h1),if_neg h1];rfl
 exact absurd h g
theorem IQ {s:ae} {f:aB} (a:bi s) (h:¬us s f):fH s f=some 0:=by
 unfold fH;rcases (po (f:=f) a).cases with ⟨_,g⟩|⟨e,_⟩
 ·exact absurd g h
 rw [e];rfl
theorem Iz {s:ae} {f:aB} (a:bi s) (h:¬us s f):ov s f=some 0:=by
 unfold ov;rcases (Il (f:=f) a).cases with ⟨_,g⟩|⟨e,_⟩
 ·exact absurd g h
 rw [e];rfl
def Ph (t:ao) (i:Nat) (x:Int):Prop:=∃m:Nat,∃a:m<t.a_.length,x=m∧i<m∧t.a_[m].F_=i
def UL (n:aA):Prop:=(n.n_.p_=0∧n.n_.f_=0)∧n.z_.length=0∧n.J_=0∧(0≤n.I_∧n.I_≤if n.o_.d_.length=0 then 0 else n.o_.j_.sum)
def Wj (t:ao) (i:Nat) (l:List Int):Prop:=Asc l∧∀x∈l,Ph t i x
def Nv (s:ae) (t:ao) (i:Nat) (n:aA):Prop:=us s n.n_∧n.z_.length=brN s n.n_∧(0≤n.J_∧n.J_≤(n.z_.length:Int)-1)∧n.o_.d_.length=0∧n.I_=0∧Wj t i n.z_
def Ma (s:ae) (t:ao) (i:Nat) (n:aA):Prop:=(0≤n.r_∧n.r_≤6)∧(0≤n.E_∧n.E_≤t.m_)∧xF s n.o_∧Af s n.c_∧(n.A_=true→UL n)∧(n.A_=false→Nv s t i n)
def Wn (t:ao) (i:Nat) (n:aA):Prop:=(i=0→n.F_=-1∧n.r_=0∧n.E_=0) ∧
 (0<i→∃u,∃_:u<i,∃a:u<t.a_.length,n.F_=u∧t.a_[u].A_=false∧(i:Int)∈t.a_[u].z_∧t.a_[u].r_+1=n.r_∧t.a_[u].E_≤n.E_)
def SL (s:ae) (t:ao) (i:Nat):Prop:=∀h:i<t.a_.length,Ma s t i t.a_[i]∧Wn t i t.a_[i]
def wa (s:ae) (t:ao):Prop:=fV s∧(1≤(t.a_.length:Int)∧(t.a_.length:Int)≤31)∧(0≤t.m_∧t.m_≤99999)∧∀i,i<t.a_.length→SL s t i
theorem TQ {t:ao} (j:t.a_.length≤1048576) {i:Nat} (hi:i<t.a_.length) (x:Int):Dec (tD x (i:Int) t) (¬Ph t i x):=by
 unfold tD;rw [ax (by omega),aR (n:=(t.a_.length:Int)-1) (by omega) (by omega)];rcases (eW (x:=x) (a:=((i+1:Nat):Int)) (b:=(t.a_.length:Int)-1)).cases with ⟨e,d⟩|⟨e,d⟩
 ·rw [e];simp only [cS];obtain ⟨m,rfl⟩:∃m:Nat,x=m:=⟨x.toNat,by omega⟩;have c:m<t.a_.length:=by omega
  rw [aH c];simp only [bS];refine ⟨_,rfl,?_⟩;rw [bne_iff_ne];refine ⟨fun g ⟨m',_,h1,_,f⟩=>?_,fun g h=>g ⟨m,c,rfl,by omega,h⟩⟩;obtain rfl:m=m':=by omega
  exact g f
 rw [e];exact pj fun ⟨m,c,h1,f,_⟩=>d ⟨by omega,by omega⟩
theorem PR {t:ao} (c:t.a_.length≤1048576) {i:Nat} (hi:i<t.a_.length) {l:List Int} (hk:l.length≤1048576):Dec (dA l (i:Int) t) (∃x∈l,¬Ph t i x):=by
 unfold dA eM;refine (uz (Lp:=cK l (i:Int) t) (n:=l.length) (Q:=fun j=>∀h:j<l.length,¬Ph t i l[j]) (fun k j a=>?_) (fun k j a=>?_) (by omega)).of_iff ⟨fun ⟨j,a,g⟩=>⟨_,List.getElem_mem a,g a⟩,fun ⟨x,d,g⟩=>?_⟩
 ·show (if _ then _ else _)=_;rw [if_neg (by simp;omega)]
 ·rw [cK,if_pos (by simp;omega),aH a,ax (by omega)];simp only [bS];rcases (TQ c hi l[j]).cases with ⟨e,h⟩|⟨e,h⟩
  ·rw [e];exact .inl ⟨fun _=>h,rfl⟩
  rw [e];exact .inr ⟨fun g=>h (g a),rfl⟩
 obtain ⟨j,a,rfl⟩:=List.getElem_of_mem d;exact ⟨j,a,fun _=>g⟩
theorem QM {s:ae} {t:ao} (p:bi s) (E:iN t) {i:Nat} (hi:i<t.a_.length):Dec (xj s t (i:Int)) (Ma s t i t.a_[i]):=by
 unfold xj;have L:=E.1.1;rw [aH hi];simp only [bS];have h:=E.1.2 _ (List.getElem_mem hi);generalize t.a_[i]=n at *
 have w:n.z_.length≤1048576:=h.2.2.1.1;have A:hY n.o_:=h.2.2.2.2.1;have F:n.c_.length≤1048576:=h.2.2.2.2.2.2.1.1;rcases (eW (x:=n.r_) (a:=0) (b:=6)).cases with ⟨e,r⟩|⟨e,r⟩
 ·rw [e];simp only [cS];rcases (eW (x:=n.E_) (a:=0) (b:=t.m_)).cases with ⟨e,u⟩|⟨e,u⟩
  ·rw [e];simp only [cS];rcases (IV p A).cases with ⟨e,j⟩|⟨e,j⟩
   ·rw [e];simp only [cS];rcases (Pv p F).cases with ⟨e,v⟩|⟨e,v⟩
    ·rw [e];simp only [cS];by_cases f:n.A_=true
     case neg =>
      have hL':n.A_=false:=by simpa using f
      rw [if_neg f];by_cases k:us s n.n_
      ·have M:=LY k;rw [KR p k];simp only [bS];by_cases hk:n.z_.length=brN s n.n_
       ·rw [if_neg (by simp;omega)];rcases (Tc w).cases with ⟨e,l⟩|⟨e,l⟩
        ·rw [e];simp only [cS];rw [aR (n:=(brN s n.n_:Int)-1) (by omega) (by omega)];rcases (eW (x:=n.J_) (a:=0) (b:=(brN s n.n_:Int)-1)).cases with ⟨e,G⟩|⟨e,G⟩
         ·rw [e];simp only [Option.bind_some,Bool.not_true,Bool.false_or];by_cases d:n.o_.d_.length=0∧n.I_=0
          ·rw [if_neg (by simp [d.1,d.2])];rcases (PR L hi w).cases with ⟨e,x,m,D⟩|⟨e,D⟩
           ·rw [e];exact bY fun g=>D ((g.2.2.2.2.2 hL').2.2.2.2.2.2 x m)
           rw [e];exact pj ⟨r,u,j,v,fun g=>absurd g f,fun _=>⟨k,hk,by omega,d.1,d.2,l,fun x m=>Classical.byContradiction fun c=>D ⟨x,m,c⟩⟩⟩
          rw [if_pos (by simp only [Bool.or_eq_true,bne_iff_ne,ne_eq];omega)];exact bY fun g=>d ⟨(g.2.2.2.2.2 hL').2.2.2.1,(g.2.2.2.2.2 hL').2.2.2.2.1⟩
         rw [e];exact bY fun g=>G (by have:=(g.2.2.2.2.2 hL').2.2.1;omega)
        rw [e];exact bY fun g=>l (g.2.2.2.2.2 hL').2.2.2.2.2.1
       rw [if_pos (by simp;omega)];exact bY fun g=>hk (g.2.2.2.2.2 hL').2.1
      rw [Iz p k];exact bY fun g=>k (g.2.2.2.2.2 hL').1
     case pos =>
      rw [if_pos f,Hh (fun x m=>by have:=j.2.2.1 x m;omega) A.1.1];simp only [bS]
      have key:∀q:Int,q=(if n.o_.d_.length=0 then 0 else n.o_.j_.sum)→Dec (nf n q) (Ma s t i n):=fun q H=>by
       unfold nf;have C:∀o:Option Bool,(o.bind fun y=>some y)=o:=fun o=>by cases o<;>rfl
       by_cases d:(n.n_.p_=0∧n.n_.f_=0)∧n.z_.length=0∧n.J_=0
       ·rw [if_pos (by simp [d.1.1,d.1.2,d.2.1,d.2.2]),C,C];exact eW.of_iff ⟨fun g=>⟨r,u,j,v,fun _=>⟨d.1,d.2.1,d.2.2,by rw [←H];exact g⟩,fun g=>by rw [f] at g;cases g⟩,fun g=>by rw [H];exact (g.2.2.2.2.1 f).2.2.2⟩
       rw [if_neg (by simp only [Bool.and_eq_true,beq_iff_eq,Bool.and_true];omega)];exact bY fun g=>d ⟨(g.2.2.2.2.1 f).1,(g.2.2.2.2.1 f).2.1,(g.2.2.2.2.1 f).2.2.1⟩
      by_cases d:n.o_.d_.length=0
      ·rw [if_pos (by simp;exact List.length_eq_zero_iff.1 d)];exact key 0 (by rw [if_pos d])
      rw [if_neg (by simp;exact fun e=>d (by rw [e];rfl))];exact key _ (by rw [if_neg d])
    rw [e];exact bY fun g=>v g.2.2.2.1
   rw [e];exact bY fun g=>j g.2.2.1
  rw [e];exact bY fun g=>u g.2.1
 rw [e];exact bY fun g=>r g.1
theorem Sl {s:ae} {n:aA} (i:bi s) (j:qx n):Dec (pS s n) (UL n∧xF s n.o_∧Af s n.c_):=by
 unfold pS;have h:hY n.o_:=j.2.2.2.2.1;have k:n.c_.length≤1048576:=j.2.2.2.2.2.2.1.1;by_cases a:(n.n_.p_=0∧n.n_.f_=0)∧n.z_.length=0∧n.J_=0
 ·rw [if_neg (by simp only [Bool.or_eq_true,Bool.not_eq_true',bne_iff_ne,decide_eq_true_eq,ne_eq,Bool.and_true,Bool.and_eq_false_iff,beq_eq_false_iff_ne];omega)];rcases (nE i h).cases with ⟨e,c⟩|⟨e,c⟩
  ·rw [e];simp only [cS];rcases (sW i k).cases with ⟨e,d⟩|⟨e,d⟩
   ·rw [e];simp only [cS];by_cases f:n.o_.d_.length=0
    ·rw [if_pos (by simp only [beq_iff_eq];omega)];refine ⟨_,rfl,?_⟩;rw [beq_iff_eq];exact ⟨fun g=>⟨⟨a.1,a.2.1,a.2.2,by rw [if_pos f];omega⟩,c,d⟩,fun g=>by have:=g.1.2.2.2;rw [if_pos f] at this;omega⟩
    rw [if_neg (by simp only [beq_iff_eq];omega),El i h c];simp only [bS];have l:∀o:Option Bool,(o.bind fun y=>some y)=o:=fun o=>by cases o<;>rfl
    rw [l];exact cE.of_iff ⟨fun g=>⟨⟨a.1,a.2.1,a.2.2,by rw [if_neg f];exact g⟩,c,d⟩,fun g=>by have:=g.1.2.2.2;rw [if_neg f] at this;exact this⟩
   rw [e];exact bY fun g=>d g.2.2
  rw [e];exact bY fun g=>c g.2.1
 rw [if_pos (by simp only [Bool.or_eq_true,Bool.not_eq_true',bne_iff_ne,decide_eq_true_eq,ne_eq,Bool.and_true,Bool.and_eq_false_iff,beq_eq_false_iff_ne];omega)];exact bY fun g=>a ⟨g.1.1,g.1.2.1,g.1.2.2.1⟩
theorem Qf {s:ae} {t:ao} (q:bi s) (C:iN t) {i:Nat} (hi:i<t.a_.length):Dec (og s t (i:Int)) (Nv s t i t.a_[i]∧xF s t.a_[i].o_∧Af s t.a_[i].c_):=by
 unfold og;have R:=C.1.1;rw [aH hi];simp only [bS];have o:=C.1.2 _ (List.getElem_mem hi);generalize t.a_[i]=n at *
 have M:n.z_.length≤1048576:=o.2.2.1.1;have D:hY n.o_:=o.2.2.2.2.1;have E:n.c_.length≤1048576:=o.2.2.2.2.2.2.1.1;rcases (po (f:=n.n_) q).cases with ⟨e,p⟩|⟨e,p⟩
 ·rw [e];simp only [cS];have P:=LY p;rw [pU q p];simp only [bS];by_cases hk:n.z_.length=brN s n.n_
  ·rw [if_neg (by simp only [bne_iff_ne,ne_eq];omega),aR (n:=(n.z_.length:Int)-1) (by omega) (by omega)];rcases (cE (x:=n.J_) (a:=0) (b:=(n.z_.length:Int)-1)).cases with ⟨e,l⟩|⟨e,l⟩
   ·rw [e];simp only [cS];rcases (nE q D).cases with ⟨e,u⟩|⟨e,u⟩
    ·rw [e];simp only [Option.bind_some,Bool.not_true,Bool.false_or];by_cases v:n.o_.d_.length=0∧n.I_=0
     ·rw [if_neg (by simp only [Bool.or_eq_true,bne_iff_ne,decide_eq_true_eq,ne_eq];omega)];rcases (sW q E).cases with ⟨e,w⟩|⟨e,w⟩
      ·rw [e];simp only [cS]
       refine (pI (Lp:=nh n (i:Int) t) (n:=n.z_.length) (Q:=fun j=>∀h:j<n.z_.length,Ph t i n.z_[j]∧(0<j→n.z_[j-1]<n.z_[j])) 0 (fun k j c=>?_) (fun k j _ c=>?_) (by omega)).of_iff
        ⟨fun g=>⟨⟨p,hk,l,v.1,v.2,fun j h1 c _=>(g j (Nat.zero_le _) c c).2 h1,fun x d=>by
         obtain ⟨j,c,rfl⟩:=List.getElem_of_mem d;exact (g j (Nat.zero_le _) c c).1⟩,u,w⟩,fun g j _ c _=>⟨g.1.2.2.2.2.2.2 _ (List.getElem_mem c),fun h1=>g.1.2.2.2.2.2.1 j h1 c c⟩⟩
       ·show (if _ then _ else _)=_;rw [if_neg (by simp;omega)]
       rw [nh,if_pos (by simp;omega),aH c];simp only [bS];rw [ax (i:=i) (by omega),aR (n:=(t.a_.length:Int)-1) (by omega) (by omega),ax (i:=j) (by omega)];generalize d:n.z_[j]=x;rcases (cE (x:=x) (a:=((i+1:Nat):Int)) (b:=(t.a_.length:Int)-1)).cases with ⟨e,F⟩|⟨e,F⟩
       ·rw [e];simp only [cS];obtain ⟨m,rfl⟩:∃m:Nat,x=m:=⟨x.toNat,by omega⟩;have l:m<t.a_.length:=by omega
        rw [aH l];simp only [bS];by_cases G:t.a_[m].F_=(i:Int)
        ·rw [if_neg (by simp only [bne_iff_ne,ne_eq];omega)];have H:Ph t i n.z_[j]:=by rw [d];exact ⟨m,l,rfl,by omega,G⟩
         by_cases h1:0<j
         ·rw [if_pos (by simp;omega),aR (n:=(j:Int)-1) (by omega) (by omega),show (j:Int)-1=((j-1:Nat):Int) by omega,aH (show j-1<n.z_.length by omega)];simp only [bS];by_cases r:n.z_[j]≤n.z_[j-1]
          ·rw [if_pos (by rw [←d];simpa using r)];exact .inr ⟨fun g=>by have:=(g c).2 h1;omega,rfl⟩
          rw [if_neg (by rw [←d];simpa using r)];exact .inl ⟨fun _=>⟨H,fun _=>by omega⟩,rfl⟩
         rw [if_neg (by simp;omega)];exact .inl ⟨fun _=>⟨H,fun g=>absurd g h1⟩,rfl⟩
        rw [if_pos (by simp only [bne_iff_ne,ne_eq];omega)]
        exact .inr ⟨fun g=>by
         obtain ⟨m',hm',A,_,L⟩:=(g c).1;rw [d] at A;obtain rfl:m=m':=by omega
         exact G L,rfl⟩
       rw [e]
       exact .inr ⟨fun g=>by
         obtain ⟨m',hm',A,X,L⟩:=(g c).1;rw [d] at A;exact F ⟨by omega,by omega⟩,rfl⟩
      rw [e];exact bY fun g=>w g.2.2
     rw [if_pos (by simp only [Bool.or_eq_true,bne_iff_ne,decide_eq_true_eq,ne_eq];omega)];exact bY fun g=>v ⟨g.1.2.2.2.1,g.1.2.2.2.2.1⟩
    rw [e];exact bY fun g=>u g.2.1
   rw [e];exact bY fun g=>l g.1.2.2.1
  rw [if_pos (by simp only [bne_iff_ne,ne_eq];omega)];exact bY fun g=>hk g.1.2.1
 rw [e];exact bY fun g=>p g.1.1
theorem Kk {l:List Int} (d:l.length≤1048576) (x:Int):Dec (gD l x) (x∈l):=by
 unfold gD ld;refine (uz (Lp:=eX l x) (n:=l.length) (Q:=fun j=>∀h:j<l.length,x=l[j]) (fun k j a=>?_) (fun k j a=>?_) (by omega)).of_iff ⟨fun ⟨j,a,g⟩=>by rw [g a];exact List.getElem_mem a,fun c=>?_⟩
 ·show (if _ then _ else _)=_;rw [if_neg (by simp;omega)]
 ·rw [eX,if_pos (by simp;omega),aH a,ax (by omega)];simp only [bS];by_cases h:x=l[j]
  ·rw [if_pos (by simpa using h)];exact .inl ⟨fun _=>h,rfl⟩
  rw [if_neg (by simpa using h)];exact .inr ⟨fun g=>h (g a),rfl⟩
 obtain ⟨j,a,rfl⟩:=List.getElem_of_mem c;exact ⟨j,a,fun _=>rfl⟩
theorem PD {l:List Int} (f:l.length≤1048576) (x:Int):Dec (tI l x) (x∈l):=by
 unfold tI
 have h:=Az (Lp:=fun k j=>ex l x k (j:Int)) (n:=l.length) (Q:=fun j=>∀h:j<l.length,l[j]≠x) (fin:=some false) (bad:=some true) (fun k _=>by
  show ex l x (k+1) _=_
  rw [ex,if_neg (by simp)]) (fun k j a _=>by
  show (_∧ex l x (k+1) _=ex l x k _)∨(_∧ex l x (k+1) _=_);rw [ex,if_pos (by simp;omega),aH a,ax (by omega)];simp only [bS];by_cases h:l[j]=x
  ·rw [if_pos (by simpa using h)];exact .inr ⟨fun g=>g a h,rfl⟩
  rw [if_neg (by simpa using h)];exact .inl ⟨fun _=>h,rfl⟩) (by omega)
 rcases h with ⟨h1,c⟩|⟨h1,c⟩
 ·have c:ex l x bb 0=some false:=c;rw [c]
  exact bY fun d=>by
   obtain ⟨j,a,e⟩:=List.getElem_of_mem d;exact h1 j a a e
 have c:ex l x bb 0=some true:=c;rw [c];refine pj (Classical.byContradiction fun d=>h1 fun j a _ e=>d ?_);rw [←e];exact List.getElem_mem a
theorem RY {s:ae} {t:ao} (w:bi s) (m:iN t):Dec (wZ s t) (wa s t):=by
 unfold wZ;have X:=m.1.1;rcases (oV (la w)).cases with ⟨e,o⟩|⟨e,o⟩
 ·rw [e];simp only [cS];rcases (eW (x:=(t.a_.length:Int)) (a:=1) (b:=31)).cases with ⟨e,p⟩|⟨e,p⟩
  ·rw [e];simp only [cS];rcases (eW (x:=t.m_) (a:=0) (b:=99999)).cases with ⟨e,q⟩|⟨e,q⟩
   ·rw [e];simp only [cS];refine (vr (Lp:=fun k i=>gm t s k (i:Int)) (n:=t.a_.length) (Q:=SL s t) (F:=True) (fun k _=>?_) (fun k i hi P=>?_) (by omega)).of_iff ⟨fun g=>⟨o,p,q,g.1⟩,fun g=>⟨g.2.2.2,trivial⟩⟩
    ·show Dec (gm t s (k+1) _) _;rw [gm,if_neg (by simp)];exact pj trivial
    show (_∧gm t s (k+1) _=gm t s k _)∨(_∧gm t s (k+1) _=_);rw [gm,if_pos (by simp;omega),aH hi,ax (by omega)];simp only [bS];rcases (QM w m hi).cases with ⟨e,f⟩|⟨e,f⟩
    ·rw [e];simp only [cS];by_cases A:i=0
     ·rw [if_pos (by simp only [beq_iff_eq];omega)];by_cases C:t.a_[i].F_=-1∧t.a_[i].r_=0∧t.a_[i].E_=0
      ·rw [if_neg (by simp only [Bool.or_eq_true,bne_iff_ne,ne_eq];omega)];exact .inl ⟨fun _=>⟨f,fun _=>C,fun g=>by omega⟩,rfl⟩
      rw [if_pos (by simp only [Bool.or_eq_true,bne_iff_ne,ne_eq];omega)];exact .inr ⟨fun g=>C ((g hi).2.1 A),rfl⟩
     rw [if_neg (by simp only [beq_iff_eq];omega),aR (n:=(i:Int)-1) (by omega) (by omega)];rcases (eW (x:=t.a_[i].F_) (a:=0) (b:=(i:Int)-1)).cases with ⟨e,D⟩|⟨e,D⟩
     ·rw [e];simp only [cS];obtain ⟨u,E⟩:∃u:Nat,t.a_[i].F_=u:=⟨t.a_[i].F_.toNat,by omega⟩;have j:u<i:=by omega
      have c:u<t.a_.length:=by omega
      rw [E,aH c];simp only [bS];have G:=P u j c;have Z:=f.1;have R:=G.1.1;rw [aR (n:=t.a_[i].r_-1) (by omega) (by omega)];by_cases d:t.a_[u].A_=true
      ·rw [if_pos d]
       exact .inr ⟨fun g=>by
        obtain ⟨u',_,hu',h1,r,_⟩:=(g hi).2.2 (by omega);obtain rfl:u=u':=by omega
        exact (nomatch r.symm.trans d),rfl⟩
      rw [if_neg d];have hlf':t.a_[u].A_=false:=by simpa using d
      rcases (Kk (l:=t.a_[u].z_) (m.1.2 _ (List.getElem_mem c)).2.2.1.1 (i:Int)).cases with ⟨e,v⟩|⟨e,v⟩
      ·rw [e];simp only [Option.bind_some,Bool.not_true,Bool.false_or];by_cases h:t.a_[u].r_+1=t.a_[i].r_∧t.a_[u].E_≤t.a_[i].E_
       ·rw [if_neg (by simp only [Bool.or_eq_true,bne_iff_ne,decide_eq_true_eq,ne_eq];omega)];exact .inl ⟨fun _=>⟨f,fun g=>absurd g A,fun _=>⟨u,j,c,E,hlf',v,h.1,h.2⟩⟩,rfl⟩
       rw [if_pos (by simp only [Bool.or_eq_true,bne_iff_ne,decide_eq_true_eq,ne_eq];omega)]
       exact .inr ⟨fun g=>by
        obtain ⟨u',_,hu',h1,r,H,L,M⟩:=(g hi).2.2 (by omega);obtain rfl:u=u':=by omega
        exact h ⟨L,M⟩,rfl⟩
      rw [e]
      exact .inr ⟨fun g=>by
       obtain ⟨u',_,hu',h1,r,H,L,M⟩:=(g hi).2.2 (by omega);obtain rfl:u=u':=by omega
       exact v H,rfl⟩
     rw [e]
     exact .inr ⟨fun g=>by
      obtain ⟨u',_,hu',h1,_⟩:=(g hi).2.2 (by omega);exact D ⟨by omega,by omega⟩,rfl⟩
    rw [e];exact .inr ⟨fun g=>f (g hi).1,rfl⟩
   rw [e];exact bY fun g=>q g.2.2.1
  rw [e];exact bY fun g=>p g.2.1
 rw [e];exact bY fun g=>o g.1
theorem wj {s:ae} {t:ao} (E:bi s) (w:iN t):Dec (nF s t) (wa s t):=by
 unfold nF;have hl:=w.1.1;rcases (mH (la E)).cases with ⟨e,G⟩|⟨e,G⟩
 ·rw [e];simp only [cS];rcases (cE (x:=(t.a_.length:Int)) (a:=1) (b:=31)).cases with ⟨e,H⟩|⟨e,H⟩
  ·rw [e];simp only [cS];rcases (cE (x:=t.m_) (a:=0) (b:=99999)).cases with ⟨e,L⟩|⟨e,L⟩
   ·rw [e];simp only [cS];refine (vr (Lp:=fun k i=>gk t s k (i:Int)) (n:=t.a_.length) (Q:=SL s t) (F:=True) (fun k _=>?_) (fun k i hi hQ=>?_) (by omega)).of_iff ⟨fun g=>⟨G,H,L,g.1⟩,fun g=>⟨g.2.2.2,trivial⟩⟩
    ·show Dec (gk t s (k+1) _) _;rw [gk,if_neg (by simp)];exact pj trivial
    show (_∧gk t s (k+1) _=gk t s k _)∨(_∧gk t s (k+1) _=_);rw [gk,if_pos (by simp;omega),aH hi,ax (by omega)];simp only [bS];have R:=w.1.2 _ (List.getElem_mem hi);rcases (cE (x:=t.a_[i].r_) (a:=0) (b:=6)).cases with ⟨e,o⟩|⟨e,o⟩
    ·rw [e];simp only [cS];rcases (cE (x:=t.a_[i].E_) (a:=0) (b:=t.m_)).cases with ⟨e,p⟩|⟨e,p⟩
     ·rw [e];simp only [cS]
      have A:∀b:Bool,t.a_[i].A_=b→∀K:Bool→Option Bool,(Ma s t i t.a_[i]∧(((if t.a_[i].A_=true then (pS s ({t.a_[i] with A_:=true})).bind fun c=>some (!c) else some false).bind fun d=>(if d=true then some true else (if (!t.a_[i].A_)=true then (og s t (i:Int)).bind fun f=>some (!f) else some false).bind fun j=>some j).bind K)=K false)) ∨
        (¬Ma s t i t.a_[i]∧(((if t.a_[i].A_=true then (pS s ({t.a_[i] with A_:=true})).bind fun c=>some (!c) else some false).bind fun d=>(if d=true then some true else (if (!t.a_[i].A_)=true then (og s t (i:Int)).bind fun f=>some (!f) else some false).bind fun j=>some j).bind K)=K true)):=fun b m K=>by
       cases b
       ·rw [m];simp only [Option.bind_some,Bool.not_false,Bool.false_eq_true,if_true,if_false];rcases (Qf E w hi).cases with ⟨e,h⟩|⟨e,h⟩
        ·rw [e];exact .inl ⟨⟨o,p,h.2.1,h.2.2,fun g=>(nomatch m.symm.trans g),fun _=>h.1⟩,rfl⟩
        rw [e];exact .inr ⟨fun g=>h ⟨g.2.2.2.2.2 m,g.2.2.1,g.2.2.2.1⟩,rfl⟩
       have hE:({t.a_[i] with A_:=true}:aA)=t.a_[i]:=by rw [←m]
       rw [hE,m];simp only [Option.bind_some,Bool.not_true,Bool.false_eq_true,if_true,if_false];rcases (Sl E R).cases with ⟨e,h⟩|⟨e,h⟩
       ·rw [e];exact .inl ⟨⟨o,p,h.2.1,h.2.2,fun _=>h.1,fun g=>(nomatch m.symm.trans g)⟩,rfl⟩
       rw [e];exact .inr ⟨fun g=>h ⟨g.2.2.2.2.1 m,g.2.2.1,g.2.2.2.1⟩,rfl⟩
      rcases A _ rfl _ with ⟨C,e⟩|⟨C,e⟩
      ·rw [e];simp only [Bool.false_eq_true,if_false];by_cases X:i=0
       ·rw [if_pos (by simp only [beq_iff_eq];omega)];by_cases Z:t.a_[i].F_=-1∧t.a_[i].r_=0∧t.a_[i].E_=0
        ·rw [if_neg (by simp only [Bool.or_eq_true,bne_iff_ne,ne_eq];omega)];exact .inl ⟨fun _=>⟨C,fun _=>Z,fun g=>by omega⟩,rfl⟩
        rw [if_pos (by simp only [Bool.or_eq_true,bne_iff_ne,ne_eq];omega)];exact .inr ⟨fun g=>Z ((g hi).2.1 X),rfl⟩
       rw [if_neg (by simp only [beq_iff_eq];omega),aR (n:=(i:Int)-1) (by omega) (by omega)];rcases (cE (x:=t.a_[i].F_) (a:=0) (b:=(i:Int)-1)).cases with ⟨e,hr⟩|⟨e,hr⟩
       ·rw [e];simp only [cS];obtain ⟨u,hu⟩:∃u:Nat,t.a_[i].F_=u:=⟨t.a_[i].F_.toNat,by omega⟩;have D:u<i:=by omega
        have q:u<t.a_.length:=by omega
        rw [hu,aH q];simp only [bS];have a2:=hQ u D q;have a8:=a2.1.1;rw [aR (n:=t.a_[u].r_+1) (by omega) (by omega)];by_cases r:t.a_[u].A_=true
        ·rw [if_pos r]
         exact .inr ⟨fun g=>by
          obtain ⟨u',_,hu',h1,M,_⟩:=(g hi).2.2 (by omega);obtain rfl:u=u':=by omega
          exact (nomatch M.symm.trans r),rfl⟩
        rw [if_neg r];have hlf':t.a_[u].A_=false:=by simpa using r
        rcases (PD (l:=t.a_[u].z_) (w.1.2 _ (List.getElem_mem q)).2.2.1.1 (i:Int)).cases with ⟨e,P⟩|⟨e,P⟩
        ·rw [e];simp only [Option.bind_some,Bool.not_true,Bool.false_or];by_cases v:t.a_[u].r_+1=t.a_[i].r_∧t.a_[u].E_≤t.a_[i].E_
         ·rw [if_neg (by simp only [Bool.or_eq_true,bne_iff_ne,decide_eq_true_eq,ne_eq];omega)];exact .inl ⟨fun _=>⟨C,fun g=>absurd g X,fun _=>⟨u,D,q,hu,hlf',P,v.1,v.2⟩⟩,rfl⟩
         rw [if_pos (by simp only [Bool.or_eq_true,bne_iff_ne,decide_eq_true_eq,ne_eq];omega)]
         exact .inr ⟨fun g=>by
          obtain ⟨u',_,hu',h1,M,h3,h4,h5⟩:=(g hi).2.2 (by omega);obtain rfl:u=u':=by omega
          exact v ⟨h4,h5⟩,rfl⟩
        rw [e]
        exact .inr ⟨fun g=>by
         obtain ⟨u',_,hu',h1,M,h3,h4,h5⟩:=(g hi).2.2 (by omega);obtain rfl:u=u':=by omega
         exact P h3,rfl⟩
       rw [e]
       exact .inr ⟨fun g=>by
        obtain ⟨u',_,hu',h1,_⟩:=(g hi).2.2 (by omega);exact hr ⟨by omega,by omega⟩,rfl⟩
      rw [e];exact .inr ⟨fun g=>C (g hi).1,rfl⟩
     rw [e];exact .inr ⟨fun g=>p (g hi).1.2.1,rfl⟩
    rw [e];exact .inr ⟨fun g=>o (g hi).1.1,rfl⟩
   rw [e];exact bY fun g=>L g.2.2.1
  rw [e];exact bY fun g=>H g.2.1
 rw [e];exact bY fun g=>G g.1
end Go.Vk
/- Where a bin goes; the mask of a branch; the mask of all: alike. -/
namespace Go.Vk
def IM (a:aK) (f:aB) (b:Int):Int:=if f.f_=-1 then b else if 0<a.B_.length then (if f.f_<b then 1 else 0) else (if b=f.f_ then 0 else 1)
theorem Dc {s:ae} {f:aB} (i:bi s) (h:us s f) {b:Int} (k:0≤b∧b≤(nb (atr s f):Int)-1):qD s f b=some (IM (atr s f) f b):=by
 unfold qD IM;have l:=i.1.2 _ (yw h.2.1);have j:=Bq h.1 h.2.1;have m:=Co j;rcases (po (f:=f) i).cases with ⟨e,_⟩|⟨_,g⟩
 ·rw [e];simp only [sS];rw [AJ h.2.1];simp only [sS];rw [ut l j];simp only [sS];rw [aR (by omega) (by omega)];rcases (cE (x:=b) (a:=0) (b:=(nb (atr s f):Int)-1)).cases with ⟨e,_⟩|⟨_,g⟩
  ·rw [e];simp only [sS];by_cases h1:f.f_=-1
   ·rw [if_pos (by simpa using h1),if_pos h1]
   rw [if_neg (by simpa using h1),if_neg h1];unfold gQ;by_cases d:0<(atr s f).B_.length
   ·rw [if_pos (by simpa using d),if_pos d];by_cases c:f.f_<b
    ·rw [if_pos c,if_pos (by simpa using c)];rfl
    rw [if_neg c,if_neg (by simpa using c)];rfl
   rw [if_neg (by simpa using d),if_neg d];by_cases c:b=f.f_
   ·rw [if_pos c,if_neg (by simpa using c)];rfl
   rw [if_neg c,if_pos (by simpa using c)];rfl
  exact absurd k g
 exact absurd h g
theorem KP {s:ae} {f:aB} (i:bi s) (h:us s f) {b:Int} (k:0≤b∧b≤(nb (atr s f):Int)-1):xJ s f b=some (IM (atr s f) f b):=by
 unfold xJ IM;have l:=i.1.2 _ (yw h.2.1);have m:=Bq h.1 h.2.1;have o:=Co m;rcases (Il (f:=f) i).cases with ⟨e,_⟩|⟨_,g⟩
 ·rw [e];simp only [sS];rw [AJ h.2.1];simp only [sS];rw [wx l];simp only [sS];rw [aR (by omega) (by omega)];rcases (eW (x:=b) (a:=0) (b:=(nb (atr s f):Int)-1)).cases with ⟨e,_⟩|⟨_,g⟩
  ·rw [e];simp only [sS];by_cases h1:f.f_=-1
   ·rw [if_pos (by simpa using h1),if_pos h1]
   rw [if_neg (by simpa using h1),if_neg h1];by_cases c:b=f.f_
   ·rw [if_pos (by simpa using c)];simp only [sS];have d:¬f.f_<b:=by omega
    rw [if_pos c,if_neg d,ite_self]
   rw [if_neg (by simpa using c),if_neg c];simp only [sS];by_cases j:0<(atr s f).B_.length
   ·rw [if_pos j];by_cases d:f.f_<b
    ·rw [if_neg (by simp only [Bool.and_eq_true,Bool.or_eq_true,Bool.not_eq_true',bne_iff_ne,beq_iff_eq,decide_eq_true_eq,ne_eq,Bool.and_true,eq_self,true_and,and_true,not_true_eq_false,not_false_eq_true,false_or,or_false,Bool.and_eq_false_iff,Bool.or_eq_false_iff,beq_eq_false_iff_ne,bne_eq_false_iff_eq,decide_eq_false_iff_not];omega),if_pos d]
    rw [if_pos (by simp only [Bool.and_eq_true,Bool.or_eq_true,Bool.not_eq_true',bne_iff_ne,beq_iff_eq,decide_eq_true_eq,ne_eq,Bool.and_true,eq_self,true_and,and_true,not_true_eq_false,not_false_eq_true,false_or,or_false,Bool.and_eq_false_iff,Bool.or_eq_false_iff,beq_eq_false_iff_ne,bne_eq_false_iff_eq,decide_eq_false_iff_not];omega),if_neg d]
   rw [if_neg (by simp only [Bool.and_eq_true,Bool.or_eq_true,Bool.not_eq_true',bne_iff_ne,beq_iff_eq,decide_eq_true_eq,ne_eq,Bool.and_true,eq_self,true_and,and_true,not_true_eq_false,not_false_eq_true,false_or,or_false,Bool.and_eq_false_iff,Bool.or_eq_false_iff,beq_eq_false_iff_ne,bne_eq_false_iff_eq,decide_eq_false_iff_not];omega),if_neg j]
  exact absurd k g
 exact absurd h g
end Go.Vk
/- A window in words: alike. -/
namespace Go.Vk
theorem KH {n:Nat} (f:n≤40):mI (n:Int)=some ((2^n:Nat):Int):=by
 unfold mI
 have key:∀(d k i:Nat),i+d=n→d<k→ly (n:Int) k ((2^i:Nat):Int) (i:Int)=some ((2^n:Nat):Int):=by
  intro d
  induction d with
  | zero =>
   intro k i a hk;obtain ⟨k,rfl⟩:=kS k (by omega);rw [ly,if_neg (by simp;omega),show i=n by omega]
  | succ d ih =>
   intro k i a hk;obtain ⟨k,rfl⟩:=kS k (by omega);rw [ly];have c:(2:Nat)^i≤2^40:=Nat.pow_le_pow_right (by omega) (by omega)
   have e:IntKind.i64.wrap (((2^i:Nat):Int)*2)=((2^(i+1):Nat):Int):=by
    rw [Nat.pow_succ];generalize (2:Nat)^i=q at c;rw [aR (by omega) (by omega)];omega
   rw [if_pos (decide_eq_true (by omega)),e,ax (by omega)];exact ih k (i+1) (by omega) (by omega)
 exact key n bb 0 (by omega) (cN (by omega))
theorem Uu:∀n:Nat,n<8→shl .i64 1 (n:Int)=some ((2^n:Nat):Int):=by decide
def Vv (p:aw) (i:Nat):Prop:=∀h:i<p.e_.length,(1≤p.e_[i].length∧p.e_[i].length≤3)∧∀x∈p.e_[i],0≤x∧x≤((2^i:Nat):Int)
def Gc (p:aw):Prop:=p.e_.length≤8∧∀i,i<p.e_.length→Vv p i
theorem Ce (p:aw):Dec (lj p) (Gc p):=by
 unfold lj Gc;by_cases e:p.e_.length≤8
 ·rw [if_neg (by simp;omega)]
  rcases Az (Lp:=fun k i=>eb p k (i:Int)) (n:=p.e_.length) (Q:=Vv p) (fin:=some true) (bad:=some false) (fun k _=>by
   show eb p (k+1) _=_
   rw [eb,if_neg (by simp)]) (fun k i hi _=>by
   show (_∧eb p (k+1) _=eb p k _)∨(_∧eb p (k+1) _=_);rw [eb,if_pos (by simp;omega),aH hi];unfold aV;simp only [bS];by_cases d:1≤p.e_[i].length∧p.e_[i].length≤3
   ·rw [if_neg (by simp;omega),Je (p:=p.e_[i]) (P:=fun x=>0≤x∧x≤((2^i:Nat):Int)) (fin:=eb p k ((i+1:Nat):Int)) (bad:=some false) (lC p i (eb p k)) (fun f=>by
     rw [lC,aH hi];simp only [bS]
     rw [if_neg (by simp),ax (by omega)]) (fun f j h=>by
     rw [lC,aH hi];simp only [bS];rw [if_pos (by simp;omega),aH h,KH (by omega),ax (by omega)];unfold aV;simp only [bS];generalize ((2^i:Nat):Int)=q;by_cases a:0≤p.e_[i][j]∧p.e_[i][j]≤q
     ·rw [if_pos a,if_neg (by simp;omega)]
     rw [if_neg a,if_pos (by simp;omega)]) (by omega)]
    by_cases a:∀x∈p.e_[i],0≤x∧x≤((2^i:Nat):Int)
    ·rw [if_pos a];exact .inl ⟨fun _=>⟨d,a⟩,rfl⟩
    rw [if_neg a];exact .inr ⟨fun g=>a (g hi).2,rfl⟩
   rw [if_pos (by simp;omega)];exact .inr ⟨fun g=>d (g hi).1,rfl⟩) (by omega) with ⟨h1,c⟩|⟨h1,c⟩
  ·exact ⟨true,c,by simp;exact ⟨e,h1⟩⟩
  exact ⟨false,c,by simp only [Bool.false_eq_true,false_iff];exact fun g=>h1 g.2⟩
 rw [if_pos (by simp;omega)];exact ⟨false,rfl,by simp;omega⟩
theorem VY {r:List Int} (e:r.length≤1048576) {i:Nat} (hi:i<8):Dec (dj r i) (∃x∈r,¬(0≤x∧x≤((2^i:Nat):Int))):=by
 unfold dj eo
 refine (uz (Lp:=cB r i) (n:=r.length) (Q:=fun j=>∀a:j<r.length,¬(0≤r[j]∧r[j]≤((2^i:Nat):Int))) (fun k j a=>by
  show (if _ then _ else _)=_
  rw [if_neg (by simp;omega)]) (fun k j a=>by
  rw [cB,if_pos (by simp;omega),aH a,ax (by omega)];unfold uP bf;rw [Uu i hi];simp only [bS];by_cases c:0≤r[j]∧r[j]≤((2^i:Nat):Int)
  ·rw [qq c];exact .inr ⟨fun g=>g a c,rfl⟩
  rw [ra c];exact .inl ⟨fun _=>c,rfl⟩) (by omega)).of_iff ⟨fun ⟨i,hi,h⟩=>⟨r[i],List.getElem_mem hi,h hi⟩,fun ⟨x,d,h⟩=>?_⟩
 obtain ⟨i,hi,rfl⟩:=List.mem_iff_getElem.1 d;exact ⟨i,hi,fun _=>h⟩
theorem NO {p:aw} (_:yJ p):Dec (qH p) (Gc p):=by
 unfold qH Gc;by_cases j:p.e_.length≤8
 ·rw [if_neg (by simp;omega)]
  rcases Az (Lp:=fun k i=>fE p k (i:Int)) (n:=p.e_.length) (Q:=Vv p) (fin:=some true) (bad:=some false) (fun k _=>by
   show fE p (k+1) _=_
   rw [fE,if_neg (by simp)]) (fun k i hi _=>by
   show (_∧fE p (k+1) _=fE p k _)∨(_∧fE p (k+1) _=_);rw [fE,if_pos (by simp;omega),aH hi];unfold bf;simp only [bS];by_cases f:1≤p.e_[i].length∧p.e_[i].length≤3
   ·rw [if_neg (by simp;omega)];rcases (VY (r:=p.e_[i]) (by omega) (i:=i) (by omega)).cases with ⟨e,h⟩|⟨e,h⟩
    ·rw [e];exact .inr ⟨fun g=>by obtain ⟨x,a,c⟩:=h;exact c ((g hi).2 x a),rfl⟩
    rw [e];refine .inl ⟨fun _=>⟨f,fun x a=>?_⟩,by simp only [bS];rw [if_neg (by simp),ax (by omega)]⟩;exact Decidable.by_contra fun c=>h ⟨x,a,c⟩
   rw [if_pos (by simp;omega)];exact .inr ⟨fun g=>f (g hi).1,rfl⟩) (by omega) with ⟨h1,d⟩|⟨h1,d⟩
  ·exact ⟨true,d,by simp;exact ⟨j,h1⟩⟩
  exact ⟨false,d,by simp only [Bool.false_eq_true,false_iff];exact fun g=>h1 g.2⟩
 rw [if_pos (by simp;omega)];exact ⟨false,rfl,by simp;omega⟩
end Go.Vk
/- Scores: tested alike. -/
namespace Go.Vk
theorem Th {p:List Int} (a:∀x∈p,0≤x∧x≤1000000000) (c:p.length≤1000000000):nO p=some p.sum:=by
 unfold nO
 have:=CG (p:=p) id (fun k s i=>iZ p k s i) some (fun k s=>by
  show iZ p (k+1) s _=_
  rw [iZ,if_neg (by simp)]) (fun k s i h=>by
  show iZ p (k+1) s _=_;rw [iZ,if_pos (by simp;omega),aH h,ax (by omega)];rfl) a c
 rwa [List.map_id] at this
def Ox (t:List (List Int)):Prop:=∀r∈t,r.length≤3∧∀x∈r,0≤x∧x≤9999
theorem Jh {r:List Int} (h:r.length≤3∧∀x∈r,0≤x∧x≤9999):0≤r.sum∧r.sum≤30000:=by
 have:=rz h.2;omega
theorem MB {t:List (List Int)} (a:Ox t) (c:t.length≤1000000000):tK t=some (t.map List.sum).sum:=by
 unfold tK
 exact CG (p:=t) List.sum (fun k s i=>iR t k s i) some (fun k s=>by
  show iR t (k+1) s _=_
  rw [iR,if_neg (by simp)]) (fun k s i h=>by
  show iR t (k+1) s _=_;have d:=a _ (List.getElem_mem h);rw [iR,if_pos (by simp;omega),aH h,ax (by omega)];simp only [bS];rw [Th (fun x e=>by have:=d.2 x e;omega) (by omega)];rfl) (fun r h=>by have:=Jh (a r h);omega) c
def ent (t:List (List Int)) (i j:Nat):Int:=((t[i]?.getD [])[j]?).getD 0
theorem BI {t:List (List Int)} {i j:Nat} (hi:i<t.length) (a:j<t[i].length):ent t i j=t[i][j]:=by
 unfold ent;rw [List.getElem?_eq_getElem hi,Option.getD_some,List.getElem?_eq_getElem a,Option.getD_some]
theorem QH {l:List aS} (g:l.length≤1000000000) (a b:Int):tQ l a b=some (l.count ⟨a,b⟩:Int):=by
 unfold tQ
 have:=tE (Lp:=fun k i=>fL l a b k (((l.take i).count ⟨a,b⟩:Nat):Int) (i:Int)) (n:=l.length) (fin:=some (l.count ⟨a,b⟩:Int)) (fun k=>by
  show fL l a b (k+1) _ _=_
  rw [fL,if_neg (by simp),List.take_length]) (fun k i hi=>by
  show fL l a b (k+1) _ _=fL l a b k _ _;have j:(l.take i).count (⟨a,b⟩:aS)≤i:=Nat.le_trans List.count_le_length (by simp;omega);rw [fL,if_pos (by simp;omega),aH hi,ax (by omega),ax (by omega),List.take_succ_eq_append_getElem hi,List.count_append];simp only [bS];generalize l[i]=e;obtain ⟨c,d⟩:=e;by_cases h1:c=a
  ·by_cases f:d=b
   ·subst h1;subst f;simp
   have:¬((⟨c,d⟩:aS)=⟨a,b⟩):=fun h=>f (by injection h);simp [h1,f]
  have:¬((⟨c,d⟩:aS)=⟨a,b⟩):=fun h=>h1 (by injection h);simp [h1]) (by omega)
 simpa using this
def qU (t:List (List Int)):Int:=(t.map List.sum).sum
def RM (n:Int) (s:bc) (i:Nat):Prop:=∀h:i<s.q_.length,(s.q_[i].length:Int)=n∧∀j,j<s.q_[i].length→(0≤ent s.q_ i j∧ent s.q_ i j≤9999)∧(s.s_.count ⟨i,j⟩:Int)≤ent s.q_ i j
def Oh (n:Int) (p:aS):Prop:=(0≤p.Z_∧p.Z_≤n-1)∧(0≤p.aa_∧p.aa_≤n-1)
def Ub (n:Int) (s:bc):Prop:=qU s.q_≤9999∧(s.s_.length:Int)=(if 20<qU s.q_ then 20 else qU s.q_)∧∀p∈s.s_,Oh n p
def GS (n:Int) (s:bc):Prop:=(2≤n∧n≤3)∧(s.q_.length:Int)=n∧(∀i,i<s.q_.length→RM n s i)∧Ub n s
theorem Kh {n:Int} {s:bc} {i:Nat} (hi:i<s.q_.length) (h:RM n s i) (e:n≤3):s.q_[i].length≤3∧∀x∈s.q_[i],0≤x∧x≤9999:=by
 obtain ⟨h1,c⟩:=h hi;refine ⟨by omega,fun x d=>?_⟩;obtain ⟨j,a,rfl⟩:=List.mem_iff_getElem.1 d;have:=(c j a).1;rw [BI hi a] at this;exact this
theorem Oj {n:Int} {s:bc} {k:Nat} (h:∀i,i<k→RM n s i) (hk:k≤s.q_.length) (a:n≤3):Ox (s.q_.take k):=by
 intro r c;obtain ⟨i,hi,rfl⟩:=List.mem_iff_getElem.1 c;rw [List.getElem_take];rw [List.length_take] at hi;exact Kh (by omega) (h i (by omega)) a
theorem Ho {t:List (List Int)} (h:Ox t):0≤qU t∧qU t≤30000*t.length:=by
 have:=rz (p:=t.map List.sum) (b:=30000) (fun x a=>by
  obtain ⟨r,c,rfl⟩:=List.mem_map.1 a;exact Jh (h r c))
 simpa [qU] using this
theorem Qu {t:List (List Int)} {i:Nat} (h:i<t.length):qU (t.take (i+1))=qU (t.take i)+t[i].sum:=by
 unfold qU;rw [List.take_succ_eq_append_getElem h,List.map_append,List.sum_append];simp
theorem Rk {n:Int} {s:bc} (d:2≤n∧n≤3) (e:s.s_.length≤1048576):Dec (ft s n bb 0) (∀p∈s.s_,Oh n p):=by
 refine (vr (Lp:=fun k i=>ft s n k (i:Int)) (n:=s.s_.length) (Q:=fun i=>∀h:i<s.s_.length,Oh n s.s_[i]) (F:=True) (fun k _=>?_) (fun k i hi _=>?_) (by omega)).of_iff ⟨fun h p c=>?_,fun h=>⟨fun i hi _=>h _ (List.getElem_mem hi),trivial⟩⟩
 ·show Dec (ft s n (k+1) _) _;rw [ft,if_neg (by simp)];exact pj trivial
 ·show (_∧ft s n (k+1) _=ft s n k _)∨(_∧ft s n (k+1) _=_);rw [ft,if_pos (by simp;omega),aH hi,ax (by omega),aR (n:=n-1) (by omega) (by omega)];unfold aV;simp only [bS];by_cases h1:0≤s.s_[i].Z_∧s.s_[i].Z_≤n-1
  ·rw [qq h1];simp only [cS];by_cases a:0≤s.s_[i].aa_∧s.s_[i].aa_≤n-1
   ·rw [qq a];exact .inl ⟨fun _=>⟨h1,a⟩,rfl⟩
   rw [ra a];exact .inr ⟨fun g=>a (g hi).2,rfl⟩
  rw [ra h1];exact .inr ⟨fun g=>h1 (g hi).1,rfl⟩
 obtain ⟨i,hi,rfl⟩:=List.mem_iff_getElem.1 c;exact h.1 i hi hi
theorem DD {n:Int} {s:bc} (C:yn s):Dec (pR n s) (GS n s):=by
 have G:=C.2.1;unfold pR GS aV;simp only [bS];by_cases a:2≤n∧n≤3
 ·rw [qq a];by_cases e:(s.q_.length:Int)=n
  ·rw [if_neg (by simp [e])];refine Dec.of_iff (P:=(∀i,i<s.q_.length→RM n s i)∧Ub n s) ?_ ⟨fun h=>⟨a,e,h⟩,fun h=>h.2.2⟩;refine vr (Lp:=fun k i=>er n s k (qU (s.q_.take i)) (i:Int)) (n:=s.q_.length) (Q:=RM n s) (F:=Ub n s) (fun k m=>?_) (fun k i hi m=>?_) (by omega)
   ·show Dec (er n s (k+1) _ _) _;rw [er,if_neg (by simp;omega),List.take_length];have o:=Ho (Oj (k:=s.q_.length) m (Nat.le_refl _) a.2);rw [List.take_length] at o;unfold Ub;by_cases h1:qU s.q_>9999
    ·rw [if_pos (by simpa using h1)];exact bY fun g=>by have:=g.1;omega
    rw [if_neg (by simpa using h1)];unfold BF
    have D:(if decide (qU s.q_<20) then some (qU s.q_) else some 20:Option Int)=some (if 20<qU s.q_ then 20 else qU s.q_):=by
     by_cases c1:qU s.q_<20
     ·rw [if_pos (by simpa using c1),if_neg (by omega)]
     rw [if_neg (by simpa using c1)];by_cases c2:20<qU s.q_
     ·rw [if_pos c2]
     rw [if_neg c2];congr 1;omega
    rw [D];simp only [bS];by_cases c:(s.s_.length:Int)=(if 20<qU s.q_ then 20 else qU s.q_)
    ·rw [if_neg (by simp [c])];exact (Rk a (by omega)).of_iff ⟨fun g=>⟨by omega,c,g⟩,fun g=>g.2.2⟩
    rw [if_pos (by simp [c])];exact bY fun g=>c g.2.1
   show (_∧er n s (k+1) _ _=er n s k _ _)∨(_∧er n s (k+1) _ _=_);have o:=Ho (Oj (k:=i) m (by omega) a.2);rw [List.length_take] at o;rw [er,if_pos (by simp;omega),aH hi];simp only [bS];by_cases f:(s.q_[i].length:Int)=n
   ·rw [if_neg (by simp [f])]
    have l:=Az (Lp:=fun d j=>gx n s i (er n s k) d (qU (s.q_.take i)+(s.q_[i].take j).sum) (j:Int)) (n:=s.q_[i].length)
     (Q:=fun j=>(0≤ent s.q_ i j∧ent s.q_ i j≤9999)∧(s.s_.count ⟨i,j⟩:Int)≤ent s.q_ i j) (fin:=er n s k (qU (s.q_.take (i+1))) ((i+1:Nat):Int)) (bad:=some false) (fun d _=>by
      show gx n s i _ (d+1) _ _=_
      rw [gx,if_neg (by simp;omega),List.take_length,Qu hi,ax (by omega)]) (fun d j r w=>by
      show (_∧gx n s i _ (d+1) _ _=gx n s i _ d _ _)∨(_∧gx n s i _ (d+1) _ _=_)
      have t:=rz (p:=s.q_[i].take j) (b:=9999) (fun x E=>by
       obtain ⟨q,A,rfl⟩:=List.mem_iff_getElem.1 E;rw [List.length_take] at A;have:=(w q (by omega)).1;rw [BI hi (by omega)] at this;rw [List.getElem_take];exact this)
      rw [List.length_take] at t;rw [BI hi r,gx,if_pos (by simp;omega),aH hi];simp only [bS];rw [aH r,ax (by omega),CI r];unfold aV;simp only [bS];by_cases h1:0≤s.q_[i][j]∧s.q_[i][j]≤9999
      ·rw [qq h1];simp only [Bool.not_true,Bool.false_eq_true,if_false];rw [QH (by omega)];simp only [bS];by_cases c:(s.s_.count ⟨i,j⟩:Int)≤s.q_[i][j]
       ·rw [if_neg (by simp;omega),aR (by omega) (by omega),Int.add_assoc];exact .inl ⟨⟨h1,c⟩,rfl⟩
       rw [if_pos (by simp;omega)];exact .inr ⟨fun g=>c g.2,rfl⟩
      rw [ra h1];exact .inr ⟨fun g=>h1 g.1,rfl⟩) (by omega)
    simp only [List.take_zero,List.sum_nil,Int.add_zero] at l;rcases l with ⟨u,v⟩|⟨u,v⟩
    ·exact .inl ⟨fun _=>⟨f,u⟩,v⟩
    exact .inr ⟨fun g=>u (g hi).2,v⟩
   rw [if_pos (by simp [f])];exact .inr ⟨fun g=>f (g hi).1,rfl⟩
  rw [if_pos (by simp [e])];exact bY fun g=>e g.2.1
 rw [ra a];exact bY fun g=>a g.1
end Go.Vk
/- Scores: tested alike by the program. -/
namespace Go.Vk
def cm (l:List aS):List (aS×Int):=l.foldl (fun m p=>Cr m p (IntKind.i64.wrap (ko m p+1))) []
theorem UE (l:List aS):∀m:List (aS×Int),(∀q,0≤ko m q∧ko m q+l.length≤1000000000)→∀q,ko (l.foldl (fun m p=>Cr m p (IntKind.i64.wrap (ko m p+1))) m) q=ko m q+l.count q:=by
 induction l with
 | nil=>intro m _ q;simp
 | cons p l ih =>
  intro m a q;rw [List.foldl_cons];have d:=a p;simp only [List.length_cons] at a d;have c:IntKind.i64.wrap (ko m p+1)=ko m p+1:=aR (by omega) (by omega)
  rw [ih _ (fun q=>by
   rw [Ms,c];have:=a q;split<;>omega) q,Ms,c,List.count_cons]
  by_cases h:q=p
  ·subst h;simp;omega
  have:¬(p=q):=fun e=>h e.symm;simp [h,this]
theorem Vx {l:List aS} (a:l.length≤1000000000) (q:aS):ko (cm l) q=(l.count q:Int):=by
 unfold cm;rw [UE l [] (fun q=>by simp [ko];omega) q];simp [ko]
theorem OF {l:List aS} {i:Nat} (h:i<l.length):cm (l.take (i+1))=Cr (cm (l.take i)) l[i] (IntKind.i64.wrap (ko (cm (l.take i)) l[i]+1)):=by
 unfold cm;rw [List.take_succ_eq_append_getElem h,List.foldl_append];rfl
theorem Ls {r:List Int} (e:r.length≤1048576):Dec (dn r) (∃x∈r,¬(0≤x∧x≤9999)):=by
 unfold dn eC
 refine (uz (Lp:=cF r) (n:=r.length) (Q:=fun j=>∀a:j<r.length,¬(0≤r[j]∧r[j]≤9999)) (fun k j a=>by
  show (if _ then _ else _)=_
  rw [if_neg (by simp;omega)]) (fun k j a=>by
  rw [cF,if_pos (by simp;omega),aH a,ax (by omega)];unfold wh bf;simp only [bS];by_cases c:0≤r[j]∧r[j]≤9999
  ·rw [qq c];exact .inr ⟨fun g=>g a c,rfl⟩
  rw [ra c];exact .inl ⟨fun _=>c,rfl⟩) (by omega)).of_iff ⟨fun ⟨i,hi,h⟩=>⟨r[i],List.getElem_mem hi,h hi⟩,fun ⟨x,d,h⟩=>?_⟩
 obtain ⟨i,hi,rfl⟩:=List.mem_iff_getElem.1 d;exact ⟨i,hi,fun _=>h⟩
def UG (n:Int) (s:bc) (i:Nat):Prop:=∀h:i<s.q_.length,(s.q_[i].length:Int)=n∧∀x∈s.q_[i],0≤x∧x≤9999
def On (n:Int) (s:bc) (i:Nat):Prop:=∀h:i<s.s_.length,Oh n s.s_[i]∧((s.s_.take (i+1)).count s.s_[i]:Int)≤ent s.q_ s.s_[i].Z_.toNat s.s_[i].aa_.toNat
theorem NC {n:Int} {s:bc}:GS n s↔((2≤n∧n≤3)∧(s.q_.length:Int)=n∧(∀i,i<s.q_.length→UG n s i)∧qU s.q_≤9999∧(s.s_.length:Int)=(if 20<qU s.q_ then 20 else qU s.q_)∧∀i,i<s.s_.length→On n s i):=by
 constructor
 ·rintro ⟨e,g,a,h1,k,d⟩;refine ⟨e,g,fun i hi h=>⟨(a i hi h).1,(Kh h (a i hi) e.2).2⟩,h1,k,fun i hi h=>⟨d _ (List.getElem_mem h),?_⟩⟩;have c:=d _ (List.getElem_mem h);have m:s.s_[i].Z_.toNat<s.q_.length:=by have:=c.1;omega
  obtain ⟨o,f⟩:=a _ m m;have r:s.s_[i].aa_.toNat<s.q_[s.s_[i].Z_.toNat].length:=by have:=c.2;omega
  have t:=(f _ r).2
  have w:(⟨(s.s_[i].Z_.toNat:Int),(s.s_[i].aa_.toNat:Int)⟩:aS)=s.s_[i]:=by
   rw [Int.toNat_of_nonneg c.1.1,Int.toNat_of_nonneg c.2.1]
  rw [w] at t;have C:(s.s_.take (i+1)).count s.s_[i]≤s.s_.count s.s_[i]:=(List.take_sublist _ _).count_le _;omega
 rintro ⟨e,g,a,h1,k,d⟩;refine ⟨e,g,fun i hi h=>⟨(a i hi h).1,fun j l=>?_⟩,h1,k,fun p c=>?_⟩
 ·have o:=(a i hi h).2 _ (List.getElem_mem l);rw [BI h l];refine ⟨o,?_⟩;by_cases u:(⟨(i:Int),(j:Int)⟩:aS)∈s.s_
  ·obtain ⟨q,v,x,A⟩:=Ny u;obtain ⟨_,f⟩:=d q v v;rw [x,A] at f
   have:ent s.q_ (Int.toNat i) (Int.toNat j)=s.q_[i][j]:=by
    rw [Int.toNat_natCast,Int.toNat_natCast,BI h l]
   simp only at f;omega
  rw [List.count_eq_zero.2 u];omega
 obtain ⟨i,hi,rfl⟩:=List.mem_iff_getElem.1 c;exact (d i hi hi).1
theorem Ta {n:Int} {s:bc} (p:2≤n∧n≤3) (q:s.s_.length≤1048576) (r:(s.q_.length:Int)=n) (j:∀i,i<s.q_.length→UG n s i):Dec (fD s n bb 0 []) (∀i,i<s.s_.length→On n s i):=by
 refine (vr (Lp:=fun k i=>fD s n k (i:Int) (cm (s.s_.take i))) (n:=s.s_.length) (Q:=On n s) (F:=True) (fun k _=>?_) (fun k i hi _=>?_) (by omega)).of_iff ⟨fun h=>h.1,fun h=>⟨h,trivial⟩⟩
 ·show Dec (fD s n (k+1) _ _) _;rw [fD,if_neg (by simp)];exact pj trivial
 show (_∧fD s n (k+1) _ _=fD s n k _ _)∨(_∧fD s n (k+1) _ _=_);have e:=Vx (l:=s.s_.take (i+1)) (by simp;omega) s.s_[i];rw [fD,if_pos (by simp;omega),aH hi,ax (by omega),aR (n:=n-1) (by omega) (by omega),OF hi];rw [OF hi] at e;unfold bf;simp only [bS];by_cases h1:0≤s.s_[i].Z_∧s.s_[i].Z_≤n-1
 ·rw [qq h1];simp only [cS];by_cases a:0≤s.s_[i].aa_∧s.s_[i].aa_≤n-1
  ·rw [qq a];simp only [Bool.not_true,Bool.false_eq_true,if_false];have c:s.s_[i].Z_.toNat<s.q_.length:=by omega
   have d:s.s_[i].aa_.toNat<s.q_[s.s_[i].Z_.toNat].length:=by have:=(j _ c c).1;omega
   have m:idx s.q_ s.s_[i].Z_=some s.q_[s.s_[i].Z_.toNat]:=by
    have:=aH c;rwa [Int.toNat_of_nonneg h1.1] at this
   have o:idx s.q_[s.s_[i].Z_.toNat] s.s_[i].aa_=some s.q_[s.s_[i].Z_.toNat][s.s_[i].aa_.toNat]:=by
    have:=aH d;rwa [Int.toNat_of_nonneg a.1] at this
   rw [m];simp only [bS];rw [o];simp only [bS];rw [e];by_cases f:((s.s_.take (i+1)).count s.s_[i]:Int)≤s.q_[s.s_[i].Z_.toNat][s.s_[i].aa_.toNat]
   ·rw [if_neg (by simp;omega)];exact .inl ⟨fun _=>⟨⟨h1,a⟩,by rw [BI c d];exact f⟩,rfl⟩
   rw [if_pos (by simp;omega)];exact .inr ⟨fun g=>f (by have:=(g hi).2;rwa [BI c d] at this),rfl⟩
  rw [ra a];exact .inr ⟨fun g=>a (g hi).1.2,rfl⟩
 rw [ra h1];exact .inr ⟨fun g=>h1 (g hi).1.1,rfl⟩
theorem Pq {n:Int} {s:bc} (q:yn s):Dec (ve n s) (GS n s):=by
 have u:=q.2.1;refine Dec.of_iff ?_ NC.symm;unfold ve bf;simp only [bS];by_cases d:2≤n∧n≤3
 ·rw [qq d];by_cases f:(s.q_.length:Int)=n
  ·rw [if_neg (by simp [f])];refine Dec.of_iff (P:=(∀i,i<s.q_.length→UG n s i)∧qU s.q_≤9999∧(s.s_.length:Int)=(if 20<qU s.q_ then 20 else qU s.q_)∧∀i,i<s.s_.length→On n s i) ?_ ⟨fun h=>⟨d,f,h⟩,fun h=>h.2.2⟩;refine vr (Lp:=fun k i=>gy s n k (i:Int)) (n:=s.q_.length) (Q:=UG n s) (fun k m=>?_) (fun k i hi m=>?_) (by omega)
   ·show Dec (gy s n (k+1) _) _
    have j:Ox s.q_:=fun r a=>by
     obtain ⟨i,hi,rfl⟩:=List.mem_iff_getElem.1 a;obtain ⟨v,t⟩:=m i hi hi;exact ⟨by omega,t⟩
    rw [gy,if_neg (by simp),MB j (by omega)];simp only [bS];show Dec (if (decide (qU s.q_>9999)||_) then _ else _) _;by_cases h1:qU s.q_>9999
    ·rw [if_pos (by simp [h1])];exact bY fun g=>by have:=g.1;omega
    by_cases l:(s.s_.length:Int)=(if 20<qU s.q_ then 20 else qU s.q_)
    ·rw [if_neg (by simp only [h1,decide_false,Bool.false_or,bne_iff_ne,ne_eq,Decidable.not_not];exact l)];exact (Ta d (by omega) f m).of_iff ⟨fun g=>⟨by omega,l,g⟩,fun g=>g.2.2⟩
    rw [if_pos (by simp only [h1,decide_false,Bool.false_or,bne_iff_ne,ne_eq];exact l)];exact bY fun g=>l g.2.1
   show (_∧gy s n (k+1) _=gy s n k _)∨(_∧gy s n (k+1) _=_);rw [gy,if_pos (by simp;omega),aH hi,ax (by omega)];simp only [bS];by_cases a:(s.q_[i].length:Int)=n
   ·rw [if_neg (by simp [a])];rcases (Ls (r:=s.q_[i]) (by omega)).cases with ⟨e,x,o,p⟩|⟨e,p⟩
    ·rw [e];exact .inr ⟨fun g=>p ((g hi).2 x o),rfl⟩
    rw [e];exact .inl ⟨fun _=>⟨a,fun x o=>Classical.byContradiction fun c=>p ⟨x,o,c⟩⟩,rfl⟩
   rw [if_pos (by simp [a])];exact .inr ⟨fun g=>a (g hi).1,rfl⟩
  rw [if_pos (by simp [f])];exact bY fun g=>f g.2.1
 rw [ra d];exact bY fun g=>d g.1
end Go.Vk
/- Rules, members, forests, states: tested alike. -/
namespace Go.Vk
theorem CT (c y:Bool):(if c=true then some y else some false:Option Bool)=some (c&&y):=by cases c<;>rfl
theorem tP (o:Option Bool):(o.bind fun y=>some y)=o:=by cases o<;>rfl
theorem TY {o k:Option Bool} {P Q:Prop} (h:Dec o P) (h':P→Dec k Q):Dec (o.bind fun y=>if y=true then k else some false) (P∧Q):=h.and h'
def Ja (r:bZ):Prop:=(1≤r.U_∧r.U_≤9)∧(0≤r.T_∧r.T_≤999)∧(1≤r.V_∧r.V_≤200)∧(0≤r.r_∧r.r_≤6)∧(1≤r.a_∧r.a_≤31)∧(62≤r.K_∧r.K_≤2000)
theorem zQ (r:bZ):Dec (oQ r) (Ja r):=by
 unfold oQ aV Ja;simp only [Option.bind_some,CT];exact ⟨_,rfl,by simp [and_assoc]⟩
theorem LC (r:bZ):Dec (uj r) (Ja r):=by
 unfold uj bf Ja;simp only [Option.bind_some,CT];exact ⟨_,rfl,by simp [and_assoc]⟩
def va (c:bh):Prop:=fV c.y_∧Ja c.k_∧(1≤c.u_∧c.u_≤4)∧(1≤c.W_∧c.W_≤(c.y_.c_.length:Int))∧(c.Y_=1∨c.Y_=6)∧(1≤c.w_∧c.w_≤9)∧(1≤c.x_∧c.x_≤9)∧c.w_≤c.x_
theorem UD (x:Int):Dec ((kN x).bind fun y=>some (decide ((y.length:Int)>0))) (x=1∨x=6):=by
 unfold kN;by_cases h1:x=1
 ·rw [if_pos (by simpa using h1)];exact pj (.inl h1)
 rw [if_neg (by simpa using h1)];by_cases a:x=6
 ·rw [if_pos (by simpa using a)];exact pj (.inr a)
 rw [if_neg (by simpa using a)];exact bY (by omega)
theorem Uc (x:Int):Dec ((qO x).bind fun y=>some (!y.2)) (x=1∨x=6):=by
 unfold qO;by_cases h1:x=1
 ·rw [if_pos (by simpa using h1)];exact pj (.inl h1)
 rw [if_neg (by simpa using h1)];by_cases a:x=6
 ·rw [if_pos (by simpa using a)];exact pj (.inr a)
 rw [if_neg (by simpa using a)];exact bY (by omega)
theorem Dd {c:bh} (l:bi c.y_):Dec (pt c) (va c):=by
 unfold pt va;rcases (mH (la l)).cases with ⟨e,d⟩|⟨e,d⟩
 ·rw [e];simp only [Option.bind_some,if_true];rcases (zQ c.k_).cases with ⟨e,f⟩|⟨e,f⟩
  ·rw [e];simp only [Option.bind_some,if_true];rcases (cE (x:=c.u_) (a:=1) (b:=4)).cases with ⟨e,h1⟩|⟨e,h1⟩
   ·rw [e];simp only [Option.bind_some,if_true];rcases (cE (x:=c.W_) (a:=1) (b:=(c.y_.c_.length:Int))).cases with ⟨e,h⟩|⟨e,h⟩
    ·rw [e];simp only [Option.bind_some,if_true];rcases (UD c.Y_).cases with ⟨e,i⟩|⟨e,i⟩
     ·rw [e];simp only [Option.bind_some,if_true];rcases (cE (x:=c.w_) (a:=1) (b:=9)).cases with ⟨e,j⟩|⟨e,j⟩
      ·rw [e];simp only [Option.bind_some,if_true];rcases (cE (x:=c.x_) (a:=1) (b:=9)).cases with ⟨e,k⟩|⟨e,k⟩
       ·rw [e];simp only [Option.bind_some,Bool.true_and];refine ⟨_,rfl,?_⟩;rw [decide_eq_true_iff];exact ⟨fun g=>⟨d,f,h1,h,i,j,k,g⟩,fun g=>g.2.2.2.2.2.2.2⟩
       rw [e];exact bY fun g=>k g.2.2.2.2.2.2.1
      rw [e];exact bY fun g=>j g.2.2.2.2.2.1
     rw [e];exact bY fun g=>i g.2.2.2.2.1
    rw [e];exact bY fun g=>h g.2.2.2.1
   rw [e];exact bY fun g=>h1 g.2.2.1
  rw [e];exact bY fun g=>f g.2.1
 rw [e];exact bY fun g=>d g.1
theorem Hj {c:bh} (l:bi c.y_):Dec (oW c) (va c):=by
 unfold oW va;rcases (oV (la l)).cases with ⟨e,d⟩|⟨e,d⟩
 ·rw [e];simp only [Option.bind_some,if_true];rcases (LC c.k_).cases with ⟨e,f⟩|⟨e,f⟩
  ·rw [e];simp only [Option.bind_some,if_true];rcases (eW (x:=c.u_) (a:=1) (b:=4)).cases with ⟨e,h1⟩|⟨e,h1⟩
   ·rw [e];simp only [Option.bind_some,if_true];rcases (eW (x:=c.W_) (a:=1) (b:=(c.y_.c_.length:Int))).cases with ⟨e,h⟩|⟨e,h⟩
    ·rw [e];simp only [Option.bind_some,if_true];rcases (Uc c.Y_).cases with ⟨e,i⟩|⟨e,i⟩
     ·rw [e];simp only [Option.bind_some,if_true];rcases (eW (x:=c.w_) (a:=1) (b:=9)).cases with ⟨e,j⟩|⟨e,j⟩
      ·rw [e];simp only [Option.bind_some,if_true];rcases (eW (x:=c.x_) (a:=1) (b:=9)).cases with ⟨e,k⟩|⟨e,k⟩
       ·rw [e];simp only [Option.bind_some,Bool.true_and];refine ⟨_,rfl,?_⟩;rw [decide_eq_true_iff];exact ⟨fun g=>⟨d,f,h1,h,i,j,k,g⟩,fun g=>g.2.2.2.2.2.2.2⟩
       rw [e];exact bY fun g=>k g.2.2.2.2.2.2.1
      rw [e];exact bY fun g=>j g.2.2.2.2.2.1
     rw [e];exact bY fun g=>i g.2.2.2.2.1
    rw [e];exact bY fun g=>h g.2.2.2.1
   rw [e];exact bY fun g=>h1 g.2.2.1
  rw [e];exact bY fun g=>f g.2.1
 rw [e];exact bY fun g=>d g.1
def uC (l:List aA):Nat→Int
 | 0=>0
 | i+1=>if i=0∨(l.getD i default).r_>uC l i then (l.getD i default).r_ else uC l i
theorem Wv {l:List aA} {i:Nat} (h:i<l.length):l.getD i default=l[i]:=by simp [h]
theorem Qh {t:ao} (c:t.a_.length≤1048576):qe t=some (uC t.a_ t.a_.length):=by
 unfold qe;refine tE (Lp:=fun k i=>ew t k (uC t.a_ i) (i:Int)) (n:=t.a_.length) (fun k=>?_) (fun k i hi=>?_) (by omega)
 ·show ew t (k+1) _ _=_;rw [ew,if_neg (by simp)]
 show ew t (k+1) _ _=ew t k _ _;rw [ew,if_pos (by simp;omega),aH hi,ax (by omega)];simp only [Option.bind_some,uC];rw [Wv hi];by_cases a:i=0
 ·rw [if_pos (by simp only [beq_iff_eq];omega),if_pos (.inl a)];simp only [Option.bind_some,if_true]
 rw [if_neg (by simp only [beq_iff_eq];omega)];simp only [bS];by_cases h1:t.a_[i].r_>uC t.a_ i
 ·rw [if_pos (by simpa using h1),if_pos (.inr h1)]
 rw [if_neg (by simpa using h1),if_neg (fun g=>g.elim a h1)]
theorem Qw {t:ao} (d:t.a_.length≤1048576):vp t=some (uC t.a_ t.a_.length):=by
 unfold vp;by_cases c:t.a_.length=0
 ·rw [if_pos (by simp only [beq_iff_eq];omega),c];rfl
 rw [if_neg (by simp only [beq_iff_eq];omega),show (0:Int)=((0:Nat):Int) from rfl,aH (show 0<t.a_.length by omega)];simp only [bS]
 have h:=tE (Lp:=fun k i=>im t k (i:Int) (if i=0 then (t.a_[0]'(by omega)).r_ else uC t.a_ i)) (n:=t.a_.length) (fin:=some (uC t.a_ t.a_.length)) (fun k=>by
  show im t (k+1) _ _=_
  rw [im,if_neg (by simp),if_neg c]) (fun k i hi=>by
  show im t (k+1) _ _=im t k _ _;rw [im,if_pos (by simp;omega),aH hi,ax (by omega)];simp only [bS];congr 1;rw [if_neg (Nat.succ_ne_zero i)];simp only [uC];rw [Wv hi];by_cases a:i=0
  ·subst a;rw [if_pos rfl,if_pos (show (0=0∨_) from .inl rfl),if_neg (Int.lt_irrefl _)]
  rw [if_neg a];by_cases h1:t.a_[i].r_>uC t.a_ i
  ·rw [if_pos h1,if_pos (Or.inr h1)]
  rw [if_neg h1,if_neg (fun g:i=0∨_=>g.elim a h1)]) (by omega)
 exact h
def xB (n:aA):Int:=if n.A_=true then 2+(n.o_.d_.map fun c=>(c.length:Int)).sum else 1
def HH (t:ao):Int:=(t.a_.map xB).sum
theorem Cc {α ρ:Type} {p:List α} (v:α→Int) (a:Int) (Lp:Nat→Int→Int→Option ρ) (fin:Int→Option ρ) (c:∀k s,Lp (k+1) s (p.length:Int)=fin s)
  (d:∀k s (i:Nat) (h:i<p.length),Lp (k+1) s (i:Int)=Lp k (IntKind.i64.wrap (s+v p[i])) ((i+1:Nat):Int)) (e:∀x∈p,0≤v x∧v x≤1000000000) (j:p.length≤1000000000) (l:0≤a∧a≤1000000000):Lp bb a 0=fin (a+(p.map v).sum):=by
 have:=tE (Lp:=fun k i=>Lp k (a+((p.map v).take i).sum) (i:Int)) (n:=p.length) (fin:=fin (a+(p.map v).sum)) (fun k=>by
  show Lp _ _ _=_
  rw [c,List.take_of_length_le (by simp)]) (fun k i hi=>by
  show Lp _ _ _=Lp _ _ _
  have h1:=rz (p:=(p.map v).take (i+1)) (b:=1000000000) (fun x f=>by
   obtain ⟨y,g,rfl⟩:=List.mem_map.1 (LB f);exact e y g)
  rw [d _ _ _ hi];rw [CI (by simpa using hi)] at h1 ⊢;rw [List.getElem_map] at h1 ⊢;have m:((p.map v).take (i+1)).length≤1000000000:=by simp;omega
  rw [aR (by omega) (by omega),Int.add_assoc]) (by omega)
 simpa using this
theorem NZ {n:aA} (a:qx n) (h:n.o_.d_.length≤5):0≤xB n∧xB n≤10000000:=by
 unfold xB;split
 ·have d:=a.2.2.2.2.1.2
  have:=rz (p:=n.o_.d_.map fun c=>(c.length:Int)) (b:=1048576) (fun x e=>by
   obtain ⟨y,f,rfl⟩:=List.mem_map.1 e;have:=(d.2 y f).1;omega)
  simp only [List.length_map] at this;omega
 omega
theorem PY {n:aA} (a:qx n) (h:n.o_.d_.length≤5):pX n=some (xB n):=by
 unfold pX xB;have d:=a.2.2.2.2.1.2;cases f:n.A_
 ·rfl
 simp only [Bool.not_true,Bool.false_eq_true,if_true,if_false]
 exact Cc (p:=n.o_.d_) (fun c=>(c.length:Int)) 2 (ju n) some (fun k s=>by
  show (if _ then _ else _)=_
  rw [if_neg (by simp)]) (fun k s i hi=>by
  rw [ju,if_pos (by simp;omega),aH hi,ax (by omega)];rfl) (fun x e=>by have:=(d.2 x e).1;omega) (by omega) (by omega)
theorem Qi {n:aA} (a:qx n) (h:n.o_.d_.length≤5):vG n=some (xB n):=by
 unfold vG xB;have d:=a.2.2.2.2.1.2;cases f:n.A_
 ·rfl
 simp only [Bool.not_true,Bool.false_eq_true,if_true,if_false]
 exact Cc (p:=n.o_.d_) (fun c=>(c.length:Int)) 2 (fun k s i=>kQ n k i s) some (fun k s=>by
  show (if _ then _ else _)=_
  rw [if_neg (by simp)]) (fun k s i hi=>by
  show kQ n (k+1) _ _=kQ n k _ _;rw [kQ,if_pos (by simp;omega),aH hi,ax (by omega)];rfl) (fun x e=>by have:=(d.2 x e).1;omega) (by omega) (by omega)
theorem Gl {s:ae} {t:ao} (a:wa s t) {i:Nat} (hi:i<t.a_.length):t.a_[i].o_.d_.length≤5:=by
 have h:=(a.2.2.2 i hi hi).1.2.2.1;have:=a.1.1;rcases h.2.2.2.2 with g|g
 ·omega
 have:=g.1;omega
theorem Io {s:ae} {t:ao} (c:iN t) (a:wa s t):lH t=some (HH t):=by
 unfold lH HH;have e:=a.2.1
 have h:=Cc (p:=t.a_) xB 0 (gR t) some (fun k s=>by
  show (if _ then _ else _)=_
  rw [if_neg (by simp)]) (fun k s i hi=>by
  rw [gR,if_pos (by simp;omega),aH hi,ax (by omega)];simp only [bS];rw [PY (c.1.2 _ (List.getElem_mem hi)) (Gl a hi)]
  rfl) (fun x d=>by
   obtain ⟨i,hi,rfl⟩:=List.getElem_of_mem d;have:=NZ (c.1.2 _ (List.getElem_mem hi)) (Gl a hi);omega) (by omega) (by omega)
 rw [Int.zero_add] at h;exact h
theorem IR {s:ae} {t:ao} (c:iN t) (a:wa s t):rQ t=some (HH t):=by
 unfold rQ HH;have e:=a.2.1
 have h:=Cc (p:=t.a_) xB 0 (mw t) some (fun k s=>by
  show (if _ then _ else _)=_
  rw [if_neg (by simp)]) (fun k s i hi=>by
  rw [mw,if_pos (by simp;omega),aH hi,ax (by omega)];simp only [bS];rw [Qi (c.1.2 _ (List.getElem_mem hi)) (Gl a hi)]
  rfl) (fun x d=>by
   obtain ⟨i,hi,rfl⟩:=List.getElem_of_mem d;have:=NZ (c.1.2 _ (List.getElem_mem hi)) (Gl a hi);omega) (by omega) (by omega)
 rw [Int.zero_add] at h;exact h
def Jn (s:ae) (r:bZ) (t:ao):Prop:=wa s t∧Ja r∧(t.a_.length:Int)≤r.a_∧uC t.a_ t.a_.length≤r.r_∧HH t≤r.K_
theorem Mj {s:ae} {r:bZ} {t:ao} (f:bi s) (c:iN t):Dec (rj s r t) (Jn s r t):=by
 unfold rj Jn;rcases (wj f c).cases with ⟨e,a⟩|⟨e,a⟩
 ·rw [e];simp only [Option.bind_some,if_true];rcases (zQ r).cases with ⟨e,d⟩|⟨e,d⟩
  ·rw [e,Qh c.1.1,Io c a];simp only [Option.bind_some,Bool.true_and,CT];refine ⟨_,rfl,?_⟩;simp [a,d,and_assoc]
  rw [e];exact bY fun g=>d g.2.1
 rw [e];exact bY fun g=>a g.1
theorem Lx {s:ae} {r:bZ} {t:ao} (f:bi s) (c:iN t):Dec (xR s r t) (Jn s r t):=by
 unfold xR Jn;rcases (RY f c).cases with ⟨e,a⟩|⟨e,a⟩
 ·rw [e];simp only [Option.bind_some,if_true];rcases (LC r).cases with ⟨e,d⟩|⟨e,d⟩
  ·rw [e,Qw c.1.1,IR c a];simp only [Option.bind_some,Bool.true_and,CT];refine ⟨_,rfl,?_⟩;simp [a,d,and_assoc]
  rw [e];exact bY fun g=>d g.2.1
 rw [e];exact bY fun g=>a g.1
def SN (d:cW):Prop:=Gc d.w_∧Gc d.x_
theorem Up (d:cW):Dec (zc d) (SN d):=by
 unfold zc SN;simp only [tP];exact (Ce d.w_).and fun _=>Ce d.x_
theorem Ut {d:cW} (a:OU d):Dec (yB d) (SN d):=by
 unfold yB SN;simp only [tP];exact (NO a.1).and fun _=>NO a.2
def Kv (t:ao):Prop:=t.a_.length=0∧t.m_=0
theorem Rh (t:ao):Dec (tW t (ao.mk [] 0)) (Kv t):=by
 unfold tW Kv;simp only [tP];by_cases h:t.m_=0
 ·rw [if_pos (by simpa using h)];unfold ct;by_cases a:t.a_.length=0
  ·rw [if_neg (by simp [a])];obtain ⟨k,hk⟩:∃k,bb=k+1:=⟨bb-1,by have:=cN (n:=0) (by omega);omega⟩;rw [hk,bF,if_neg (by simp [List.length_eq_zero_iff.1 a])];exact pj ⟨a,h⟩
  rw [if_pos (by simp;exact fun e=>a (by rw [e];rfl))];exact bY fun g=>a g.1
 rw [if_neg (by simpa using h)];exact bY fun g=>h g.2
def xl (c:bh) (m:aF):Prop:=va c∧Jn c.y_ c.k_ m.D_∧SN m.C_∧(m.Q_=true→Jn c.y_ c.k_ m.t_)∧(m.Q_=false→Kv m.t_)
theorem Ie {c:bh} {m:aF} (j:bi c.y_) (k:sY m):Dec (qG c m) (xl c m):=by
 unfold qG xl;rcases (Dd j).cases with ⟨e,d⟩|⟨e,d⟩
 ·rw [e];simp only [cS];rcases (Mj (r:=c.k_) j k.1).cases with ⟨e,f⟩|⟨e,f⟩
  ·rw [e];simp only [cS];rcases (Up m.C_).cases with ⟨e,i⟩|⟨e,i⟩
   ·rw [e];simp only [Option.bind_some,Bool.not_true,Bool.false_eq_true,if_false,tP];by_cases a:m.Q_=true
    ·rw [if_pos a];exact (Mj j k.2.2.1).of_iff ⟨fun g=>⟨d,f,i,fun _=>g,fun h=>by rw [a] at h;cases h⟩,fun g=>g.2.2.2.1 a⟩
    rw [if_neg a];have hy':m.Q_=false:=by simpa using a
    refine ⟨_,rfl,?_⟩;rw [Bool.and_eq_true,beq_iff_eq,beq_iff_eq];exact ⟨fun g=>⟨d,f,i,fun h=>absurd h a,fun _=>⟨by omega,g.2⟩⟩,fun g=>⟨by have:=(g.2.2.2.2 hy').1;omega,(g.2.2.2.2 hy').2⟩⟩
   rw [e];exact bY fun g=>i g.2.2.1
  rw [e];exact bY fun g=>f g.2.1
 rw [e];exact bY fun g=>d g.1
theorem MZ {c:bh} {m:aF} (j:bi c.y_) (k:sY m):Dec (tS c m) (xl c m):=by
 unfold tS xl;rcases (Hj j).cases with ⟨e,d⟩|⟨e,d⟩
 ·rw [e];simp only [cS];rcases (Lx (r:=c.k_) j k.1).cases with ⟨e,f⟩|⟨e,f⟩
  ·rw [e];simp only [cS];rcases (Ut k.2.2.2).cases with ⟨e,i⟩|⟨e,i⟩
   ·rw [e];simp only [Option.bind_some,Bool.not_true,Bool.false_eq_true,if_false,tP];by_cases a:m.Q_=true
    ·rw [if_pos a];exact (Lx j k.2.2.1).of_iff ⟨fun g=>⟨d,f,i,fun _=>g,fun h=>by rw [a] at h;cases h⟩,fun g=>g.2.2.2.1 a⟩
    rw [if_neg a];have hy':m.Q_=false:=by simpa using a
    exact (Rh m.t_).of_iff ⟨fun g=>⟨d,f,i,fun h=>absurd h a,fun _=>g⟩,fun g=>g.2.2.2.2 hy'⟩
   rw [e];exact bY fun g=>i g.2.2.1
  rw [e];exact bY fun g=>f g.2.1
 rw [e];exact bY fun g=>d g.1
def Ca (c:bh) (f:bA):Prop:=va c∧(f.u_.length:Int)=c.u_∧∀m∈f.u_,xl c m
theorem Gy {c:bh} {f:bA} (j:bi c.y_) (l:tx f):Dec (qB c f) (Ca c f):=by
 unfold qB Ca;have p:f.u_.length≤1048576:=l.1;rcases (Dd j).cases with ⟨e,d⟩|⟨e,d⟩
 ·rw [e];simp only [Option.bind_some,Bool.not_true,Bool.false_or];by_cases a:(f.u_.length:Int)=c.u_
  ·rw [if_neg (by simpa using a)]
   refine (pI (Lp:=nw f c) (n:=f.u_.length) (Q:=fun i=>∀h:i<f.u_.length,xl c f.u_[i]) 0 (fun k i hi=>?_) (fun k i _ hi=>?_) (by omega)).of_iff ⟨fun g=>⟨d,a,fun m o=>by
    obtain ⟨i,hi,rfl⟩:=List.getElem_of_mem o;exact g i (Nat.zero_le _) hi hi⟩,fun g i _ hi _=>g.2.2 _ (List.getElem_mem hi)⟩
   ·show (if _ then _ else _)=_;rw [if_neg (by simp;omega)]
   rw [nw,if_pos (by simp;omega),aH hi,ax (by omega)];simp only [bS];rcases (Ie j (l.2 _ (List.getElem_mem hi))).cases with ⟨e,h⟩|⟨e,h⟩
   ·rw [e];exact .inl ⟨fun _=>h,rfl⟩
   rw [e];exact .inr ⟨fun g=>h (g hi),rfl⟩
  rw [if_pos (by simpa using a)];exact bY fun g=>a g.2.1
 rw [e];exact bY fun g=>d g.1
theorem Ns {c:bh} {f:bA} (j:bi c.y_) (l:tx f):Dec (tM c f) (Ca c f):=by
 unfold tM Ca;have q:f.u_.length≤1048576:=l.1;rcases (Hj j).cases with ⟨e,d⟩|⟨e,d⟩
 ·rw [e];simp only [Option.bind_some,Bool.true_and,tP];by_cases a:(f.u_.length:Int)=c.u_
  ·rw [if_pos (by simpa using a)]
   have o:Dec (cq f.u_ c) (∃i,i<f.u_.length∧∀h:i<f.u_.length,¬xl c f.u_[i]):=by
    unfold cq dh;refine uz (Lp:=bM f.u_ c) (n:=f.u_.length) (fun k i hi=>?_) (fun k i hi=>?_) (by omega)
    ·show (if _ then _ else _)=_;rw [if_neg (by simp;omega)]
    rw [bM,if_pos (by simp;omega),aH hi,ax (by omega)];unfold uQ;simp only [bS];rcases (MZ j (l.2 _ (List.getElem_mem hi))).cases with ⟨e,h⟩|⟨e,h⟩
    ·rw [e];exact .inr ⟨fun g=>g hi h,rfl⟩
    rw [e];exact .inl ⟨fun _=>h,rfl⟩
   rcases o.cases with ⟨e,i,hi,h⟩|⟨e,h⟩
   ·rw [e];exact bY fun g=>h hi (g.2.2 _ (List.getElem_mem hi))
   rw [e];exact pj ⟨d,a,fun m p=>by
    obtain ⟨i,hi,rfl⟩:=List.getElem_of_mem p;exact Classical.byContradiction fun g=>h ⟨i,hi,fun _=>g⟩⟩
  rw [if_neg (by simpa using a)];exact bY fun g=>a g.2.1
 rw [e];exact bY fun g=>d g.1
def wn (st:aM):Prop:=Ca st.l_ st.ab_∧GS (st.l_.y_.g_.length:Int) st.N_
theorem AQ {st:aM} (h:kK st):Dec (sN st) (wn st):=by
 unfold sN wn;simp only [tP];exact (Gy h.1.1 h.2.1).and fun _=>DD h.2.2
theorem Jt {st:aM} (h:kK st):Dec (sx st) (wn st):=by
 unfold sx wn;simp only [tP];exact (Ns h.1.1 h.2.1).and fun _=>Pq h.2.2
end Go.Vk
