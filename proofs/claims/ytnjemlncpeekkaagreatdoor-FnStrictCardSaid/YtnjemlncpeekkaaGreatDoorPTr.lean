/- Attributes' places, branches, nodes, trees: tested alike. -/
import Derived.Test.YtnjemlncpeekkaaGreatDoorRX
import Derived.Test.YtnjemlncpeekkaaGreatDoorVkBr
namespace Go.Vk
def Asc (l:List Int):Prop:=∀i,1≤i→i<l.length→∀h:i<l.length,l[i-1]<l[i]
theorem So {l:List Int}(d:l.length≤1048576):Dec (ku l) (Asc l):=by
 unfold ku;refine qt (Lp:=ji l) (n:=l.length) (Q:=fun i=>∀h:i<l.length,l[i-1]<l[i]) 1 (fun k i a=>?_) (fun k i h1 a=>?_) (by omega)
 ·show (if _ then _ else _)=_;rw [if_neg (by simp;omega)]
 rw [ji,if_pos (by simp;omega),aH a,ax (by omega),aP (by omega) (by omega),show (i:Int)-1=((i-1:Nat):Int) by omega,aH (show i-1<l.length by omega)];simp only [bS];by_cases c:l[i]≤l[i-1]
 ·rw [if_pos (by simpa using c)];exact .inr ⟨fun g=>by have:=g a;omega,rfl⟩
 rw [if_neg (by simpa using c)];exact .inl ⟨fun _=>by omega,rfl⟩
theorem Asc.le {l:List Int}(h:Asc l):∀{j:Nat}(i:Nat)(c:i≤j)(a:j<l.length),l[i]≤l[j]
 | 0,i,c,a=>by
  have:i=0:=by omega
  subst this;exact Int.le_refl _
 | j+1,i,c,a=>by
  by_cases e:i=j+1
  ·subst e;exact Int.le_refl _
  have h1:=h.le (j:=j) i (by omega) (by omega);have d:=h (j+1) (by omega) a a;simp only [Nat.add_sub_cancel] at d;omega
def AY (s:ae)(l:List Int):Prop:=fL s∧l.length≠0∧∀i,0≤i→i<l.length→∀h:i<l.length,(0≤l[i]∧l[i]≤(s.c_.length:Int)-1)∧(0<i→l[i-1]<l[i])
theorem wl {s:ae}{l:List Int}(f:ba s)(o:l.length≤1048576):Dec (lf s l) (AY s l):=by
 unfold lf AY;refine yk (lP (kC f)) (fun m=>?_) (fun g=>bW fun h=>g h.1);have p:=f.1.1;by_cases c:l.length=0
 ·rw [if_pos (by simp;exact List.length_eq_zero_iff.1 c)];exact bW fun g=>g.2.1 c
 rw [if_neg (by simp;exact fun e=>c (by rw [e];rfl))];refine (qt (Lp:=oG l s) (n:=l.length) (Q:=fun i=>∀h:i<l.length,(0≤l[i]∧l[i]≤(s.c_.length:Int)-1)∧(0<i→l[i-1]<l[i])) 0 (fun k i d=>?_) (fun k i _ d=>?_) (by omega)).of_iff ⟨fun g=>⟨m,c,g⟩,fun g=>g.2.2⟩
 ·show (if _ then _ else _)=_;rw [if_neg (by simp;omega)]
 rw [oG,if_pos (by simp;omega),aH d,ax (by omega),aP (n:=(s.c_.length:Int)-1) (by omega) (by omega)];unfold aM;simp only [bS];by_cases a:0≤l[i]∧l[i]≤(s.c_.length:Int)-1
 ·rw [pF a];simp only [Bool.not_true,Bool.false_eq_true,if_false];by_cases h1:0<i
  ·rw [if_pos (by simp;omega),aP (n:=(i:Int)-1) (by omega) (by omega),show (i:Int)-1=((i-1:Nat):Int) by omega,aH (show i-1<l.length by omega)];simp only [bS];by_cases j:l[i]≤l[i-1]
   ·rw [if_pos (by simpa using j)];exact .inr ⟨fun g=>by have:=(g d).2 h1;omega,rfl⟩
   rw [if_neg (by simpa using j)];exact .inl ⟨fun _=>⟨a,fun _=>by omega⟩,rfl⟩
  rw [if_neg (by simp;omega)];exact .inl ⟨fun _=>⟨a,fun g=>absurd g h1⟩,rfl⟩
 rw [qZ a];exact .inr ⟨fun g=>a (g d).1,rfl⟩
theorem Ri {s:ae}{l:List Int}(f:ba s)(k:l.length≤1048576):Dec (vC s l) (AY s l):=by
 unfold vC AY;refine yk (ox (kC f)) (fun m=>?_) (fun g=>bW fun h=>g h.1);have p:=f.1.1;by_cases d:l.length=0
 ·rw [if_neg (by simp;exact List.length_eq_zero_iff.1 d)];exact bW fun g=>g.2.1 d
 rw [if_pos (by simp only [Bool.and_eq_true,decide_eq_true_eq,eq_self,true_and];omega)];rcases (So k).cases with ⟨e,c⟩|⟨e,c⟩
 ·rw [e];simp only [Option.bind_some,if_true];rw [show (0:Int)=((0:Nat):Int) from rfl,aH (show 0<l.length by omega),aP (by omega) (by omega),show (l.length:Int)-1=((l.length-1:Nat):Int) by omega,aH (show l.length-1<l.length by omega)];simp only [bS];by_cases h1:0≤l[0]
  ·rw [if_pos (by simpa using h1)];refine ⟨_,rfl,?_⟩;rw [decide_eq_true_iff];refine ⟨fun g=>⟨m,d,fun i _ a _=>⟨⟨?_,?_⟩,fun o=>c i o a a⟩⟩,fun g=>?_⟩
   ·exact Int.le_trans h1 (c.le 0 (Nat.zero_le _) a)
   ·have:=c.le (j:=l.length-1) i (by omega) (by omega);omega
   have:=(g.2.2 (l.length-1) (Nat.zero_le _) (by omega) (by omega)).1;omega
  rw [if_neg (by simpa using h1)];exact bW fun g=>h1 (g.2.2 0 (Nat.zero_le _) (by omega) (by omega)).1.1
 rw [e];exact bW fun g=>c fun i h1 a _=>(g.2.2 i (Nat.zero_le _) a a).2 h1
theorem Et {s:ae}{t:aE}(c:ba s)(a:gZ t)(h:xP s t):fG s t=some t.l_.sum:=by
 unfold fG;rcases (ny c a).cases with ⟨e,_⟩|⟨_,g⟩
 ·rw [e];simp only [cS]
  have h1:=Df (p:=t.l_) (fun x=>x) (ma t) some (fun k s=>by
   show (if _ then _ else _)=_
   rw [if_neg (by simp)]) (fun k s i d=>by
   have:=a.1.1;rw [ma,if_pos (by simp;omega),aH d,ax (by omega)];rfl) (fun x f=>by have:=h.2.2.1 x f;omega) (by have:=a.1.1;omega)
  simpa using h1
 exact absurd h g
def brN (s:ae)(f:aI):Nat:=if f.j_=-1 then nb (atr s f) else 2
theorem Ma {s:ae}{f:aI}(h:uP s f):2≤brN s f∧brN s f≤4:=by
 have:=DZ (Cm h.1 h.2.1);unfold brN;split<;>omega
theorem qK {s:ae}{f:aI}(a:ba s)(h:uP s f):fM s f=some (brN s f:Int):=by
 unfold fM brN;rcases (rj (f:=f) a).cases with ⟨e,_⟩|⟨_,g⟩
 ·rw [e];simp only [cS];rw [Bp h.2.1];simp only [bS];rw [uM (a.1.2 _ (zy h.2.1)) (Cm h.1 h.2.1)];by_cases h1:f.j_=-1
  ·rw [if_pos (by simpa using h1),if_pos h1];rfl
  rw [if_neg (by simpa using h1),if_neg h1];rfl
 exact absurd h g
theorem LH {s:ae}{f:aI}(a:ba s)(h:uP s f):pn s f=some (brN s f:Int):=by
 unfold pn brN;rcases (It (f:=f) a).cases with ⟨e,_⟩|⟨_,g⟩
 ·rw [e];simp only [cS];rw [Bp h.2.1];simp only [bS];rw [wE (a.1.2 _ (zy h.2.1))];by_cases h1:f.j_=-1
  ·rw [if_pos (by simpa using h1),if_pos h1];rfl
  rw [if_neg (by simpa using h1),if_neg h1];rfl
 exact absurd h g
theorem Jy {s:ae}{f:aI}(a:ba s)(h:¬uP s f):fM s f=some 0:=by
 unfold fM;rcases (rj (f:=f) a).cases with ⟨_,g⟩|⟨e,_⟩
 ·exact absurd g h
 rw [e];rfl
theorem Jc {s:ae}{f:aI}(a:ba s)(h:¬uP s f):pn s f=some 0:=by
 unfold pn;rcases (It (f:=f) a).cases with ⟨_,g⟩|⟨e,_⟩
 ·exact absurd g h
 rw [e];rfl
def Re (t:am)(i:Nat)(x:Int):Prop:=∃m:Nat,∃a:m<t.b_.length,x=m∧i<m∧t.b_[m].H_=i
def Vz (n:au):Prop:=(n.n_.q_=0∧n.n_.j_=0)∧n.A_.length=0∧n.K_=0∧(0≤n.J_∧n.J_≤if n.m_.g_.length=0 then 0 else n.m_.l_.sum)
def Xg (t:am)(i:Nat)(l:List Int):Prop:=Asc l∧∀x∈l,Re t i x
def NC (s:ae)(t:am)(i:Nat)(n:au):Prop:=uP s n.n_∧n.A_.length=brN s n.n_∧(0≤n.K_∧n.K_≤(n.A_.length:Int)-1)∧n.m_.g_.length=0∧n.J_=0∧Xg t i n.A_
def Mi (s:ae)(t:am)(i:Nat)(n:au):Prop:=(0≤n.o_∧n.o_≤6)∧(0≤n.F_∧n.F_≤t.p_)∧xP s n.m_∧AY s n.c_∧(n.D_=true→Vz n)∧(n.D_=false→NC s t i n)
def WO (t:am)(i:Nat)(n:au):Prop:=(i=0→n.H_=-1∧n.o_=0∧n.F_=0) ∧
 (0<i→∃u,∃_:u<i,∃a:u<t.b_.length,n.H_=u∧t.b_[u].D_=false∧(i:Int)∈t.b_[u].A_∧t.b_[u].o_+1=n.o_∧t.b_[u].F_≤n.F_)
def Su (s:ae)(t:am)(i:Nat):Prop:=∀h:i<t.b_.length,Mi s t i t.b_[i]∧WO t i t.b_[i]
def xh (s:ae)(t:am):Prop:=fL s∧(1≤(t.b_.length:Int)∧(t.b_.length:Int)≤31)∧(0≤t.p_∧t.p_≤99999)∧∀i,i<t.b_.length→Su s t i
theorem UC {t:am}(j:t.b_.length≤1048576){i:Nat}(k:i<t.b_.length)(x:Int):Dec (ui x (i:Int) t) (¬Re t i x):=by
 unfold ui;rw [ax (by omega),aP (n:=(t.b_.length:Int)-1) (by omega) (by omega)];rcases (fi (x:=x) (a:=((i+1:Nat):Int)) (b:=(t.b_.length:Int)-1)).cases with ⟨e,d⟩|⟨e,d⟩
 ·rw [e];simp only [cS];obtain ⟨m,rfl⟩:∃m:Nat,x=m:=⟨x.toNat,by omega⟩;have c:m<t.b_.length:=by omega
  rw [aH c];simp only [bS];refine ⟨_,rfl,?_⟩;rw [bne_iff_ne];refine ⟨fun g ⟨m',_,h1,_,f⟩=>?_,fun g h=>g ⟨m,c,rfl,by omega,h⟩⟩;obtain rfl:m=m':=by omega
  exact g f
 rw [e];exact pY fun ⟨m,c,h1,f,_⟩=>d ⟨by omega,by omega⟩
theorem PU {t:am}(c:t.b_.length≤1048576){i:Nat}(d:i<t.b_.length){l:List Int}(hk:l.length≤1048576):Dec (dq l (i:Int) t) (∃x∈l,¬Re t i x):=by
 unfold dq eT;refine (uD (Lp:=cL l (i:Int) t) (n:=l.length) (Q:=fun j=>∀h:j<l.length,¬Re t i l[j]) (fun k j a=>?_) (fun k j a=>?_) (by omega)).of_iff ⟨fun ⟨j,a,g⟩=>⟨_,List.getElem_mem a,g a⟩,fun ⟨x,f,g⟩=>?_⟩
 ·show (if _ then _ else _)=_;rw [if_neg (by simp;omega)]
 ·rw [cL,if_pos (by simp;omega),aH a,ax (by omega)];simp only [bS];rcases (UC c d l[j]).cases with ⟨e,h⟩|⟨e,h⟩
  ·rw [e];exact .inl ⟨fun _=>h,rfl⟩
  rw [e];exact .inr ⟨fun g=>h (g a),rfl⟩
 obtain ⟨j,a,rfl⟩:=List.getElem_of_mem f;exact ⟨j,a,fun _=>g⟩
theorem RT {s:ae}{t:am}(p:ba s)(F:iC t){i:Nat}(D:i<t.b_.length):Dec (xq s t (i:Int)) (Mi s t i t.b_[i]):=by
 unfold xq;have M:=F.1.1;rw [aH D];simp only [bS];have h:=F.1.2 _ (List.getElem_mem D);generalize t.b_[i]=n at *
 have w:n.A_.length≤1048576:=h.2.2.1.1;have A:gZ n.m_:=h.2.2.2.2.1;have G:n.c_.length≤1048576:=h.2.2.2.2.2.2.1.1;rcases (fi (x:=n.o_) (a:=0) (b:=6)).cases with ⟨e,r⟩|⟨e,r⟩
 ·rw [e];simp only [cS];rcases (fi (x:=n.F_) (a:=0) (b:=t.p_)).cases with ⟨e,u⟩|⟨e,u⟩
  ·rw [e];simp only [cS];rcases (Kr p A).cases with ⟨e,j⟩|⟨e,j⟩
   ·rw [e];simp only [cS];rcases (Ri p G).cases with ⟨e,v⟩|⟨e,v⟩
    ·rw [e];simp only [cS];by_cases f:n.D_=true
     case neg =>
      have hL':n.D_=false:=by simpa using f
      rw [if_neg f];by_cases k:uP s n.n_
      ·have P:=Ma k;rw [LH p k];simp only [bS];by_cases hk:n.A_.length=brN s n.n_
       ·rw [if_neg (by simp;omega)];rcases (So w).cases with ⟨e,l⟩|⟨e,l⟩
        ·rw [e];simp only [cS];rw [aP (n:=(brN s n.n_:Int)-1) (by omega) (by omega)];rcases (fi (x:=n.K_) (a:=0) (b:=(brN s n.n_:Int)-1)).cases with ⟨e,H⟩|⟨e,H⟩
         ·rw [e];simp only [Option.bind_some,Bool.not_true,Bool.false_or];by_cases d:n.m_.g_.length=0∧n.J_=0
          ·rw [if_neg (by simp [d.1,d.2])];rcases (PU M D w).cases with ⟨e,x,m,E⟩|⟨e,E⟩
           ·rw [e];exact bW fun g=>E ((g.2.2.2.2.2 hL').2.2.2.2.2.2 x m)
           rw [e];exact pY ⟨r,u,j,v,fun g=>absurd g f,fun _=>⟨k,hk,by omega,d.1,d.2,l,fun x m=>Classical.byContradiction fun c=>E ⟨x,m,c⟩⟩⟩
          rw [if_pos (by simp only [Bool.or_eq_true,bne_iff_ne,ne_eq];omega)];exact bW fun g=>d ⟨(g.2.2.2.2.2 hL').2.2.2.1,(g.2.2.2.2.2 hL').2.2.2.2.1⟩
         rw [e];exact bW fun g=>H (by have:=(g.2.2.2.2.2 hL').2.2.1;omega)
        rw [e];exact bW fun g=>l (g.2.2.2.2.2 hL').2.2.2.2.2.1
       rw [if_pos (by simp;omega)];exact bW fun g=>hk (g.2.2.2.2.2 hL').2.1
      rw [Jc p k];exact bW fun g=>k (g.2.2.2.2.2 hL').1
     case pos =>
      rw [if_pos f,Il (fun x m=>by have:=j.2.2.1 x m;omega) A.1.1];simp only [bS]
      have key:∀q:Int,q=(if n.m_.g_.length=0 then 0 else n.m_.l_.sum)→Dec (nP n q) (Mi s t i n):=fun q L=>by
       unfold nP;have C:∀o:Option Bool,(o.bind fun y=>some y)=o:=fun o=>by cases o<;>rfl
       by_cases d:(n.n_.q_=0∧n.n_.j_=0)∧n.A_.length=0∧n.K_=0
       ·rw [if_pos (by simp [d.1.1,d.1.2,d.2.1,d.2.2]),C,C];exact fi.of_iff ⟨fun g=>⟨r,u,j,v,fun _=>⟨d.1,d.2.1,d.2.2,by rw [←L];exact g⟩,fun g=>by rw [f] at g;cases g⟩,fun g=>by rw [L];exact (g.2.2.2.2.1 f).2.2.2⟩
       rw [if_neg (by simp only [Bool.and_eq_true,beq_iff_eq,Bool.and_true];omega)];exact bW fun g=>d ⟨(g.2.2.2.2.1 f).1,(g.2.2.2.2.1 f).2.1,(g.2.2.2.2.1 f).2.2.1⟩
      by_cases d:n.m_.g_.length=0
      ·rw [if_pos (by simp;exact List.length_eq_zero_iff.1 d)];exact key 0 (by rw [if_pos d])
      rw [if_neg (by simp;exact fun e=>d (by rw [e];rfl))];exact key _ (by rw [if_neg d])
    rw [e];exact bW fun g=>v g.2.2.2.1
   rw [e];exact bW fun g=>j g.2.2.1
  rw [e];exact bW fun g=>u g.2.1
 rw [e];exact bW fun g=>r g.1
theorem TS {s:ae}{n:au}(i:ba s)(j:rg n):Dec (qo s n) (Vz n∧xP s n.m_∧AY s n.c_):=by
 unfold qo;have h:gZ n.m_:=j.2.2.2.2.1;have k:n.c_.length≤1048576:=j.2.2.2.2.2.2.1.1;by_cases a:(n.n_.q_=0∧n.n_.j_=0)∧n.A_.length=0∧n.K_=0
 ·rw [if_neg (by simp only [Bool.or_eq_true,Bool.not_eq_true',bne_iff_ne,decide_eq_true_eq,ne_eq,Bool.and_true,Bool.and_eq_false_iff,beq_eq_false_iff_ne];omega)];rcases (ny i h).cases with ⟨e,c⟩|⟨e,c⟩
  ·rw [e];simp only [cS];rcases (wl i k).cases with ⟨e,d⟩|⟨e,d⟩
   ·rw [e];simp only [cS];by_cases f:n.m_.g_.length=0
    ·rw [if_pos (by simp only [beq_iff_eq];omega)];refine ⟨_,rfl,?_⟩;rw [beq_iff_eq];exact ⟨fun g=>⟨⟨a.1,a.2.1,a.2.2,by rw [if_pos f];omega⟩,c,d⟩,fun g=>by have:=g.1.2.2.2;rw [if_pos f] at this;omega⟩
    rw [if_neg (by simp only [beq_iff_eq];omega),Et i h c];simp only [bS];have l:∀o:Option Bool,(o.bind fun y=>some y)=o:=fun o=>by cases o<;>rfl
    rw [l];exact cz.of_iff ⟨fun g=>⟨⟨a.1,a.2.1,a.2.2,by rw [if_neg f];exact g⟩,c,d⟩,fun g=>by have:=g.1.2.2.2;rw [if_neg f] at this;exact this⟩
   rw [e];exact bW fun g=>d g.2.2
  rw [e];exact bW fun g=>c g.2.1
 rw [if_pos (by simp only [Bool.or_eq_true,Bool.not_eq_true',bne_iff_ne,decide_eq_true_eq,ne_eq,Bool.and_true,Bool.and_eq_false_iff,beq_eq_false_iff_ne];omega)];exact bW fun g=>a ⟨g.1.1,g.1.2.1,g.1.2.2.1⟩
theorem Ru {s:ae}{t:am}(q:ba s)(C:iC t){i:Nat}(D:i<t.b_.length):Dec (pm s t (i:Int)) (NC s t i t.b_[i]∧xP s t.b_[i].m_∧AY s t.b_[i].c_):=by
 unfold pm;have X:=C.1.1;rw [aH D];simp only [bS];have o:=C.1.2 _ (List.getElem_mem D);generalize t.b_[i]=n at *
 have P:n.A_.length≤1048576:=o.2.2.1.1;have E:gZ n.m_:=o.2.2.2.2.1;have F:n.c_.length≤1048576:=o.2.2.2.2.2.2.1.1;rcases (rj (f:=n.n_) q).cases with ⟨e,p⟩|⟨e,p⟩
 ·rw [e];simp only [cS];have R:=Ma p;rw [qK q p];simp only [bS];by_cases hk:n.A_.length=brN s n.n_
  ·rw [if_neg (by simp only [bne_iff_ne,ne_eq];omega),aP (n:=(n.A_.length:Int)-1) (by omega) (by omega)];rcases (cz (x:=n.K_) (a:=0) (b:=(n.A_.length:Int)-1)).cases with ⟨e,l⟩|⟨e,l⟩
   ·rw [e];simp only [cS];rcases (ny q E).cases with ⟨e,u⟩|⟨e,u⟩
    ·rw [e];simp only [Option.bind_some,Bool.not_true,Bool.false_or];by_cases v:n.m_.g_.length=0∧n.J_=0
     ·rw [if_neg (by simp only [Bool.or_eq_true,bne_iff_ne,decide_eq_true_eq,ne_eq];omega)];rcases (wl q F).cases with ⟨e,w⟩|⟨e,w⟩
      ·rw [e];simp only [cS]
       refine (qt (Lp:=od n (i:Int) t) (n:=n.A_.length) (Q:=fun j=>∀h:j<n.A_.length,Re t i n.A_[j]∧(0<j→n.A_[j-1]<n.A_[j])) 0 (fun k j c=>?_) (fun k j _ c=>?_) (by omega)).of_iff
        ⟨fun g=>⟨⟨p,hk,l,v.1,v.2,fun j h1 c _=>(g j (Nat.zero_le _) c c).2 h1,fun x d=>by
         obtain ⟨j,c,rfl⟩:=List.getElem_of_mem d;exact (g j (Nat.zero_le _) c c).1⟩,u,w⟩,fun g j _ c _=>⟨g.1.2.2.2.2.2.2 _ (List.getElem_mem c),fun h1=>g.1.2.2.2.2.2.1 j h1 c c⟩⟩
       ·show (if _ then _ else _)=_;rw [if_neg (by simp;omega)]
       rw [od,if_pos (by simp;omega),aH c];simp only [bS];rw [ax (i:=i) (by omega),aP (n:=(t.b_.length:Int)-1) (by omega) (by omega),ax (i:=j) (by omega)];generalize d:n.A_[j]=x;rcases (cz (x:=x) (a:=((i+1:Nat):Int)) (b:=(t.b_.length:Int)-1)).cases with ⟨e,G⟩|⟨e,G⟩
       ·rw [e];simp only [cS];obtain ⟨m,rfl⟩:∃m:Nat,x=m:=⟨x.toNat,by omega⟩;have l:m<t.b_.length:=by omega
        rw [aH l];simp only [bS];by_cases H:t.b_[m].H_=(i:Int)
        ·rw [if_neg (by simp only [bne_iff_ne,ne_eq];omega)];have L:Re t i n.A_[j]:=by rw [d];exact ⟨m,l,rfl,by omega,H⟩
         by_cases h1:0<j
         ·rw [if_pos (by simp;omega),aP (n:=(j:Int)-1) (by omega) (by omega),show (j:Int)-1=((j-1:Nat):Int) by omega,aH (show j-1<n.A_.length by omega)];simp only [bS];by_cases r:n.A_[j]≤n.A_[j-1]
          ·rw [if_pos (by rw [←d];simpa using r)];exact .inr ⟨fun g=>by have:=(g c).2 h1;omega,rfl⟩
          rw [if_neg (by rw [←d];simpa using r)];exact .inl ⟨fun _=>⟨L,fun _=>by omega⟩,rfl⟩
         rw [if_neg (by simp;omega)];exact .inl ⟨fun _=>⟨L,fun g=>absurd g h1⟩,rfl⟩
        rw [if_pos (by simp only [bne_iff_ne,ne_eq];omega)]
        exact .inr ⟨fun g=>by
         obtain ⟨m',hm',A,_,M⟩:=(g c).1;rw [d] at A;obtain rfl:m=m':=by omega
         exact H M,rfl⟩
       rw [e]
       exact .inr ⟨fun g=>by
         obtain ⟨m',hm',A,Z,M⟩:=(g c).1;rw [d] at A;exact G ⟨by omega,by omega⟩,rfl⟩
      rw [e];exact bW fun g=>w g.2.2
     rw [if_pos (by simp only [Bool.or_eq_true,bne_iff_ne,decide_eq_true_eq,ne_eq];omega)];exact bW fun g=>v ⟨g.1.2.2.2.1,g.1.2.2.2.2.1⟩
    rw [e];exact bW fun g=>u g.2.1
   rw [e];exact bW fun g=>l g.1.2.2.1
  rw [if_pos (by simp only [bne_iff_ne,ne_eq];omega)];exact bW fun g=>hk g.1.2.1
 rw [e];exact bW fun g=>p g.1.1
theorem LI {l:List Int}(d:l.length≤1048576)(x:Int):Dec (gE l x) (x∈l):=by
 unfold gE la;refine (uD (Lp:=ff l x) (n:=l.length) (Q:=fun j=>∀h:j<l.length,x=l[j]) (fun k j a=>?_) (fun k j a=>?_) (by omega)).of_iff ⟨fun ⟨j,a,g⟩=>by rw [g a];exact List.getElem_mem a,fun c=>?_⟩
 ·show (if _ then _ else _)=_;rw [if_neg (by simp;omega)]
 ·rw [ff,if_pos (by simp;omega),aH a,ax (by omega)];simp only [bS];by_cases h:x=l[j]
  ·rw [if_pos (by simpa using h)];exact .inl ⟨fun _=>h,rfl⟩
  rw [if_neg (by simpa using h)];exact .inr ⟨fun g=>h (g a),rfl⟩
 obtain ⟨j,a,rfl⟩:=List.getElem_of_mem c;exact ⟨j,a,fun _=>rfl⟩
theorem PS {l:List Int}(f:l.length≤1048576)(x:Int):Dec (uu l x) (x∈l):=by
 unfold uu
 have h:=Bd (Lp:=fun k j=>eH l x k (j:Int)) (n:=l.length) (Q:=fun j=>∀h:j<l.length,l[j]≠x) (fin:=some false) (bad:=some true) (fun k _=>by
  show eH l x (k+1) _=_
  rw [eH,if_neg (by simp)]) (fun k j a _=>by
  show (_∧eH l x (k+1) _=eH l x k _)∨(_∧eH l x (k+1) _=_);rw [eH,if_pos (by simp;omega),aH a,ax (by omega)];simp only [bS];by_cases h:l[j]=x
  ·rw [if_pos (by simpa using h)];exact .inr ⟨fun g=>g a h,rfl⟩
  rw [if_neg (by simpa using h)];exact .inl ⟨fun _=>h,rfl⟩) (by omega)
 rcases h with ⟨h1,c⟩|⟨h1,c⟩
 ·have c:eH l x aY 0=some false:=c;rw [c]
  exact bW fun d=>by
   obtain ⟨j,a,e⟩:=List.getElem_of_mem d;exact h1 j a a e
 have c:eH l x aY 0=some true:=c;rw [c];refine pY (Classical.byContradiction fun d=>h1 fun j a _ e=>d ?_);rw [←e];exact List.getElem_mem a
theorem RY {s:ae}{t:am}(A:ba s)(o:iC t):Dec (xE s t) (xh s t):=by
 unfold xE;have Z:=o.1.1;rcases (ox (kC A)).cases with ⟨e,p⟩|⟨e,p⟩
 ·rw [e];simp only [cS];rcases (fi (x:=(t.b_.length:Int)) (a:=1) (b:=31)).cases with ⟨e,q⟩|⟨e,q⟩
  ·rw [e];simp only [cS];rcases (fi (x:=t.p_) (a:=0) (b:=99999)).cases with ⟨e,r⟩|⟨e,r⟩
   ·rw [e];simp only [cS];refine (vN (Lp:=fun k i=>gi t s k (i:Int)) (n:=t.b_.length) (Q:=Su s t) (F:=True) (fun k _=>?_) (fun k i c R=>?_) (by omega)).of_iff ⟨fun g=>⟨p,q,r,g.1⟩,fun g=>⟨g.2.2.2,trivial⟩⟩
    ·show Dec (gi t s (k+1) _) _;rw [gi,if_neg (by simp)];exact pY trivial
    show (_∧gi t s (k+1) _=gi t s k _)∨(_∧gi t s (k+1) _=_);rw [gi,if_pos (by simp;omega),aH c,ax (by omega)];simp only [bS];rcases (RT A o c).cases with ⟨e,h⟩|⟨e,h⟩
    ·rw [e];simp only [cS];by_cases C:i=0
     ·rw [if_pos (by simp only [beq_iff_eq];omega)];by_cases D:t.b_[i].H_=-1∧t.b_[i].o_=0∧t.b_[i].F_=0
      ·rw [if_neg (by simp only [Bool.or_eq_true,bne_iff_ne,ne_eq];omega)];exact .inl ⟨fun _=>⟨h,fun _=>D,fun g=>by omega⟩,rfl⟩
      rw [if_pos (by simp only [Bool.or_eq_true,bne_iff_ne,ne_eq];omega)];exact .inr ⟨fun g=>D ((g c).2.1 C),rfl⟩
     rw [if_neg (by simp only [beq_iff_eq];omega),aP (n:=(i:Int)-1) (by omega) (by omega)];rcases (fi (x:=t.b_[i].H_) (a:=0) (b:=(i:Int)-1)).cases with ⟨e,E⟩|⟨e,E⟩
     ·rw [e];simp only [cS];obtain ⟨u,G⟩:∃u:Nat,t.b_[i].H_=u:=⟨t.b_[i].H_.toNat,by omega⟩;have m:u<i:=by omega
      have d:u<t.b_.length:=by omega
      rw [G,aH d];simp only [bS];have H:=R u m d;have hd:=h.1;have X:=H.1.1;rw [aP (n:=t.b_[i].o_-1) (by omega) (by omega)];by_cases f:t.b_[u].D_=true
      ·rw [if_pos f]
       exact .inr ⟨fun g=>by
        obtain ⟨u',_,hu',h1,v,_⟩:=(g c).2.2 (by omega);obtain rfl:u=u':=by omega
        exact (nomatch v.symm.trans f),rfl⟩
      rw [if_neg f];have hlf':t.b_[u].D_=false:=by simpa using f
      rcases (LI (l:=t.b_[u].A_) (o.1.2 _ (List.getElem_mem d)).2.2.1.1 (i:Int)).cases with ⟨e,w⟩|⟨e,w⟩
      ·rw [e];simp only [Option.bind_some,Bool.not_true,Bool.false_or];by_cases j:t.b_[u].o_+1=t.b_[i].o_∧t.b_[u].F_≤t.b_[i].F_
       ·rw [if_neg (by simp only [Bool.or_eq_true,bne_iff_ne,decide_eq_true_eq,ne_eq];omega)];exact .inl ⟨fun _=>⟨h,fun g=>absurd g C,fun _=>⟨u,m,d,G,hlf',w,j.1,j.2⟩⟩,rfl⟩
       rw [if_pos (by simp only [Bool.or_eq_true,bne_iff_ne,decide_eq_true_eq,ne_eq];omega)]
       exact .inr ⟨fun g=>by
        obtain ⟨u',_,hu',h1,v,L,M,P⟩:=(g c).2.2 (by omega);obtain rfl:u=u':=by omega
        exact j ⟨M,P⟩,rfl⟩
      rw [e]
      exact .inr ⟨fun g=>by
       obtain ⟨u',_,hu',h1,v,L,M,P⟩:=(g c).2.2 (by omega);obtain rfl:u=u':=by omega
       exact w L,rfl⟩
     rw [e]
     exact .inr ⟨fun g=>by
      obtain ⟨u',_,hu',h1,_⟩:=(g c).2.2 (by omega);exact E ⟨by omega,by omega⟩,rfl⟩
    rw [e];exact .inr ⟨fun g=>h (g c).1,rfl⟩
   rw [e];exact bW fun g=>r g.2.2.1
  rw [e];exact bW fun g=>q g.2.1
 rw [e];exact bW fun g=>p g.1
theorem wV {s:ae}{t:am}(G:ba s)(A:iC t):Dec (oh s t) (xh s t):=by
 unfold oh;have hl:=A.1.1;rcases (lP (kC G)).cases with ⟨e,H⟩|⟨e,H⟩
 ·rw [e];simp only [cS];rcases (cz (x:=(t.b_.length:Int)) (a:=1) (b:=31)).cases with ⟨e,L⟩|⟨e,L⟩
  ·rw [e];simp only [cS];rcases (cz (x:=t.p_) (a:=0) (b:=99999)).cases with ⟨e,M⟩|⟨e,M⟩
   ·rw [e];simp only [cS];refine (vN (Lp:=fun k i=>gn t s k (i:Int)) (n:=t.b_.length) (Q:=Su s t) (F:=True) (fun k _=>?_) (fun k i c hQ=>?_) (by omega)).of_iff ⟨fun g=>⟨H,L,M,g.1⟩,fun g=>⟨g.2.2.2,trivial⟩⟩
    ·show Dec (gn t s (k+1) _) _;rw [gn,if_neg (by simp)];exact pY trivial
    show (_∧gn t s (k+1) _=gn t s k _)∨(_∧gn t s (k+1) _=_);rw [gn,if_pos (by simp;omega),aH c,ax (by omega)];simp only [bS];have X:=A.1.2 _ (List.getElem_mem c);rcases (cz (x:=t.b_[i].o_) (a:=0) (b:=6)).cases with ⟨e,p⟩|⟨e,p⟩
    ·rw [e];simp only [cS];rcases (cz (x:=t.b_[i].F_) (a:=0) (b:=t.p_)).cases with ⟨e,q⟩|⟨e,q⟩
     ·rw [e];simp only [cS]
      have C:∀b:Bool,t.b_[i].D_=b→∀K:Bool→Option Bool,(Mi s t i t.b_[i]∧(((if t.b_[i].D_=true then (qo s ({t.b_[i] with D_:=true})).bind fun d=>some (!d) else some false).bind fun f=>(if f=true then some true else (if (!t.b_[i].D_)=true then (pm s t (i:Int)).bind fun j=>some (!j) else some false).bind fun m=>some m).bind K)=K false)) ∨
        (¬Mi s t i t.b_[i]∧(((if t.b_[i].D_=true then (qo s ({t.b_[i] with D_:=true})).bind fun d=>some (!d) else some false).bind fun f=>(if f=true then some true else (if (!t.b_[i].D_)=true then (pm s t (i:Int)).bind fun j=>some (!j) else some false).bind fun m=>some m).bind K)=K true)):=fun b o K=>by
       cases b
       ·rw [o];simp only [Option.bind_some,Bool.not_false,Bool.false_eq_true,if_true,if_false];rcases (Ru G A c).cases with ⟨e,h⟩|⟨e,h⟩
        ·rw [e];exact .inl ⟨⟨p,q,h.2.1,h.2.2,fun g=>(nomatch o.symm.trans g),fun _=>h.1⟩,rfl⟩
        rw [e];exact .inr ⟨fun g=>h ⟨g.2.2.2.2.2 o,g.2.2.1,g.2.2.2.1⟩,rfl⟩
       have hE:({t.b_[i] with D_:=true}:au)=t.b_[i]:=by rw [←o]
       rw [hE,o];simp only [Option.bind_some,Bool.not_true,Bool.false_eq_true,if_true,if_false];rcases (TS G X).cases with ⟨e,h⟩|⟨e,h⟩
       ·rw [e];exact .inl ⟨⟨p,q,h.2.1,h.2.2,fun _=>h.1,fun g=>(nomatch o.symm.trans g)⟩,rfl⟩
       rw [e];exact .inr ⟨fun g=>h ⟨g.2.2.2.2.1 o,g.2.2.1,g.2.2.2.1⟩,rfl⟩
      rcases C _ rfl _ with ⟨D,e⟩|⟨D,e⟩
      ·rw [e];simp only [Bool.false_eq_true,if_false];by_cases Z:i=0
       ·rw [if_pos (by simp only [beq_iff_eq];omega)];by_cases hL:t.b_[i].H_=-1∧t.b_[i].o_=0∧t.b_[i].F_=0
        ·rw [if_neg (by simp only [Bool.or_eq_true,bne_iff_ne,ne_eq];omega)];exact .inl ⟨fun _=>⟨D,fun _=>hL,fun g=>by omega⟩,rfl⟩
        rw [if_pos (by simp only [Bool.or_eq_true,bne_iff_ne,ne_eq];omega)];exact .inr ⟨fun g=>hL ((g c).2.1 Z),rfl⟩
       rw [if_neg (by simp only [beq_iff_eq];omega),aP (n:=(i:Int)-1) (by omega) (by omega)];rcases (cz (x:=t.b_[i].H_) (a:=0) (b:=(i:Int)-1)).cases with ⟨e,hr⟩|⟨e,hr⟩
       ·rw [e];simp only [cS];obtain ⟨u,hu⟩:∃u:Nat,t.b_[i].H_=u:=⟨t.b_[i].H_.toNat,by omega⟩;have E:u<i:=by omega
        have r:u<t.b_.length:=by omega
        rw [hu,aH r];simp only [bS];have a3:=hQ u E r;have a9:=a3.1.1;rw [aP (n:=t.b_[u].o_+1) (by omega) (by omega)];by_cases v:t.b_[u].D_=true
        ·rw [if_pos v]
         exact .inr ⟨fun g=>by
          obtain ⟨u',_,hu',h1,P,_⟩:=(g c).2.2 (by omega);obtain rfl:u=u':=by omega
          exact (nomatch P.symm.trans v),rfl⟩
        rw [if_neg v];have hlf':t.b_[u].D_=false:=by simpa using v
        rcases (PS (l:=t.b_[u].A_) (A.1.2 _ (List.getElem_mem r)).2.2.1.1 (i:Int)).cases with ⟨e,R⟩|⟨e,R⟩
        ·rw [e];simp only [Option.bind_some,Bool.not_true,Bool.false_or];by_cases w:t.b_[u].o_+1=t.b_[i].o_∧t.b_[u].F_≤t.b_[i].F_
         ·rw [if_neg (by simp only [Bool.or_eq_true,bne_iff_ne,decide_eq_true_eq,ne_eq];omega)];exact .inl ⟨fun _=>⟨D,fun g=>absurd g Z,fun _=>⟨u,E,r,hu,hlf',R,w.1,w.2⟩⟩,rfl⟩
         rw [if_pos (by simp only [Bool.or_eq_true,bne_iff_ne,decide_eq_true_eq,ne_eq];omega)]
         exact .inr ⟨fun g=>by
          obtain ⟨u',_,hu',h1,P,h3,h4,h5⟩:=(g c).2.2 (by omega);obtain rfl:u=u':=by omega
          exact w ⟨h4,h5⟩,rfl⟩
        rw [e]
        exact .inr ⟨fun g=>by
         obtain ⟨u',_,hu',h1,P,h3,h4,h5⟩:=(g c).2.2 (by omega);obtain rfl:u=u':=by omega
         exact R h3,rfl⟩
       rw [e]
       exact .inr ⟨fun g=>by
        obtain ⟨u',_,hu',h1,_⟩:=(g c).2.2 (by omega);exact hr ⟨by omega,by omega⟩,rfl⟩
      rw [e];exact .inr ⟨fun g=>D (g c).1,rfl⟩
     rw [e];exact .inr ⟨fun g=>q (g c).1.2.1,rfl⟩
    rw [e];exact .inr ⟨fun g=>p (g c).1.1,rfl⟩
   rw [e];exact bW fun g=>M g.2.2.1
  rw [e];exact bW fun g=>L g.2.1
 rw [e];exact bW fun g=>H g.1
end Go.Vk
/- Where a bin goes; the mask of a branch; the mask of all: alike. -/
namespace Go.Vk
def IW (a:aD)(f:aI)(b:Int):Int:=if f.j_=-1 then b else if 0<a.z_.length then (if f.j_<b then 1 else 0) else (if b=f.j_ then 0 else 1)
theorem Eg {s:ae}{f:aI}(i:ba s)(h:uP s f){b:Int}(k:0≤b∧b≤(nb (atr s f):Int)-1):qY s f b=some (IW (atr s f) f b):=by
 unfold qY IW;have l:=i.1.2 _ (zy h.2.1);have j:=Cm h.1 h.2.1;have m:=DZ j;rcases (rj (f:=f) i).cases with ⟨e,_⟩|⟨_,g⟩
 ·rw [e];simp only [sS];rw [Bp h.2.1];simp only [sS];rw [uM l j];simp only [sS];rw [aP (by omega) (by omega)];rcases (cz (x:=b) (a:=0) (b:=(nb (atr s f):Int)-1)).cases with ⟨e,_⟩|⟨_,g⟩
  ·rw [e];simp only [sS];by_cases h1:f.j_=-1
   ·rw [if_pos (by simpa using h1),if_pos h1]
   rw [if_neg (by simpa using h1),if_neg h1];unfold lN;by_cases d:0<(atr s f).z_.length
   ·rw [if_pos (by simpa using d),if_pos d];by_cases c:f.j_<b
    ·rw [if_pos c,if_pos (by simpa using c)];rfl
    rw [if_neg c,if_neg (by simpa using c)];rfl
   rw [if_neg (by simpa using d),if_neg d];by_cases c:b=f.j_
   ·rw [if_pos c,if_neg (by simpa using c)];rfl
   rw [if_neg c,if_pos (by simpa using c)];rfl
  exact absurd k g
 exact absurd h g
theorem Lw {s:ae}{f:aI}(i:ba s)(h:uP s f){b:Int}(k:0≤b∧b≤(nb (atr s f):Int)-1):yc s f b=some (IW (atr s f) f b):=by
 unfold yc IW;have l:=i.1.2 _ (zy h.2.1);have m:=Cm h.1 h.2.1;have o:=DZ m;rcases (It (f:=f) i).cases with ⟨e,_⟩|⟨_,g⟩
 ·rw [e];simp only [sS];rw [Bp h.2.1];simp only [sS];rw [wE l];simp only [sS];rw [aP (by omega) (by omega)];rcases (fi (x:=b) (a:=0) (b:=(nb (atr s f):Int)-1)).cases with ⟨e,_⟩|⟨_,g⟩
  ·rw [e];simp only [sS];by_cases h1:f.j_=-1
   ·rw [if_pos (by simpa using h1),if_pos h1]
   rw [if_neg (by simpa using h1),if_neg h1];by_cases c:b=f.j_
   ·rw [if_pos (by simpa using c)];simp only [sS];have d:¬f.j_<b:=by omega
    rw [if_pos c,if_neg d,ite_self]
   rw [if_neg (by simpa using c),if_neg c];simp only [sS];by_cases j:0<(atr s f).z_.length
   ·rw [if_pos j];by_cases d:f.j_<b
    ·rw [if_neg (by simp only [Bool.and_eq_true,decide_eq_true_eq];omega),if_pos d]
    rw [if_pos (by simp only [Bool.and_eq_true,decide_eq_true_eq];omega),if_neg d]
   rw [if_neg (by simp only [Bool.and_eq_true,decide_eq_true_eq];omega),if_neg j]
  exact absurd k g
 exact absurd h g
end Go.Vk
/- A window in words: alike. -/
namespace Go.Vk
theorem KH {n:Nat}(f:n≤40):ll (n:Int)=some ((2^n:Nat):Int):=by
 unfold ll
 have key:∀(d k i:Nat),i+d=n→d<k→lz (n:Int) k ((2^i:Nat):Int) (i:Int)=some ((2^n:Nat):Int):=by
  intro d
  induction d with
  | zero =>
   intro k i a hk;obtain ⟨k,rfl⟩:=kS k (by omega);rw [lz,if_neg (by simp;omega),show i=n by omega]
  | succ d ih =>
   intro k i a hk;obtain ⟨k,rfl⟩:=kS k (by omega);rw [lz];have c:(2:Nat)^i≤2^40:=Nat.pow_le_pow_right (by omega) (by omega)
   have e:IntKind.i64.wrap (((2^i:Nat):Int)*2)=((2^(i+1):Nat):Int):=by
    rw [Nat.pow_succ];generalize (2:Nat)^i=q at c;rw [aP (by omega) (by omega)];omega
   rw [if_pos (decide_eq_true (by omega)),e,ax (by omega)];exact ih k (i+1) (by omega) (by omega)
 exact key n aY 0 (by omega) (cx (by omega))
theorem Uc:∀n:Nat,n<8→shl .i64 1 (n:Int)=some ((2^n:Nat):Int):=by decide
def Wt (p:aw)(i:Nat):Prop:=∀h:i<p.k_.length,(1≤p.k_[i].length∧p.k_[i].length≤3)∧∀x∈p.k_[i],0≤x∧x≤((2^i:Nat):Int)
def Gq (p:aw):Prop:=p.k_.length≤8∧∀i,i<p.k_.length→Wt p i
theorem De (p:aw):Dec (lq p) (Gq p):=by
 unfold lq Gq;by_cases f:p.k_.length≤8
 ·rw [if_neg (by simp;omega)]
  rcases Bd (Lp:=fun k i=>ee p k (i:Int)) (n:=p.k_.length) (Q:=Wt p) (fin:=some true) (bad:=some false) (fun k _=>by
   show ee p (k+1) _=_
   rw [ee,if_neg (by simp)]) (fun k i c _=>by
   show (_∧ee p (k+1) _=ee p k _)∨(_∧ee p (k+1) _=_);rw [ee,if_pos (by simp;omega),aH c];unfold aM;simp only [bS];by_cases e:1≤p.k_[i].length∧p.k_[i].length≤3
   ·rw [if_neg (by simp;omega),JG (p:=p.k_[i]) (P:=fun x=>0≤x∧x≤((2^i:Nat):Int)) (fin:=ee p k ((i+1:Nat):Int)) (bad:=some false) (lI p i (ee p k)) (fun h=>by
     rw [lI,aH c];simp only [bS]
     rw [if_neg (by simp),ax (by omega)]) (fun h j l=>by
     rw [lI,aH c];simp only [bS];rw [if_pos (by simp;omega),aH l,KH (by omega),ax (by omega)];unfold aM;simp only [bS];generalize ((2^i:Nat):Int)=q;by_cases a:0≤p.k_[i][j]∧p.k_[i][j]≤q
     ·rw [if_pos a,if_neg (by simp;omega)]
     rw [if_neg a,if_pos (by simp;omega)]) (by omega)]
    by_cases a:∀x∈p.k_[i],0≤x∧x≤((2^i:Nat):Int)
    ·rw [if_pos a];exact .inl ⟨fun _=>⟨e,a⟩,rfl⟩
    rw [if_neg a];exact .inr ⟨fun g=>a (g c).2,rfl⟩
   rw [if_pos (by simp;omega)];exact .inr ⟨fun g=>e (g c).1,rfl⟩) (by omega) with ⟨h1,d⟩|⟨h1,d⟩
  ·exact ⟨true,d,by simp;exact ⟨f,h1⟩⟩
  exact ⟨false,d,by simp only [Bool.false_eq_true,false_iff];exact fun g=>h1 g.2⟩
 rw [if_pos (by simp;omega)];exact ⟨false,rfl,by simp;omega⟩
theorem VW {r:List Int}(f:r.length≤1048576){i:Nat}(a:i<8):Dec (dh r i) (∃x∈r,¬(0≤x∧x≤((2^i:Nat):Int))):=by
 unfold dh eC
 refine (uD (Lp:=cy r i) (n:=r.length) (Q:=fun j=>∀c:j<r.length,¬(0≤r[j]∧r[j]≤((2^i:Nat):Int))) (fun k j c=>by
  show (if _ then _ else _)=_
  rw [if_neg (by simp;omega)]) (fun k j c=>by
  rw [cy,if_pos (by simp;omega),aH c,ax (by omega)];unfold uY bc;rw [Uc i a];simp only [bS];by_cases d:0≤r[j]∧r[j]≤((2^i:Nat):Int)
  ·rw [pF d];exact .inr ⟨fun g=>g c d,rfl⟩
  rw [qZ d];exact .inl ⟨fun _=>d,rfl⟩) (by omega)).of_iff ⟨fun ⟨i,a,h⟩=>⟨r[i],List.getElem_mem a,h a⟩,fun ⟨x,e,h⟩=>?_⟩
 obtain ⟨i,a,rfl⟩:=List.mem_iff_getElem.1 e;exact ⟨i,a,fun _=>h⟩
theorem PM {p:aw}(_:yV p):Dec (qW p) (Gq p):=by
 unfold qW Gq;by_cases l:p.k_.length≤8
 ·rw [if_neg (by simp;omega)]
  rcases Bd (Lp:=fun k i=>fP p k (i:Int)) (n:=p.k_.length) (Q:=Wt p) (fin:=some true) (bad:=some false) (fun k _=>by
   show fP p (k+1) _=_
   rw [fP,if_neg (by simp)]) (fun k i a _=>by
   show (_∧fP p (k+1) _=fP p k _)∨(_∧fP p (k+1) _=_);rw [fP,if_pos (by simp;omega),aH a];unfold bc;simp only [bS];by_cases j:1≤p.k_[i].length∧p.k_[i].length≤3
   ·rw [if_neg (by simp;omega)];rcases (VW (r:=p.k_[i]) (by omega) (i:=i) (by omega)).cases with ⟨e,h⟩|⟨e,h⟩
    ·rw [e];exact .inr ⟨fun g=>by obtain ⟨x,c,d⟩:=h;exact d ((g a).2 x c),rfl⟩
    rw [e];refine .inl ⟨fun _=>⟨j,fun x c=>?_⟩,by simp only [bS];rw [if_neg (by simp),ax (by omega)]⟩;exact Decidable.by_contra fun d=>h ⟨x,c,d⟩
   rw [if_pos (by simp;omega)];exact .inr ⟨fun g=>j (g a).1,rfl⟩) (by omega) with ⟨h1,f⟩|⟨h1,f⟩
  ·exact ⟨true,f,by simp;exact ⟨l,h1⟩⟩
  exact ⟨false,f,by simp only [Bool.false_eq_true,false_iff];exact fun g=>h1 g.2⟩
 rw [if_pos (by simp;omega)];exact ⟨false,rfl,by simp;omega⟩
end Go.Vk
/- Scores: tested alike. -/
namespace Go.Vk
theorem Sn {p:List Int}(a:∀x∈p,0≤x∧x≤1000000000)(c:p.length≤1000000000):ov p=some p.sum:=by
 unfold ov
 have:=Df (p:=p) id (fun k s i=>iY p k s i) some (fun k s=>by
  show iY p (k+1) s _=_
  rw [iY,if_neg (by simp)]) (fun k s i h=>by
  show iY p (k+1) s _=_;rw [iY,if_pos (by simp;omega),aH h,ax (by omega)];rfl) a c
 rwa [List.map_id] at this
def OC (t:List (List Int)):Prop:=∀r∈t,r.length≤3∧∀x∈r,0≤x∧x≤9999
theorem JX {r:List Int}(h:r.length≤3∧∀x∈r,0≤x∧x≤9999):0≤r.sum∧r.sum≤30000:=by
 have:=rW h.2;omega
theorem Mf {t:List (List Int)}(a:OC t)(c:t.length≤1000000000):um t=some (t.map List.sum).sum:=by
 unfold um
 exact Df (p:=t) List.sum (fun k s i=>iL t k s i) some (fun k s=>by
  show iL t (k+1) s _=_
  rw [iL,if_neg (by simp)]) (fun k s i h=>by
  show iL t (k+1) s _=_;have d:=a _ (List.getElem_mem h);rw [iL,if_pos (by simp;omega),aH h,ax (by omega)];simp only [bS];rw [Sn (fun x e=>by have:=d.2 x e;omega) (by omega)];rfl) (fun r h=>by have:=JX (a r h);omega) c
def ent (t:List (List Int))(i j:Nat):Int:=((t[i]?.getD [])[j]?).getD 0
theorem CD {t:List (List Int)}{i j:Nat}(a:i<t.length)(c:j<t[i].length):ent t i j=t[i][j]:=by
 unfold ent;rw [List.getElem?_eq_getElem a,Option.getD_some,List.getElem?_eq_getElem c,Option.getD_some]
theorem TH {l:List aC}(j:l.length≤1000000000)(a b:Int):uh l a b=some (l.count ⟨a,b⟩:Int):=by
 unfold uh
 have:=vV (Lp:=fun k i=>fN l a b k (((l.take i).count ⟨a,b⟩:Nat):Int) (i:Int)) (n:=l.length) (fin:=some (l.count ⟨a,b⟩:Int)) (fun k=>by
  show fN l a b (k+1) _ _=_
  rw [fN,if_neg (by simp),List.take_length]) (fun k i g=>by
  show fN l a b (k+1) _ _=fN l a b k _ _;have m:(l.take i).count (⟨a,b⟩:aC)≤i:=Nat.le_trans List.count_le_length (by simp;omega);rw [fN,if_pos (by simp;omega),aH g,ax (by omega),ax (by omega),List.take_succ_eq_append_getElem g,List.count_append];simp only [bS];generalize l[i]=e;obtain ⟨c,d⟩:=e;by_cases h1:c=a
  ·by_cases f:d=b
   ·subst h1;subst f;simp
   have:¬((⟨c,d⟩:aC)=⟨a,b⟩):=fun h=>f (by injection h);simp [h1,f]
  have:¬((⟨c,d⟩:aC)=⟨a,b⟩):=fun h=>h1 (by injection h);simp [h1]) (by omega)
 simpa using this
def rM (t:List (List Int)):Int:=(t.map List.sum).sum
def Sb (n:Int)(s:aT)(i:Nat):Prop:=∀h:i<s.r_.length,(s.r_[i].length:Int)=n∧∀j,j<s.r_[i].length→(0≤ent s.r_ i j∧ent s.r_ i j≤9999)∧(s.s_.count ⟨i,j⟩:Int)≤ent s.r_ i j
def PN (n:Int)(p:aC):Prop:=(0≤p.aa_∧p.aa_≤n-1)∧(0≤p.Y_∧p.Y_≤n-1)
def Vq (n:Int)(s:aT):Prop:=rM s.r_≤9999∧(s.s_.length:Int)=(if 20<rM s.r_ then 20 else rM s.r_)∧∀p∈s.s_,PN n p
def IB (n:Int)(s:aT):Prop:=(2≤n∧n≤3)∧(s.r_.length:Int)=n∧(∀i,i<s.r_.length→Sb n s i)∧Vq n s
theorem KC {n:Int}{s:aT}{i:Nat}(a:i<s.r_.length)(h:Sb n s i)(f:n≤3):s.r_[i].length≤3∧∀x∈s.r_[i],0≤x∧x≤9999:=by
 obtain ⟨h1,d⟩:=h a;refine ⟨by omega,fun x e=>?_⟩;obtain ⟨j,c,rfl⟩:=List.mem_iff_getElem.1 e;have:=(d j c).1;rw [CD a c] at this;exact this
theorem PL {n:Int}{s:aT}{k:Nat}(h:∀i,i<k→Sb n s i)(hk:k≤s.r_.length)(a:n≤3):OC (s.r_.take k):=by
 intro r c;obtain ⟨i,d,rfl⟩:=List.mem_iff_getElem.1 c;rw [List.getElem_take];rw [List.length_take] at d;exact KC (by omega) (h i (by omega)) a
theorem IA {t:List (List Int)}(h:OC t):0≤rM t∧rM t≤30000*t.length:=by
 have:=rW (p:=t.map List.sum) (b:=30000) (fun x a=>by
  obtain ⟨r,c,rfl⟩:=List.mem_map.1 a;exact JX (h r c))
 simpa [rM] using this
theorem Rr {t:List (List Int)}{i:Nat}(h:i<t.length):rM (t.take (i+1))=rM (t.take i)+t[i].sum:=by
 unfold rM;rw [List.take_succ_eq_append_getElem h,List.map_append,List.sum_append];simp
theorem RI {n:Int}{s:aT}(e:2≤n∧n≤3)(f:s.s_.length≤1048576):Dec (fJ s n aY 0) (∀p∈s.s_,PN n p):=by
 refine (vN (Lp:=fun k i=>fJ s n k (i:Int)) (n:=s.s_.length) (Q:=fun i=>∀h:i<s.s_.length,PN n s.s_[i]) (F:=True) (fun k _=>?_) (fun k i a _=>?_) (by omega)).of_iff ⟨fun h p d=>?_,fun h=>⟨fun i a _=>h _ (List.getElem_mem a),trivial⟩⟩
 ·show Dec (fJ s n (k+1) _) _;rw [fJ,if_neg (by simp)];exact pY trivial
 ·show (_∧fJ s n (k+1) _=fJ s n k _)∨(_∧fJ s n (k+1) _=_);rw [fJ,if_pos (by simp;omega),aH a,ax (by omega),aP (n:=n-1) (by omega) (by omega)];unfold aM;simp only [bS];by_cases h1:0≤s.s_[i].aa_∧s.s_[i].aa_≤n-1
  ·rw [pF h1];simp only [cS];by_cases c:0≤s.s_[i].Y_∧s.s_[i].Y_≤n-1
   ·rw [pF c];exact .inl ⟨fun _=>⟨h1,c⟩,rfl⟩
   rw [qZ c];exact .inr ⟨fun g=>c (g a).2,rfl⟩
  rw [qZ h1];exact .inr ⟨fun g=>h1 (g a).1,rfl⟩
 obtain ⟨i,a,rfl⟩:=List.mem_iff_getElem.1 d;exact h.1 i a a
theorem Er {n:Int}{s:aT}(D:yj s):Dec (qn n s) (IB n s):=by
 have H:=D.2.1;unfold qn IB aM;simp only [bS];by_cases a:2≤n∧n≤3
 ·rw [pF a];by_cases f:(s.r_.length:Int)=n
  ·rw [if_neg (by simp [f])];refine Dec.of_iff (P:=(∀i,i<s.r_.length→Sb n s i)∧Vq n s) ?_ ⟨fun h=>⟨a,f,h⟩,fun h=>h.2.2⟩;refine vN (Lp:=fun k i=>eF n s k (rM (s.r_.take i)) (i:Int)) (n:=s.r_.length) (Q:=Sb n s) (F:=Vq n s) (fun k o=>?_) (fun k i c o=>?_) (by omega)
   ·show Dec (eF n s (k+1) _ _) _;rw [eF,if_neg (by simp;omega),List.take_length];have r:=IA (PL (k:=s.r_.length) o (Nat.le_refl _) a.2);rw [List.take_length] at r;unfold Vq;by_cases h1:rM s.r_>9999
    ·rw [if_pos (by simpa using h1)];exact bW fun g=>by have:=g.1;omega
    rw [if_neg (by simpa using h1)];unfold CA
    have E:(if decide (rM s.r_<20) then some (rM s.r_) else some 20:Option Int)=some (if 20<rM s.r_ then 20 else rM s.r_):=by
     by_cases c1:rM s.r_<20
     ·rw [if_pos (by simpa using c1),if_neg (by omega)]
     rw [if_neg (by simpa using c1)];by_cases c2:20<rM s.r_
     ·rw [if_pos c2]
     rw [if_neg c2];congr 1;omega
    rw [E];simp only [bS];by_cases d:(s.s_.length:Int)=(if 20<rM s.r_ then 20 else rM s.r_)
    ·rw [if_neg (by simp [d])];exact (RI a (by omega)).of_iff ⟨fun g=>⟨by omega,d,g⟩,fun g=>g.2.2⟩
    rw [if_pos (by simp [d])];exact bW fun g=>d g.2.1
   show (_∧eF n s (k+1) _ _=eF n s k _ _)∨(_∧eF n s (k+1) _ _=_);have r:=IA (PL (k:=i) o (by omega) a.2);rw [List.length_take] at r;rw [eF,if_pos (by simp;omega),aH c];simp only [bS];by_cases l:(s.r_[i].length:Int)=n
   ·rw [if_neg (by simp [l])]
    have m:=Bd (Lp:=fun e j=>gy n s i (eF n s k) e (rM (s.r_.take i)+(s.r_[i].take j).sum) (j:Int)) (n:=s.r_[i].length)
     (Q:=fun j=>(0≤ent s.r_ i j∧ent s.r_ i j≤9999)∧(s.s_.count ⟨i,j⟩:Int)≤ent s.r_ i j) (fin:=eF n s k (rM (s.r_.take (i+1))) ((i+1:Nat):Int)) (bad:=some false) (fun e _=>by
      show gy n s i _ (e+1) _ _=_
      rw [gy,if_neg (by simp;omega),List.take_length,Rr c,ax (by omega)]) (fun e j t A=>by
      show (_∧gy n s i _ (e+1) _ _=gy n s i _ e _ _)∨(_∧gy n s i _ (e+1) _ _=_)
      have u:=rW (p:=s.r_[i].take j) (b:=9999) (fun x G=>by
       obtain ⟨q,C,rfl⟩:=List.mem_iff_getElem.1 G;rw [List.length_take] at C;have:=(A q (by omega)).1;rw [CD c (by omega)] at this;rw [List.getElem_take];exact this)
      rw [List.length_take] at u;rw [CD c t,gy,if_pos (by simp;omega),aH c];simp only [bS];rw [aH t,ax (by omega),CU t];unfold aM;simp only [bS];by_cases h1:0≤s.r_[i][j]∧s.r_[i][j]≤9999
      ·rw [pF h1];simp only [Bool.not_true,Bool.false_eq_true,if_false];rw [TH (by omega)];simp only [bS];by_cases d:(s.s_.count ⟨i,j⟩:Int)≤s.r_[i][j]
       ·rw [if_neg (by simp;omega),aP (by omega) (by omega),Int.add_assoc];exact .inl ⟨⟨h1,d⟩,rfl⟩
       rw [if_pos (by simp;omega)];exact .inr ⟨fun g=>d g.2,rfl⟩
      rw [qZ h1];exact .inr ⟨fun g=>h1 g.1,rfl⟩) (by omega)
    simp only [List.take_zero,List.sum_nil,Int.add_zero] at m;rcases m with ⟨v,w⟩|⟨v,w⟩
    ·exact .inl ⟨fun _=>⟨l,v⟩,w⟩
    exact .inr ⟨fun g=>v (g c).2,w⟩
   rw [if_pos (by simp [l])];exact .inr ⟨fun g=>l (g c).1,rfl⟩
  rw [if_pos (by simp [f])];exact bW fun g=>f g.2.1
 rw [qZ a];exact bW fun g=>a g.1
end Go.Vk
/- Scores: tested alike by the program. -/
namespace Go.Vk
def cm (l:List aC):List (aC×Int):=l.foldl (fun m p=>Dt m p (IntKind.i64.wrap (kh m p+1))) []
theorem TX (l:List aC):∀m:List (aC×Int),(∀q,0≤kh m q∧kh m q+l.length≤1000000000)→∀q,kh (l.foldl (fun m p=>Dt m p (IntKind.i64.wrap (kh m p+1))) m) q=kh m q+l.count q:=by
 induction l with
 | nil=>intro m _ q;simp
 | cons p l ih =>
  intro m a q;rw [List.foldl_cons];have d:=a p;simp only [List.length_cons] at a d;have c:IntKind.i64.wrap (kh m p+1)=kh m p+1:=aP (by omega) (by omega)
  rw [ih _ (fun q=>by
   rw [Ml,c];have:=a q;split<;>omega) q,Ml,c,List.count_cons]
  by_cases h:q=p
  ·subst h;simp;omega
  have:¬(p=q):=fun e=>h e.symm;simp [h,this]
theorem VP {l:List aC}(a:l.length≤1000000000)(q:aC):kh (cm l) q=(l.count q:Int):=by
 unfold cm;rw [TX l [] (fun q=>by simp [kh];omega) q];simp [kh]
theorem Pf {l:List aC}{i:Nat}(h:i<l.length):cm (l.take (i+1))=Dt (cm (l.take i)) l[i] (IntKind.i64.wrap (kh (cm (l.take i)) l[i]+1)):=by
 unfold cm;rw [List.take_succ_eq_append_getElem h,List.foldl_append];rfl
theorem LU {r:List Int}(f:r.length≤1048576):Dec (dl r) (∃x∈r,¬(0≤x∧x≤9999)):=by
 unfold dl eL
 refine (uD (Lp:=cE r) (n:=r.length) (Q:=fun j=>∀a:j<r.length,¬(0≤r[j]∧r[j]≤9999)) (fun k j a=>by
  show (if _ then _ else _)=_
  rw [if_neg (by simp;omega)]) (fun k j a=>by
  rw [cE,if_pos (by simp;omega),aH a,ax (by omega)];unfold wz bc;simp only [bS];by_cases c:0≤r[j]∧r[j]≤9999
  ·rw [pF c];exact .inr ⟨fun g=>g a c,rfl⟩
  rw [qZ c];exact .inl ⟨fun _=>c,rfl⟩) (by omega)).of_iff ⟨fun ⟨i,d,h⟩=>⟨r[i],List.getElem_mem d,h d⟩,fun ⟨x,e,h⟩=>?_⟩
 obtain ⟨i,d,rfl⟩:=List.mem_iff_getElem.1 e;exact ⟨i,d,fun _=>h⟩
def UQ (n:Int)(s:aT)(i:Nat):Prop:=∀h:i<s.r_.length,(s.r_[i].length:Int)=n∧∀x∈s.r_[i],0≤x∧x≤9999
def Py (n:Int)(s:aT)(i:Nat):Prop:=∀h:i<s.s_.length,PN n s.s_[i]∧((s.s_.take (i+1)).count s.s_[i]:Int)≤ent s.r_ s.s_[i].aa_.toNat s.s_[i].Y_.toNat
theorem NT {n:Int}{s:aT}:IB n s↔((2≤n∧n≤3)∧(s.r_.length:Int)=n∧(∀i,i<s.r_.length→UQ n s i)∧rM s.r_≤9999∧(s.s_.length:Int)=(if 20<rM s.r_ then 20 else rM s.r_)∧∀i,i<s.s_.length→Py n s i):=by
 constructor
 ·rintro ⟨f,k,c,h1,l,e⟩;refine ⟨f,k,fun i a h=>⟨(c i a h).1,(KC h (c i a) f.2).2⟩,h1,l,fun i a h=>⟨e _ (List.getElem_mem h),?_⟩⟩;have d:=e _ (List.getElem_mem h);have o:s.s_[i].aa_.toNat<s.r_.length:=by have:=d.1;omega
  obtain ⟨r,g⟩:=c _ o o;have t:s.s_[i].Y_.toNat<s.r_[s.s_[i].aa_.toNat].length:=by have:=d.2;omega
  have u:=(g _ t).2
  have x:(⟨(s.s_[i].aa_.toNat:Int),(s.s_[i].Y_.toNat:Int)⟩:aC)=s.s_[i]:=by
   rw [Int.toNat_of_nonneg d.1.1,Int.toNat_of_nonneg d.2.1]
  rw [x] at u;have D:(s.s_.take (i+1)).count s.s_[i]≤s.s_.count s.s_[i]:=(List.take_sublist _ _).count_le _;omega
 rintro ⟨f,k,c,h1,l,e⟩;refine ⟨f,k,fun i a h=>⟨(c i a h).1,fun j m=>?_⟩,h1,l,fun p d=>?_⟩
 ·have r:=(c i a h).2 _ (List.getElem_mem m);rw [CD h m];refine ⟨r,?_⟩;by_cases v:(⟨(i:Int),(j:Int)⟩:aC)∈s.s_
  ·obtain ⟨q,w,A,C⟩:=NE v;obtain ⟨_,g⟩:=e q w w;rw [A,C] at g
   have:ent s.r_ (Int.toNat i) (Int.toNat j)=s.r_[i][j]:=by
    rw [Int.toNat_natCast,Int.toNat_natCast,CD h m]
   simp only at g;omega
  rw [List.count_eq_zero.2 v];omega
 obtain ⟨i,a,rfl⟩:=List.mem_iff_getElem.1 d;exact (e i a a).1
theorem RD {n:Int}{s:aT}(q:2≤n∧n≤3)(r:s.s_.length≤1048576)(t:(s.r_.length:Int)=n)(m:∀i,i<s.r_.length→UQ n s i):Dec (fC s n aY 0 []) (∀i,i<s.s_.length→Py n s i):=by
 refine (vN (Lp:=fun k i=>fC s n k (i:Int) (cm (s.s_.take i))) (n:=s.s_.length) (Q:=Py n s) (F:=True) (fun k _=>?_) (fun k i a _=>?_) (by omega)).of_iff ⟨fun h=>h.1,fun h=>⟨h,trivial⟩⟩
 ·show Dec (fC s n (k+1) _ _) _;rw [fC,if_neg (by simp)];exact pY trivial
 show (_∧fC s n (k+1) _ _=fC s n k _ _)∨(_∧fC s n (k+1) _ _=_);have f:=VP (l:=s.s_.take (i+1)) (by simp;omega) s.s_[i];rw [fC,if_pos (by simp;omega),aH a,ax (by omega),aP (n:=n-1) (by omega) (by omega),Pf a];rw [Pf a] at f;unfold bc;simp only [bS];by_cases h1:0≤s.s_[i].aa_∧s.s_[i].aa_≤n-1
 ·rw [pF h1];simp only [cS];by_cases c:0≤s.s_[i].Y_∧s.s_[i].Y_≤n-1
  ·rw [pF c];simp only [Bool.not_true,Bool.false_eq_true,if_false];have d:s.s_[i].aa_.toNat<s.r_.length:=by omega
   have e:s.s_[i].Y_.toNat<s.r_[s.s_[i].aa_.toNat].length:=by have:=(m _ d d).1;omega
   have o:idx s.r_ s.s_[i].aa_=some s.r_[s.s_[i].aa_.toNat]:=by
    have:=aH d;rwa [Int.toNat_of_nonneg h1.1] at this
   have p:idx s.r_[s.s_[i].aa_.toNat] s.s_[i].Y_=some s.r_[s.s_[i].aa_.toNat][s.s_[i].Y_.toNat]:=by
    have:=aH e;rwa [Int.toNat_of_nonneg c.1] at this
   rw [o];simp only [bS];rw [p];simp only [bS];rw [f];by_cases j:((s.s_.take (i+1)).count s.s_[i]:Int)≤s.r_[s.s_[i].aa_.toNat][s.s_[i].Y_.toNat]
   ·rw [if_neg (by simp;omega)];exact .inl ⟨fun _=>⟨⟨h1,c⟩,by rw [CD d e];exact j⟩,rfl⟩
   rw [if_pos (by simp;omega)];exact .inr ⟨fun g=>j (by have:=(g a).2;rwa [CD d e] at this),rfl⟩
  rw [qZ c];exact .inr ⟨fun g=>c (g a).1.2,rfl⟩
 rw [qZ h1];exact .inr ⟨fun g=>h1 (g a).1.1,rfl⟩
theorem Rt {n:Int}{s:aT}(t:yj s):Dec (vL n s) (IB n s):=by
 have v:=t.2.1;refine Dec.of_iff ?_ NT.symm;unfold vL bc;simp only [bS];by_cases f:2≤n∧n≤3
 ·rw [pF f];by_cases j:(s.r_.length:Int)=n
  ·rw [if_neg (by simp [j])];refine Dec.of_iff (P:=(∀i,i<s.r_.length→UQ n s i)∧rM s.r_≤9999∧(s.s_.length:Int)=(if 20<rM s.r_ then 20 else rM s.r_)∧∀i,i<s.s_.length→Py n s i) ?_ ⟨fun h=>⟨f,j,h⟩,fun h=>h.2.2⟩;refine vN (Lp:=fun k i=>gv s n k (i:Int)) (n:=s.r_.length) (Q:=UQ n s) (fun k o=>?_) (fun k i a o=>?_) (by omega)
   ·show Dec (gv s n (k+1) _) _
    have l:OC s.r_:=fun r d=>by
     obtain ⟨i,a,rfl⟩:=List.mem_iff_getElem.1 d;obtain ⟨w,u⟩:=o i a a;exact ⟨by omega,u⟩
    rw [gv,if_neg (by simp),Mf l (by omega)];simp only [bS];show Dec (if (decide (rM s.r_>9999)||_) then _ else _) _;by_cases h1:rM s.r_>9999
    ·rw [if_pos (by simp [h1])];exact bW fun g=>by have:=g.1;omega
    by_cases m:(s.s_.length:Int)=(if 20<rM s.r_ then 20 else rM s.r_)
    ·rw [if_neg (by simp only [h1,decide_false,Bool.false_or,bne_iff_ne,ne_eq,Decidable.not_not];exact m)];exact (RD f (by omega) j o).of_iff ⟨fun g=>⟨by omega,m,g⟩,fun g=>g.2.2⟩
    rw [if_pos (by simp only [h1,decide_false,Bool.false_or,bne_iff_ne,ne_eq];exact m)];exact bW fun g=>m g.2.1
   show (_∧gv s n (k+1) _=gv s n k _)∨(_∧gv s n (k+1) _=_);rw [gv,if_pos (by simp;omega),aH a,ax (by omega)];simp only [bS];by_cases d:(s.r_[i].length:Int)=n
   ·rw [if_neg (by simp [d])];rcases (LU (r:=s.r_[i]) (by omega)).cases with ⟨e,x,p,q⟩|⟨e,q⟩
    ·rw [e];exact .inr ⟨fun g=>q ((g a).2 x p),rfl⟩
    rw [e];exact .inl ⟨fun _=>⟨d,fun x p=>Classical.byContradiction fun c=>q ⟨x,p,c⟩⟩,rfl⟩
   rw [if_pos (by simp [d])];exact .inr ⟨fun g=>d (g a).1,rfl⟩
  rw [if_pos (by simp [j])];exact bW fun g=>j g.2.1
 rw [qZ f];exact bW fun g=>f g.1
end Go.Vk
/- Rules, members, forests, states: tested alike. -/
namespace Go.Vk
theorem Dd (c y:Bool):(if c=true then some y else some false:Option Bool)=some (c&&y):=by cases c<;>rfl
theorem uq (o:Option Bool):(o.bind fun y=>some y)=o:=by cases o<;>rfl
theorem Um {o k:Option Bool}{P Q:Prop}(h:Dec o P)(h':P→Dec k Q):Dec (o.bind fun y=>if y=true then k else some false) (P∧Q):=h.and h'
def JN (r:bA):Prop:=(1≤r.T_∧r.T_≤9)∧(0≤r.S_∧r.S_≤999)∧(1≤r.U_∧r.U_≤200)∧(0≤r.o_∧r.o_≤6)∧(1≤r.b_∧r.b_≤31)∧(62≤r.L_∧r.L_≤2000)
theorem Bb (r:bA):Dec (pK r) (JN r):=by
 unfold pK aM JN;simp only [Option.bind_some,Dd];exact ⟨_,rfl,by simp [and_assoc]⟩
theorem MQ (r:bA):Dec (uE r) (JN r):=by
 unfold uE bc JN;simp only [Option.bind_some,Dd];exact ⟨_,rfl,by simp [and_assoc]⟩
def uy (c:aU):Prop:=fL c.w_∧JN c.e_∧(1≤c.t_∧c.t_≤4)∧(1≤c.V_∧c.V_≤(c.w_.c_.length:Int))∧(c.X_=1∨c.X_=6)∧(1≤c.x_∧c.x_≤9)∧(1≤c.y_∧c.y_≤9)∧c.x_≤c.y_
theorem Uw (x:Int):Dec ((kK x).bind fun y=>some (decide ((y.length:Int)>0))) (x=1∨x=6):=by
 unfold kK;by_cases h1:x=1
 ·rw [if_pos (by simpa using h1)];exact pY (.inl h1)
 rw [if_neg (by simpa using h1)];by_cases a:x=6
 ·rw [if_pos (by simpa using a)];exact pY (.inr a)
 rw [if_neg (by simpa using a)];exact bW (by omega)
theorem Vf (x:Int):Dec ((rE x).bind fun y=>some (!y.2)) (x=1∨x=6):=by
 unfold rE;by_cases h1:x=1
 ·rw [if_pos (by simpa using h1)];exact pY (.inl h1)
 rw [if_neg (by simpa using h1)];by_cases a:x=6
 ·rw [if_pos (by simpa using a)];exact pY (.inr a)
 rw [if_neg (by simpa using a)];exact bW (by omega)
theorem Aw {c:aU}(l:ba c.w_):Dec (lx c) (uy c):=by
 unfold lx uy;rcases (lP (kC l)).cases with ⟨e,d⟩|⟨e,d⟩
 ·rw [e];simp only [Option.bind_some,if_true];rcases (Bb c.e_).cases with ⟨e,f⟩|⟨e,f⟩
  ·rw [e];simp only [Option.bind_some,if_true];rcases (cz (x:=c.t_) (a:=1) (b:=4)).cases with ⟨e,h1⟩|⟨e,h1⟩
   ·rw [e];simp only [Option.bind_some,if_true];rcases (cz (x:=c.V_) (a:=1) (b:=(c.w_.c_.length:Int))).cases with ⟨e,h⟩|⟨e,h⟩
    ·rw [e];simp only [Option.bind_some,if_true];rcases (Uw c.X_).cases with ⟨e,i⟩|⟨e,i⟩
     ·rw [e];simp only [Option.bind_some,if_true];rcases (cz (x:=c.x_) (a:=1) (b:=9)).cases with ⟨e,j⟩|⟨e,j⟩
      ·rw [e];simp only [Option.bind_some,if_true];rcases (cz (x:=c.y_) (a:=1) (b:=9)).cases with ⟨e,k⟩|⟨e,k⟩
       ·rw [e];simp only [Option.bind_some,Bool.true_and];refine ⟨_,rfl,?_⟩;rw [decide_eq_true_iff];exact ⟨fun g=>⟨d,f,h1,h,i,j,k,g⟩,fun g=>g.2.2.2.2.2.2.2⟩
       rw [e];exact bW fun g=>k g.2.2.2.2.2.2.1
      rw [e];exact bW fun g=>j g.2.2.2.2.2.1
     rw [e];exact bW fun g=>i g.2.2.2.2.1
    rw [e];exact bW fun g=>h g.2.2.2.1
   rw [e];exact bW fun g=>h1 g.2.2.1
  rw [e];exact bW fun g=>f g.2.1
 rw [e];exact bW fun g=>d g.1
theorem Hq {c:aU}(l:ba c.w_):Dec (qk c) (uy c):=by
 unfold qk uy;rcases (ox (kC l)).cases with ⟨e,d⟩|⟨e,d⟩
 ·rw [e];simp only [Option.bind_some,if_true];rcases (MQ c.e_).cases with ⟨e,f⟩|⟨e,f⟩
  ·rw [e];simp only [Option.bind_some,if_true];rcases (fi (x:=c.t_) (a:=1) (b:=4)).cases with ⟨e,h1⟩|⟨e,h1⟩
   ·rw [e];simp only [Option.bind_some,if_true];rcases (fi (x:=c.V_) (a:=1) (b:=(c.w_.c_.length:Int))).cases with ⟨e,h⟩|⟨e,h⟩
    ·rw [e];simp only [Option.bind_some,if_true];rcases (Vf c.X_).cases with ⟨e,i⟩|⟨e,i⟩
     ·rw [e];simp only [Option.bind_some,if_true];rcases (fi (x:=c.x_) (a:=1) (b:=9)).cases with ⟨e,j⟩|⟨e,j⟩
      ·rw [e];simp only [Option.bind_some,if_true];rcases (fi (x:=c.y_) (a:=1) (b:=9)).cases with ⟨e,k⟩|⟨e,k⟩
       ·rw [e];simp only [Option.bind_some,Bool.true_and];refine ⟨_,rfl,?_⟩;rw [decide_eq_true_iff];exact ⟨fun g=>⟨d,f,h1,h,i,j,k,g⟩,fun g=>g.2.2.2.2.2.2.2⟩
       rw [e];exact bW fun g=>k g.2.2.2.2.2.2.1
      rw [e];exact bW fun g=>j g.2.2.2.2.2.1
     rw [e];exact bW fun g=>i g.2.2.2.2.1
    rw [e];exact bW fun g=>h g.2.2.2.1
   rw [e];exact bW fun g=>h1 g.2.2.1
  rw [e];exact bW fun g=>f g.2.1
 rw [e];exact bW fun g=>d g.1
def vf (l:List au):Nat→Int
 | 0=>0
 | i+1=>if i=0∨(l.getD i default).o_>vf l i then (l.getD i default).o_ else vf l i
theorem Xl {l:List au}{i:Nat}(h:i<l.length):l.getD i default=l[i]:=by simp [h]
theorem Qa {t:am}(d:t.b_.length≤1048576):qv t=some (vf t.b_ t.b_.length):=by
 unfold qv;refine vV (Lp:=fun k i=>eG t k (vf t.b_ i) (i:Int)) (n:=t.b_.length) (fun k=>?_) (fun k i a=>?_) (by omega)
 ·show eG t (k+1) _ _=_;rw [eG,if_neg (by simp)]
 show eG t (k+1) _ _=eG t k _ _;rw [eG,if_pos (by simp;omega),aH a,ax (by omega)];simp only [Option.bind_some,vf];rw [Xl a];by_cases c:i=0
 ·rw [if_pos (by simp only [beq_iff_eq];omega),if_pos (.inl c)];simp only [Option.bind_some,if_true]
 rw [if_neg (by simp only [beq_iff_eq];omega)];simp only [bS];by_cases h1:t.b_[i].o_>vf t.b_ i
 ·rw [if_pos (by simpa using h1),if_pos (.inr h1)]
 rw [if_neg (by simpa using h1),if_neg (fun g=>g.elim c h1)]
theorem Qg {t:am}(e:t.b_.length≤1048576):vw t=some (vf t.b_ t.b_.length):=by
 unfold vw;by_cases c:t.b_.length=0
 ·rw [if_pos (by simp only [beq_iff_eq];omega),c];rfl
 rw [if_neg (by simp only [beq_iff_eq];omega),show (0:Int)=((0:Nat):Int) from rfl,aH (show 0<t.b_.length by omega)];simp only [bS]
 have h:=vV (Lp:=fun k i=>ic t k (i:Int) (if i=0 then (t.b_[0]'(by omega)).o_ else vf t.b_ i)) (n:=t.b_.length) (fin:=some (vf t.b_ t.b_.length)) (fun k=>by
  show ic t (k+1) _ _=_
  rw [ic,if_neg (by simp),if_neg c]) (fun k i d=>by
  show ic t (k+1) _ _=ic t k _ _;rw [ic,if_pos (by simp;omega),aH d,ax (by omega)];simp only [bS];congr 1;rw [if_neg (Nat.succ_ne_zero i)];simp only [vf];rw [Xl d];by_cases a:i=0
  ·subst a;rw [if_pos rfl,if_pos (show (0=0∨_) from .inl rfl),if_neg (Int.lt_irrefl _)]
  rw [if_neg a];by_cases h1:t.b_[i].o_>vf t.b_ i
  ·rw [if_pos h1,if_pos (Or.inr h1)]
  rw [if_neg h1,if_neg (fun g:i=0∨_=>g.elim a h1)]) (by omega)
 exact h
def ya (n:au):Int:=if n.D_=true then 2+(n.m_.g_.map fun c=>(c.length:Int)).sum else 1
def HQ (t:am):Int:=(t.b_.map ya).sum
theorem Ed {α ρ:Type}{p:List α}(v:α→Int)(a:Int)(Lp:Nat→Int→Int→Option ρ)(fin:Int→Option ρ)(d:∀k s,Lp (k+1) s (p.length:Int)=fin s)(e:∀k s (i:Nat) (h:i<p.length),Lp (k+1) s (i:Int)=Lp k (IntKind.i64.wrap (s+v p[i])) ((i+1:Nat):Int))(f:∀x∈p,0≤v x∧v x≤1000000000)(l:p.length≤1000000000)(m:0≤a∧a≤1000000000):Lp aY a 0=fin (a+(p.map v).sum):=by
 have:=vV (Lp:=fun k i=>Lp k (a+((p.map v).take i).sum) (i:Int)) (n:=p.length) (fin:=fin (a+(p.map v).sum)) (fun k=>by
  show Lp _ _ _=_
  rw [d,List.take_of_length_le (by simp)]) (fun k i c=>by
  show Lp _ _ _=Lp _ _ _
  have h1:=rW (p:=(p.map v).take (i+1)) (b:=1000000000) (fun x g=>by
   obtain ⟨y,j,rfl⟩:=List.mem_map.1 (MG g);exact f y j)
  rw [e _ _ _ c];rw [CU (by simpa using c)] at h1 ⊢;rw [List.getElem_map] at h1 ⊢;have o:((p.map v).take (i+1)).length≤1000000000:=by simp;omega
  rw [aP (by omega) (by omega),Int.add_assoc]) (by omega)
 simpa using this
theorem PD {n:au}(a:rg n)(h:n.m_.g_.length≤5):0≤ya n∧ya n≤10000000:=by
 unfold ya;split
 ·have d:=a.2.2.2.2.1.2
  have:=rW (p:=n.m_.g_.map fun c=>(c.length:Int)) (b:=1048576) (fun x e=>by
   obtain ⟨y,f,rfl⟩:=List.mem_map.1 e;have:=(d.2 y f).1;omega)
  simp only [List.length_map] at this;omega
 omega
theorem Rh {n:au}(a:rg n)(h:n.m_.g_.length≤5):qD n=some (ya n):=by
 unfold qD ya;have d:=a.2.2.2.2.1.2;cases g:n.D_
 ·rfl
 simp only [Bool.not_true,Bool.false_eq_true,if_true,if_false]
 exact Ed (p:=n.m_.g_) (fun c=>(c.length:Int)) 2 (ju n) some (fun k s=>by
  show (if _ then _ else _)=_
  rw [if_neg (by simp)]) (fun k s i e=>by
  rw [ju,if_pos (by simp;omega),aH e,ax (by omega)];rfl) (fun x f=>by have:=(d.2 x f).1;omega) (by omega) (by omega)
theorem QF {n:au}(a:rg n)(h:n.m_.g_.length≤5):vK n=some (ya n):=by
 unfold vK ya;have d:=a.2.2.2.2.1.2;cases g:n.D_
 ·rfl
 simp only [Bool.not_true,Bool.false_eq_true,if_true,if_false]
 exact Ed (p:=n.m_.g_) (fun c=>(c.length:Int)) 2 (fun k s i=>kI n k i s) some (fun k s=>by
  show (if _ then _ else _)=_
  rw [if_neg (by simp)]) (fun k s i e=>by
  show kI n (k+1) _ _=kI n k _ _;rw [kI,if_pos (by simp;omega),aH e,ax (by omega)];rfl) (fun x f=>by have:=(d.2 x f).1;omega) (by omega) (by omega)
theorem Hh {s:ae}{t:am}(a:xh s t){i:Nat}(c:i<t.b_.length):t.b_[i].m_.g_.length≤5:=by
 have h:=(a.2.2.2 i c c).1.2.2.1;have:=a.1.1;rcases h.2.2.2.2 with g|g
 ·omega
 have:=g.1;omega
theorem Jn {s:ae}{t:am}(d:iC t)(c:xh s t):lO t=some (HQ t):=by
 unfold lO HQ;have f:=c.2.1
 have h:=Ed (p:=t.b_) ya 0 (gR t) some (fun k s=>by
  show (if _ then _ else _)=_
  rw [if_neg (by simp)]) (fun k s i a=>by
  rw [gR,if_pos (by simp;omega),aH a,ax (by omega)];simp only [bS];rw [Rh (d.1.2 _ (List.getElem_mem a)) (Hh c a)]
  rfl) (fun x e=>by
   obtain ⟨i,a,rfl⟩:=List.getElem_of_mem e;have:=PD (d.1.2 _ (List.getElem_mem a)) (Hh c a);omega) (by omega) (by omega)
 rw [Int.zero_add] at h;exact h
theorem Jj {s:ae}{t:am}(d:iC t)(c:xh s t):tj t=some (HQ t):=by
 unfold tj HQ;have f:=c.2.1
 have h:=Ed (p:=t.b_) ya 0 (mL t) some (fun k s=>by
  show (if _ then _ else _)=_
  rw [if_neg (by simp)]) (fun k s i a=>by
  rw [mL,if_pos (by simp;omega),aH a,ax (by omega)];simp only [bS];rw [QF (d.1.2 _ (List.getElem_mem a)) (Hh c a)]
  rfl) (fun x e=>by
   obtain ⟨i,a,rfl⟩:=List.getElem_of_mem e;have:=PD (d.1.2 _ (List.getElem_mem a)) (Hh c a);omega) (by omega) (by omega)
 rw [Int.zero_add] at h;exact h
def JR (s:ae)(r:bA)(t:am):Prop:=xh s t∧JN r∧(t.b_.length:Int)≤r.b_∧vf t.b_ t.b_.length≤r.o_∧HQ t≤r.L_
theorem MM {s:ae}{r:bA}{t:am}(f:ba s)(c:iC t):Dec (rZ s r t) (JR s r t):=by
 unfold rZ JR;rcases (wV f c).cases with ⟨e,a⟩|⟨e,a⟩
 ·rw [e];simp only [Option.bind_some,if_true];rcases (Bb r).cases with ⟨e,d⟩|⟨e,d⟩
  ·rw [e,Qa c.1.1,Jn c a];simp only [Option.bind_some,Bool.true_and,Dd];refine ⟨_,rfl,?_⟩;simp [a,d,and_assoc]
  rw [e];exact bW fun g=>d g.2.1
 rw [e];exact bW fun g=>a g.1
theorem LY {s:ae}{r:bA}{t:am}(f:ba s)(c:iC t):Dec (yH s r t) (JR s r t):=by
 unfold yH JR;rcases (RY f c).cases with ⟨e,a⟩|⟨e,a⟩
 ·rw [e];simp only [Option.bind_some,if_true];rcases (MQ r).cases with ⟨e,d⟩|⟨e,d⟩
  ·rw [e,Qg c.1.1,Jj c a];simp only [Option.bind_some,Bool.true_and,Dd];refine ⟨_,rfl,?_⟩;simp [a,d,and_assoc]
  rw [e];exact bW fun g=>d g.2.1
 rw [e];exact bW fun g=>a g.1
def TC (d:dd):Prop:=Gq d.x_∧Gq d.y_
theorem Ve (d:dd):Dec (yU d) (TC d):=by
 unfold yU TC;simp only [uq];exact (De d.x_).and fun _=>De d.y_
theorem Uk {d:dd}(a:OU d):Dec (zx d) (TC d):=by
 unfold zx TC;simp only [uq];exact (PM a.1).and fun _=>PM a.2
def Lz (t:am):Prop:=t.b_.length=0∧t.p_=0
theorem ST (t:am):Dec (uf t (am.mk [] 0)) (Lz t):=by
 unfold uf Lz;simp only [uq];by_cases h:t.p_=0
 ·rw [if_pos (by simpa using h)];unfold cr;by_cases a:t.b_.length=0
  ·rw [if_neg (by simp [a])];obtain ⟨k,hk⟩:∃k,aY=k+1:=⟨aY-1,by have:=cx (n:=0) (by omega);omega⟩;rw [hk,bJ,if_neg (by simp [List.length_eq_zero_iff.1 a])];exact pY ⟨a,h⟩
  rw [if_pos (by simp;exact fun e=>a (by rw [e];rfl))];exact bW fun g=>a g.1
 rw [if_neg (by simpa using h)];exact bW fun g=>h g.2
def xD (c:aU)(m:av):Prop:=uy c∧JR c.w_ c.e_ m.C_∧TC m.G_∧(m.R_=true→JR c.w_ c.e_ m.u_)∧(m.R_=false→Lz m.u_)
theorem HN {c:aU}{m:av}(j:ba c.w_)(k:rJ m):Dec (rc c m) (xD c m):=by
 unfold rc xD;rcases (Aw j).cases with ⟨e,d⟩|⟨e,d⟩
 ·rw [e];simp only [cS];rcases (MM (r:=c.e_) j k.1).cases with ⟨e,f⟩|⟨e,f⟩
  ·rw [e];simp only [cS];rcases (Ve m.G_).cases with ⟨e,i⟩|⟨e,i⟩
   ·rw [e];simp only [Option.bind_some,Bool.not_true,Bool.false_eq_true,if_false,uq];by_cases a:m.R_=true
    ·rw [if_pos a];exact (MM j k.2.2.1).of_iff ⟨fun g=>⟨d,f,i,fun _=>g,fun h=>by rw [a] at h;cases h⟩,fun g=>g.2.2.2.1 a⟩
    rw [if_neg a];have hy':m.R_=false:=by simpa using a
    refine ⟨_,rfl,?_⟩;rw [Bool.and_eq_true,beq_iff_eq,beq_iff_eq];exact ⟨fun g=>⟨d,f,i,fun h=>absurd h a,fun _=>⟨by omega,g.2⟩⟩,fun g=>⟨by have:=(g.2.2.2.2 hy').1;omega,(g.2.2.2.2 hy').2⟩⟩
   rw [e];exact bW fun g=>i g.2.2.1
  rw [e];exact bW fun g=>f g.2.1
 rw [e];exact bW fun g=>d g.1
theorem Oc {c:aU}{m:av}(j:ba c.w_)(k:rJ m):Dec (uc c m) (xD c m):=by
 unfold uc xD;rcases (Hq j).cases with ⟨e,d⟩|⟨e,d⟩
 ·rw [e];simp only [cS];rcases (LY (r:=c.e_) j k.1).cases with ⟨e,f⟩|⟨e,f⟩
  ·rw [e];simp only [cS];rcases (Uk k.2.2.2).cases with ⟨e,i⟩|⟨e,i⟩
   ·rw [e];simp only [Option.bind_some,Bool.not_true,Bool.false_eq_true,if_false,uq];by_cases a:m.R_=true
    ·rw [if_pos a];exact (LY j k.2.2.1).of_iff ⟨fun g=>⟨d,f,i,fun _=>g,fun h=>by rw [a] at h;cases h⟩,fun g=>g.2.2.2.1 a⟩
    rw [if_neg a];have hy':m.R_=false:=by simpa using a
    exact (ST m.u_).of_iff ⟨fun g=>⟨d,f,i,fun h=>absurd h a,fun _=>g⟩,fun g=>g.2.2.2.2 hy'⟩
   rw [e];exact bW fun g=>i g.2.2.1
  rw [e];exact bW fun g=>f g.2.1
 rw [e];exact bW fun g=>d g.1
def Dk (c:aU)(f:bh):Prop:=uy c∧(f.t_.length:Int)=c.t_∧∀m∈f.t_,xD c m
theorem IP {c:aU}{f:bh}(l:ba c.w_)(o:wC f):Dec (qX c f) (Dk c f):=by
 unfold qX Dk;have q:f.t_.length≤1048576:=o.1;rcases (Aw l).cases with ⟨e,j⟩|⟨e,j⟩
 ·rw [e];simp only [Option.bind_some,Bool.not_true,Bool.false_or];by_cases d:(f.t_.length:Int)=c.t_
  ·rw [if_neg (by simpa using d)]
   refine (qt (Lp:=nJ f c) (n:=f.t_.length) (Q:=fun i=>∀h:i<f.t_.length,xD c f.t_[i]) 0 (fun k i a=>?_) (fun k i _ a=>?_) (by omega)).of_iff ⟨fun g=>⟨j,d,fun m p=>by
    obtain ⟨i,a,rfl⟩:=List.getElem_of_mem p;exact g i (Nat.zero_le _) a a⟩,fun g i _ a _=>g.2.2 _ (List.getElem_mem a)⟩
   ·show (if _ then _ else _)=_;rw [if_neg (by simp;omega)]
   rw [nJ,if_pos (by simp;omega),aH a,ax (by omega)];simp only [bS];rcases (HN l (o.2 _ (List.getElem_mem a))).cases with ⟨e,h⟩|⟨e,h⟩
   ·rw [e];exact .inl ⟨fun _=>h,rfl⟩
   rw [e];exact .inr ⟨fun g=>h (g a),rfl⟩
  rw [if_pos (by simpa using d)];exact bW fun g=>d g.2.1
 rw [e];exact bW fun g=>j g.1
theorem Oa {c:aU}{f:bh}(l:ba c.w_)(o:wC f):Dec (ut c f) (Dk c f):=by
 unfold ut Dk;have r:f.t_.length≤1048576:=o.1;rcases (Hq l).cases with ⟨e,j⟩|⟨e,j⟩
 ·rw [e];simp only [Option.bind_some,Bool.true_and,uq];by_cases d:(f.t_.length:Int)=c.t_
  ·rw [if_pos (by simpa using d)]
   have p:Dec (cg f.t_ c) (∃i,i<f.t_.length∧∀h:i<f.t_.length,¬xD c f.t_[i]):=by
    unfold cg de;refine uD (Lp:=bO f.t_ c) (n:=f.t_.length) (fun k i a=>?_) (fun k i a=>?_) (by omega)
    ·show (if _ then _ else _)=_;rw [if_neg (by simp;omega)]
    rw [bO,if_pos (by simp;omega),aH a,ax (by omega)];unfold uX;simp only [bS];rcases (Oc l (o.2 _ (List.getElem_mem a))).cases with ⟨e,h⟩|⟨e,h⟩
    ·rw [e];exact .inr ⟨fun g=>g a h,rfl⟩
    rw [e];exact .inl ⟨fun _=>h,rfl⟩
   rcases p.cases with ⟨e,i,a,h⟩|⟨e,h⟩
   ·rw [e];exact bW fun g=>h a (g.2.2 _ (List.getElem_mem a))
   rw [e];exact pY ⟨j,d,fun m q=>by
    obtain ⟨i,a,rfl⟩:=List.getElem_of_mem q;exact Classical.byContradiction fun g=>h ⟨i,a,fun _=>g⟩⟩
  rw [if_neg (by simpa using d)];exact bW fun g=>d g.2.1
 rw [e];exact bW fun g=>j g.1
def qR (st:az):Prop:=Dk st.d_ st.Z_∧IB (st.d_.w_.f_.length:Int) st.I_
theorem yC {st:az}(h:jP st):Dec (qF st) (qR st):=by
 unfold qF qR;simp only [uq];exact (IP h.1.1 h.2.1).and fun _=>Er h.2.2
theorem Bu {st:az}(h:jP st):Dec (mN st) (qR st):=by
 unfold mN qR;simp only [uq];exact (Oa h.1.1 h.2.1).and fun _=>Rt h.2.2
end Go.Vk
