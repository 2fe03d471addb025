/- Attributes' places, branches, nodes, trees: tested alike. -/
import Derived.Test.YtnjemlncpeekkabGreatDoorRX
import Derived.Test.YtnjemlncpeekkabGreatDoorVkBr
namespace Go.Vk
def Asc (l:List Int):Prop:=∀i,1≤i→i<l.length→∀h:i<l.length,l[i-1]<l[i]
theorem TG {l:List Int}(d:l.length≤1048576):Dec (lr l) (Asc l):=by
 unfold lr;refine rk (Lp:=jZ l) (n:=l.length) (Q:=λi=>∀h:i<l.length,l[i-1]<l[i]) 1 (λk i a=>?_) (λk i h1 a=>?_) (by omega)
 ·show (if _ then _ else _)=_;rw [Q4]
 rw [jZ,Q0,aH a,ax,aV,show (i:Int)-1=((i-1:Nat):Int) by omega,aH (show i-1<l.length by omega)];simp only [bS];by_cases c:l[i]≤l[i-1]
 ·rw [if_pos (by simpa using c)];exact .inr ⟨λg=>by have:=g a;omega,rfl⟩
 rw [if_neg (by simpa using c)];exact .inl ⟨λ_=>by omega,rfl⟩
theorem Asc.le {l:List Int}(h:Asc l):∀{j:Nat}(i:Nat)(c:i≤j)(a:j<l.length),l[i]≤l[j]
 | 0,i,c,a=>by
  have:i=0:=by omega
  subst this;exact Int.le_refl _
 | j+1,i,c,a=>by
  by_cases e:i=j+1
  ·subst e;exact Int.le_refl _
  have h1:=h.le (j:=j) i (by omega) (by omega);have d:=h (j+1) (by omega) a a;simp only [Nat.add_sub_cancel] at d;omega
def Cz (s:ae)(l:List Int):Prop:=gF s∧l.length≠0∧∀i,0≤i→i<l.length→∀h:i<l.length,(0≤l[i]∧l[i]≤(s.c_.length:Int)-1)∧(0<i→l[i-1]<l[i])
theorem uW {s:ae}{l:List Int}(f:bn s)(o:l.length≤1048576):Dec (lV s l) (Cz s l):=by
 unfold lV Cz;refine zY (nI (lT f)) (λm=>?_) (λg=>ct λh=>g h.1);have p:=f.1.1;by_cases c:l.length=0
 ·rw [if_pos (by simp;exact List.length_eq_zero_iff.1 c)];exact ct λg=>g.2.1 c
 rw [if_neg (by simp;exact λe=>c (by rw [e];rfl))];refine (rk (Lp:=pu l s) (n:=l.length) (Q:=λi=>∀h:i<l.length,(0≤l[i]∧l[i]≤(s.c_.length:Int)-1)∧(0<i→l[i-1]<l[i])) 0 (λk i d=>?_) (λk i _ d=>?_) (by omega)).of_iff ⟨λg=>⟨m,c,g⟩,λg=>g.2.2⟩
 ·show (if _ then _ else _)=_;rw [Q4]
 rw [pu,Q0,aH d,ax,aV (n:=(s.c_.length:Int)-1) (by omega) (by omega)];unfold aU;simp only [bS];by_cases a:0≤l[i]∧l[i]≤(s.c_.length:Int)-1
 ·rw [qj a];simp only [Bool.not_true,Bool.false_eq_true,if_false];by_cases h1:0<i
  ·rw [Q0,aV (n:=(i:Int)-1) (by omega) (by omega),show (i:Int)-1=((i-1:Nat):Int) by omega,aH (show i-1<l.length by omega)];simp only [bS];by_cases j:l[i]≤l[i-1]
   ·rw [if_pos (by simpa using j)];exact .inr ⟨λg=>by have:=(g d).2 h1;omega,rfl⟩
   rw [if_neg (by simpa using j)];exact .inl ⟨λ_=>⟨a,λ_=>by omega⟩,rfl⟩
  rw [Q4];exact .inl ⟨λ_=>⟨a,λg=>absurd g h1⟩,rfl⟩
 rw [rY a];exact .inr ⟨λg=>a (g d).1,rfl⟩
theorem SN {s:ae}{l:List Int}(f:bn s)(k:l.length≤1048576):Dec (xv s l) (Cz s l):=by
 unfold xv Cz;refine zY (qV (lT f)) (λm=>?_) (λg=>ct λh=>g h.1);have p:=f.1.1;by_cases d:l.length=0
 ·rw [if_neg (by simp;exact List.length_eq_zero_iff.1 d)];exact ct λg=>g.2.1 d
 rw [if_pos (by simp only [Bool.and_eq_true,decide_eq_true_eq,eq_self,true_and];omega)];rcases (TG k).cases with ⟨e,c⟩|⟨e,c⟩
 ·rw [e];simp only [Option.bind_some,if_true];rw [show (0:Int)=((0:Nat):Int) from rfl,aH (show 0<l.length by omega),aV,show (l.length:Int)-1=((l.length-1:Nat):Int) by omega,aH (show l.length-1<l.length by omega)];simp only [bS];by_cases h1:0≤l[0]
  ·rw [if_pos (by simpa using h1)];refine ⟨_,rfl,?_⟩;rw [decide_eq_true_iff];refine ⟨λg=>⟨m,d,λi _ a _=>⟨⟨?_,?_⟩,λo=>c i o a a⟩⟩,λg=>?_⟩
   ·exact Int.le_trans h1 (c.le 0 (Nat.zero_le _) a)
   ·have:=c.le (j:=l.length-1) i (by omega) (by omega);omega
   have:=(g.2.2 (l.length-1) (Nat.zero_le _) (by omega) (by omega)).1;omega
  rw [if_neg (by simpa using h1)];exact ct λg=>h1 (g.2.2 0 (Nat.zero_le _) (by omega) (by omega)).1.1
 rw [e];exact ct λg=>c λi h1 a _=>(g.2.2 i (Nat.zero_le _) a a).2 h1
theorem Gi {s:ae}{t:aD}(c:bn s)(a:gQ t)(h:zL s t):gb s t=some t.l_.sum:=by
 unfold gb;rcases (oG c a).cases with ⟨e,_⟩|⟨_,g⟩
 ·rw [e];simp only [cS]
  have h1:=Ft (p:=t.l_) (λx=>x) (mC t) some (λk s=>by
   show (if _ then _ else _)=_
   rw [Q5]) (λk s i d=>by
   have:=a.1.1;rw [mC,Q0,aH d,ax];rfl) (λx f=>by have:=h.2.2.1 x f;omega) (by have:=a.1.1;omega)
  simpa using h1
 exact absurd h g
def brN (s:ae)(f:aC):Nat:=if f.j_=-1 then nb (atr s f) else 2
theorem Ol {s:ae}{f:aC}(h:wA s f):2≤brN s f∧brN s f≤4:=by
 have:=Fu (DL h.1 h.2.1);unfold brN;split<;>omega
theorem ra {s:ae}{f:aC}(a:bn s)(h:wA s f):gr s f=some (brN s f:Int):=by
 unfold gr brN;rcases (qM (f:=f) a).cases with ⟨e,_⟩|⟨_,g⟩
 ·rw [e];simp only [cS];rw [CV h.2.1];simp only [bS];rw [vZ (a.1.2 _ (AW h.2.1)) (DL h.1 h.2.1)];by_cases h1:f.j_=-1
  ·rw [if_pos (by simpa using h1),if_pos h1];rfl
  rw [if_neg (by simpa using h1),if_neg h1];rfl
 exact absurd h g
theorem ML {s:ae}{f:aC}(a:bn s)(h:wA s f):pR s f=some (brN s f:Int):=by
 unfold pR brN;rcases (Kv (f:=f) a).cases with ⟨e,_⟩|⟨_,g⟩
 ·rw [e];simp only [cS];rw [CV h.2.1];simp only [bS];rw [yj (a.1.2 _ (AW h.2.1))];by_cases h1:f.j_=-1
  ·rw [if_pos (by simpa using h1),if_pos h1];rfl
  rw [if_neg (by simpa using h1),if_neg h1];rfl
 exact absurd h g
theorem KW {s:ae}{f:aC}(a:bn s)(h:¬wA s f):gr s f=some 0:=by
 unfold gr;rcases (qM (f:=f) a).cases with ⟨_,g⟩|⟨e,_⟩
 ·exact absurd g h
 rw [e];rfl
theorem KA {s:ae}{f:aC}(a:bn s)(h:¬wA s f):pR s f=some 0:=by
 unfold pR;rcases (Kv (f:=f) a).cases with ⟨_,g⟩|⟨e,_⟩
 ·exact absurd g h
 rw [e];rfl
def RR (t:am)(i:Nat)(x:Int):Prop:=∃m:Nat,∃a:m<t.a_.length,x=m∧i<m∧t.a_[m].G_=i
def XN (n:az):Prop:=(n.n_.k_=0∧n.n_.j_=0)∧n.C_.length=0∧n.J_=0∧(0≤n.K_∧n.K_≤if n.q_.e_.length=0 then 0 else n.q_.l_.sum)
def Zi (t:am)(i:Nat)(l:List Int):Prop:=Asc l∧∀x∈l,RR t i x
def Qk (s:ae)(t:am)(i:Nat)(n:az):Prop:=wA s n.n_∧n.C_.length=brN s n.n_∧(0≤n.J_∧n.J_≤(n.C_.length:Int)-1)∧n.q_.e_.length=0∧n.K_=0∧Zi t i n.C_
def OC (s:ae)(t:am)(i:Nat)(n:az):Prop:=(0≤n.r_∧n.r_≤6)∧(0≤n.E_∧n.E_≤t.o_)∧zL s n.q_∧Cz s n.c_∧(n.D_=true→XN n)∧(n.D_=false→Qk s t i n)
def Zs (t:am)(i:Nat)(n:az):Prop:=(i=0→n.G_=-1∧n.r_=0∧n.E_=0) ∧
 (0<i→∃u,∃_:u<i,∃a:u<t.a_.length,n.G_=u∧t.a_[u].D_=false∧(i:Int)∈t.a_[u].C_∧t.a_[u].r_+1=n.r_∧t.a_[u].E_≤n.E_)
def Vo (s:ae)(t:am)(i:Nat):Prop:=∀h:i<t.a_.length,OC s t i t.a_[i]∧Zs t i t.a_[i]
def yN (s:ae)(t:am):Prop:=gF s∧(1≤(t.a_.length:Int)∧(t.a_.length:Int)≤31)∧(0≤t.o_∧t.o_≤99999)∧∀i,i<t.a_.length→Vo s t i
theorem Wu {t:am}(j:t.a_.length≤1048576){i:Nat}(k:i<t.a_.length)(x:Int):Dec (vz x (i:Int) t) (¬RR t i x):=by
 unfold vz;rw [ax,aV (n:=(t.a_.length:Int)-1) (by omega) (by omega)];rcases (fE (x:=x) (a:=((i+1:Nat):Int)) (b:=(t.a_.length:Int)-1)).cases with ⟨e,d⟩|⟨e,d⟩
 ·rw [e];simp only [cS];obtain ⟨m,rfl⟩:∃m:Nat,x=m:=⟨x.toNat,by omega⟩;have c:m<t.a_.length:=by omega
  rw [aH c];simp only [bS];refine ⟨_,rfl,?_⟩;rw [bne_iff_ne];refine ⟨λg ⟨m',_,h1,_,f⟩=>?_,λg h=>g ⟨m,c,rfl,by omega,h⟩⟩;obtain rfl:m=m':=by omega
  exact g f
 rw [e];exact qS λ⟨m,c,h1,f,_⟩=>d ⟨by omega,by omega⟩
theorem RP {t:am}(c:t.a_.length≤1048576){i:Nat}(d:i<t.a_.length){l:List Int}(hk:l.length≤1048576):Dec (dV l (i:Int) t) (∃x∈l,¬RR t i x):=by
 unfold dV fi;refine (ww (Lp:=dc l (i:Int) t) (n:=l.length) (Q:=λj=>∀h:j<l.length,¬RR t i l[j]) (λk j a=>?_) (λk j a=>?_) (by omega)).of_iff ⟨λ⟨j,a,g⟩=>⟨_,List.getElem_mem a,g a⟩,λ⟨x,f,g⟩=>?_⟩
 ·show (if _ then _ else _)=_;rw [Q4]
 ·rw [dc,Q0,aH a,ax];simp only [bS];rcases (Wu c d l[j]).cases with ⟨e,h⟩|⟨e,h⟩
  ·rw [e];exact .inl ⟨λ_=>h,rfl⟩
  rw [e];exact .inr ⟨λg=>h (g a),rfl⟩
 obtain ⟨j,a,rfl⟩:=List.getElem_of_mem f;exact ⟨j,a,λ_=>g⟩
theorem UV {s:ae}{t:am}(p:bn s)(F:iB t){i:Nat}(D:i<t.a_.length):Dec (yV s t (i:Int)) (OC s t i t.a_[i]):=by
 unfold yV;have M:=F.1.1;rw [aH D];simp only [bS];have h:=F.1.2 _ (List.getElem_mem D);generalize t.a_[i]=n at *
 have w:n.C_.length≤1048576:=h.2.2.1.1;have A:gQ n.q_:=h.2.2.2.2.1;have G:n.c_.length≤1048576:=h.2.2.2.2.2.2.1.1;rcases (fE (x:=n.r_) (a:=0) (b:=6)).cases with ⟨e,r⟩|⟨e,r⟩
 ·rw [e];simp only [cS];rcases (fE (x:=n.E_) (a:=0) (b:=t.o_)).cases with ⟨e,u⟩|⟨e,u⟩
  ·rw [e];simp only [cS];rcases (Ln p A).cases with ⟨e,j⟩|⟨e,j⟩
   ·rw [e];simp only [cS];rcases (SN p G).cases with ⟨e,v⟩|⟨e,v⟩
    ·rw [e];simp only [cS];by_cases f:n.D_=true
     case neg =>
      have hL':n.D_=false:=by simpa using f
      rw [if_neg f];by_cases k:wA s n.n_
      ·have P:=Ol k;rw [ML p k];simp only [bS];by_cases hk:n.C_.length=brN s n.n_
       ·rw [Q4];rcases (TG w).cases with ⟨e,l⟩|⟨e,l⟩
        ·rw [e];simp only [cS];rw [aV (n:=(brN s n.n_:Int)-1) (by omega) (by omega)];rcases (fE (x:=n.J_) (a:=0) (b:=(brN s n.n_:Int)-1)).cases with ⟨e,H⟩|⟨e,H⟩
         ·rw [e];simp only [Option.bind_some,Bool.not_true,Bool.false_or];by_cases d:n.q_.e_.length=0∧n.K_=0
          ·rw [if_neg (by simp [d.1,d.2])];rcases (RP M D w).cases with ⟨e,x,m,E⟩|⟨e,E⟩
           ·rw [e];exact ct λg=>E ((g.2.2.2.2.2 hL').2.2.2.2.2.2 x m)
           rw [e];exact qS ⟨r,u,j,v,λg=>absurd g f,λ_=>⟨k,hk,by omega,d.1,d.2,l,λx m=>Classical.byContradiction λc=>E ⟨x,m,c⟩⟩⟩
          rw [if_pos (by simp only [Bool.or_eq_true,bne_iff_ne,ne_eq];omega)];exact ct λg=>d ⟨(g.2.2.2.2.2 hL').2.2.2.1,(g.2.2.2.2.2 hL').2.2.2.2.1⟩
         rw [e];exact ct λg=>H (by have:=(g.2.2.2.2.2 hL').2.2.1;omega)
        rw [e];exact ct λg=>l (g.2.2.2.2.2 hL').2.2.2.2.2.1
       rw [Q0];exact ct λg=>hk (g.2.2.2.2.2 hL').2.1
      rw [KA p k];exact ct λg=>k (g.2.2.2.2.2 hL').1
     case pos =>
      rw [if_pos f,Ji (λx m=>by have:=j.2.2.1 x m;omega) A.1.1];simp only [bS]
      have key:∀q:Int,q=(if n.q_.e_.length=0 then 0 else n.q_.l_.sum)→Dec (ox n q) (OC s t i n):=λq L=>by
       unfold ox;have C:∀o:Option Bool,(o.bind λy=>some y)=o:=λo=>by cases o<;>rfl
       by_cases d:(n.n_.k_=0∧n.n_.j_=0)∧n.C_.length=0∧n.J_=0
       ·rw [if_pos (by simp [d.1.1,d.1.2,d.2.1,d.2.2]),C,C];exact fE.of_iff ⟨λg=>⟨r,u,j,v,λ_=>⟨d.1,d.2.1,d.2.2,by rw [←L];exact g⟩,λg=>by rw [f] at g;cases g⟩,λg=>by rw [L];exact (g.2.2.2.2.1 f).2.2.2⟩
       rw [if_neg (by simp only [Bool.and_eq_true,beq_iff_eq,Bool.and_true];omega)];exact ct λg=>d ⟨(g.2.2.2.2.1 f).1,(g.2.2.2.2.1 f).2.1,(g.2.2.2.2.1 f).2.2.1⟩
      by_cases d:n.q_.e_.length=0
      ·rw [if_pos (by simp;exact List.length_eq_zero_iff.1 d)];exact key 0 (by rw [if_pos d])
      rw [if_neg (by simp;exact λe=>d (by rw [e];rfl))];exact key _ (by rw [if_neg d])
    rw [e];exact ct λg=>v g.2.2.2.1
   rw [e];exact ct λg=>j g.2.2.1
  rw [e];exact ct λg=>u g.2.1
 rw [e];exact ct λg=>r g.1
theorem UO {s:ae}{n:az}(i:bn s)(j:pr n):Dec (ry s n) (XN n∧zL s n.q_∧Cz s n.c_):=by
 unfold ry;have h:gQ n.q_:=j.2.2.2.2.1;have k:n.c_.length≤1048576:=j.2.2.2.2.2.2.1.1;by_cases a:(n.n_.k_=0∧n.n_.j_=0)∧n.C_.length=0∧n.J_=0
 ·rw [if_neg (by simp only [Bool.or_eq_true,Bool.not_eq_true',bne_iff_ne,decide_eq_true_eq,ne_eq,Bool.and_true,Bool.and_eq_false_iff,beq_eq_false_iff_ne];omega)];rcases (oG i h).cases with ⟨e,c⟩|⟨e,c⟩
  ·rw [e];simp only [cS];rcases (uW i k).cases with ⟨e,d⟩|⟨e,d⟩
   ·rw [e];simp only [cS];by_cases f:n.q_.e_.length=0
    ·rw [if_pos (by simp only [beq_iff_eq];omega)];refine ⟨_,rfl,?_⟩;rw [beq_iff_eq];exact ⟨λg=>⟨⟨a.1,a.2.1,a.2.2,by rw [if_pos f];omega⟩,c,d⟩,λg=>by have:=g.1.2.2.2;rw [if_pos f] at this;omega⟩
    rw [if_neg (by simp only [beq_iff_eq];omega),Gi i h c];simp only [bS];have l:∀o:Option Bool,(o.bind λy=>some y)=o:=λo=>by cases o<;>rfl
    rw [l];exact cW.of_iff ⟨λg=>⟨⟨a.1,a.2.1,a.2.2,by rw [if_neg f];exact g⟩,c,d⟩,λg=>by have:=g.1.2.2.2;rw [if_neg f] at this;exact this⟩
   rw [e];exact ct λg=>d g.2.2
  rw [e];exact ct λg=>c g.2.1
 rw [if_pos (by simp only [Bool.or_eq_true,Bool.not_eq_true',bne_iff_ne,decide_eq_true_eq,ne_eq,Bool.and_true,Bool.and_eq_false_iff,beq_eq_false_iff_ne];omega)];exact ct λg=>a ⟨g.1.1,g.1.2.1,g.1.2.2.1⟩
theorem SW {s:ae}{t:am}(q:bn s)(C:iB t){i:Nat}(D:i<t.a_.length):Dec (pG s t (i:Int)) (Qk s t i t.a_[i]∧zL s t.a_[i].q_∧Cz s t.a_[i].c_):=by
 unfold pG;have X:=C.1.1;rw [aH D];simp only [bS];have o:=C.1.2 _ (List.getElem_mem D);generalize t.a_[i]=n at *
 have P:n.C_.length≤1048576:=o.2.2.1.1;have E:gQ n.q_:=o.2.2.2.2.1;have F:n.c_.length≤1048576:=o.2.2.2.2.2.2.1.1;rcases (qM (f:=n.n_) q).cases with ⟨e,p⟩|⟨e,p⟩
 ·rw [e];simp only [cS];have R:=Ol p;rw [ra q p];simp only [bS];by_cases hk:n.C_.length=brN s n.n_
  ·rw [if_neg (by simp only [bne_iff_ne,ne_eq];omega),aV (n:=(n.C_.length:Int)-1) (by omega) (by omega)];rcases (cW (x:=n.J_) (a:=0) (b:=(n.C_.length:Int)-1)).cases with ⟨e,l⟩|⟨e,l⟩
   ·rw [e];simp only [cS];rcases (oG q E).cases with ⟨e,u⟩|⟨e,u⟩
    ·rw [e];simp only [Option.bind_some,Bool.not_true,Bool.false_or];by_cases v:n.q_.e_.length=0∧n.K_=0
     ·rw [if_neg (by simp only [Bool.or_eq_true,bne_iff_ne,decide_eq_true_eq,ne_eq];omega)];rcases (uW q F).cases with ⟨e,w⟩|⟨e,w⟩
      ·rw [e];simp only [cS]
       refine (rk (Lp:=oz n (i:Int) t) (n:=n.C_.length) (Q:=λj=>∀h:j<n.C_.length,RR t i n.C_[j]∧(0<j→n.C_[j-1]<n.C_[j])) 0 (λk j c=>?_) (λk j _ c=>?_) (by omega)).of_iff
        ⟨λg=>⟨⟨p,hk,l,v.1,v.2,λj h1 c _=>(g j (Nat.zero_le _) c c).2 h1,λx d=>by
         obtain ⟨j,c,rfl⟩:=List.getElem_of_mem d;exact (g j (Nat.zero_le _) c c).1⟩,u,w⟩,λg j _ c _=>⟨g.1.2.2.2.2.2.2 _ (List.getElem_mem c),λh1=>g.1.2.2.2.2.2.1 j h1 c c⟩⟩
       ·show (if _ then _ else _)=_;rw [Q4]
       rw [oz,Q0,aH c];simp only [bS];rw [ax (i:=i) (by omega),aV (n:=(t.a_.length:Int)-1) (by omega) (by omega),ax (i:=j) (by omega)];generalize d:n.C_[j]=x;rcases (cW (x:=x) (a:=((i+1:Nat):Int)) (b:=(t.a_.length:Int)-1)).cases with ⟨e,G⟩|⟨e,G⟩
       ·rw [e];simp only [cS];obtain ⟨m,rfl⟩:∃m:Nat,x=m:=⟨x.toNat,by omega⟩;have l:m<t.a_.length:=by omega
        rw [aH l];simp only [bS];by_cases H:t.a_[m].G_=(i:Int)
        ·rw [if_neg (by simp only [bne_iff_ne,ne_eq];omega)];have L:RR t i n.C_[j]:=by rw [d];exact ⟨m,l,rfl,by omega,H⟩
         by_cases h1:0<j
         ·rw [Q0,aV (n:=(j:Int)-1) (by omega) (by omega),show (j:Int)-1=((j-1:Nat):Int) by omega,aH (show j-1<n.C_.length by omega)];simp only [bS];by_cases r:n.C_[j]≤n.C_[j-1]
          ·rw [if_pos (by rw [←d];simpa using r)];exact .inr ⟨λg=>by have:=(g c).2 h1;omega,rfl⟩
          rw [if_neg (by rw [←d];simpa using r)];exact .inl ⟨λ_=>⟨L,λ_=>by omega⟩,rfl⟩
         rw [Q4];exact .inl ⟨λ_=>⟨L,λg=>absurd g h1⟩,rfl⟩
        rw [if_pos (by simp only [bne_iff_ne,ne_eq];omega)]
        exact .inr ⟨λg=>by
         obtain ⟨m',hm',A,_,M⟩:=(g c).1;rw [d] at A;obtain rfl:m=m':=by omega
         exact H M,rfl⟩
       rw [e]
       exact .inr ⟨λg=>by
         obtain ⟨m',hm',A,Z,M⟩:=(g c).1;rw [d] at A;exact G ⟨by omega,by omega⟩,rfl⟩
      rw [e];exact ct λg=>w g.2.2
     rw [if_pos (by simp only [Bool.or_eq_true,bne_iff_ne,decide_eq_true_eq,ne_eq];omega)];exact ct λg=>v ⟨g.1.2.2.2.1,g.1.2.2.2.2.1⟩
    rw [e];exact ct λg=>u g.2.1
   rw [e];exact ct λg=>l g.1.2.2.1
  rw [if_pos (by simp only [bne_iff_ne,ne_eq];omega)];exact ct λg=>hk g.1.2.1
 rw [e];exact ct λg=>p g.1.1
theorem MM {l:List Int}(d:l.length≤1048576)(x:Int):Dec (iz l x) (x∈l):=by
 unfold iz lU;refine (ww (Lp:=fG l x) (n:=l.length) (Q:=λj=>∀h:j<l.length,x=l[j]) (λk j a=>?_) (λk j a=>?_) (by omega)).of_iff ⟨λ⟨j,a,g⟩=>by rw [g a];exact List.getElem_mem a,λc=>?_⟩
 ·show (if _ then _ else _)=_;rw [Q4]
 ·rw [fG,Q0,aH a,ax];simp only [bS];by_cases h:x=l[j]
  ·rw [if_pos (by simpa using h)];exact .inl ⟨λ_=>h,rfl⟩
  rw [if_neg (by simpa using h)];exact .inr ⟨λg=>h (g a),rfl⟩
 obtain ⟨j,a,rfl⟩:=List.getElem_of_mem c;exact ⟨j,a,λ_=>rfl⟩
theorem Sv {l:List Int}(f:l.length≤1048576)(x:Int):Dec (vx l x) (x∈l):=by
 unfold vx
 have h:=Co (Lp:=λk j=>eR l x k (j:Int)) (n:=l.length) (Q:=λj=>∀h:j<l.length,l[j]≠x) (fin:=some false) (bad:=some true) (λk _=>by
  show eR l x (k+1) _=_
  rw [eR,Q5]) (λk j a _=>by
  show (_∧eR l x (k+1) _=eR l x k _)∨(_∧eR l x (k+1) _=_);rw [eR,Q0,aH a,ax];simp only [bS];by_cases h:l[j]=x
  ·rw [if_pos (by simpa using h)];exact .inr ⟨λg=>g a h,rfl⟩
  rw [if_neg (by simpa using h)];exact .inl ⟨λ_=>h,rfl⟩) (by omega)
 rcases h with ⟨h1,c⟩|⟨h1,c⟩
 ·have c:eR l x bc 0=some false:=c;rw [c]
  exact ct λd=>by
   obtain ⟨j,a,e⟩:=List.getElem_of_mem d;exact h1 j a a e
 have c:eR l x bc 0=some true:=c;rw [c];refine qS (Classical.byContradiction λd=>h1 λj a _ e=>d ?_);rw [←e];exact List.getElem_mem a
theorem Ue {s:ae}{t:am}(A:bn s)(o:iB t):Dec (zx s t) (yN s t):=by
 unfold zx;have Z:=o.1.1;rcases (qV (lT A)).cases with ⟨e,p⟩|⟨e,p⟩
 ·rw [e];simp only [cS];rcases (fE (x:=(t.a_.length:Int)) (a:=1) (b:=31)).cases with ⟨e,q⟩|⟨e,q⟩
  ·rw [e];simp only [cS];rcases (fE (x:=t.o_) (a:=0) (b:=99999)).cases with ⟨e,r⟩|⟨e,r⟩
   ·rw [e];simp only [cS];refine (xj (Lp:=λk i=>gZ t s k (i:Int)) (n:=t.a_.length) (Q:=Vo s t) (F:=True) (λk _=>?_) (λk i c R=>?_) (by omega)).of_iff ⟨λg=>⟨p,q,r,g.1⟩,λg=>⟨g.2.2.2,trivial⟩⟩
    ·show Dec (gZ t s (k+1) _) _;rw [gZ,Q5];exact qS trivial
    show (_∧gZ t s (k+1) _=gZ t s k _)∨(_∧gZ t s (k+1) _=_);rw [gZ,Q0,aH c,ax];simp only [bS];rcases (UV A o c).cases with ⟨e,h⟩|⟨e,h⟩
    ·rw [e];simp only [cS];by_cases C:i=0
     ·rw [if_pos (by simp only [beq_iff_eq];omega)];by_cases D:t.a_[i].G_=-1∧t.a_[i].r_=0∧t.a_[i].E_=0
      ·rw [if_neg (by simp only [Bool.or_eq_true,bne_iff_ne,ne_eq];omega)];exact .inl ⟨λ_=>⟨h,λ_=>D,λg=>by omega⟩,rfl⟩
      rw [if_pos (by simp only [Bool.or_eq_true,bne_iff_ne,ne_eq];omega)];exact .inr ⟨λg=>D ((g c).2.1 C),rfl⟩
     rw [if_neg (by simp only [beq_iff_eq];omega),aV (n:=(i:Int)-1) (by omega) (by omega)];rcases (fE (x:=t.a_[i].G_) (a:=0) (b:=(i:Int)-1)).cases with ⟨e,E⟩|⟨e,E⟩
     ·rw [e];simp only [cS];obtain ⟨u,G⟩:∃u:Nat,t.a_[i].G_=u:=⟨t.a_[i].G_.toNat,by omega⟩;have m:u<i:=by omega
      have d:u<t.a_.length:=by omega
      rw [G,aH d];simp only [bS];have H:=R u m d;have hd:=h.1;have X:=H.1.1;rw [aV (n:=t.a_[i].r_-1) (by omega) (by omega)];by_cases f:t.a_[u].D_=true
      ·rw [if_pos f]
       exact .inr ⟨λg=>by
        obtain ⟨u',_,hu',h1,v,_⟩:=(g c).2.2 (by omega);obtain rfl:u=u':=by omega
        exact (nomatch v.symm.trans f),rfl⟩
      rw [if_neg f];have hlf':t.a_[u].D_=false:=by simpa using f
      rcases (MM (l:=t.a_[u].C_) (o.1.2 _ (List.getElem_mem d)).2.2.1.1 (i:Int)).cases with ⟨e,w⟩|⟨e,w⟩
      ·rw [e];simp only [Option.bind_some,Bool.not_true,Bool.false_or];by_cases j:t.a_[u].r_+1=t.a_[i].r_∧t.a_[u].E_≤t.a_[i].E_
       ·rw [if_neg (by simp only [Bool.or_eq_true,bne_iff_ne,decide_eq_true_eq,ne_eq];omega)];exact .inl ⟨λ_=>⟨h,λg=>absurd g C,λ_=>⟨u,m,d,G,hlf',w,j.1,j.2⟩⟩,rfl⟩
       rw [if_pos (by simp only [Bool.or_eq_true,bne_iff_ne,decide_eq_true_eq,ne_eq];omega)]
       exact .inr ⟨λg=>by
        obtain ⟨u',_,hu',h1,v,L,M,P⟩:=(g c).2.2 (by omega);obtain rfl:u=u':=by omega
        exact j ⟨M,P⟩,rfl⟩
      rw [e]
      exact .inr ⟨λg=>by
       obtain ⟨u',_,hu',h1,v,L,M,P⟩:=(g c).2.2 (by omega);obtain rfl:u=u':=by omega
       exact w L,rfl⟩
     rw [e]
     exact .inr ⟨λg=>by
      obtain ⟨u',_,hu',h1,_⟩:=(g c).2.2 (by omega);exact E ⟨by omega,by omega⟩,rfl⟩
    rw [e];exact .inr ⟨λg=>h (g c).1,rfl⟩
   rw [e];exact ct λg=>r g.2.2.1
  rw [e];exact ct λg=>q g.2.1
 rw [e];exact ct λg=>p g.1
theorem yd {s:ae}{t:am}(G:bn s)(A:iB t):Dec (pf s t) (yN s t):=by
 unfold pf;have hl:=A.1.1;rcases (nI (lT G)).cases with ⟨e,H⟩|⟨e,H⟩
 ·rw [e];simp only [cS];rcases (cW (x:=(t.a_.length:Int)) (a:=1) (b:=31)).cases with ⟨e,L⟩|⟨e,L⟩
  ·rw [e];simp only [cS];rcases (cW (x:=t.o_) (a:=0) (b:=99999)).cases with ⟨e,M⟩|⟨e,M⟩
   ·rw [e];simp only [cS];refine (xj (Lp:=λk i=>hH t s k (i:Int)) (n:=t.a_.length) (Q:=Vo s t) (F:=True) (λk _=>?_) (λk i c hQ=>?_) (by omega)).of_iff ⟨λg=>⟨H,L,M,g.1⟩,λg=>⟨g.2.2.2,trivial⟩⟩
    ·show Dec (hH t s (k+1) _) _;rw [hH,Q5];exact qS trivial
    show (_∧hH t s (k+1) _=hH t s k _)∨(_∧hH t s (k+1) _=_);rw [hH,Q0,aH c,ax];simp only [bS];have X:=A.1.2 _ (List.getElem_mem c);rcases (cW (x:=t.a_[i].r_) (a:=0) (b:=6)).cases with ⟨e,p⟩|⟨e,p⟩
    ·rw [e];simp only [cS];rcases (cW (x:=t.a_[i].E_) (a:=0) (b:=t.o_)).cases with ⟨e,q⟩|⟨e,q⟩
     ·rw [e];simp only [cS]
      have C:∀b:Bool,t.a_[i].D_=b→∀K:Bool→Option Bool,(OC s t i t.a_[i]∧(((if t.a_[i].D_=true then (ry s ({t.a_[i] with D_:=true})).bind λd=>some (!d) else some false).bind λf=>(if f=true then some true else (if (!t.a_[i].D_)=true then (pG s t (i:Int)).bind λj=>some (!j) else some false).bind λm=>some m).bind K)=K false)) ∨
        (¬OC s t i t.a_[i]∧(((if t.a_[i].D_=true then (ry s ({t.a_[i] with D_:=true})).bind λd=>some (!d) else some false).bind λf=>(if f=true then some true else (if (!t.a_[i].D_)=true then (pG s t (i:Int)).bind λj=>some (!j) else some false).bind λm=>some m).bind K)=K true)):=λb o K=>by
       cases b
       ·rw [o];simp only [Option.bind_some,Bool.not_false,Bool.false_eq_true,if_true,if_false];rcases (SW G A c).cases with ⟨e,h⟩|⟨e,h⟩
        ·rw [e];exact .inl ⟨⟨p,q,h.2.1,h.2.2,λg=>(nomatch o.symm.trans g),λ_=>h.1⟩,rfl⟩
        rw [e];exact .inr ⟨λg=>h ⟨g.2.2.2.2.2 o,g.2.2.1,g.2.2.2.1⟩,rfl⟩
       have hE:({t.a_[i] with D_:=true}:az)=t.a_[i]:=by rw [←o]
       rw [hE,o];simp only [Option.bind_some,Bool.not_true,Bool.false_eq_true,if_true,if_false];rcases (UO G X).cases with ⟨e,h⟩|⟨e,h⟩
       ·rw [e];exact .inl ⟨⟨p,q,h.2.1,h.2.2,λ_=>h.1,λg=>(nomatch o.symm.trans g)⟩,rfl⟩
       rw [e];exact .inr ⟨λg=>h ⟨g.2.2.2.2.1 o,g.2.2.1,g.2.2.2.1⟩,rfl⟩
      rcases C _ rfl _ with ⟨D,e⟩|⟨D,e⟩
      ·rw [e];simp only [Bool.false_eq_true,if_false];by_cases Z:i=0
       ·rw [if_pos (by simp only [beq_iff_eq];omega)];by_cases hL:t.a_[i].G_=-1∧t.a_[i].r_=0∧t.a_[i].E_=0
        ·rw [if_neg (by simp only [Bool.or_eq_true,bne_iff_ne,ne_eq];omega)];exact .inl ⟨λ_=>⟨D,λ_=>hL,λg=>by omega⟩,rfl⟩
        rw [if_pos (by simp only [Bool.or_eq_true,bne_iff_ne,ne_eq];omega)];exact .inr ⟨λg=>hL ((g c).2.1 Z),rfl⟩
       rw [if_neg (by simp only [beq_iff_eq];omega),aV (n:=(i:Int)-1) (by omega) (by omega)];rcases (cW (x:=t.a_[i].G_) (a:=0) (b:=(i:Int)-1)).cases with ⟨e,hr⟩|⟨e,hr⟩
       ·rw [e];simp only [cS];obtain ⟨u,hu⟩:∃u:Nat,t.a_[i].G_=u:=⟨t.a_[i].G_.toNat,by omega⟩;have E:u<i:=by omega
        have r:u<t.a_.length:=by omega
        rw [hu,aH r];simp only [bS];have a3:=hQ u E r;have a9:=a3.1.1;rw [aV (n:=t.a_[u].r_+1) (by omega) (by omega)];by_cases v:t.a_[u].D_=true
        ·rw [if_pos v]
         exact .inr ⟨λg=>by
          obtain ⟨u',_,hu',h1,P,_⟩:=(g c).2.2 (by omega);obtain rfl:u=u':=by omega
          exact (nomatch P.symm.trans v),rfl⟩
        rw [if_neg v];have hlf':t.a_[u].D_=false:=by simpa using v
        rcases (Sv (l:=t.a_[u].C_) (A.1.2 _ (List.getElem_mem r)).2.2.1.1 (i:Int)).cases with ⟨e,R⟩|⟨e,R⟩
        ·rw [e];simp only [Option.bind_some,Bool.not_true,Bool.false_or];by_cases w:t.a_[u].r_+1=t.a_[i].r_∧t.a_[u].E_≤t.a_[i].E_
         ·rw [if_neg (by simp only [Bool.or_eq_true,bne_iff_ne,decide_eq_true_eq,ne_eq];omega)];exact .inl ⟨λ_=>⟨D,λg=>absurd g Z,λ_=>⟨u,E,r,hu,hlf',R,w.1,w.2⟩⟩,rfl⟩
         rw [if_pos (by simp only [Bool.or_eq_true,bne_iff_ne,decide_eq_true_eq,ne_eq];omega)]
         exact .inr ⟨λg=>by
          obtain ⟨u',_,hu',h1,P,h3,h4,h5⟩:=(g c).2.2 (by omega);obtain rfl:u=u':=by omega
          exact w ⟨h4,h5⟩,rfl⟩
        rw [e]
        exact .inr ⟨λg=>by
         obtain ⟨u',_,hu',h1,P,h3,h4,h5⟩:=(g c).2.2 (by omega);obtain rfl:u=u':=by omega
         exact R h3,rfl⟩
       rw [e]
       exact .inr ⟨λg=>by
        obtain ⟨u',_,hu',h1,_⟩:=(g c).2.2 (by omega);exact hr ⟨by omega,by omega⟩,rfl⟩
      rw [e];exact .inr ⟨λg=>D (g c).1,rfl⟩
     rw [e];exact .inr ⟨λg=>q (g c).1.2.1,rfl⟩
    rw [e];exact .inr ⟨λg=>p (g c).1.1,rfl⟩
   rw [e];exact ct λg=>M g.2.2.1
  rw [e];exact ct λg=>L g.2.1
 rw [e];exact ct λg=>H g.1
end Go.Vk
/- Where a bin goes; the mask of a branch; the mask of all: alike. -/
namespace Go.Vk
def KO (a:aK)(f:aC)(b:Int):Int:=if f.j_=-1 then b else if 0<a.B_.length then (if f.j_<b then 1 else 0) else (if b=f.j_ then 0 else 1)
theorem FK {s:ae}{f:aC}(i:bn s)(h:wA s f){b:Int}(k:0≤b∧b≤(nb (atr s f):Int)-1):sc s f b=some (KO (atr s f) f b):=by
 unfold sc KO;have l:=i.1.2 _ (AW h.2.1);have j:=DL h.1 h.2.1;have m:=Fu j;rcases (qM (f:=f) i).cases with ⟨e,_⟩|⟨_,g⟩
 ·rw [e];simp only [sS];rw [CV h.2.1];simp only [sS];rw [vZ l j];simp only [sS];rw [aV];rcases (cW (x:=b) (a:=0) (b:=(nb (atr s f):Int)-1)).cases with ⟨e,_⟩|⟨_,g⟩
  ·rw [e];simp only [sS];by_cases h1:f.j_=-1
   ·rw [if_pos (by simpa using h1),if_pos h1]
   rw [if_neg (by simpa using h1),if_neg h1];unfold iE;by_cases d:0<(atr s f).B_.length
   ·rw [if_pos (by simpa using d),if_pos d];by_cases c:f.j_<b
    ·rw [if_pos c,if_pos (by simpa using c)];rfl
    rw [if_neg c,if_neg (by simpa using c)];rfl
   rw [if_neg (by simpa using d),if_neg d];by_cases c:b=f.j_
   ·rw [if_pos c,if_neg (by simpa using c)];rfl
   rw [if_neg c,if_pos (by simpa using c)];rfl
  exact absurd k g
 exact absurd h g
theorem MV {s:ae}{f:aC}(i:bn s)(h:wA s f){b:Int}(k:0≤b∧b≤(nb (atr s f):Int)-1):zW s f b=some (KO (atr s f) f b):=by
 unfold zW KO;have l:=i.1.2 _ (AW h.2.1);have m:=DL h.1 h.2.1;have o:=Fu m;rcases (Kv (f:=f) i).cases with ⟨e,_⟩|⟨_,g⟩
 ·rw [e];simp only [sS];rw [CV h.2.1];simp only [sS];rw [yj l];simp only [sS];rw [aV];rcases (fE (x:=b) (a:=0) (b:=(nb (atr s f):Int)-1)).cases with ⟨e,_⟩|⟨_,g⟩
  ·rw [e];simp only [sS];by_cases h1:f.j_=-1
   ·rw [if_pos (by simpa using h1),if_pos h1]
   rw [if_neg (by simpa using h1),if_neg h1];by_cases c:b=f.j_
   ·rw [if_pos (by simpa using c)];simp only [sS];have d:¬f.j_<b:=by omega
    rw [if_pos c,if_neg d,ite_self]
   rw [if_neg (by simpa using c),if_neg c];simp only [sS];by_cases j:0<(atr s f).B_.length
   ·rw [if_pos j];by_cases d:f.j_<b
    ·rw [if_neg (by simp only [Bool.and_eq_true,decide_eq_true_eq];omega),if_pos d]
    rw [if_pos (by simp only [Bool.and_eq_true,decide_eq_true_eq];omega),if_neg d]
   rw [if_neg (by simp only [Bool.and_eq_true,decide_eq_true_eq];omega),if_neg j]
  exact absurd k g
 exact absurd h g
end Go.Vk
/- A window in words: alike. -/
namespace Go.Vk
theorem Mx {n:Nat}(f:n≤40):nF (n:Int)=some ((2^n:Nat):Int):=by
 unfold nF
 have key:∀(d k i:Nat),i+d=n→d<k→ml (n:Int) k ((2^i:Nat):Int) (i:Int)=some ((2^n:Nat):Int):=by
  intro d
  induction d with
  | zero =>
   intro k i a hk;obtain ⟨k,rfl⟩:=kS k (by omega);rw [ml,Q4,show i=n by omega]
  | succ d ih =>
   intro k i a hk;obtain ⟨k,rfl⟩:=kS k (by omega);rw [ml];have c:(2:Nat)^i≤2^40:=Nat.pow_le_pow_right (by omega) (by omega)
   have e:IntKind.i64.wrap (((2^i:Nat):Int)*2)=((2^(i+1):Nat):Int):=by
    rw [Nat.pow_succ];generalize (2:Nat)^i=q at c;rw [aV];omega
   rw [if_pos (decide_eq_true (by omega)),e,ax];exact ih k (i+1) (by omega) (by omega)
 exact key n bc 0 (by omega) cN
theorem XD:∀n:Nat,n<8→shl .i64 1 (n:Int)=some ((2^n:Nat):Int):=by decide
def YB (p:au)(i:Nat):Prop:=∀h:i<p.f_.length,(1≤p.f_[i].length∧p.f_[i].length≤3)∧∀x∈p.f_[i],0≤x∧x≤((2^i:Nat):Int)
def HN (p:au):Prop:=p.f_.length≤8∧∀i,i<p.f_.length→YB p i
theorem EZ (p:au):Dec (mb p) (HN p):=by
 unfold mb HN;by_cases f:p.f_.length≤8
 ·rw [Q4]
  rcases Co (Lp:=λk i=>eA p k (i:Int)) (n:=p.f_.length) (Q:=YB p) (fin:=some true) (bad:=some false) (λk _=>by
   show eA p (k+1) _=_
   rw [eA,Q5]) (λk i c _=>by
   show (_∧eA p (k+1) _=eA p k _)∨(_∧eA p (k+1) _=_);rw [eA,Q0,aH c];unfold aU;simp only [bS];by_cases e:1≤p.f_[i].length∧p.f_[i].length≤3
   ·rw [Q4,Me (p:=p.f_[i]) (P:=λx=>0≤x∧x≤((2^i:Nat):Int)) (fin:=eA p k ((i+1:Nat):Int)) (bad:=some false) (mv p i (eA p k)) (λh=>by
     rw [mv,aH c];simp only [bS]
     rw [Q5,ax]) (λh j l=>by
     rw [mv,aH c];simp only [bS];rw [Q0,aH l,Mx (by omega),ax];unfold aU;simp only [bS];generalize ((2^i:Nat):Int)=q;by_cases a:0≤p.f_[i][j]∧p.f_[i][j]≤q
     ·rw [if_pos a,Q4]
     rw [if_neg a,Q0]) (by omega)]
    by_cases a:∀x∈p.f_[i],0≤x∧x≤((2^i:Nat):Int)
    ·rw [if_pos a];exact .inl ⟨λ_=>⟨e,a⟩,rfl⟩
    rw [if_neg a];exact .inr ⟨λg=>a (g c).2,rfl⟩
   rw [Q0];exact .inr ⟨λg=>e (g c).1,rfl⟩) (by omega) with ⟨h1,d⟩|⟨h1,d⟩
  ·exact ⟨true,d,by simp;exact ⟨f,h1⟩⟩
  exact ⟨false,d,by simp only [Bool.false_eq_true,false_iff];exact λg=>h1 g.2⟩
 rw [Q0];exact ⟨false,rfl,by simp;omega⟩
theorem YJ {r:List Int}(f:r.length≤1048576){i:Nat}(a:i<8):Dec (dG r i) (∃x∈r,¬(0≤x∧x≤((2^i:Nat):Int))):=by
 unfold dG eQ
 refine (ww (Lp:=cT r i) (n:=r.length) (Q:=λj=>∀c:j<r.length,¬(0≤r[j]∧r[j]≤((2^i:Nat):Int))) (λk j c=>by
  show (if _ then _ else _)=_
  rw [Q4]) (λk j c=>by
  rw [cT,Q0,aH c,ax];unfold wK bm;rw [XD i a];simp only [bS];by_cases d:0≤r[j]∧r[j]≤((2^i:Nat):Int)
  ·rw [qj d];exact .inr ⟨λg=>g c d,rfl⟩
  rw [rY d];exact .inl ⟨λ_=>d,rfl⟩) (by omega)).of_iff ⟨λ⟨i,a,h⟩=>⟨r[i],List.getElem_mem a,h a⟩,λ⟨x,e,h⟩=>?_⟩
 obtain ⟨i,a,rfl⟩:=List.mem_iff_getElem.1 e;exact ⟨i,a,λ_=>h⟩
theorem Rd {p:au}(_:uZ p):Dec (rV p) (HN p):=by
 unfold rV HN;by_cases l:p.f_.length≤8
 ·rw [Q4]
  rcases Co (Lp:=λk i=>gm p k (i:Int)) (n:=p.f_.length) (Q:=YB p) (fin:=some true) (bad:=some false) (λk _=>by
   show gm p (k+1) _=_
   rw [gm,Q5]) (λk i a _=>by
   show (_∧gm p (k+1) _=gm p k _)∨(_∧gm p (k+1) _=_);rw [gm,Q0,aH a];unfold bm;simp only [bS];by_cases j:1≤p.f_[i].length∧p.f_[i].length≤3
   ·rw [Q4];rcases (YJ (r:=p.f_[i]) (by omega) (i:=i) (by omega)).cases with ⟨e,h⟩|⟨e,h⟩
    ·rw [e];exact .inr ⟨λg=>by obtain ⟨x,c,d⟩:=h;exact d ((g a).2 x c),rfl⟩
    rw [e];refine .inl ⟨λ_=>⟨j,λx c=>?_⟩,by simp only [bS];rw [Q5,ax]⟩;exact Decidable.by_contra λd=>h ⟨x,c,d⟩
   rw [Q0];exact .inr ⟨λg=>j (g a).1,rfl⟩) (by omega) with ⟨h1,f⟩|⟨h1,f⟩
  ·exact ⟨true,f,by simp;exact ⟨l,h1⟩⟩
  exact ⟨false,f,by simp only [Bool.false_eq_true,false_iff];exact λg=>h1 g.2⟩
 rw [Q0];exact ⟨false,rfl,by simp;omega⟩
end Go.Vk
/- Scores: tested alike. -/
namespace Go.Vk
theorem Vw {p:List Int}(a:∀x∈p,0≤x∧x≤1000000000)(c:p.length≤1000000000):pg p=some p.sum:=by
 unfold pg
 have:=Ft (p:=p) id (λk s i=>jU p k s i) some (λk s=>by
  show jU p (k+1) s _=_
  rw [jU,Q5]) (λk s i h=>by
  show jU p (k+1) s _=_;rw [jU,Q0,aH h,ax];rfl) a c
 rwa [List.map_id] at this
def QK (t:List (List Int)):Prop:=∀r∈t,r.length≤3∧∀x∈r,0≤x∧x≤9999
theorem Lu {r:List Int}(h:r.length≤3∧∀x∈r,0≤x∧x≤9999):0≤r.sum∧r.sum≤30000:=by
 have:=tx h.2;omega
theorem OP {t:List (List Int)}(a:QK t)(c:t.length≤1000000000):vC t=some (t.map List.sum).sum:=by
 unfold vC
 exact Ft (p:=t) List.sum (λk s i=>jG t k s i) some (λk s=>by
  show jG t (k+1) s _=_
  rw [jG,Q5]) (λk s i h=>by
  show jG t (k+1) s _=_;have d:=a _ (List.getElem_mem h);rw [jG,Q0,aH h,ax];simp only [bS];rw [Vw (λx e=>by have:=d.2 x e;omega) (by omega)];rfl) (λr h=>by have:=Lu (a r h);omega) c
def ent (t:List (List Int))(i j:Nat):Int:=((t[i]?.getD [])[j]?).getD 0
theorem DH {t:List (List Int)}{i j:Nat}(a:i<t.length)(c:j<t[i].length):ent t i j=t[i][j]:=by
 unfold ent;rw [List.getElem?_eq_getElem a,Option.getD_some,List.getElem?_eq_getElem c,Option.getD_some]
theorem Vz {l:List aG}(j:l.length≤1000000000)(a b:Int):vy l a b=some (l.count ⟨a,b⟩:Int):=by
 unfold vy
 have:=jg (Lp:=λk i=>gq l a b k (((l.take i).count ⟨a,b⟩:Nat):Int) (i:Int)) (n:=l.length) (fin:=some (l.count ⟨a,b⟩:Int)) (λk=>by
  show gq l a b (k+1) _ _=_
  rw [gq,Q5,List.take_length]) (λk i g=>by
  show gq l a b (k+1) _ _=gq l a b k _ _;have m:(l.take i).count (⟨a,b⟩:aG)≤i:=Nat.le_trans List.count_le_length (by simp;omega);rw [gq,Q0,aH g,ax,ax,List.take_succ_eq_append_getElem g,List.count_append];simp only [bS];generalize l[i]=e;obtain ⟨c,d⟩:=e;by_cases h1:c=a
  ·by_cases f:d=b
   ·subst h1;subst f;simp
   have:¬((⟨c,d⟩:aG)=⟨a,b⟩):=λh=>f (by injection h);simp [h1,f]
  have:¬((⟨c,d⟩:aG)=⟨a,b⟩):=λh=>h1 (by injection h);simp [h1]) (by omega)
 simpa using this
def sV (t:List (List Int)):Int:=(t.map List.sum).sum
def TR (n:Int)(s:aW)(i:Nat):Prop:=∀h:i<s.p_.length,(s.p_[i].length:Int)=n∧∀j,j<s.p_[i].length→(0≤ent s.p_ i j∧ent s.p_ i j≤9999)∧(s.t_.count ⟨i,j⟩:Int)≤ent s.p_ i j
def RA (n:Int)(p:aG):Prop:=(0≤p.U_∧p.U_≤n-1)∧(0≤p.V_∧p.V_≤n-1)
def VO (n:Int)(s:aW):Prop:=sV s.p_≤9999∧(s.t_.length:Int)=(if 20<sV s.p_ then 20 else sV s.p_)∧∀p∈s.t_,RA n p
def JO (n:Int)(s:aW):Prop:=(2≤n∧n≤3)∧(s.p_.length:Int)=n∧(∀i,i<s.p_.length→TR n s i)∧VO n s
theorem MF {n:Int}{s:aW}{i:Nat}(a:i<s.p_.length)(h:TR n s i)(f:n≤3):s.p_[i].length≤3∧∀x∈s.p_[i],0≤x∧x≤9999:=by
 obtain ⟨h1,d⟩:=h a;refine ⟨by omega,λx e=>?_⟩;obtain ⟨j,c,rfl⟩:=List.mem_iff_getElem.1 e;have:=(d j c).1;rw [DH a c] at this;exact this
theorem QF {n:Int}{s:aW}{k:Nat}(h:∀i,i<k→TR n s i)(hk:k≤s.p_.length)(a:n≤3):QK (s.p_.take k):=by
 intro r c;obtain ⟨i,d,rfl⟩:=List.mem_iff_getElem.1 c;rw [List.getElem_take];rw [List.length_take] at d;exact MF (by omega) (h i (by omega)) a
theorem JE {t:List (List Int)}(h:QK t):0≤sV t∧sV t≤30000*t.length:=by
 have:=tx (p:=t.map List.sum) (b:=30000) (λx a=>by
  obtain ⟨r,c,rfl⟩:=List.mem_map.1 a;exact Lu (h r c))
 simpa [sV] using this
theorem Sp {t:List (List Int)}{i:Nat}(h:i<t.length):sV (t.take (i+1))=sV (t.take i)+t[i].sum:=by
 unfold sV;rw [List.take_succ_eq_append_getElem h,List.map_append,List.sum_append];simp
theorem Tz {n:Int}{s:aW}(e:2≤n∧n≤3)(f:s.t_.length≤1048576):Dec (ga s n bc 0) (∀p∈s.t_,RA n p):=by
 refine (xj (Lp:=λk i=>ga s n k (i:Int)) (n:=s.t_.length) (Q:=λi=>∀h:i<s.t_.length,RA n s.t_[i]) (F:=True) (λk _=>?_) (λk i a _=>?_) (by omega)).of_iff ⟨λh p d=>?_,λh=>⟨λi a _=>h _ (List.getElem_mem a),trivial⟩⟩
 ·show Dec (ga s n (k+1) _) _;rw [ga,Q5];exact qS trivial
 ·show (_∧ga s n (k+1) _=ga s n k _)∨(_∧ga s n (k+1) _=_);rw [ga,Q0,aH a,ax,aV (n:=n-1) (by omega) (by omega)];unfold aU;simp only [bS];by_cases h1:0≤s.t_[i].U_∧s.t_[i].U_≤n-1
  ·rw [qj h1];simp only [cS];by_cases c:0≤s.t_[i].V_∧s.t_[i].V_≤n-1
   ·rw [qj c];exact .inl ⟨λ_=>⟨h1,c⟩,rfl⟩
   rw [rY c];exact .inr ⟨λg=>c (g a).2,rfl⟩
  rw [rY h1];exact .inr ⟨λg=>h1 (g a).1,rfl⟩
 obtain ⟨i,a,rfl⟩:=List.mem_iff_getElem.1 d;exact h.1 i a a
theorem GY {n:Int}{s:aW}(D:vl s):Dec (rj n s) (JO n s):=by
 have H:=D.2.1;unfold rj JO aU;simp only [bS];by_cases a:2≤n∧n≤3
 ·rw [qj a];by_cases f:(s.p_.length:Int)=n
  ·rw [if_neg (by simp [f])];refine Dec.of_iff (P:=(∀i,i<s.p_.length→TR n s i)∧VO n s) ?_ ⟨λh=>⟨a,f,h⟩,λh=>h.2.2⟩;refine xj (Lp:=λk i=>eV n s k (sV (s.p_.take i)) (i:Int)) (n:=s.p_.length) (Q:=TR n s) (F:=VO n s) (λk o=>?_) (λk i c o=>?_) (by omega)
   ·show Dec (eV n s (k+1) _ _) _;rw [eV,Q4,List.take_length];have r:=JE (QF (k:=s.p_.length) o (Nat.le_refl _) a.2);rw [List.take_length] at r;unfold VO;by_cases h1:sV s.p_>9999
    ·rw [if_pos (by simpa using h1)];exact ct λg=>by have:=g.1;omega
    rw [if_neg (by simpa using h1)];unfold Du
    have E:(if decide (sV s.p_<20) then some (sV s.p_) else some 20:Option Int)=some (if 20<sV s.p_ then 20 else sV s.p_):=by
     by_cases c1:sV s.p_<20
     ·rw [if_pos (by simpa using c1),Q6]
     rw [if_neg (by simpa using c1)];by_cases c2:20<sV s.p_
     ·rw [if_pos c2]
     rw [if_neg c2];congr 1;omega
    rw [E];simp only [bS];by_cases d:(s.t_.length:Int)=(if 20<sV s.p_ then 20 else sV s.p_)
    ·rw [if_neg (by simp [d])];exact (Tz a (by omega)).of_iff ⟨λg=>⟨by omega,d,g⟩,λg=>g.2.2⟩
    rw [if_pos (by simp [d])];exact ct λg=>d g.2.1
   show (_∧eV n s (k+1) _ _=eV n s k _ _)∨(_∧eV n s (k+1) _ _=_);have r:=JE (QF (k:=i) o (by omega) a.2);rw [List.length_take] at r;rw [eV,Q0,aH c];simp only [bS];by_cases l:(s.p_[i].length:Int)=n
   ·rw [if_neg (by simp [l])]
    have m:=Co (Lp:=λe j=>ip n s i (eV n s k) e (sV (s.p_.take i)+(s.p_[i].take j).sum) (j:Int)) (n:=s.p_[i].length)
     (Q:=λj=>(0≤ent s.p_ i j∧ent s.p_ i j≤9999)∧(s.t_.count ⟨i,j⟩:Int)≤ent s.p_ i j) (fin:=eV n s k (sV (s.p_.take (i+1))) ((i+1:Nat):Int)) (bad:=some false) (λe _=>by
      show ip n s i _ (e+1) _ _=_
      rw [ip,Q4,List.take_length,Sp c,ax]) (λe j t A=>by
      show (_∧ip n s i _ (e+1) _ _=ip n s i _ e _ _)∨(_∧ip n s i _ (e+1) _ _=_)
      have u:=tx (p:=s.p_[i].take j) (b:=9999) (λx G=>by
       obtain ⟨q,C,rfl⟩:=List.mem_iff_getElem.1 G;rw [List.length_take] at C;have:=(A q (by omega)).1;rw [DH c (by omega)] at this;rw [List.getElem_take];exact this)
      rw [List.length_take] at u;rw [DH c t,ip,Q0,aH c];simp only [bS];rw [aH t,ax,Ey t];unfold aU;simp only [bS];by_cases h1:0≤s.p_[i][j]∧s.p_[i][j]≤9999
      ·rw [qj h1];simp only [Bool.not_true,Bool.false_eq_true,if_false];rw [Vz (by omega)];simp only [bS];by_cases d:(s.t_.count ⟨i,j⟩:Int)≤s.p_[i][j]
       ·rw [Q4,aV,Int.add_assoc];exact .inl ⟨⟨h1,d⟩,rfl⟩
       rw [Q0];exact .inr ⟨λg=>d g.2,rfl⟩
      rw [rY h1];exact .inr ⟨λg=>h1 g.1,rfl⟩) (by omega)
    simp only [List.take_zero,List.sum_nil,Int.add_zero] at m;rcases m with ⟨v,w⟩|⟨v,w⟩
    ·exact .inl ⟨λ_=>⟨l,v⟩,w⟩
    exact .inr ⟨λg=>v (g c).2,w⟩
   rw [if_pos (by simp [l])];exact .inr ⟨λg=>l (g c).1,rfl⟩
  rw [if_pos (by simp [f])];exact ct λg=>f g.2.1
 rw [rY a];exact ct λg=>a g.1
end Go.Vk
/- Scores: tested alike by the program. -/
namespace Go.Vk
def cm (l:List aG):List (aG×Int):=l.foldl (λm p=>EJ m p (IntKind.i64.wrap (lb m p+1))) []
theorem VI (l:List aG):∀m:List (aG×Int),(∀q,0≤lb m q∧lb m q+l.length≤1000000000)→∀q,lb (l.foldl (λm p=>EJ m p (IntKind.i64.wrap (lb m p+1))) m) q=lb m q+l.count q:=by
 induction l with
 | nil=>intro m _ q;simp
 | cons p l ih =>
  intro m a q;rw [List.foldl_cons];have d:=a p;simp only [List.length_cons] at a d;have c:IntKind.i64.wrap (lb m p+1)=lb m p+1:=aV
  rw [ih _ (λq=>by
   rw [Oa,c];have:=a q;split<;>omega) q,Oa,c,List.count_cons]
  by_cases h:q=p
  ·subst h;simp;omega
  have:¬(p=q):=λe=>h e.symm;simp [h,this]
theorem YN {l:List aG}(a:l.length≤1000000000)(q:aG):lb (cm l) q=(l.count q:Int):=by
 unfold cm;rw [VI l [] (λq=>by simp [lb];omega) q];simp [lb]
theorem RB {l:List aG}{i:Nat}(h:i<l.length):cm (l.take (i+1))=EJ (cm (l.take i)) l[i] (IntKind.i64.wrap (lb (cm (l.take i)) l[i]+1)):=by
 unfold cm;rw [List.take_succ_eq_append_getElem h,List.foldl_append];rfl
theorem NI {r:List Int}(f:r.length≤1048576):Dec (dL r) (∃x∈r,¬(0≤x∧x≤9999)):=by
 unfold dL ff
 refine (ww (Lp:=cY r) (n:=r.length) (Q:=λj=>∀a:j<r.length,¬(0≤r[j]∧r[j]≤9999)) (λk j a=>by
  show (if _ then _ else _)=_
  rw [Q4]) (λk j a=>by
  rw [cY,Q0,aH a,ax];unfold yl bm;simp only [bS];by_cases c:0≤r[j]∧r[j]≤9999
  ·rw [qj c];exact .inr ⟨λg=>g a c,rfl⟩
  rw [rY c];exact .inl ⟨λ_=>c,rfl⟩) (by omega)).of_iff ⟨λ⟨i,d,h⟩=>⟨r[i],List.getElem_mem d,h d⟩,λ⟨x,e,h⟩=>?_⟩
 obtain ⟨i,d,rfl⟩:=List.mem_iff_getElem.1 e;exact ⟨i,d,λ_=>h⟩
def VY (n:Int)(s:aW)(i:Nat):Prop:=∀h:i<s.p_.length,(s.p_[i].length:Int)=n∧∀x∈s.p_[i],0≤x∧x≤9999
def Rr (n:Int)(s:aW)(i:Nat):Prop:=∀h:i<s.t_.length,RA n s.t_[i]∧((s.t_.take (i+1)).count s.t_[i]:Int)≤ent s.p_ s.t_[i].U_.toNat s.t_[i].V_.toNat
theorem Ql {n:Int}{s:aW}:JO n s↔((2≤n∧n≤3)∧(s.p_.length:Int)=n∧(∀i,i<s.p_.length→VY n s i)∧sV s.p_≤9999∧(s.t_.length:Int)=(if 20<sV s.p_ then 20 else sV s.p_)∧∀i,i<s.t_.length→Rr n s i):=by
 constructor
 ·rintro ⟨f,k,c,h1,l,e⟩;refine ⟨f,k,λi a h=>⟨(c i a h).1,(MF h (c i a) f.2).2⟩,h1,l,λi a h=>⟨e _ (List.getElem_mem h),?_⟩⟩;have d:=e _ (List.getElem_mem h);have o:s.t_[i].U_.toNat<s.p_.length:=by have:=d.1;omega
  obtain ⟨r,g⟩:=c _ o o;have t:s.t_[i].V_.toNat<s.p_[s.t_[i].U_.toNat].length:=by have:=d.2;omega
  have u:=(g _ t).2
  have x:(⟨(s.t_[i].U_.toNat:Int),(s.t_[i].V_.toNat:Int)⟩:aG)=s.t_[i]:=by
   rw [Int.toNat_of_nonneg d.1.1,Int.toNat_of_nonneg d.2.1]
  rw [x] at u;have D:(s.t_.take (i+1)).count s.t_[i]≤s.t_.count s.t_[i]:=(List.take_sublist _ _).count_le _;omega
 rintro ⟨f,k,c,h1,l,e⟩;refine ⟨f,k,λi a h=>⟨(c i a h).1,λj m=>?_⟩,h1,l,λp d=>?_⟩
 ·have r:=(c i a h).2 _ (List.getElem_mem m);rw [DH h m];refine ⟨r,?_⟩;by_cases v:(⟨(i:Int),(j:Int)⟩:aG)∈s.t_
  ·obtain ⟨q,w,A,C⟩:=Qm v;obtain ⟨_,g⟩:=e q w w;rw [A,C] at g
   have:ent s.p_ (Int.toNat i) (Int.toNat j)=s.p_[i][j]:=by
    rw [Int.toNat_natCast,Int.toNat_natCast,DH h m]
   simp only at g;omega
  rw [List.count_eq_zero.2 v];omega
 obtain ⟨i,a,rfl⟩:=List.mem_iff_getElem.1 d;exact (e i a a).1
theorem To {n:Int}{s:aW}(q:2≤n∧n≤3)(r:s.t_.length≤1048576)(t:(s.p_.length:Int)=n)(m:∀i,i<s.p_.length→VY n s i):Dec (gk s n bc 0 []) (∀i,i<s.t_.length→Rr n s i):=by
 refine (xj (Lp:=λk i=>gk s n k (i:Int) (cm (s.t_.take i))) (n:=s.t_.length) (Q:=Rr n s) (F:=True) (λk _=>?_) (λk i a _=>?_) (by omega)).of_iff ⟨λh=>h.1,λh=>⟨h,trivial⟩⟩
 ·show Dec (gk s n (k+1) _ _) _;rw [gk,Q5];exact qS trivial
 show (_∧gk s n (k+1) _ _=gk s n k _ _)∨(_∧gk s n (k+1) _ _=_);have f:=YN (l:=s.t_.take (i+1)) (by simp;omega) s.t_[i];rw [gk,Q0,aH a,ax,aV (n:=n-1) (by omega) (by omega),RB a];rw [RB a] at f;unfold bm;simp only [bS];by_cases h1:0≤s.t_[i].U_∧s.t_[i].U_≤n-1
 ·rw [qj h1];simp only [cS];by_cases c:0≤s.t_[i].V_∧s.t_[i].V_≤n-1
  ·rw [qj c];simp only [Bool.not_true,Bool.false_eq_true,if_false];have d:s.t_[i].U_.toNat<s.p_.length:=by omega
   have e:s.t_[i].V_.toNat<s.p_[s.t_[i].U_.toNat].length:=by have:=(m _ d d).1;omega
   have o:idx s.p_ s.t_[i].U_=some s.p_[s.t_[i].U_.toNat]:=by
    have:=aH d;rwa [Int.toNat_of_nonneg h1.1] at this
   have p:idx s.p_[s.t_[i].U_.toNat] s.t_[i].V_=some s.p_[s.t_[i].U_.toNat][s.t_[i].V_.toNat]:=by
    have:=aH e;rwa [Int.toNat_of_nonneg c.1] at this
   rw [o];simp only [bS];rw [p];simp only [bS];rw [f];by_cases j:((s.t_.take (i+1)).count s.t_[i]:Int)≤s.p_[s.t_[i].U_.toNat][s.t_[i].V_.toNat]
   ·rw [Q4];exact .inl ⟨λ_=>⟨⟨h1,c⟩,by rw [DH d e];exact j⟩,rfl⟩
   rw [Q0];exact .inr ⟨λg=>j (by have:=(g a).2;rwa [DH d e] at this),rfl⟩
  rw [rY c];exact .inr ⟨λg=>c (g a).1.2,rfl⟩
 rw [rY h1];exact .inr ⟨λg=>h1 (g a).1.1,rfl⟩
theorem RN {n:Int}{s:aW}(t:vl s):Dec (xH n s) (JO n s):=by
 have v:=t.2.1;refine Dec.of_iff ?_ Ql.symm;unfold xH bm;simp only [bS];by_cases f:2≤n∧n≤3
 ·rw [qj f];by_cases j:(s.p_.length:Int)=n
  ·rw [if_neg (by simp [j])];refine Dec.of_iff (P:=(∀i,i<s.p_.length→VY n s i)∧sV s.p_≤9999∧(s.t_.length:Int)=(if 20<sV s.p_ then 20 else sV s.p_)∧∀i,i<s.t_.length→Rr n s i) ?_ ⟨λh=>⟨f,j,h⟩,λh=>h.2.2⟩;refine xj (Lp:=λk i=>im s n k (i:Int)) (n:=s.p_.length) (Q:=VY n s) (λk o=>?_) (λk i a o=>?_) (by omega)
   ·show Dec (im s n (k+1) _) _
    have l:QK s.p_:=λr d=>by
     obtain ⟨i,a,rfl⟩:=List.mem_iff_getElem.1 d;obtain ⟨w,u⟩:=o i a a;exact ⟨by omega,u⟩
    rw [im,Q5,OP l (by omega)];simp only [bS];show Dec (if (decide (sV s.p_>9999)||_) then _ else _) _;by_cases h1:sV s.p_>9999
    ·rw [if_pos (by simp [h1])];exact ct λg=>by have:=g.1;omega
    by_cases m:(s.t_.length:Int)=(if 20<sV s.p_ then 20 else sV s.p_)
    ·rw [if_neg (by simp only [h1,decide_false,Bool.false_or,bne_iff_ne,ne_eq,Decidable.not_not];exact m)];exact (To f (by omega) j o).of_iff ⟨λg=>⟨by omega,m,g⟩,λg=>g.2.2⟩
    rw [if_pos (by simp only [h1,decide_false,Bool.false_or,bne_iff_ne,ne_eq];exact m)];exact ct λg=>m g.2.1
   show (_∧im s n (k+1) _=im s n k _)∨(_∧im s n (k+1) _=_);rw [im,Q0,aH a,ax];simp only [bS];by_cases d:(s.p_[i].length:Int)=n
   ·rw [if_neg (by simp [d])];rcases (NI (r:=s.p_[i]) (by omega)).cases with ⟨e,x,p,q⟩|⟨e,q⟩
    ·rw [e];exact .inr ⟨λg=>q ((g a).2 x p),rfl⟩
    rw [e];exact .inl ⟨λ_=>⟨d,λx p=>Classical.byContradiction λc=>q ⟨x,p,c⟩⟩,rfl⟩
   rw [if_pos (by simp [d])];exact .inr ⟨λg=>d (g a).1,rfl⟩
  rw [if_pos (by simp [j])];exact ct λg=>j g.2.1
 rw [rY f];exact ct λg=>f g.1
end Go.Vk
/- Rules, members, forests, states: tested alike. -/
namespace Go.Vk
theorem Fj (c y:Bool):(if c=true then some y else some false:Option Bool)=some (c&&y):=by cases c<;>rfl
theorem vV (o:Option Bool):(o.bind λy=>some y)=o:=by cases o<;>rfl
theorem Xa {o k:Option Bool}{P Q:Prop}(h:Dec o P)(h':P→Dec k Q):Dec (o.bind λy=>if y=true then k else some false) (P∧Q):=h.and h'
def Mc (r:bO):Prop:=(1≤r.S_∧r.S_≤9)∧(0≤r.Q_∧r.Q_≤999)∧(1≤r.T_∧r.T_≤200)∧(0≤r.r_∧r.r_≤6)∧(1≤r.a_∧r.a_≤31)∧(62≤r.H_∧r.H_≤2000)
theorem BX (r:bO):Dec (qR r) (Mc r):=by
 unfold qR aU Mc;simp only [Option.bind_some,Fj];exact ⟨_,rfl,by simp [and_assoc]⟩
theorem NJ (r:bO):Dec (we r) (Mc r):=by
 unfold we bm Mc;simp only [Option.bind_some,Fj];exact ⟨_,rfl,by simp [and_assoc]⟩
def yM (c:aZ):Prop:=gF c.y_∧Mc c.d_∧(1≤c.u_∧c.u_≤4)∧(1≤c.X_∧c.X_≤(c.y_.c_.length:Int))∧(c.Z_=1∨c.Z_=6)∧(1≤c.v_∧c.v_≤9)∧(1≤c.w_∧c.w_≤9)∧c.v_≤c.w_
theorem WU (x:Int):Dec ((lz x).bind λy=>some (decide ((y.length:Int)>0))) (x=1∨x=6):=by
 unfold lz;by_cases h1:x=1
 ·rw [if_pos (by simpa using h1)];exact qS (.inl h1)
 rw [if_neg (by simpa using h1)];by_cases a:x=6
 ·rw [if_pos (by simpa using a)];exact qS (.inr a)
 rw [if_neg (by simpa using a)];exact ct (by omega)
theorem XJ (x:Int):Dec ((sq x).bind λy=>some (!y.2)) (x=1∨x=6):=by
 unfold sq;by_cases h1:x=1
 ·rw [if_pos (by simpa using h1)];exact qS (.inl h1)
 rw [if_neg (by simpa using h1)];by_cases a:x=6
 ·rw [if_pos (by simpa using a)];exact qS (.inr a)
 rw [if_neg (by simpa using a)];exact ct (by omega)
theorem Cx {c:aZ}(l:bn c.y_):Dec (lZ c) (yM c):=by
 unfold lZ yM;rcases (nI (lT l)).cases with ⟨e,d⟩|⟨e,d⟩
 ·rw [e];simp only [Option.bind_some,if_true];rcases (BX c.d_).cases with ⟨e,f⟩|⟨e,f⟩
  ·rw [e];simp only [Option.bind_some,if_true];rcases (cW (x:=c.u_) (a:=1) (b:=4)).cases with ⟨e,h1⟩|⟨e,h1⟩
   ·rw [e];simp only [Option.bind_some,if_true];rcases (cW (x:=c.X_) (a:=1) (b:=(c.y_.c_.length:Int))).cases with ⟨e,h⟩|⟨e,h⟩
    ·rw [e];simp only [Option.bind_some,if_true];rcases (WU c.Z_).cases with ⟨e,i⟩|⟨e,i⟩
     ·rw [e];simp only [Option.bind_some,if_true];rcases (cW (x:=c.v_) (a:=1) (b:=9)).cases with ⟨e,j⟩|⟨e,j⟩
      ·rw [e];simp only [Option.bind_some,if_true];rcases (cW (x:=c.w_) (a:=1) (b:=9)).cases with ⟨e,k⟩|⟨e,k⟩
       ·rw [e];simp only [Option.bind_some,Bool.true_and];refine ⟨_,rfl,?_⟩;rw [decide_eq_true_iff];exact ⟨λg=>⟨d,f,h1,h,i,j,k,g⟩,λg=>g.2.2.2.2.2.2.2⟩
       rw [e];exact ct λg=>k g.2.2.2.2.2.2.1
      rw [e];exact ct λg=>j g.2.2.2.2.2.1
     rw [e];exact ct λg=>i g.2.2.2.2.1
    rw [e];exact ct λg=>h g.2.2.2.1
   rw [e];exact ct λg=>h1 g.2.2.1
  rw [e];exact ct λg=>f g.2.1
 rw [e];exact ct λg=>d g.1
theorem Js {c:aZ}(l:bn c.y_):Dec (qv c) (yM c):=by
 unfold qv yM;rcases (qV (lT l)).cases with ⟨e,d⟩|⟨e,d⟩
 ·rw [e];simp only [Option.bind_some,if_true];rcases (NJ c.d_).cases with ⟨e,f⟩|⟨e,f⟩
  ·rw [e];simp only [Option.bind_some,if_true];rcases (fE (x:=c.u_) (a:=1) (b:=4)).cases with ⟨e,h1⟩|⟨e,h1⟩
   ·rw [e];simp only [Option.bind_some,if_true];rcases (fE (x:=c.X_) (a:=1) (b:=(c.y_.c_.length:Int))).cases with ⟨e,h⟩|⟨e,h⟩
    ·rw [e];simp only [Option.bind_some,if_true];rcases (XJ c.Z_).cases with ⟨e,i⟩|⟨e,i⟩
     ·rw [e];simp only [Option.bind_some,if_true];rcases (fE (x:=c.v_) (a:=1) (b:=9)).cases with ⟨e,j⟩|⟨e,j⟩
      ·rw [e];simp only [Option.bind_some,if_true];rcases (fE (x:=c.w_) (a:=1) (b:=9)).cases with ⟨e,k⟩|⟨e,k⟩
       ·rw [e];simp only [Option.bind_some,Bool.true_and];refine ⟨_,rfl,?_⟩;rw [decide_eq_true_iff];exact ⟨λg=>⟨d,f,h1,h,i,j,k,g⟩,λg=>g.2.2.2.2.2.2.2⟩
       rw [e];exact ct λg=>k g.2.2.2.2.2.2.1
      rw [e];exact ct λg=>j g.2.2.2.2.2.1
     rw [e];exact ct λg=>i g.2.2.2.2.1
    rw [e];exact ct λg=>h g.2.2.2.1
   rw [e];exact ct λg=>h1 g.2.2.1
  rw [e];exact ct λg=>f g.2.1
 rw [e];exact ct λg=>d g.1
def wL (l:List az):Nat→Int
 | 0=>0
 | i+1=>if i=0∨(l.getD i default).r_>wL l i then (l.getD i default).r_ else wL l i
theorem ZD {l:List az}{i:Nat}(h:i<l.length):l.getD i default=l[i]:=by simp [h]
theorem RQ {t:am}(d:t.a_.length≤1048576):rt t=some (wL t.a_ t.a_.length):=by
 unfold rt;refine jg (Lp:=λk i=>eS t k (wL t.a_ i) (i:Int)) (n:=t.a_.length) (λk=>?_) (λk i a=>?_) (by omega)
 ·show eS t (k+1) _ _=_;rw [eS,Q5]
 show eS t (k+1) _ _=eS t k _ _;rw [eS,Q0,aH a,ax];simp only [Option.bind_some,wL];rw [ZD a];by_cases c:i=0
 ·rw [if_pos (by simp only [beq_iff_eq];omega),if_pos (.inl c)];simp only [Option.bind_some,if_true]
 rw [if_neg (by simp only [beq_iff_eq];omega)];simp only [bS];by_cases h1:t.a_[i].r_>wL t.a_ i
 ·rw [if_pos (by simpa using h1),if_pos (.inr h1)]
 rw [if_neg (by simpa using h1),if_neg (λg=>g.elim c h1)]
theorem Sw {t:am}(e:t.a_.length≤1048576):xq t=some (wL t.a_ t.a_.length):=by
 unfold xq;by_cases c:t.a_.length=0
 ·rw [if_pos (by simp only [beq_iff_eq];omega),c];rfl
 rw [if_neg (by simp only [beq_iff_eq];omega),show (0:Int)=((0:Nat):Int) from rfl,aH (show 0<t.a_.length by omega)];simp only [bS]
 have h:=jg (Lp:=λk i=>ji t k (i:Int) (if i=0 then (t.a_[0]'(by omega)).r_ else wL t.a_ i)) (n:=t.a_.length) (fin:=some (wL t.a_ t.a_.length)) (λk=>by
  show ji t (k+1) _ _=_
  rw [ji,Q5,if_neg c]) (λk i d=>by
  show ji t (k+1) _ _=ji t k _ _;rw [ji,Q0,aH d,ax];simp only [bS];congr 1;rw [if_neg (Nat.succ_ne_zero i)];simp only [wL];rw [ZD d];by_cases a:i=0
  ·subst a;rw [if_pos rfl,if_pos (show (0=0∨_) from .inl rfl),if_neg (Int.lt_irrefl _)]
  rw [if_neg a];by_cases h1:t.a_[i].r_>wL t.a_ i
  ·rw [if_pos h1,if_pos (Or.inr h1)]
  rw [if_neg h1,if_neg (λg:i=0∨_=>g.elim a h1)]) (by omega)
 exact h
def zJ (n:az):Int:=if n.D_=true then 2+(n.q_.e_.map λc=>(c.length:Int)).sum else 1
def Kc (t:am):Int:=(t.a_.map zJ).sum
theorem EW {α ρ:Type}{p:List α}(v:α→Int)(a:Int)(Lp:Nat→Int→Int→Option ρ)(fin:Int→Option ρ)(d:∀k s,Lp (k+1) s (p.length:Int)=fin s)(e:∀k s (i:Nat) (h:i<p.length),Lp (k+1) s (i:Int)=Lp k (IntKind.i64.wrap (s+v p[i])) ((i+1:Nat):Int))(f:∀x∈p,0≤v x∧v x≤1000000000)(l:p.length≤1000000000)(m:0≤a∧a≤1000000000):Lp bc a 0=fin (a+(p.map v).sum):=by
 have:=jg (Lp:=λk i=>Lp k (a+((p.map v).take i).sum) (i:Int)) (n:=p.length) (fin:=fin (a+(p.map v).sum)) (λk=>by
  show Lp _ _ _=_
  rw [d,List.take_of_length_le (by simp)]) (λk i c=>by
  show Lp _ _ _=Lp _ _ _
  have h1:=tx (p:=(p.map v).take (i+1)) (b:=1000000000) (λx g=>by
   obtain ⟨y,j,rfl⟩:=List.mem_map.1 (NT g);exact f y j)
  rw [e _ _ _ c];rw [Ey (by simpa using c)] at h1 ⊢;rw [List.getElem_map] at h1 ⊢;have o:((p.map v).take (i+1)).length≤1000000000:=by simp;omega
  rw [aV,Int.add_assoc]) (by omega)
 simpa using this
theorem Rq {n:az}(a:pr n)(h:n.q_.e_.length≤5):0≤zJ n∧zJ n≤10000000:=by
 unfold zJ;split
 ·have d:=a.2.2.2.2.1.2
  have:=tx (p:=n.q_.e_.map λc=>(c.length:Int)) (b:=1048576) (λx e=>by
   obtain ⟨y,f,rfl⟩:=List.mem_map.1 e;have:=(d.2 y f).1;omega)
  simp only [List.length_map] at this;omega
 omega
theorem SC {n:az}(a:pr n)(h:n.q_.e_.length≤5):rv n=some (zJ n):=by
 unfold rv zJ;have d:=a.2.2.2.2.1.2;cases g:n.D_
 ·rfl
 simp only [Bool.not_true,Bool.false_eq_true,if_true,if_false]
 exact EW (p:=n.q_.e_) (λc=>(c.length:Int)) 2 (ko n) some (λk s=>by
  show (if _ then _ else _)=_
  rw [Q5]) (λk s i e=>by
  rw [ko,Q0,aH e,ax];rfl) (λx f=>by have:=(d.2 x f).1;omega) (by omega) (by omega)
theorem SD {n:az}(a:pr n)(h:n.q_.e_.length≤5):xP n=some (zJ n):=by
 unfold xP zJ;have d:=a.2.2.2.2.1.2;cases g:n.D_
 ·rfl
 simp only [Bool.not_true,Bool.false_eq_true,if_true,if_false]
 exact EW (p:=n.q_.e_) (λc=>(c.length:Int)) 2 (λk s i=>lI n k i s) some (λk s=>by
  show (if _ then _ else _)=_
  rw [Q5]) (λk s i e=>by
  show lI n (k+1) _ _=lI n k _ _;rw [lI,Q0,aH e,ax];rfl) (λx f=>by have:=(d.2 x f).1;omega) (by omega) (by omega)
theorem Iy {s:ae}{t:am}(a:yN s t){i:Nat}(c:i<t.a_.length):t.a_[i].q_.e_.length≤5:=by
 have h:=(a.2.2.2 i c c).1.2.2.1;have:=a.1.1;rcases h.2.2.2.2 with g|g
 ·omega
 have:=g.1;omega
theorem KB {s:ae}{t:am}(d:iB t)(c:yN s t):mG t=some (Kc t):=by
 unfold mG Kc;have f:=c.2.1
 have h:=EW (p:=t.a_) zJ 0 (iP t) some (λk s=>by
  show (if _ then _ else _)=_
  rw [Q5]) (λk s i a=>by
  rw [iP,Q0,aH a,ax];simp only [bS];rw [SC (d.1.2 _ (List.getElem_mem a)) (Iy c a)]
  rfl) (λx e=>by
   obtain ⟨i,a,rfl⟩:=List.getElem_of_mem e;have:=Rq (d.1.2 _ (List.getElem_mem a)) (Iy c a);omega) (by omega) (by omega)
 rw [Int.zero_add] at h;exact h
theorem KF {s:ae}{t:am}(d:iB t)(c:yN s t):tO t=some (Kc t):=by
 unfold tO Kc;have f:=c.2.1
 have h:=EW (p:=t.a_) zJ 0 (nv t) some (λk s=>by
  show (if _ then _ else _)=_
  rw [Q5]) (λk s i a=>by
  rw [nv,Q0,aH a,ax];simp only [bS];rw [SD (d.1.2 _ (List.getElem_mem a)) (Iy c a)]
  rfl) (λx e=>by
   obtain ⟨i,a,rfl⟩:=List.getElem_of_mem e;have:=Rq (d.1.2 _ (List.getElem_mem a)) (Iy c a);omega) (by omega) (by omega)
 rw [Int.zero_add] at h;exact h
def LN (s:ae)(r:bO)(t:am):Prop:=yN s t∧Mc r∧(t.a_.length:Int)≤r.a_∧wL t.a_ t.a_.length≤r.r_∧Kc t≤r.H_
theorem OQ {s:ae}{r:bO}{t:am}(f:bn s)(c:iB t):Dec (tj s r t) (LN s r t):=by
 unfold tj LN;rcases (yd f c).cases with ⟨e,a⟩|⟨e,a⟩
 ·rw [e];simp only [Option.bind_some,if_true];rcases (BX r).cases with ⟨e,d⟩|⟨e,d⟩
  ·rw [e,RQ c.1.1,KB c a];simp only [Option.bind_some,Bool.true_and,Fj];refine ⟨_,rfl,?_⟩;simp [a,d,and_assoc]
  rw [e];exact ct λg=>d g.2.1
 rw [e];exact ct λg=>a g.1
theorem NF {s:ae}{r:bO}{t:am}(f:bn s)(c:iB t):Dec (AI s r t) (LN s r t):=by
 unfold AI LN;rcases (Ue f c).cases with ⟨e,a⟩|⟨e,a⟩
 ·rw [e];simp only [Option.bind_some,if_true];rcases (NJ r).cases with ⟨e,d⟩|⟨e,d⟩
  ·rw [e,Sw c.1.1,KF c a];simp only [Option.bind_some,Bool.true_and,Fj];refine ⟨_,rfl,?_⟩;simp [a,d,and_assoc]
  rw [e];exact ct λg=>d g.2.1
 rw [e];exact ct λg=>a g.1
def Tx (d:cx):Prop:=HN d.v_∧HN d.w_
theorem XH (d:cx):Dec (AZ d) (Tx d):=by
 unfold AZ Tx;simp only [vV];exact (EZ d.v_).and λ_=>EZ d.w_
theorem Xu {d:cx}(a:IE d):Dec (Bt d) (Tx d):=by
 unfold Bt Tx;simp only [vV];exact (Rd a.1).and λ_=>Rd a.2
def MY (t:am):Prop:=t.a_.length=0∧t.o_=0
theorem VC (t:am):Dec (mh t (am.mk [] 0)) (MY t):=by
 unfold mh MY;simp only [vV];by_cases h:t.o_=0
 ·rw [if_pos (by simpa using h)];unfold bF;by_cases a:t.a_.length=0
  ·rw [if_neg (by simp [a])];obtain ⟨k,hk⟩:∃k,bc=k+1:=⟨bc-1,by have:=cN (n:=0) (by omega);omega⟩;rw [hk,aL,if_neg (by simp [List.length_eq_zero_iff.1 a])];exact qS ⟨a,h⟩
  rw [if_pos (by simp;exact λe=>a (by rw [e];rfl))];exact ct λg=>a g.1
 rw [if_neg (by simpa using h)];exact ct λg=>h g.2
def zd (c:aZ)(m:aA):Prop:=yM c∧LN c.y_ c.d_ m.A_∧Tx m.z_∧(m.N_=true→LN c.y_ c.d_ m.s_)∧(m.N_=false→MY m.s_)
theorem JQ {c:aZ}{m:aA}(j:bn c.y_)(k:qL m):Dec (rQ c m) (zd c m):=by
 unfold rQ zd;rcases (Cx j).cases with ⟨e,d⟩|⟨e,d⟩
 ·rw [e];simp only [cS];rcases (OQ (r:=c.d_) j k.1).cases with ⟨e,f⟩|⟨e,f⟩
  ·rw [e];simp only [cS];rcases (XH m.z_).cases with ⟨e,i⟩|⟨e,i⟩
   ·rw [e];simp only [Option.bind_some,Bool.not_true,Bool.false_eq_true,if_false,vV];by_cases a:m.N_=true
    ·rw [if_pos a];exact (OQ j k.2.2.1).of_iff ⟨λg=>⟨d,f,i,λ_=>g,λh=>by rw [a] at h;cases h⟩,λg=>g.2.2.2.1 a⟩
    rw [if_neg a];have hy':m.N_=false:=by simpa using a
    refine ⟨_,rfl,?_⟩;rw [Bool.and_eq_true,beq_iff_eq,beq_iff_eq];exact ⟨λg=>⟨d,f,i,λh=>absurd h a,λ_=>⟨by omega,g.2⟩⟩,λg=>⟨by have:=(g.2.2.2.2 hy').1;omega,(g.2.2.2.2 hy').2⟩⟩
   rw [e];exact ct λg=>i g.2.2.1
  rw [e];exact ct λg=>f g.2.1
 rw [e];exact ct λg=>d g.1
theorem PM {c:aZ}{m:aA}(j:bn c.y_)(k:qL m):Dec (vO c m) (zd c m):=by
 unfold vO zd;rcases (Js j).cases with ⟨e,d⟩|⟨e,d⟩
 ·rw [e];simp only [cS];rcases (NF (r:=c.d_) j k.1).cases with ⟨e,f⟩|⟨e,f⟩
  ·rw [e];simp only [cS];rcases (Xu k.2.2.2).cases with ⟨e,i⟩|⟨e,i⟩
   ·rw [e];simp only [Option.bind_some,Bool.not_true,Bool.false_eq_true,if_false,vV];by_cases a:m.N_=true
    ·rw [if_pos a];exact (NF j k.2.2.1).of_iff ⟨λg=>⟨d,f,i,λ_=>g,λh=>by rw [a] at h;cases h⟩,λg=>g.2.2.2.1 a⟩
    rw [if_neg a];have hy':m.N_=false:=by simpa using a
    exact (VC m.s_).of_iff ⟨λg=>⟨d,f,i,λh=>absurd h a,λ_=>g⟩,λg=>g.2.2.2.2 hy'⟩
   rw [e];exact ct λg=>i g.2.2.1
  rw [e];exact ct λg=>f g.2.1
 rw [e];exact ct λg=>d g.1
def Fc (c:aZ)(f:bj):Prop:=yM c∧(f.u_.length:Int)=c.u_∧∀m∈f.u_,zd c m
theorem Kj {c:aZ}{f:bj}(l:bn c.y_)(o:qz f):Dec (rW c f) (Fc c f):=by
 unfold rW Fc;have q:f.u_.length≤1048576:=o.1;rcases (Cx l).cases with ⟨e,j⟩|⟨e,j⟩
 ·rw [e];simp only [Option.bind_some,Bool.not_true,Bool.false_or];by_cases d:(f.u_.length:Int)=c.u_
  ·rw [if_neg (by simpa using d)]
   refine (rk (Lp:=oU f c) (n:=f.u_.length) (Q:=λi=>∀h:i<f.u_.length,zd c f.u_[i]) 0 (λk i a=>?_) (λk i _ a=>?_) (by omega)).of_iff ⟨λg=>⟨j,d,λm p=>by
    obtain ⟨i,a,rfl⟩:=List.getElem_of_mem p;exact g i (Nat.zero_le _) a a⟩,λg i _ a _=>g.2.2 _ (List.getElem_mem a)⟩
   ·show (if _ then _ else _)=_;rw [Q4]
   rw [oU,Q0,aH a,ax];simp only [bS];rcases (JQ l (o.2 _ (List.getElem_mem a))).cases with ⟨e,h⟩|⟨e,h⟩
   ·rw [e];exact .inl ⟨λ_=>h,rfl⟩
   rw [e];exact .inr ⟨λg=>h (g a),rfl⟩
  rw [if_pos (by simpa using d)];exact ct λg=>d g.2.1
 rw [e];exact ct λg=>j g.1
theorem PW {c:aZ}{f:bj}(l:bn c.y_)(o:qz f):Dec (vH c f) (Fc c f):=by
 unfold vH Fc;have r:f.u_.length≤1048576:=o.1;rcases (Js l).cases with ⟨e,j⟩|⟨e,j⟩
 ·rw [e];simp only [Option.bind_some,Bool.true_and,vV];by_cases d:(f.u_.length:Int)=c.u_
  ·rw [if_pos (by simpa using d)]
   have p:Dec (cG f.u_ c) (∃i,i<f.u_.length∧∀h:i<f.u_.length,¬zd c f.u_[i]):=by
    unfold cG dD;refine ww (Lp:=cc f.u_ c) (n:=f.u_.length) (λk i a=>?_) (λk i a=>?_) (by omega)
    ·show (if _ then _ else _)=_;rw [Q4]
    rw [cc,Q0,aH a,ax];unfold wS;simp only [bS];rcases (PM l (o.2 _ (List.getElem_mem a))).cases with ⟨e,h⟩|⟨e,h⟩
    ·rw [e];exact .inr ⟨λg=>g a h,rfl⟩
    rw [e];exact .inl ⟨λ_=>h,rfl⟩
   rcases p.cases with ⟨e,i,a,h⟩|⟨e,h⟩
   ·rw [e];exact ct λg=>h a (g.2.2 _ (List.getElem_mem a))
   rw [e];exact qS ⟨j,d,λm q=>by
    obtain ⟨i,a,rfl⟩:=List.getElem_of_mem q;exact Classical.byContradiction λg=>h ⟨i,a,λ_=>g⟩⟩
  rw [if_neg (by simpa using d)];exact ct λg=>d g.2.1
 rw [e];exact ct λg=>j g.1
def wP (st:aF):Prop:=Fc st.m_ st.aa_∧JO (st.m_.y_.g_.length:Int) st.L_
theorem CU {st:aF}(h:nh st):Dec (tM st) (wP st):=by
 unfold tM wP;simp only [vV];exact (Kj h.1.1 h.2.1).and λ_=>GY h.2.2
theorem Lw {st:aF}(h:nh st):Dec (uF st) (wP st):=by
 unfold uF wP;simp only [vV];exact (PW h.1.1 h.2.1).and λ_=>RN h.2.2
end Go.Vk
