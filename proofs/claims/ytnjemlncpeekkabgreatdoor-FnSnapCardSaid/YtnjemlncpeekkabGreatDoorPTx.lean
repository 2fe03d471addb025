/- A schema's text: alike. -/
import Derived.Test.YtnjemlncpeekkabGreatDoorRX
import Derived.Test.YtnjemlncpeekkabGreatDoorPDr
import Derived.Test.YtnjemlncpeekkabGreatDoorVkBs
import Derived.Test.YtnjemlncpeekkabGreatDoorPTr
namespace Go.Vk
open Go.Proofs
theorem Dec.val {o:Option Bool}{P:Prop}(h:Dec o P)(p:P):o=some true:=by
 rcases h.cases with ⟨e,_⟩|⟨_,n⟩
 ·exact e
 exact absurd p n
theorem Oz {ws:List (List UInt8)}(h:Bq ws):∀w∈ws,w.length≤8:=λw c=>by
 obtain ⟨i,a,rfl⟩:=List.getElem_of_mem c;have:=(h i (Nat.zero_le _) a a).1.1;omega
def eK (a:aK):List UInt8:=if 0<a.B_.length then a.F_++[58]++Lib.join (a.B_.map Lib.itoa) [44] else a.F_++[61]++Lib.join a.M_ [44]
theorem FW {a:aK}(d:nx a)(h:uL a):pH a=some (eK a)∧nL a=some (eK a)∧(eK a).length≤400:=by
 have t:a.F_.length≤8:=by have:=h.1.1;omega
 unfold pH nL eK;rw [(AB (Bc d)).val h,(FH (Bc d)).val h];simp only [cS];rcases h.2 with ⟨g,u,j⟩|⟨g,v,_⟩
 ·have m:=El (xs:=a.M_) (sep:=[44]) (Oz j);have o:(Lib.join a.M_ [44]).length≤36:=by simp only [List.length_cons,List.length_nil] at m;omega
  rw [Q0,if_neg (c:=0<a.B_.length) (by omega),if_neg (c:=decide ((a.B_.length:Int)>0)=true) (by rw [decide_eq_true_iff];omega),xG (by simp;omega)];simp only [bS];rw [Fs (by omega) (by omega) (by simp),Fw (by omega) (by omega)];simp only [bS];rw [xG (by simp;omega)];exact ⟨rfl,rfl,by simp;omega⟩
 obtain ⟨q,o⟩:=Mz (sep:=[44]) d.2.1 (by simp);have r:a.B_.length≤3:=by omega
 have e:sg a.F_ [58]=some (a.F_++[58]):=xG (by simp only [List.length_cons,List.length_nil];omega);have f:sg (a.F_++[58]) (Lib.join (a.B_.map Lib.itoa) [44])=some (a.F_++[58]++Lib.join (a.B_.map Lib.itoa) [44]):=xG (by simp only [List.length_append,List.length_cons,List.length_nil];omega);rw [if_neg (c:=decide ((a.M_.length:Int)>0)=true) (by rw [decide_eq_true_iff];omega),if_pos (c:=0<a.B_.length) (by omega),if_pos (c:=decide ((a.B_.length:Int)>0)=true) (by rw [decide_eq_true_iff];omega),e];simp only [bS];rw [q];simp only [bS];rw [f];refine ⟨?_,rfl,by simp;omega⟩;refine (qH (p:=a.B_) Lib.itoa (λk l i=>kG a k l i) (λl=>(sg a.F_ [58]).bind λs=>(nB l [44]).bind λy=>(sg s y).bind λs=>some s) (λk l=>?_) (λk l i h w=>?_) (by omega)).trans ?_
 ·show kG a (k+1) l _=_;rw [kG,Q5]
 ·show kG a (k+1) l _=_;rw [kG,Q0,aH h,ax];simp only [bS];rw [IT (d.2.1.2 _ (List.getElem_mem h))];simp only [bS];rw [bA];rfl
 rw [e];simp only [bS];rw [Fs (by simp;omega) (by omega) (by simp)];simp only [bS];rw [f];rfl
def li (s:ae):List UInt8:=Lib.join (s.c_.map eK) [59]++[124]++Lib.join s.g_ [44]
theorem zz {s:ae}(c:bn s)(h:gF s):wQ s=some (li s)∧sK s=some (li s)∧(li s).length≤3000:=by
 have m:=h.1;have o:=h.2.1;have d:∀{i:Nat}(a:i<s.c_.length),pH s.c_[i]=some (eK s.c_[i])∧nL s.c_[i]=some (eK s.c_[i])∧(eK s.c_[i]).length≤400:=λa=>FW (c.1.2 _ (List.getElem_mem a)) (h.attr a)
 have h1:(Lib.join (s.c_.map eK) [59]).length≤2005:=by
  have:=El (xs:=s.c_.map eK) (sep:=[59]) (b:=400) (λx g=>by
   obtain ⟨y,j,rfl⟩:=List.mem_map.1 g;obtain ⟨i,a,rfl⟩:=List.getElem_of_mem j;exact (d a).2.2)
  rw [List.length_map] at this;simp only [List.length_cons,List.length_nil] at this;omega
 have q:(Lib.join s.g_ [44]).length≤27:=by
  have:=El (xs:=s.g_) (sep:=[44]) (Oz h.2.2.1);simp only [List.length_cons,List.length_nil] at this;omega
 have e:sg (Lib.join (s.c_.map eK) [59]) [124]=some (Lib.join (s.c_.map eK) [59]++[124]):=xG (by simp only [List.length_cons,List.length_nil];omega);have f:sg (Lib.join (s.c_.map eK) [59]++[124]) (Lib.join s.g_ [44])=some (li s):=xG (by simp only [List.length_append,List.length_cons,List.length_nil];omega);unfold wQ sK;rw [(nI (lT c)).val h,(qV (lT c)).val h];simp only [cS];refine ⟨?_,?_,by unfold li;simp;omega⟩
 ·refine (qH (p:=s.c_) eK (λk l i=>jq s k l i) (λl=>(nB l [59]).bind λy=>(sg y [124]).bind λt=>(nB s.g_ [44]).bind λy=>(sg t y).bind λt=>some t) (λk l=>?_) (λk l i h a=>?_) (by omega)).trans ?_
  ·show jq s (k+1) l _=_;rw [jq,Q5]
  ·show jq s (k+1) l _=_;rw [jq,Q0,aH h,ax];simp only [bS];rw [(d h).1];simp only [bS];rw [bA];rfl
  rw [Fs (by simp;omega) (by omega) (by simp)];simp only [bS];rw [e];simp only [bS];rw [Fs (by omega) (by omega) (by simp)];simp only [bS];rw [f];rfl
 refine (qH (p:=s.c_) eK (λk l i=>ia s k i l) (λl=>(Cs l [59]).bind λy=>(sg y [124]).bind λt=>(Cs s.g_ [44]).bind λy=>(sg t y).bind λt=>some t) (λk l=>?_) (λk l i h a=>?_) (by omega)).trans ?_
 ·show ia s (k+1) _ l=_;rw [ia,Q5]
 ·show ia s (k+1) _ l=_;rw [ia,Q0,aH h,ax];simp only [bS];rw [(d h).2.1];simp only [bS];rw [bA];rfl
 rw [Fw (by simp;omega) (by omega)];simp only [bS];rw [e];simp only [bS];rw [Fw (by omega) (by omega)];simp only [bS];rw [f];rfl
def uJ (w:List UInt8):List Int:=uH w.length++byS w
theorem Lt {w:List UInt8}(h:w.length≤3000):Be w=some (uJ w)∧xk w=some (uJ w)∧(uJ w).length≤3005:=by
 obtain ⟨h1,a,c⟩:=LF (n:=w.length) (by omega);have d:=CP w;have e:Gd w=some (byS w):=if_pos (by omega);unfold Be xk uJ;rw [h1,a,e];simp only [bS];rw [bA (by omega)];exact ⟨rfl,rfl,by rw [List.length_append];omega⟩
theorem eo {a b:List Int}(c:gi a)(d:gi b):gi (a++b):=λx e=>(List.mem_append.1 e).elim (c x) (d x)
theorem yu {α:Type}{p:List α}{B:α→List Int}(h:∀x∈p,gi (B x)):gi (p.flatMap B):=λy a=>by
 obtain ⟨x,c,a⟩:=List.mem_flatMap.1 a;exact h x c y a
theorem Si (s:List UInt8):gi (byS s):=λx a=>by
 obtain ⟨b,_,rfl⟩:=List.mem_map.1 a;have:=b.toNat_lt;exact ⟨by omega,by omega⟩
theorem DN:∀n:Nat,gi (uH n)
 | n=>by
  by_cases h:n<128
  ·rw [Ev h];intro x hx;rw [List.mem_singleton.1 hx];omega
  rw [Iv h];intro x hx;rcases List.mem_cons.1 hx with rfl|hx
  ·omega
  exact DN (n / 128) x hx
termination_by n=>n
theorem gD (x:Int):gi (ez x):=by
 unfold ez;split
 ·exact DN _
 intro x a;cases a
theorem Hm (p:List Int):gi (mR p):=yu λx _=>gD x
theorem zm (p:List Int):gi (ly p):=eo (gD _) (Hm _)
theorem Bb (p:List (List Int)):gi (p.flatMap ly):=yu λx _=>zm x
theorem NK (x:az):gi (wr x):=eo (eo (eo (eo (eo (eo (eo (eo (eo (eo (eo (gD _) (gD _)) (gD _)) (zm _)) (gD _)) (zm _)) (eo (gD _) (Bb _))) (gD _)) (zm _)) (gD _)) (gD _)) (gD _)
end Go.Vk
/- What a right state's bytes need: alike. -/
namespace Go.Vk
theorem II {α:Type}{p:List α}{f:α→Nat}{b:Nat}(h:∀x∈p,f x≤b):(p.map f).sum≤b*p.length:=by
 induction p with
 | nil=>simp
 | cons x p ih =>
  have h1:=h x (by simp);have c:=ih λy a=>h y (by simp [a]);simp only [List.map_cons,List.sum_cons,List.length_cons,Nat.mul_succ];omega
theorem Xq {l:List Int}{n:Nat}(h:∀i,0≤i→i<l.length→∀h:i<l.length,(0≤l[i]∧l[i]≤(n:Int)-1)∧(0<i→l[i-1]<l[i])):l.length≤n:=by
 have key:∀i,∀a:i<l.length,(i:Int)≤l[i]:=by
  intro i
  induction i with
  | zero=>intro a;exact (h 0 (Nat.le_refl _) a a).1.1
  | succ i ih =>
   intro a;have h1:=ih (by omega);have c:=(h (i+1) (Nat.zero_le _) a a).2 (Nat.succ_pos i);simp only [Nat.add_sub_cancel] at c;omega
 by_cases d:l.length=0
 ·omega
 have h1:=key (l.length-1) (by omega);have c:=(h (l.length-1) (Nat.zero_le _) (by omega) (by omega)).1.2;omega
theorem CS {l:List Int}(h:∀x∈l,0≤x∧x≤99999):rR l:=λx a=>by
 have:=h x a;exact ⟨by omega,by omega⟩
theorem ZA {s:ae}{f:aC}(h:wA s f):f.j_≤4:=by
 have h1:=h.2.2.2
 have d:=(Fu (a:=atr s f) (by
   obtain ⟨j,c,e⟩:=List.getElem_of_mem (AW h.2.1);rw [←e];exact h.1.attr c)).2
 unfold Cj at h1;split at h1<;>omega
theorem SB {s:ae}{x:aD}(h:zL s x):rR x.l_∧(∀y∈x.e_,rR y)∧x.l_.length+CF x.e_≤80∧x.l_.sum≤999:=by
 obtain ⟨d,h1,j,k,a⟩:=h;have q:=d.2.1;have r:=d.1
 have g:∀y∈x.e_,rR y∧y.length≤12:=λy c=>by
  rcases a with a|⟨a,l⟩
  ·rw [List.length_eq_zero_iff.1 a] at c;cases c
  obtain ⟨i,m,rfl⟩:=List.getElem_of_mem c;obtain ⟨c1,c2,_⟩:=l i m (by omega);have o:=(Fu (d.attr (i:=i) (by omega))).2;have:=Nat.mul_le_mul o (show s.g_.length≤3 by omega);exact ⟨CS λz e=>by have:=c2 z e;omega,by omega⟩
 have t:x.e_.length≤5:=by
  rcases a with a|⟨a,_⟩<;>omega
 refine ⟨CS λz e=>by have:=j z e;omega,λy c=>(g y c).1,?_,k⟩;have:=II (p:=x.e_) (f:=List.length) (b:=12) λy c=>(g y c).2;unfold CF;omega
theorem Lh {s:ae}{t:am}(c:yN s t){i:Nat}(r:i<t.a_.length):AA t.a_[i]∧szM t.a_[i]≤100:=by
 have hL:=c.2.1;have hs:=c.2.2.1;have hA:=c.1.1;obtain ⟨⟨F,G,k,a,l,o⟩,v,w⟩:=c.2.2.2 i r r;obtain ⟨A,C,H,L⟩:=SB k;have M:=Xq a.2.2
 have D:rR t.a_[i].c_:=CS λz q=>by
  obtain ⟨j,E,rfl⟩:=List.getElem_of_mem q;have:=(a.2.2 j (Nat.zero_le _) E E).1;omega
 have P : -1≤t.a_[i].G_∧t.a_[i].G_≤31:=by
  by_cases Q:i=0
  ·have:=(v Q).1;omega
  obtain ⟨u,a5,a6,e,_⟩:=w (by omega);omega
 generalize t.a_[i]=n at F G k a l o A C H L M D P
 have hk:rR n.C_∧n.C_.length≤4∧(-1≤n.n_.k_∧n.n_.k_≤5)∧(-1≤n.n_.j_∧n.n_.j_≤5)∧(0≤n.J_∧n.J_≤5)∧(0≤n.K_∧n.K_≤999):=by
  cases p:n.D_ with
  | true =>
   obtain ⟨⟨R,X⟩,Z,e4,d⟩:=l p;refine ⟨?_,by omega,by omega,by omega,by omega,d.1,?_⟩
   ·rw [List.length_eq_zero_iff.1 Z];intro x f;cases f
   have:=d.2;split at this<;>omega
  | false =>
   obtain ⟨g,R,X,_,e4,d⟩:=o p;have b1:=(Ol g).2;have b2:=ZA g;have b3:=g.2.1;have b4:=g.2.2.1;refine ⟨CS λz q=>?_,by omega,by omega,by omega,by omega,by omega⟩;obtain ⟨m,hm,e,_⟩:=d.2 z q;omega
 obtain ⟨k1,k2,k3,k4,k5,k6⟩:=hk;have hI:∀{x:Int},-1≤x∧x≤99999→InR x:=λh=>⟨by omega,by omega⟩;refine ⟨⟨?_,k1,D,A,C⟩,by unfold szM;omega⟩;intro x f;simp only [List.mem_cons,List.not_mem_nil,or_false] at f;rcases f with rfl|rfl|rfl|rfl|rfl|rfl|rfl<;>exact hI (by omega)
def IM (t:am):Prop:=szU t≤4000∧t.a_.length≤31∧InR t.o_∧∀y∈t.a_,AA y
theorem XM {s:ae}{t:am}(a:yN s t):IM t:=by
 have e:=a.2.1;have g:=a.2.2.1
 have:=II (p:=t.a_) (f:=szM) (b:=100) λy c=>by
  obtain ⟨i,d,rfl⟩:=List.getElem_of_mem c;exact (Lh a d).2
 refine ⟨by unfold szU;omega,by omega,⟨by omega,by omega⟩,λy c=>?_⟩;obtain ⟨i,d,rfl⟩:=List.getElem_of_mem c;exact (Lh a d).1
theorem VN {t:am}(h:MY t):IM t:=by
 have e:=List.length_eq_zero_iff.1 h.1;refine ⟨by unfold szU;rw [e];simp,by rw [e];simp,⟨by have:=h.2;omega,by have:=h.2;omega⟩,λy a=>?_⟩;rw [e] at a;cases a
def xg (t:am):List Int:=ez t.o_++ez t.a_.length++t.a_.flatMap wr
theorem GR {t:am}(h:IM t):(xg t).length≤22000:=by
 have h1:=ew t.o_;have c:=ew t.a_.length;have d:=JL t.a_;have a:=h.1;have e:=h.2.1;unfold szU at a;unfold xg;simp only [List.length_append];omega
theorem Hf (t:am):gi (xg t):=eo (eo (gD _) (gD _)) (yu λx _=>NK x)
theorem LZ {t:am}(h:IM t):uD t=some (xg t):=by
 rw [Oe (by have:=h.1;omega),if_pos h.2.2];rfl
theorem LG {t:am}(h:IM t){l:List Int}(m:l.length≤1000000):ow ⟨l,false⟩ t=some ⟨l++xg t,false⟩:=by
 have a:=GR h;have h1:=h.2.1;have o:=h.1;unfold xg at a ⊢;simp only [List.length_append] at a;have f:InR (t.a_.length:Int):=CK (by omega);have g:=pL [t.o_,(t.a_.length:Int)];simp only [List.length_cons,List.length_nil] at g;unfold ow;rw [kx (by simp) _ _ (by omega)];simp only [bS];have e:(false||decide (¬ ∀x∈[t.o_,(t.a_.length:Int)],InR x))=false:=by simp [f,h.2.2.1]
 rw [e]
 refine (tf (M:=400000000) (p:=t.a_) (σ:=Bool) wr (λq x=>q||decide (¬AA x)) (gx t) (λl q=>some ⟨l,q⟩)
   (λk l q=>by show (if _ then _ else _)=_;rw [Q5])
   (λk l q i c d=>by
    have j:=List.getElem_mem c;exact KR c (by omega) (by have:=MW j;omega) d) (by omega) _ false (by simp only [List.length_append];omega)).trans ?_
 rw [LB,decide_eq_false (show ¬ ¬_ from λn=>n h.2.2.2)];simp [Eh,GO]
def Sm (x:au):Prop:=CF x.f_≤32∧∀r∈x.f_,rR r
theorem Zh {x:au}(h:HN x):Sm x:=by
 have c:∀r∈x.f_,rR r∧r.length≤3:=λr a=>by
  obtain ⟨i,d,rfl⟩:=List.getElem_of_mem a;obtain ⟨h1,e⟩:=h.2 i d d;have g:=h.1;have l:2^i≤2^8:=Nat.pow_le_pow_right (by omega) (by omega);exact ⟨CS λz j=>by have:=e z j;omega,h1.2⟩
 have:=II (p:=x.f_) (f:=List.length) (b:=3) λy k=>(c y k).2;have g:=h.1;exact ⟨by unfold CF;omega,λr a=>(c r a).1⟩
def Ez (x:au):List Int:=ez x.f_.length++x.f_.flatMap ly
theorem OL {x:au}(h:Sm x):(Ez x).length≤200:=by
 have h1:=ew x.f_.length;have a:=vg x.f_;have c:=h.1;unfold Ez;rw [List.length_append];omega
theorem IZ (x:au):gi (Ez x):=eo (gD _) (Bb _)
theorem Ny {x:au}(h:Sm x):qK x=some (Ez x):=by
 rw [KC (by have:=h.1;omega),if_pos h.2];rfl
theorem Ox {x:au}(h:Sm x){l:List Int}(a:l.length≤1000000):mH ⟨l,false⟩ x=some ⟨l++Ez x,false⟩:=by
 have c:=h.1;have d:=@xl x.f_;have e:=ew x.f_.length;unfold mH;rw [AL (CK (by omega)) _ _ (by omega)];simp only [bS];rw [Fg (p:=x.f_) (by omega) (mO x) _ (λ_ _ _ _=>rfl) _ _ (by simp only [List.length_append];omega),decide_eq_false (show ¬ ¬_ from λn=>n h.2),List.append_assoc];rfl
end Go.Vk
/- The bytes of a state: alike. -/
namespace Go.Vk
def xO (m:aA):List Int:=xg m.A_++ez (yy m.N_)++xg m.s_++Ez m.z_.v_++Ez m.z_.w_
def Vy (m:aA):Prop:=IM m.A_∧IM m.s_∧Sm m.z_.v_∧Sm m.z_.w_
theorem ZL {c:aZ}{m:aA}(h:zd c m):Vy m:=by
 obtain ⟨_,h1,a,e,f⟩:=h;refine ⟨XM h1.1,?_,Zh a.1,Zh a.2⟩
 cases d:m.N_ with
 | true=>exact XM (e d).1
 | false=>exact VN (f d)
theorem Ul {m:aA}(h:Vy m):(xO m).length≤45000:=by
 have h1:=GR h.1;have a:=GR h.2.1;have c:=OL h.2.2.1;have d:=OL h.2.2.2;have e:=ew (yy m.N_);unfold xO;simp only [List.length_append];omega
theorem PN (m:aA):gi (xO m):=eo (eo (eo (eo (Hf _) (gD _)) (Hf _)) (IZ _)) (IZ _)
def se (p:aG):List Int:=ez p.U_++ez p.V_
def nD (st:aF):List Int:=[st.m_.d_.S_,st.m_.d_.Q_,st.m_.d_.T_,st.m_.d_.r_,st.m_.d_.a_,st.m_.d_.H_,yy st.m_.d_.O_]
def nS (st:aF):List Int:=[st.m_.u_,st.m_.X_,st.m_.Z_,st.m_.v_,st.m_.w_]
def Af (st:aF):List Int:=[83,80,78,1]++uJ (li st.m_.y_)
def uK (st:aF):List Int:=st.L_.p_.flatMap ly++ez st.L_.t_.length++st.L_.t_.flatMap se
structure StG (st:aF):Prop where
 head:(Af st).length≤3009
 numA:∀x∈nD st,InR x
 numC:∀x∈nS st,InR x
 mems:st.aa_.u_.length≤4
 mem:∀m∈st.aa_.u_,Vy m
 rows:st.L_.p_.length≤3
 row:∀r∈st.L_.p_,rR r∧r.length≤3
 lasts:st.L_.t_.length≤20
 last:∀p∈st.L_.t_,InR p.U_∧InR p.V_
theorem stG {st:aF}(g:nh st)(h:wP st):StG st:=by
 obtain ⟨⟨j,C,k⟩,l⟩:=h;obtain ⟨h1,o,D,E,F,G,H,_⟩:=j;obtain ⟨q,L,s,e⟩:=l;obtain ⟨r1,M,P,Q,R,X⟩:=o;have Z:=h1.1;have c:∀{x:Int},0≤x∧x≤99999→InR x:=λh=>⟨by omega,by omega⟩;have d:=EQ st.m_.d_.O_;refine ⟨?_,?_,?_,by omega,λm a=>ZL (k m a),by omega,?_,?_,λp t=>?_⟩
 ·have:=(Lt (zz g.1.1 h1).2.2).2.2;unfold Af;simp only [List.length_append,List.length_cons,List.length_nil];omega
 ·intro x a;simp only [nD,List.mem_cons,List.not_mem_nil,or_false] at a;rcases a with rfl|rfl|rfl|rfl|rfl|rfl|rfl
  all_goals first|exact d|exact c (by omega)
 ·intro x a;simp only [nS,List.mem_cons,List.not_mem_nil,or_false] at a;rcases a with rfl|rfl|rfl|rfl|rfl
  all_goals exact c (by omega)
 ·intro r u;obtain ⟨i,f,rfl⟩:=List.getElem_of_mem u;obtain ⟨v,w⟩:=MF f (s i f) q.2;exact ⟨CS λz A=>by have:=w z A;omega,v⟩
 ·have:=e.2.1;split at this<;>omega
 obtain ⟨p1,p2⟩:=e.2.2 p t;exact ⟨c (by omega),c (by omega)⟩
theorem IQ {α:Type}{p:List α}{B:α→List Int}{b:Nat}(h:∀x∈p,(B x).length≤b):(p.flatMap B).length≤b*p.length:=by
 rw [List.length_flatMap];exact II (f:=λx=>(B x).length) h
theorem FA {st:aF}(h:StG st):(st.aa_.u_.flatMap xO).length≤180000:=by
 have h1:=IQ (p:=st.aa_.u_) (B:=xO) λm a=>Ul (h.mem m a);have c:=h.mems;omega
theorem Pa {st:aF}(h:StG st):(uK st).length≤300:=by
 have h1:=IQ (p:=st.L_.p_) (B:=ly) (b:=20) λr a=>by
  have:=om r;have:=(h.row r a).2;omega
 have c:=IQ (p:=st.L_.t_) (B:=se) (b:=10) λp _=>by
  have h1:=ew p.U_;have c:=ew p.V_;unfold se;rw [List.length_append];omega
 have d:=h.rows;have e:=h.lasts;have f:=ew st.L_.t_.length;unfold uK;simp only [List.length_append];omega
theorem Dd {st:aF}(h:StG st):(st.L_.t_.flatMap se).length≤300∧(st.L_.p_.flatMap ly).length≤300:=by
 have:=Pa h;unfold uK at this;simp only [List.length_append] at this;omega
theorem Pg {n i:Nat}(h:i<n):decide ((i:Int)<(n:Int))=true:=by rw [decide_eq_true_iff];exact Int.ofNat_lt.2 h
theorem PU {n:Nat}:¬decide ((n:Int)<(n:Int))=true:=by simp
theorem Tf {st:aF}(h:StG st)(l:List Int)(d:l.length≤400000):mD st bc 0 l=(pd (l++st.L_.t_.flatMap se)).bind λy=>(app (l++st.L_.t_.flatMap se) y).bind λz=>some z:=by
 have e:=(Dd h).1;have f:=h.lasts
 exact tf (M:=1000000) (p:=st.L_.t_) (σ:=Unit) se (λ_ _=>()) (λk l _ i=>mD st k i l) (λl _=>(pd l).bind λy=>(app l y).bind λz=>some z)
  (λk l _=>by
   show (if _ then _ else _)=_;rw [if_neg PU])
  (λk l _ i c a=>by
   show (if _ then _ else _)=_;unfold se at a ⊢;rw [List.length_append] at a;rw [if_pos (Pg c),aH c,ax];simp only [bS];rw [gR.1,gR.1];simp only [bS];rw [bA (by omega)];simp only [bS];rw [bA (by rw [List.length_append];omega),List.append_assoc];rfl) (by omega) l () (by omega)
theorem Sk {st:aF}(h:StG st)(l:List Int)(g:l.length≤400000):kM st bc 0 l false=(jc (l++st.L_.t_.flatMap se)).bind λy=>(app (l++st.L_.t_.flatMap se) y).bind λz=>some z:=by
 have j:=(Dd h).1;have m:=h.lasts
 exact tf (M:=1000000) (p:=st.L_.t_) (σ:=Unit) se (λ_ _=>()) (λk l _ i=>kM st k i l false) (λl _=>(jc l).bind λy=>(app l y).bind λz=>some z)
  (λk l _=>by
   show (if _ then _ else _)=_;rw [if_neg PU])
  (λk l _ i a f=>by
   show (if _ then _ else _)=_;obtain ⟨c,d⟩:=h.last _ (List.getElem_mem a);rw [if_pos (Pg a),aH a,ax];simp only [bS];have e:∀x∈[st.L_.t_[i].U_,st.L_.t_[i].V_],InR x:=by simp [c,d]
   rw [kx (by simp) _ _ (by omega),decide_eq_false (show ¬ ¬_ from λn=>n e)];simp only [Option.bind_some,se,Eh,GO,List.append_nil];rfl) (by omega) l () (by omega)
theorem SS {st:aF}(h:StG st)(l:List Int)(e:l.length≤300000):kT st bc l 0=(pd (l++uK st)).bind λy=>(app (l++uK st) y).bind λz=>some z:=by
 obtain ⟨f,g⟩:=Dd h;have j:=h.rows;have m:=ew st.L_.t_.length
 refine (tf (M:=1000000) (p:=st.L_.p_) (σ:=Unit) ly (λ_ _=>()) (λk l _ i=>kT st k l i) (λl _=>(er (st.L_.t_.length:Int)).bind λy=>(app l y).bind λl=>mD st bc 0 l)
  (λk l _=>by
   show (if _ then _ else _)=_;rw [if_neg PU])
  (λk l _ i a d=>by
   show (if _ then _ else _)=_;obtain ⟨c,o⟩:=h.row _ (List.getElem_mem a);rw [if_pos (Pg a),aH a,ax];simp only [bS];rw [wy (by omega) c];simp only [bS];rw [bA (by omega)];rfl) (by omega) l () (by omega)).trans ?_
 rw [gR.1];simp only [bS];rw [bA (by rw [List.length_append];omega)];simp only [bS];rw [Tf h _ (by simp only [List.length_append];omega)];simp only [uK,List.append_assoc]
theorem RT {st:aF}(h:StG st)(l:List Int)(e:l.length≤300000):jm st bc 0 l false=(jc (l++uK st)).bind λy=>(app (l++uK st) y).bind λz=>some z:=by
 obtain ⟨f,g⟩:=Dd h;have j:=h.rows;have m:=h.lasts;have o:=ew st.L_.t_.length
 refine (tf (M:=1000000) (p:=st.L_.p_) (σ:=Unit) ly (λ_ _=>()) (λk l _ i=>jm st k i l false) (λl _=>(cM ⟨l,false⟩ [(st.L_.t_.length:Int)]).bind λy=>kM st bc 0 y.ad_ y.P_)
  (λk l _=>by
   show (if _ then _ else _)=_;rw [if_neg PU])
  (λk l _ i a d=>by
   show (if _ then _ else _)=_;obtain ⟨c,q⟩:=h.row _ (List.getElem_mem a);rw [if_pos (Pg a),aH a,ax];simp only [bS];rw [uB (by omega) _ _ (by omega),decide_eq_false (show ¬ ¬_ from λn=>n c)];rfl) (by omega) l () (by omega)).trans ?_
 rw [AL (CK (by omega)) _ _ (by rw [List.length_append];omega)];simp only [bS];rw [Sk h _ (by simp only [List.length_append];omega)];simp only [uK,List.append_assoc]
theorem SV {st:aF}(h:StG st)(l:List Int)(j:l.length≤10000):kK st bc l 0=kT st bc (l++st.aa_.u_.flatMap xO) 0:=by
 have h1:=h.mems;have o:=FA h
 exact tf (M:=1000000) (p:=st.aa_.u_) (σ:=Unit) xO (λ_ _=>()) (λk l _ i=>kK st k l i) (λl _=>kT st bc l 0)
  (λk l _=>by
   show (if _ then _ else _)=_;rw [if_neg PU])
  (λk l _ i c a=>by
   show (if _ then _ else _)=_;obtain ⟨d,e,f,g⟩:=h.mem _ (List.getElem_mem c);rw [if_pos (Pg c),aH c,ax];generalize st.aa_.u_[i]=m at d e f g a;unfold xO at a ⊢;simp only [List.length_append] at a;simp only [bS];rw [LZ d,LZ e,Ny f,Ny g,(GK _).1];simp only [bS];rw [gR.1];simp only [bS];rw [bA (by omega)];simp only [bS];rw [bA (by simp only [List.length_append];omega)];simp only [bS];rw [bA (by simp only [List.length_append];omega)];simp only [bS];rw [bA (by simp only [List.length_append];omega)];simp only [bS];rw [bA (by simp only [List.length_append];omega)];simp only [Option.bind_some,List.append_assoc]) (by omega) l () (by omega)
theorem Sd {st:aF}(h:StG st)(l:List Int)(j:l.length≤10000):kY st bc l false 0=jm st bc 0 (l++st.aa_.u_.flatMap xO) false:=by
 have h1:=h.mems;have o:=FA h
 exact tf (M:=1000000) (p:=st.aa_.u_) (σ:=Unit) xO (λ_ _=>()) (λk l _ i=>kY st k l false i) (λl _=>jm st bc 0 l false)
  (λk l _=>by
   show (if _ then _ else _)=_;rw [if_neg PU])
  (λk l _ i c a=>by
   show (if _ then _ else _)=_;obtain ⟨d,e,f,g⟩:=h.mem _ (List.getElem_mem c);rw [if_pos (Pg c),aH c,ax];generalize st.aa_.u_[i]=m at d e f g a;unfold xO at a ⊢;simp only [List.length_append] at a;simp only [bS];rw [LG d (by omega),(GK _).2];simp only [bS];rw [AL (EQ _) _ _ (by simp only [List.length_append];omega)];simp only [bS];rw [LG e (by simp only [List.length_append];omega)];simp only [bS];rw [Ox f (by simp only [List.length_append];omega)];simp only [bS];rw [Ox g (by simp only [List.length_append];omega)];simp only [Option.bind_some,List.append_assoc]) (by omega) l () (by omega)
def nU (st:aF):List Int:=Af st++mR (nD st++nS st)++st.aa_.u_.flatMap xO++uK st
theorem JZ {st:aF}(h:StG st):(nU st).length≤300000:=by
 have h1:=h.head;have a:=pL (nD st++nS st);have d:=FA h;have e:=Pa h;have c:(nD st++nS st).length=12:=rfl;unfold nU;simp only [List.length_append] at a c ⊢;omega
theorem JV (st:aF):gi (nU st):=by
 refine eo (eo (eo (eo ?_ (eo (DN _) (Si _))) (Hm _)) (yu λm _=>PN m)) (eo (eo (Bb _) (gD _)) (yu λp _=>eo (gD _) (gD _)));intro x a;simp only [List.mem_cons,List.not_mem_nil,or_false] at a;omega
theorem Tn {a:aF}(f:nh a)(g:wP a):∃s,pd (nU a)=some s∧jc (nU a)=some s∧s.length=4∧su a=some (nU a++s)∧kn a=some (nU a++s):=by
 unfold su kn;have e:=(CU f).val g;have e':=(Lw f).val g;have c:=stG f g;obtain ⟨r,t,u⟩:=zz f.1.1 g.1.1.1;obtain ⟨x1,x2,_⟩:=Lt u;have w:=JZ c;obtain ⟨s,c1,c2,c3⟩:=SO (JV a) (by omega);have j:=c.head;have x:=FA c;have m:(nD a++nS a).length=12:=rfl;have h:=pL (nD a++nS a);have A:=pL (nD a);have C:(nD a).length=7:=rfl;rw [e,e',r,t];simp only [cS];rw [x1,x2,(GK _).1,(GK _).2,bA (xs:=[83,80,78]) (by simp)];simp only [bS];have o:app ([83,80,78,1]:List Int) (uJ (li a.m_.y_))=some (Af a):=bA (by unfold Af at j;rw [List.length_append] at j;omega);have ha':app ([83,80,78]++[1]:List Int) (uJ (li a.m_.y_))=some (Af a):=o;rw [o,ha'];simp only [bS];have d:app (nU a) s=some (nU a++s):=bA (by omega);refine ⟨s,c1,c2,c3,?_,?_⟩
 ·refine (tf (M:=1000000) (p:=nD a++nS a) (σ:=Unit) ez (λ_ _=>()) (λk l _ i=>sQ a (yy a.m_.d_.O_) k l i) (λl _=>kK a bc l 0)
   (λk l _=>by
    show (if decide (((nD a++nS a).length:Int)<((nD a++nS a).length:Int)) then _ else _)=_;rw [if_neg PU])
   (λk l _ i q v=>by
    show (if decide ((i:Int)<((nD a++nS a).length:Int)) then (idx (nD a++nS a) i).bind _ else _)=_;rw [if_pos (Pg q),aH q,ax];simp only [bS];rw [gR.1];simp only [bS];rw [bA (by omega)];rfl) (by omega) (Af a) () (by unfold mR at h;omega)).trans ?_
  show kK a bc (Af a++mR (nD a++nS a)) 0=_;rw [SV c _ (by rw [List.length_append];omega),SS c _ (by simp only [List.length_append] at h m ⊢;omega)];show (pd (nU a)).bind _=_;rw [c1];simp only [bS];show (app (nU a) s).bind _=_;rw [d];rfl
 show (cM ⟨Af a,false⟩ (nD a)).bind _=_;rw [kx (by omega) _ _ (by omega),decide_eq_false (show ¬ ¬_ from λn=>n c.numA)];simp only [bS];show (cM ⟨_,false⟩ (nS a)).bind _=_;rw [kx (show (nS a).length≤1048576 by show 5≤1048576;omega) _ _ (by rw [List.length_append];omega),decide_eq_false (show ¬ ¬_ from λn=>n c.numC)];simp only [bS]
 have eP:Af a++mR (nD a)++mR (nS a)=Af a++mR (nD a++nS a):=by
  rw [List.append_assoc];congr 1;exact List.flatMap_append.symm
 rw [eP];show kY a bc _ false 0=_;rw [Sd c _ (by rw [List.length_append];omega),RT c _ (by simp only [List.length_append] at h m ⊢;omega)];show (jc (nU a)).bind _=_;rw [c2];simp only [bS];show (app (nU a) s).bind _=_;rw [d];rfl
theorem Sx {a:aF}(c:nh a)(d:¬wP a):su a=some []∧kn a=some []:=by
 unfold su kn;rcases (CU c).cases with ⟨_,h⟩|⟨e,_⟩
 ·exact absurd h d
 have e':uF a=some false:=by rw [(Lw c).eq (CU c),e]
 rw [e,e'];exact ⟨rfl,rfl⟩
end Go.Vk
/- Numbers read from bytes; readers. -/
namespace Go.Vk
theorem Ew (x:Int){y:Int}(h:0≤y):shl .i64 x y=some (Ps .i64 x y):=by
 unfold shl;rw [Q6]
def Ng (p:List Int)(a:Int)(r:Int×Int×Bool):Prop:=(r.2.2=true∧0≤a∧a<r.2.1∧r.2.1≤p.length)∨r=(0,0,false)
theorem UI {p:List Int}{a:Int}(hb:gi p)(hp:p.length≤1048576)(e:0≤a)(h1:a≤9223372036854775807):∀(d k i:Nat)(x:Int),5-i=d→d<k→i≤5 →
  ∃r,hY a p k x (i:Int)=some r∧oQ a p k x (i:Int)=some r∧Ng p a r:=by
 intro d
 induction d with
 | zero =>
  intro k i x f hk g;obtain ⟨k,rfl⟩:=kS k (by omega);unfold hY oQ;rw [Q4,Q4];exact ⟨_,rfl,rfl,.inr rfl⟩
 | succ d ih =>
  intro k i x f hk g;obtain ⟨k,rfl⟩:=kS k (by omega);unfold hY oQ;rw [Q0];have h:IntKind.i64.wrap ((p.length:Int)-(i:Int))=(p.length:Int)-i:=aV;rw [h];by_cases s:a+i<p.length
  ·have l:IntKind.i64.wrap (a+(i:Int))=a+i:=aV;rw [l,Q4,Q0];obtain ⟨j,m⟩:∃j:Nat,a+(i:Int)=(j:Int):=⟨(a+i).toNat,by omega⟩;rw [m,aH (show j<p.length by omega)];simp only [bS];obtain ⟨n,o,q⟩:=GH hb (show j<p.length by omega);rw [o,fQ (n:=n) (by omega),Tl n (by omega),show Int.tmod (n:Int) 128=((n%128:Nat):Int) from qm n 128,Ew _ (show 0≤IntKind.i64.wrap (7*(i:Int)) by rw [aV];omega)];simp only [bS];by_cases t:n<128
   ·rw [if_pos (c:=decide ((n:Int)<128)=true) (by simp;omega),if_neg (c:=decide ((n:Int)≥128)=true) (by simp;omega),Bool.and_comm (decide ((i:Int)>0))];generalize ((((n:Int)==0)&&decide ((i:Int)>0))||decide (gS .or .i64 x (Ps .i64 ((n%128:Nat):Int) (IntKind.i64.wrap (7*(i:Int))))>2147483647))=b;cases b
    ·refine ⟨_,rfl,rfl,.inl ⟨rfl,e,?_,?_⟩⟩
     ·show a<IntKind.i64.wrap ((j:Int)+1);rw [aV];omega
     show IntKind.i64.wrap ((j:Int)+1)≤_;rw [aV];omega
    exact ⟨_,rfl,rfl,.inr rfl⟩
   rw [if_neg (c:=decide ((n:Int)<128)=true) (by simp;omega),if_pos (c:=decide ((n:Int)≥128)=true) (by simp;omega),ax];exact ih k (i+1) _ (by omega) (by omega) (by omega)
  rw [Q0,if_neg ?_]
  ·exact ⟨_,rfl,rfl,.inr rfl⟩
  rw [IntKind.wrap_i64];simp only [Bool.and_eq_true,decide_eq_true_eq,not_and];omega
theorem Hp {p:List Int}{a:Int}(hb:gi p)(hp:p.length≤1048576)(d:I64 a):∃r,tm p a=some r∧wa p a=some r∧Ng p a r:=by
 unfold tm wa;by_cases c:a<0
 ·rw [if_pos (by simpa using c)];refine ⟨_,?_,rfl,.inr rfl⟩;obtain ⟨k,hk⟩:∃k,bc=k+1:=⟨bc-1,by have:=cN (n:=1) (by omega);omega⟩;rw [hk];unfold hY;rw [Q2,if_pos (by simp [c])]
 rw [if_neg (by simpa using c)];exact UI hb hp (by omega) d.2 5 bc 0 0 (by omega) cN (by omega)
theorem Oc {p:List Int}{a:Int}(hb:gi p)(hp:p.length≤1048576)(e:I64 a):∃r,eW p a=some r∧tw p a=some r∧Ng p a r∧InR r.1:=by
 unfold eW tw;obtain ⟨r,f,g,h⟩:=Hp hb hp e;rw [f,g];simp only [bS]
 have d:∀z,∃q,(if (!r.2.2)=true then some (0,0,false) else qQ r z)=some q∧oD r z=some q∧Ng p a q∧InR q.1:=by
  intro z;unfold qQ oD aU bm;simp only [bS];rcases h with ⟨h1,i,j,k⟩|rfl
  ·rw [h1];simp only [Bool.not_true,Bool.false_eq_true,if_false];by_cases c:InR z
   ·rw [qj c];exact ⟨_,rfl,rfl,.inl ⟨rfl,i,j,k⟩,c⟩
   rw [rY c];exact ⟨_,rfl,rfl,.inr rfl,by decide⟩
  exact ⟨_,rfl,rfl,.inr rfl,by decide⟩
 obtain ⟨q1,l,m,o⟩:=d (IntKind.i64.wrap ((IntKind.i64.wrap (0-(IntKind.i64.wrap (Int.tdiv r.1 2))))-1));obtain ⟨s,t,u,v⟩:=d (IntKind.i64.wrap (Int.tdiv r.1 2));cases w:(Int.tmod r.1 2==1)
 ·refine ⟨s,?_,by simpa using u,v⟩;rw [←t];cases r.2.2<;>simp
 refine ⟨q1,?_,by simpa using m,o⟩;rw [←l];cases r.2.2<;>simp
abbrev Pz (α:Type):=Int→Option (α×Int)
def Pz.many {α:Type}(P:Pz α):Nat→Pz (List α)
 | 0,a=>some ([],a)
 | n+1,a=>(P a).bind λy=>(many P n y.2).bind λz=>some (y.1::z.1,z.2)
def Pz.map {α β:Type}(f:α→β)(P:Pz α):Pz β:=λa=>(P a).map λy=>(f y.1,y.2)
def yw {α:Type}(p:List Int)(P:Pz α)(sz:α→Nat):Prop:=∀a v b,I64 a→P a=some (v,b)→0≤a∧a+sz v≤b∧b≤p.length∧1≤sz v
def KN {α:Type}(op:Int→Option (α×Int×Bool))(P:Pz α)(z:α):Prop:=∀a,I64 a→op a=some (match P a with|some (v,b)=>(v,b,true)|none=>(z,0,false))
def yP {α:Type}(op:ar→Option (α×ar))(P:Pz α):Prop:=(∀a,∃v a',op ⟨a,true⟩=some (v,⟨a',true⟩))∧∀a,I64 a→(∀v b,P a=some (v,b)→op ⟨a,false⟩=some (v,⟨b,false⟩))∧(P a=none→∃v a',op ⟨a,false⟩=some (v,⟨a',true⟩))
theorem yw.i64 {α:Type}{p:List Int}{P:Pz α}{sz:α→Nat}(h:yw p P sz)(hp:p.length≤1048576){a b:Int}{v:α}(c:I64 a)(e:P a=some (v,b)):I64 b:=by
 obtain ⟨h1,d,f,_⟩:=h a v b c e;exact ⟨by omega,by omega⟩
theorem CZ {α:Type}{p:List Int}{P:Pz α}{sz:α→Nat}(h:yw p P sz)(hp:p.length≤1048576):∀(n:Nat)(a:Int)(vs:List α)(b:Int),0≤a→a≤p.length→P.many n a=some (vs,b)→a+(vs.map sz).sum≤b∧b≤p.length∧vs.length=n∧n≤(vs.map sz).sum:=by
 intro n
 induction n with
 | zero =>
  intro a vs b f h1 e;obtain ⟨rfl,rfl⟩:=Prod.mk.inj (Option.some.inj e);exact ⟨by simp,h1,rfl,Nat.zero_le _⟩
 | succ n ih =>
  intro a vs b f h1 e;unfold Pz.many at e
  cases c:P a with
  | none=>rw [c] at e;simp at e
  | some y =>
   rw [c] at e;simp only [bS] at e
   cases d:P.many n y.2 with
   | none=>rw [d] at e;simp at e
   | some z =>
    rw [d] at e;obtain ⟨rfl,rfl⟩:=Prod.mk.inj (Option.some.inj e);obtain ⟨j,k,g,l⟩:=h a y.1 y.2 ⟨by omega,by omega⟩ c;obtain ⟨m,i,o,q⟩:=ih y.2 z.1 z.2 (by omega) g d;simp only [List.map_cons,List.sum_cons,List.length_cons];exact ⟨by omega,i,by omega,by omega⟩
noncomputable def gI (p:List Int):Pz Int:=λa=>match eW p a with
 | some (v,b,true)=>some (v,b)
 | _=>none
section
variable {p:List Int} (hb:gi p) (hp:p.length≤1048576)
include hb hp
theorem Et {a:Int}(d:I64 a):(∃v b,gI p a=some (v,b)∧eW p a=some (v,b,true)∧tw p a=some (v,b,true)∧0≤a∧a<b∧b≤p.length∧InR v)∨(gI p a=none∧eW p a=some (0,0,false)∧tw p a=some (0,0,false)):=by
 obtain ⟨⟨v,b,q⟩,h1,c,h3,e⟩:=Oc hb hp d;unfold gI;rcases h3 with ⟨f,g,h,i⟩|h3
 ·obtain rfl:q=true:=f;exact .inl ⟨v,b,by rw [h1],h1,c,g,h,i,e⟩
 rw [h3] at h1 c;exact .inr ⟨by rw [h1],h1,c⟩
theorem LD:KN (eW p) (gI p) 0:=λa d=>by
 rcases Et hb hp d with ⟨v,b,h1,c,_⟩|⟨h1,c,_⟩<;>rw [h1,c]
theorem Mp {a:Int}(c:I64 a){v b:Int}(h:gI p a=some (v,b)):InR v:=by
 rcases Et hb hp c with ⟨v',b',h1,_,_,_,_,_,d⟩|⟨h1,_⟩
 ·rw [h] at h1;obtain ⟨rfl,rfl⟩:=Prod.mk.inj (Option.some.inj h1);exact d
 rw [h] at h1;simp at h1
omit hb hp in
theorem LX (a:Int):bd p ⟨a,true⟩=some (0,⟨a,true⟩):=rfl
theorem Hl:yP (bd p) (gI p):=⟨λa=>⟨_,_,rfl⟩,λa d=>by
 unfold bd;simp only [Bool.false_eq_true,if_false];rcases Et hb hp d with ⟨v,b,h1,_,c,_⟩|⟨h1,_,c⟩<;>rw [h1,c]
 ·refine ⟨λv' b' e=>?_,λe=>by simp at e⟩;obtain ⟨rfl,rfl⟩:=Prod.mk.inj (Option.some.inj e);rfl
 exact ⟨λv' b' e=>by simp at e,λ_=>⟨_,_,rfl⟩⟩⟩
end
theorem jK {p:List Int}(hb:gi p)(hp:p.length≤1048576):yw p (gI p) (λ_=>1):=λa v b c h=>by
 rcases Et hb hp c with ⟨v',b',h1,_,_,d,f,e,_⟩|⟨h1,_⟩
 ·rw [h] at h1;obtain ⟨rfl,rfl⟩:=Prod.mk.inj (Option.some.inj h1);exact ⟨d,by show a+((1:Nat):Int)≤b;omega,e,Nat.le_refl _⟩
 rw [h] at h1;simp at h1
theorem EP {α ρ:Type}{op:Int→Option (α×Int×Bool)}{P:Pz α}{z:α}{sz:α→Nat}{p:List Int}(g:KN op P z)(j:yw p P sz)(hp:p.length≤1048576){n:Int}(s:n≤1000000000)(Lp:Nat→List α→Int→Int→Option ρ)(fin:List α→Int→Option ρ)(bad:Option ρ)(step:∀k l i a,Lp (k+1) l i a=if decide (i<n) then (op a).bind λy=>if (!y.2.2) then bad else (app l [y.1]).bind λl'=>Lp k l' (IntKind.i64.wrap (i+1)) y.2.1 else fin l a):∀(d k:Nat)(i a:Int)(l:List α),(n-i).toNat=d→d<k→0≤i→(l.length:Int)≤i→i≤1000000000→I64 a→Lp k l i a=match P.many d a with|some (vs,c)=>fin (l++vs) c|none=>bad:=by
 intro d
 induction d with
 | zero =>
  intro k i a l m hk o r f e;obtain ⟨k,rfl⟩:=kS k (by omega);rw [step,Q4];simp [Pz.many]
 | succ d ih =>
  intro k i a l m hk o r f e;obtain ⟨k,rfl⟩:=kS k (by omega);rw [step,Q0,g a e];simp only [bS];unfold Pz.many
  cases h:P a with
  | none=>rfl
  | some y =>
   obtain ⟨v,b⟩:=y;simp only [cS];rw [bA];simp only [bS];rw [aV,ih k (i+1) b (l++[v]) (by omega) (by omega) (by omega) (by simp;omega) (by omega) (j.i64 hp e h)]
   cases P.many d b with
   | none=>rfl
   | some q=>simp
theorem Ek {α ρ:Type}{op:ar→Option (α×ar)}{Lp:Nat→Int→Bool→List α→Int→Option ρ}{fin:List α→ar→Option ρ}(step:∀k a q l n,Lp (k+1) a q l n=if (decide (n>0)) && !q then (op ⟨a,q⟩).bind λy=>(app l [y.1]).bind λl'=>Lp k y.2.b_ y.2.P_ l' (IntKind.i64.wrap (n-1)) else fin l ⟨a,q⟩){k:Nat}(hk:0<k)(a:Int)(l:List α)(n:Int):Lp k a true l n=fin l ⟨a,true⟩:=by
 obtain ⟨k,rfl⟩:=kS k (by omega);rw [step,Q5]
theorem Qv {α ρ:Type}{op:ar→Option (α×ar)}{P:Pz α}{sz:α→Nat}{p:List Int}(i:yP op P)(m:yw p P sz)(hp:p.length≤1048576)(Lp:Nat→Int→Bool→List α→Int→Option ρ)(fin:List α→ar→Option ρ)(step:∀k a q l n,Lp (k+1) a q l n=if (decide (n>0)) && !q then (op ⟨a,q⟩).bind λy=>(app l [y.1]).bind λl'=>Lp k y.2.b_ y.2.P_ l' (IntKind.i64.wrap (n-1)) else fin l ⟨a,q⟩):∀(d k:Nat)(n a:Int)(l:List α),n.toNat=d→d+1<k→n≤1000000000→0≤n→l.length+d≤1000000000→I64 a →
   (∀vs c,P.many d a=some (vs,c)→Lp k a false l n=fin (l++vs) ⟨c,false⟩)∧(P.many d a=none→∃l' a',Lp k a false l n=fin l' ⟨a',true⟩):=by
 intro d
 induction d with
 | zero =>
  intro k n a l o hk r j s g;obtain ⟨k,rfl⟩:=kS k (by omega);rw [step,Q4];refine ⟨λvs c e=>?_,λe=>by simp [Pz.many] at e⟩;obtain ⟨rfl,rfl⟩:=Prod.mk.inj (Option.some.inj e);simp
 | succ d ih =>
  intro k n a l o hk r j s g;obtain ⟨k,rfl⟩:=kS k (by omega);rw [step,Q0];unfold Pz.many
  cases h:P a with
  | none =>
   refine ⟨λvs c e=>by simp at e,λ_=>?_⟩;obtain ⟨v,a',e⟩:=(i.2 a g).2 h;rw [e];simp only [bS];rw [bA];simp only [bS];exact ⟨_,_,Ek step (by omega) _ _ _⟩
  | some y =>
   obtain ⟨v,b⟩:=y;rw [(i.2 a g).1 v b h];simp only [bS];rw [bA];simp only [bS];rw [aV];obtain ⟨t,u⟩:=ih k (n-1) b (l++[v]) (by omega) (by omega) (by omega) (by omega) (by simp;omega) (m.i64 hp g h);refine ⟨λvs c e=>?_,λe=>?_⟩
   ·cases f:P.many d b with
    | none=>rw [f] at e;simp at e
    | some q =>
     rw [f] at e;obtain ⟨rfl,rfl⟩:=Prod.mk.inj (Option.some.inj e);rw [t q.1 q.2 f];simp
   cases f:P.many d b with
   | none=>exact u f
   | some q=>rw [f] at e;simp at e
noncomputable def cIr (p:List Int):Pz Int:=λa=>(gI p a).bind λy=>if y.1<0∨(p.length:Int)-y.2<y.1 then none else some y
noncomputable def db {α:Type}(p:List Int)(P:Pz α):Pz (List α):=λa=>(gI p a).bind λy=>if y.1<0 then none else P.many y.1.toNat y.2
section
variable {p:List Int} (hb:gi p) (hp:p.length≤1048576)
include hb hp
omit hb hp in
theorem OG {a n b:Int}(h:cIr p a=some (n,b)):gI p a=some (n,b)∧0≤n∧n≤p.length-b:=by
 unfold cIr at h
 cases c:gI p a with
 | none=>rw [c] at h;simp at h
 | some y =>
  rw [c] at h;simp only [bS] at h;split at h
  ·simp at h
  rename_i d;obtain rfl:=Option.some.inj h;exact ⟨rfl,by omega,by omega⟩
theorem Qp {α:Type}{P:Pz α}{sz:α→Nat}(c:yw p P sz){a:Int}(d:I64 a):db p P a=(cIr p a).bind λy=>P.many y.1.toNat y.2:=by
 unfold db cIr
 cases h:gI p a with
 | none=>rfl
 | some y =>
  obtain ⟨i,j,e,_⟩:=jK hb hp a y.1 y.2 d h;simp only [bS];by_cases h1:y.1<0
  ·rw [if_pos h1,if_pos (.inl h1)];rfl
  rw [if_neg h1];by_cases f:(p.length:Int)-y.2<y.1
  ·rw [if_pos (.inr f)]
   cases g:P.many y.1.toNat y.2 with
   | none=>rfl
   | some q =>
    obtain ⟨k,l,m,o⟩:=CZ c hp _ _ q.1 q.2 (by omega) e g;exfalso;omega
  rw [Q6];rfl
theorem Ah {α:Type}{P:Pz α}{sz:α→Nat}(d:yw p P sz):yw p (db p P) (λvs=>1+(vs.map sz).sum):=λa vs b e h=>by
 unfold db at h
 cases c:gI p a with
 | none=>rw [c] at h;simp at h
 | some y =>
  rw [c] at h;simp only [bS] at h;obtain ⟨f,g,i,_⟩:=jK hb hp a y.1 y.2 e c;have g2':a+((1:Nat):Int)≤y.2:=g;split at h
  ·simp at h
  obtain ⟨k,j,l,m⟩:=CZ d hp _ _ vs b (by omega) i h;exact ⟨f,by show a+((1+(vs.map sz).sum:Nat):Int)≤b;omega,j,by show 1≤1+(vs.map sz).sum;omega⟩
theorem Ff:yP (dn p) (cIr p):=⟨λa=>by
 unfold dn;rw [LX];simp only [bS]
 split<;>exact ⟨_,_,rfl⟩,λa c=>by
 unfold dn cIr;have d:=(Hl hb hp).2 a c
 cases h:gI p a with
 | none =>
  obtain ⟨v,a',e⟩:=d.2 h;rw [e];simp only [bS];refine ⟨λv b e=>by simp at e,λ_=>?_⟩;split<;>exact ⟨_,_,rfl⟩
 | some y =>
  obtain ⟨n,b⟩:=y;obtain ⟨g,i,j,_⟩:=jK hb hp a n b c h;rw [d.1 n b h];simp only [bS];rw [aV (n:=(p.length:Int)-b) (by omega) (by omega)];by_cases f:n<0∨(p.length:Int)-b<n
  ·rw [if_pos f];exact ⟨λv b e=>by simp at e,λ_=>⟨0,b,if_pos (by simp;omega)⟩⟩
  rw [if_neg f,Q4];refine ⟨λv' b' e=>?_,λe=>by simp at e⟩;obtain ⟨rfl,rfl⟩:=Prod.mk.inj (Option.some.inj e);rfl⟩
end
end Go.Vk
/- Lists and lists of lists, read. -/
namespace Go.Vk
theorem Pz.map_some {α β:Type}{f:α→β}{P:Pz α}{a b:Int}{v:α}(h:P a=some (v,b)):Pz.map f P a=some (f v,b):=by unfold Pz.map;rw [h];rfl
theorem Pz.map_none {α β:Type}{f:α→β}{P:Pz α}{a:Int}(h:P a=none):Pz.map f P a=none:=by unfold Pz.map;rw [h];rfl
theorem Pz.map_id {α:Type}{P:Pz α}:Pz.map id P=P:=by funext a;unfold Pz.map;cases P a<;>rfl
section
variable {p:List Int} (hb:gi p) (hp:p.length≤1048576)
include hb hp
theorem Rx {α β:Type}{op:Int→Option (α×Int×Bool)}{P:Pz α}{z:α}{sz:α→Nat}(m:KN op P z)(o:yw p P sz)(mk:List α→β)(zb:β){big:Int→Option (β×Int×Bool)}(Lp:Int×Int×Bool→Nat→List α→Int→Int→Option (β×Int×Bool))(d:∀a,big a=(eW p a).bind λy=>if ((!y.2.2)||(decide (y.1<0))) then some (zb,0,false) else Lp y bc [] 0 y.2.1)(step:∀q k l i a,Lp q (k+1) l i a=if decide (i<q.1) then (op a).bind λy=>if (!y.2.2) then some (zb,0,false) else (app l [y.1]).bind λl'=>Lp q k l' (IntKind.i64.wrap (i+1)) y.2.1 else some (mk l,a,true)):KN big (Pz.map mk (db p P)) zb:=λa c=>by
 rw [d,LD hb hp a c];simp only [bS]
 cases h:gI p a with
 | none =>
  rw [Pz.map_none (by unfold db;rw [h];rfl)];rfl
 | some y =>
  obtain ⟨n,b⟩:=y;have f:=Mp hb hp c h;obtain ⟨r,s,t,_⟩:=jK hb hp a n b c h;by_cases e:n<0
  ·rw [Pz.map_none (by unfold db;rw [h];simp [e]),if_pos (by simp [e])]
  rw [Q4];have g:db p P a=P.many n.toNat b:=by unfold db;rw [h];simp [e]
  rw [EP m o hp (n:=n) f.2 (Lp (n,b,true)) (λl a=>some (mk l,a,true)) (some (zb,0,false)) (step (n,b,true)) n.toNat bc 0 b [] (by simp) (cN (by have:=f.2;omega)) (by omega) (by simp) (by omega) (jK hb hp |>.i64 hp c h)]
  cases j:P.many n.toNat b with
  | none=>rw [Pz.map_none (by rw [g,j])]
  | some z=>rw [Pz.map_some (by rw [g,j])];rfl
theorem MZ {α β:Type}{op:ar→Option (α×ar)}{P:Pz α}{sz:α→Nat}(o:yP op P)(j:yw p P sz)(mk:List α→β){big:ar→Option (β×ar)}(Lp:Nat→Int→Bool→List α→Int→Option (β×ar))(d:∀s,big s=(dn p s).bind λy=>Lp bc y.2.b_ y.2.P_ [] y.1)(step:∀k a q l n,Lp (k+1) a q l n=if (decide (n>0)) && !q then (op ⟨a,q⟩).bind λy=>(app l [y.1]).bind λl'=>Lp k y.2.b_ y.2.P_ l' (IntKind.i64.wrap (n-1)) else some (mk l,⟨a,q⟩)):yP big (Pz.map mk (db p P)):=⟨λa=>by
 obtain ⟨v,a',e⟩:=(Ff hb hp).1 a;rw [d,e];simp only [bS]
 exact ⟨_,_,Ek (Lp:=Lp) (fin:=λl s=>some (mk l,s)) step cN _ _ _⟩,λa f=>by
 rw [d];have m:=(Ff hb hp).2 a f;have c:=Qp hb hp j f
 cases h:cIr p a with
 | none =>
  rw [h] at c;rw [Pz.map_none (by rw [c];rfl)];obtain ⟨v,a',e⟩:=m.2 h;rw [e];simp only [bS];exact ⟨λv b e=>by simp at e,λ_=>⟨_,_,Ek (Lp:=Lp) (fin:=λl s=>some (mk l,s)) step cN _ _ _⟩⟩
 | some y =>
  obtain ⟨n,b⟩:=y;rw [h] at c;rw [m.1 n b h];simp only [bS];obtain ⟨h1,r,w⟩:=OG h;obtain ⟨x,A,C,_⟩:=jK hb hp a n b f h1;have i:=Mp hb hp f h1;obtain ⟨t,u⟩:=Qv o j hp Lp (λl s=>some (mk l,s)) step n.toNat bc n b [] rfl (cN (by have:=i.2;omega)) i.2 r (by have:=i.2;simp;omega) (jK hb hp |>.i64 hp f h1);simp only [bS] at c
  cases g:P.many n.toNat b with
  | none =>
   rw [Pz.map_none (by rw [c,g])];obtain ⟨l',a',e⟩:=u g;exact ⟨λv b e=>by simp at e,λ_=>⟨_,_,e⟩⟩
  | some z =>
   rw [Pz.map_some (by rw [c,g])];refine ⟨λv b e=>?_,λe=>by simp at e⟩;obtain ⟨rfl,rfl⟩:=Prod.mk.inj (Option.some.inj e);exact t z.1 z.2 g⟩
theorem Jd:KN (po p) (db p (gI p)) []:=by
 have:=Rx hb hp (LD hb hp) (jK hb hp) id [] (big:=po p) (λy=>wR y p) (λ_=>rfl) (λ_ _ _ _ _=>rfl);rwa [Pz.map_id] at this
theorem pj:yw p (db p (gI p)) (λvs=>1+vs.length):=by
 have:=Ah hb hp (jK hb hp);simpa only [Ut] using this
theorem JN:yP (ei p) (db p (gI p)):=by
 have:=MZ hb hp (Hl hb hp) (jK hb hp) id (big:=ei p) (oe p) (λ_=>rfl) (λ_ _ _ _ _=>rfl);rwa [Pz.map_id] at this
theorem Ld:KN (rf p) (db p (db p (gI p))) []:=by
 have:=Rx hb hp (Jd hb hp) (pj hb hp) id [] (big:=rf p) (λy=>rG y p) (λ_=>rfl) (λ_ _ _ _ _=>rfl);rwa [Pz.map_id] at this
theorem Ct:yw p (db p (db p (gI p))) (λvs=>1+(vs.map λv=>1+v.length).sum):=Ah hb hp (pj hb hp)
theorem DR:yP (fU p) (Pz.map au.mk (db p (db p (gI p)))):=MZ hb hp (JN hb hp) (pj hb hp) au.mk (big:=fU p) (iS p) (λ_=>rfl) (λ_ _ _ _ _=>rfl)
end
theorem Wi {p:List Int}(h:∀x∈p,Od .u8 x):gi p:=λx a=>by
 have:=h x a;simp [Od,Lit.wf,IntKind.min,IntKind.max,IntKind.signed,IntKind.bits] at this;exact ⟨by omega,by omega⟩
end Go.Vk
/- Trees, read. -/
namespace Go.Vk
def Pz.bind {α β:Type}(P:Pz α)(Q:α→Pz β):Pz β:=λa=>(P a).bind λy=>Q y.1 y.2
section
variable {p:List Int} (hb:gi p) (hp:p.length≤1048576)
include hb hp
theorem IF:∀(d:Nat)(a:Int),(d:Int)≤1000→I64 a→gH p a d=some (match (gI p).many d a with|some (vs,c)=>(vs,c,true)|none=>([],0,false)):=λd a f e=>by
 unfold gH;have:=EP (LD hb hp) (jK hb hp) hp (n:=(d:Int)) (by omega) (λk l i a=>wV (d:Int) p k a i l) (λl a=>some (l,a,true)) (some ([],0,false)) (λ_ _ _ _=>rfl) d bc 0 a [] (by simp) cN (by omega) (by simp) (by omega) e;refine this.trans ?_
 cases (gI p).many d a with
 | none=>rfl
 | some z=>rfl
end
noncomputable def Ax (p:List Int):Pz Bool:=λa=>(gI p a).bind λy=>if y.1≠0∧y.1≠1 then none else some (y.1==1,y.2)
noncomputable def vY (p:List Int):Pz az:=Pz.bind (Ax p) λv0=>Pz.bind (gI p) λe=>Pz.bind (gI p) λf=>Pz.bind (db p (gI p)) λg=>Pz.bind (gI p) λh=>Pz.bind (db p (gI p)) λi =>
 Pz.bind (Pz.map au.mk (db p (db p (gI p)))) λj=>Pz.bind (gI p) λk=>Pz.bind (db p (gI p)) λl=>Pz.bind (gI p) λm=>Pz.bind (gI p) λc=>Pz.bind (gI p) λd =>
 λa=>some (⟨v0,⟨e,f⟩,g,h,⟨i,j.f_⟩,k,l,m,c,d⟩,a)
theorem YW {α β:Type}(x:α)(f:α→Option β):(some x).bind f=f x:=rfl
theorem dK {α β:Type}{o:Option α}{f:α→Option β}{b:β}(h:o.bind f=some b):∃a,o=some a∧f a=some b:=by
 cases o with
 | none=>cases h
 | some a=>exact ⟨a,rfl,h⟩
theorem Bx {p:List Int}(hb:gi p)(hp:p.length≤1048576):yw p (vY p) (λx=>1+szM x):=λa v b c h=>by
 unfold vY Pz.bind Ax Pz.map at h;have gg:=jK hb hp;have gl:=pj hb hp;have gL:=Ct hb hp;have ig:=λ{a b v:Int}(c:I64 a)(e:gI p a=some (v,b))=>gg.i64 hp c e;obtain ⟨z0,e0',h⟩:=dK h;obtain ⟨y0,f,e0'⟩:=dK e0';split at e0'
 ·cases e0'
 obtain rfl:=Option.some.inj e0';obtain ⟨y1,g,h⟩:=dK h;obtain ⟨y2,i,h⟩:=dK h;obtain ⟨y3,j,h⟩:=dK h;obtain ⟨y4,k,h⟩:=dK h;obtain ⟨y5,l,h⟩:=dK h;obtain ⟨z6,e6',h⟩:=dK h;obtain ⟨R,m,e6'⟩:=Option.map_eq_some_iff.1 e6';obtain rfl:=e6';obtain ⟨y7,o,h⟩:=dK h;obtain ⟨y8,e8,h⟩:=dK h;obtain ⟨y9,q,h⟩:=dK h;obtain ⟨d9,d,h⟩:=dK h;obtain ⟨f0,r,h⟩:=dK h;obtain ⟨rfl,rfl⟩:=Prod.mk.inj (Option.some.inj h);obtain ⟨X,Z,c0,_⟩:=gg _ _ _ c f;have s:=gg.i64 hp c f;obtain ⟨a1,b1,c1,_⟩:=gg _ _ _ s g;have t:=gg.i64 hp s g;obtain ⟨a2,b2,c2,_⟩:=gg _ _ _ t i;have u:=gg.i64 hp t i;obtain ⟨a3,b3,c3,_⟩:=gl _ _ _ u j;have w:=gl.i64 hp u j;obtain ⟨a4,b4,c4,_⟩:=gg _ _ _ w k;have A:=gg.i64 hp w k;obtain ⟨a5,b5,c5,_⟩:=gl _ _ _ A l;have C:=gl.i64 hp A l;obtain ⟨a6,D,c6,_⟩:=gL _ _ _ C m;have E:=gL.i64 hp C m;obtain ⟨a7,b7,c7,_⟩:=gg _ _ _ E o;have F:=gg.i64 hp E o;obtain ⟨a8,b8,c8,_⟩:=gl _ _ _ F e8;have G:=gl.i64 hp F e8;obtain ⟨a9,b9,c9,_⟩:=gg _ _ _ G q;have H:=gg.i64 hp G q;obtain ⟨f1,L,f2,_⟩:=gg _ _ _ H d;have M:=gg.i64 hp H d;obtain ⟨f3,P,Q,_⟩:=gg _ _ _ M r;have hs:=Ua (p:=R.1);unfold szM;simp only at Z b1 b2 b3 b4 b5 D b7 b8 b9 L P ⊢;rw [hs] at D;exact ⟨X,by omega,Q,by omega⟩
def rb {α β:Type}(op:ar→Option (α×ar))(opk:α→ar→Option (β×ar)):ar→Option (β×ar):=λst=>(op st).bind λy=>opk y.1 y.2
theorem tY {α β:Type}{op:ar→Option (α×ar)}{opk:α→ar→Option (β×ar)}{P:Pz α}{Q:α→Pz β}(h1:yP op P)(f:∀a v b,I64 a→P a=some (v,b)→I64 b)(c:∀v,yP (opk v) (Q v)):yP (rb op opk) (Pz.bind P Q):=⟨λa=>by
 obtain ⟨v,a',e⟩:=h1.1 a;unfold rb;rw [e]
 exact (c v).1 a',λa d=>by
 unfold rb Pz.bind
 cases h:P a with
 | none =>
  obtain ⟨v,a',e⟩:=(h1.2 a d).2 h;rw [e];exact ⟨λv b e=>(by cases e),λ_=>(c v).1 a'⟩
 | some y =>
  obtain ⟨v,b⟩:=y;rw [(h1.2 a d).1 v b h];exact (c v).2 b (f a v b d h)⟩
theorem Ni {α:Type}(v:α):yP (λst=>some (v,st)) (λa=>some (v,a)):=⟨λa=>⟨_,_,rfl⟩,λa _=>⟨λv' b e=>by
 obtain ⟨rfl,rfl⟩:=Prod.mk.inj (Option.some.inj e);rfl,λe=>(by cases e)⟩⟩
section
variable {p:List Int} (hb:gi p) (hp:p.length≤1048576)
include hb hp
theorem MA:yP (iy p) (Ax p):=⟨λa=>⟨_,_,rfl⟩,λa f=>by
 unfold iy Ax;have d:=(Hl hb hp).2 a f
 cases h:gI p a with
 | none =>
  obtain ⟨v,a',e⟩:=d.2 h;rw [e];exact ⟨λv b e=>(by cases e),λ_=>⟨_,_,rfl⟩⟩
 | some y =>
  obtain ⟨n,b⟩:=y;rw [d.1 n b h];simp only [Option.bind_some,Bool.false_or];by_cases c:n≠0∧n≠1
  ·rw [if_pos c,show ((n != 0)&&(n != 1))=true by simp;exact c];exact ⟨λv b e=>(by cases e),λ_=>⟨_,_,rfl⟩⟩
  rw [if_neg c,show ((n != 0)&&(n != 1))=false by simp;omega]
  exact ⟨λv b e=>by
   obtain ⟨rfl,rfl⟩:=Prod.mk.inj (Option.some.inj e);rfl,λe=>(by cases e)⟩⟩
end
noncomputable def Pu (p:List Int):ar→Option (az×ar):=rb (iy p) λv0=>rb (bd p) λd=>rb (bd p) λe=>rb (ei p) λf=>rb (bd p) λg=>rb (ei p) λh =>
 rb (fU p) λi=>rb (bd p) λj=>rb (ei p) λk=>rb (bd p) λl=>rb (bd p) λa=>rb (bd p) λc =>
 λst=>some (⟨v0,⟨d,e⟩,f,g,⟨h,i.f_⟩,j,k,l,a,c⟩,st)
section
variable {p:List Int} (hb:gi p) (hp:p.length≤1048576)
include hb hp
theorem WI:yP (Pu p) (vY p):=by
 have gg:∀a v b,I64 a→gI p a=some (v,b)→I64 b:=λa v b c e=>(jK hb hp).i64 hp c e;have gl:∀a v b,I64 a→db p (gI p) a=some (v,b)→I64 b:=λa v b c e=>(pj hb hp).i64 hp c e
 have gf:∀a v b,I64 a→Ax p a=some (v,b)→I64 b:=λa v b c e=>by
  unfold Ax at e;obtain ⟨y,f,d⟩:=dK e;split at d
  ·cases d
  obtain ⟨rfl,rfl⟩:=Prod.mk.inj (Option.some.inj d);exact gg _ _ _ c f
 have gw:∀a v b,I64 a→Pz.map au.mk (db p (db p (gI p))) a=some (v,b)→I64 b:=λa v b c e=>by
  obtain ⟨y,f,d⟩:=Option.map_eq_some_iff.1 e;obtain ⟨rfl,rfl⟩:=Prod.mk.inj d;exact (Ct hb hp).i64 hp c f
 have ri:=Hl hb hp;have rl:=JN hb hp;exact tY (MA hb hp) gf λ_=>tY ri gg λ_=>tY ri gg λ_=>tY rl gl λ_=>tY ri gg λ_=>tY rl gl λ_=>tY (DR hb hp) gw λ_=>tY ri gg λ_=>tY rl gl λ_=>tY ri gg λ_=>tY ri gg λ_=>tY ri gg λ_=>Ni _
end
theorem VU (p:List Int)(d:List az)(e:Bool×ar)(f g:Int×ar)(h:(List Int)×ar)(i:Int×ar)(j:(List Int)×ar)(v:Int→Bool→(List az)→Int→Option (am×ar))(m:Int):∀(k:Nat)(a:Int)(q:Bool)(l:List (List Int))(n:Int),lN p d e f g h i j v m k a q l n =
   (iS p k a q l n).bind λw=>(bd p w.2).bind λo=>(ei p o.2).bind λr=>(bd p r.2).bind λs=>(bd p s.2).bind λt=>(bd p t.2).bind λc=>(app d [(az.mk e.1 (aC.mk f.1 g.1) h.1 i.1 (aD.mk j.1 w.1.f_) o.1 r.1 s.1 t.1 c.1)]).bind λu=>v c.2.b_ c.2.P_ u (IntKind.i64.wrap (m-1)):=by
 intro k
 induction k with
 | zero=>intro a q l n;rfl
 | succ k ih =>
  intro a q l n;unfold lN iS;split
  ·cases ei p ⟨a,q⟩ with
   | none=>rfl
   | some y =>
    simp only [bS]
    cases app l [y.1] with
    | none=>rfl
    | some l' =>
     simp only [bS];exact ih _ _ _ _
  rfl
theorem qu {α β:Type}{o:Option α}{f g:α→Option β}(h:∀a,f a=g a):o.bind f=o.bind g:=by cases o;rfl;exact h _
theorem SL (p:List Int)(y2:Int×ar)(k:Nat)(a:Int)(q:Bool)(l:List az)(n:Int):fv p y2 (k+1) a q l n=if (decide (n>0)) && !q then (Pu p ⟨a,q⟩).bind λy=>(app l [y.1]).bind λl'=>fv p y2 k y.2.b_ y.2.P_ l' (IntKind.i64.wrap (n-1)) else some (⟨l,y2.1⟩,⟨a,q⟩):=by
 rw [fv];split
 ·unfold Pu rb;simp only [Option.bind_assoc];refine qu λy0=>qu λy1=>qu λy2'=>qu λy3=>qu λy4=>qu λy5=>?_;unfold fU;simp only [Option.bind_assoc];refine qu λc=>?_;rw [VU];rfl
 rfl
end Go.Vk
/- Trees, read by both. -/
namespace Go.Vk
theorem Xk {α:Type}(x:α)(l:List α):idx (x::l) 0=some x:=by simp [idx]
theorem Wc {α:Type}(x y:α)(l:List α):idx (x::y::l) 1=some y:=by simp [idx]
theorem Za {α:Type}(x y z:α)(l:List α):idx (x::y::z::l) 2=some z:=by simp [idx]
def zN:az:=az.mk false (aC.mk 0 0) ([]:List Int) 0 (aD.mk ([]:List Int) ([]:List (List Int))) 0 ([]:List Int) 0 0 0
section
variable {p:List Int} (hb:gi p) (hp:p.length≤1048576)
include hb hp
theorem XP {a:Int}(c:I64 a):gH p a 3=some (((gI p a).bind λy0=>(gI p y0.2).bind λy1=>(gI p y1.2).bind λy2=>some ([y0.1,y1.1,y2.1],y2.2,true)).getD ([],0,false)):=by
 rw [show gH p a 3=_ from IF hb hp 3 a (by omega) c];simp only [Pz.many,Option.bind_some]
 cases gI p a with
 | none=>rfl
 | some y0 =>
  simp only [bS]
  cases gI p y0.2 with
  | none=>rfl
  | some y1 =>
   simp only [bS]
   cases gI p y1.2 with
   | none=>rfl
   | some y2=>rfl
theorem Zn {a:Int}(c:I64 a):gH p a 2=some (((gI p a).bind λy0=>(gI p y0.2).bind λy1=>some ([y0.1,y1.1],y1.2,true)).getD ([],0,false)):=by
 rw [show gH p a 2=_ from IF hb hp 2 a (by omega) c];simp only [Pz.many,Option.bind_some]
 cases gI p a with
 | none=>rfl
 | some y0 =>
  simp only [bS]
  cases gI p y0.2 with
  | none=>rfl
  | some y1=>rfl
theorem VH:KN (wH p) (vY p) zN:=λa c=>by
 have gg:=jK hb hp;have gl:=pj hb hp;have gL:=Ct hb hp;have sI:=LD hb hp;have sl:=Jd hb hp;have sL:=Ld hb hp;unfold wH vY Pz.bind Ax Pz.map;rw [XP hb hp c];simp only [bS]
 cases m:gI p a with
 | none=>rfl
 | some y0 =>
 have o:=gg.i64 hp c m;simp only [bS];by_cases d:y0.1≠0∧y0.1≠1
 ·rw [if_pos d]
  cases h1:gI p y0.2 with
  | none=>rfl
  | some y1 =>
   simp only [bS]
   cases e:gI p y1.2 with
   | none=>rfl
   | some y2 =>
    simp only [Option.getD_some,Xk,Option.bind_some,Bool.not_true,Bool.false_eq_true,if_false,aU];rw [rY (by omega)];rfl
 rw [if_neg d];simp only [bS]
 cases h1:gI p y0.2 with
 | none=>rfl
 | some y1 =>
 have q:=gg.i64 hp o h1;simp only [bS]
 cases e:gI p y1.2 with
 | none=>rfl
 | some y2 =>
 have f:=gg.i64 hp q e;simp only [Option.getD_some,Xk,Wc,Za,Option.bind_some,Bool.not_true,Bool.false_eq_true,if_false,aU];rw [qj (by omega)];simp only [Bool.not_true,Bool.false_eq_true,if_false];rw [sl _ f]
 cases r:db p (gI p) y2.2 with
 | none=>rfl
 | some y3 =>
 have g:=gl.i64 hp f r;simp only [cS];rw [sI _ g]
 cases s:gI p y3.2 with
 | none=>rfl
 | some y4 =>
 have h:=gg.i64 hp g s;simp only [cS];rw [sl _ h]
 cases t:db p (gI p) y4.2 with
 | none=>rfl
 | some y5 =>
 have i:=gl.i64 hp h t;simp only [cS];rw [sL _ i]
 cases u:db p (db p (gI p)) y5.2 with
 | none=>rfl
 | some v =>
 have j:=gL.i64 hp i u;simp only [Option.bind_some,Option.map_some,Bool.not_true,Bool.false_eq_true,if_false];rw [sI _ j]
 cases w:gI p v.2 with
 | none=>rfl
 | some x =>
 have k:=gg.i64 hp j w;simp only [cS];rw [sl _ k]
 cases A:db p (gI p) x.2 with
 | none=>rfl
 | some C =>
 have D:=gl.i64 hp k A;simp only [cS];rw [XP hb hp D]
 cases L:gI p C.2 with
 | none=>rfl
 | some E =>
 simp only [bS]
 cases F:gI p E.2 with
 | none=>rfl
 | some l =>
 simp only [bS]
 cases G:gI p l.2 with
 | none=>rfl
 | some H =>
 simp only [Option.getD_some,Xk,Wc,Za,Option.bind_some,Bool.not_true,Bool.false_eq_true,if_false]
end
noncomputable def zi (p:List Int):Pz am:=λa=>(gI p a).bind λy=>Pz.map (λns=>am.mk ns y.1) (db p (vY p)) y.2
section
variable {p:List Int} (hb:gi p) (hp:p.length≤1048576)
include hb hp
theorem Qt:yP (jr p) (zi p):=by
 have big:∀y2:Int×ar,yP (λst=>(dn p st).bind λc=>fv p y2 bc c.2.b_ c.2.P_ [] c.1) (Pz.map (λns=>am.mk ns y2.1) (db p (vY p))):=λy2 =>
  MZ hb hp (WI hb hp) (Bx hb hp) (λns=>am.mk ns y2.1) (fv p y2) (λ_=>rfl) (λk a q l n=>SL p y2 k a q l n)
 refine ⟨λa=>?_,λa d=>?_⟩
 ·unfold jr;rw [LX];exact (big (0,⟨a,true⟩)).1 a
 unfold jr zi;have f:=(Hl hb hp).2 a d
 cases h:gI p a with
 | none =>
  obtain ⟨v,a',e⟩:=f.2 h;rw [e];exact ⟨λv b e=>(by cases e),λ_=>(big (v,⟨a',true⟩)).1 a'⟩
 | some y =>
  obtain ⟨n,b⟩:=y;rw [f.1 n b h];exact (big (n,⟨b,false⟩)).2 b ((jK hb hp).i64 hp d h)
theorem Ra:KN (xy p) (zi p) ⟨[],0⟩:=λa d=>by
 have gg:=jK hb hp;unfold xy zi;rw [Zn hb hp d];simp only [bS]
 cases j:gI p a with
 | none=>rfl
 | some y0 =>
 have e:=gg.i64 hp d j;simp only [bS]
 cases h1:gI p y0.2 with
 | none=>rw [Pz.map_none (by unfold db;rw [h1];rfl)];rfl
 | some y1 =>
 have m:=gg.i64 hp e h1;simp only [Option.getD_some,Xk,Wc,Option.bind_some,Bool.not_true,Bool.false_eq_true,if_false];by_cases c:y1.1<0
 ·rw [Pz.map_none (by unfold db;rw [h1];simp [c]),decide_eq_true c];rfl
 rw [decide_eq_false c];simp only [Bool.false_eq_true,if_false];have f:db p (vY p) y0.2=(vY p).many y1.1.toNat y1.2:=by unfold db;rw [h1];simp [c]
 have g:=Mp hb hp e (v:=y1.1) (b:=y1.2) h1;refine (EP (VH hb hp) (Bx hb hp) hp (n:=y1.1) g.2 (λk l i a=>wT ([y0.1,y1.1],y1.2,true) p y0.1 k l i a) (λl a=>some (⟨l,y0.1⟩,a,true)) (some (⟨[],0⟩,0,false)) (λk l i a=>?_) y1.1.toNat bc 0 y1.2 [] (by simp) (cN (by have:=g.2;omega)) (by omega) (by simp) (by omega) m).trans ?_
 ·show (idx [y0.1,y1.1] 1).bind _=_;rw [Wc];rfl
 cases h:(vY p).many y1.1.toNat y1.2 with
 | none=>rw [Pz.map_none (by rw [f,h])]
 | some z=>rw [Pz.map_some (v:=z.1) (b:=z.2) (by rw [f,h])];rfl
end
end Go.Vk
/- What is put is read again. -/
namespace Go.Vk
theorem Ea {m i:Nat}(a:m<128)(c:i<5):Ps .i64 (m:Int) (IntKind.i64.wrap (7*(i:Int)))=((m*128^i:Nat):Int):=by
 have hi':i=0∨i=1∨i=2∨i=3∨i=4:=by omega
 rw [aV];rcases hi' with rfl|rfl|rfl|rfl|rfl
 ·show IntKind.i64.wrap ((m:Int)*1)=((m*1:Nat):Int);rw [aV];omega
 ·show IntKind.i64.wrap ((m:Int)*128)=((m*128:Nat):Int);rw [aV];omega
 ·show IntKind.i64.wrap ((m:Int)*16384)=((m*16384:Nat):Int);rw [aV];omega
 ·show IntKind.i64.wrap ((m:Int)*2097152)=((m*2097152:Nat):Int);rw [aV];omega
 show IntKind.i64.wrap ((m:Int)*268435456)=((m*268435456:Nat):Int);rw [aV];omega
theorem PQ {a m i:Nat}(d:a<128^i)(f:m<128)(g:i<5):gS .or .i64 (a:Int) ((m*128^i:Nat):Int)=((a+m*128^i:Nat):Int):=by
 have c:(128:Nat)^i=2^(7*i):=by rw [Nat.pow_mul]
 have e:128^i≤128^4:=Nat.pow_le_pow_right (by omega) (by omega);have h:m*128^i≤127*128^4:=Nat.mul_le_mul (by omega) e;rw [UH a (m*128^i) (by omega) (by omega)];congr 1;rw [Nat.or_comm,c,Nat.mul_comm,←Nat.two_pow_add_eq_or_of_lt (by rw [←c];exact d),Nat.add_comm]
theorem IU {p:List Int}{a:Nat}(u:p.length≤1048576){n:Nat}(v:n≤2147483647):∀(d k i:Nat),d+i=5→d<k→i≤5→(0<i→1≤n / 128^i)→(∃post,p.drop (a+i)=uH (n / 128^i)++post) →
  hY (a:Int) p k ((n%128^i:Nat):Int) (i:Int)=some ((n:Int),((a+i+(uH (n / 128^i)).length:Nat):Int),true):=by
 intro d
 induction d with
 | zero =>
  intro k i s hk t h1 f;obtain rfl:i=5:=by omega
  have:=h1 (by omega);omega
 | succ d ih =>
  intro k i s hk t h1 ⟨post,f⟩;obtain ⟨k,rfl⟩:=kS k (by omega)
  have o:0<(p.drop (a+i)).length:=by
   rw [f];by_cases c:n / 128^i<128
   ·rw [Ev c];simp
   rw [Iv c];simp
  rw [List.length_drop] at o;show (if _ then _ else _)=_;rw [Q0,aV (n:=(p.length:Int)-(i:Int)) (by omega) (by omega),Q4,aV (n:=(a:Int)+(i:Int)) (by omega) (by omega),show (a:Int)+(i:Int)=((a+i:Nat):Int) by omega,aH (show a+i<p.length by omega)];simp only [bS]
  have g:∀(x:Int)(q:List Int),p.drop (a+i)=x::q→p[a+i]'(by omega)=x:=λx q e=>by
   have:=congrArg (λl=>l[0]?) e;simp only [List.getElem?_drop,Nat.add_zero,List.getElem?_cons_zero] at this;rw [List.getElem?_eq_getElem (by omega)] at this;exact Option.some.inj this
  have r:n%128^i+n / 128^i%128*128^i=n%128^(i+1):=by
   rw [Nat.pow_succ,Nat.mod_mul,Nat.mul_comm]
  have hsmall:n / 128^i%128<128:=Nat.mod_lt _ (by omega);have h:n%128^i<128^i:=Nat.mod_lt _ (Nat.pow_pos (by omega));by_cases c:n / 128^i<128
  ·rw [Ev c] at f ⊢;rw [g _ _ f,fQ,show (128:Int)=((128:Nat):Int) from rfl,qm,Nat.mod_eq_of_lt c,Ew _ (by rw [aV];omega),Ea c (by omega)];simp only [bS];rw [PQ h c (by omega)];have m:n%128^i+n / 128^i*128^i=n:=by rw [Nat.mul_comm];exact Nat.mod_add_div ..
   rw [m,if_pos (decide_eq_true (by omega)),if_neg ?_]
   ·rw [ax];rfl
   simp only [Bool.or_eq_true,Bool.and_eq_true,decide_eq_true_eq,beq_iff_eq];rintro (⟨h2,w⟩|h2)
   ·have:=h1 (by omega);omega
   omega
  rw [Iv c] at f ⊢;have j:n / 128^i / 128=n / 128^(i+1):=by rw [Nat.div_div_eq_div_mul,Nat.pow_succ]
  rw [g _ _ f,fQ,show (128:Int)=((128:Nat):Int) from rfl,qm,Nat.add_mod_right,Nat.mod_mod,Ew _ (by rw [aV];omega),Ea hsmall (by omega)];simp only [bS];rw [PQ h hsmall (by omega),r,Q4,ax]
  rw [ih k (i+1) (by omega) (by omega) (by omega) (λ_=>by rw [←j];omega) ⟨post,by
   rw [←j];have:=congrArg (List.drop 1) f;rw [List.drop_drop] at this;simpa [Nat.add_assoc] using this⟩,←j]
  simp only [List.length_cons];congr 3;omega
theorem PI {pre post:List Int}{x:Int}(c:InR x)(h:(pre++ez x++post).length≤1048576):eW (pre++ez x++post) (pre.length:Int)=some (x,((pre.length+(ez x).length:Nat):Int),true):=by
 have j:=Un c;unfold eW tm;have g:ez x=uH (zig x):=by unfold ez;rw [if_pos c]
 have:=IU (p:=pre++ez x++post) (a:=pre.length) h (n:=zig x) (by omega) 5 bc 0 (by omega) cN (by omega) (by omega) ⟨post,by rw [g];simp⟩;simp only [Nat.pow_zero,Nat.mod_one,Nat.div_one] at this;have i:hY (pre.length:Int) (pre++ez x++post) bc 0 0=some ((zig x:Int),((pre.length+0+(uH (zig x)).length:Nat):Int),true):=this;rw [i,g];simp only [cS];rw [show (2:Int)=((2:Nat):Int) from rfl,qm,yH,fQ (n:=zig x / 2) (by omega)];unfold qQ aU;by_cases d:x<0
 ·have e:((zig x%2:Nat):Int)=1:=by unfold zig;rw [if_pos d];omega
  have f:((zig x / 2:Nat):Int)=-x-1:=by unfold zig;rw [if_pos d];omega
  rw [e,f,Q2];have k:=c.1;rw [aV (n:=0-(-x-1)) (by omega) (by omega),aV,show 0-(-x-1)-1=x by omega,qj c];rfl
 have e:((zig x%2:Nat):Int)=0:=by unfold zig;rw [if_neg d];omega
 have f:((zig x / 2:Nat):Int)=x:=by unfold zig;rw [if_neg d];omega
 rw [e,f,Q5,qj c];rfl
end Go.Vk
/- Trees and windows are read as they were put. -/
namespace Go.Vk
theorem gi.append {a b:List Int}(c:gi a)(d:gi b):gi (a++b):=λx e=>by
 rcases List.mem_append.1 e with h|h
 ·exact c x h
 exact d x h
theorem gi.flat {α:Type}{xs:List α}{f:α→List Int}(h:∀x∈xs,gi (f x)):gi (xs.flatMap f):=λy a=>by
 obtain ⟨x,c,d⟩:=List.mem_flatMap.1 a;exact h x c y d
def tZ {α:Type}(l:List Int)(P:Pz α)(B:List Int)(x:α):Prop:=∀pre post,l=pre++B++post→P (pre.length:Int)=some (x,((pre.length+B.length:Nat):Int))
section
variable {l:List Int}
theorem Fh {α:Type}(x:α):tZ l (λa=>some (x,a)) [] x:=λ_ _ _=>rfl
theorem fP {α β:Type}{P:Pz α}{Q:α→Pz β}{B C:List Int}{x:α}{y:β}(h:tZ l P B x)(k:tZ l (Q x) C y):tZ l (Pz.bind P Q) (B++C) y:=λpre post e=>by
 unfold Pz.bind;rw [h pre (C++post) (by rw [e];simp)];simp only [bS];have:=k (pre++B) post (by rw [e];simp);rw [List.length_append] at this;rw [this,List.length_append,Nat.add_assoc]
theorem Nh {α β:Type}{P:Pz α}{B:List Int}{x:α}(f:α→β)(h:tZ l P B x):tZ l (Pz.map f P) B (f x):=λpre post e=>by
 unfold Pz.map;rw [h pre post e];rfl
theorem CG {α:Type}{P:Pz α}{B:α→List Int}:∀(xs:List α),(∀x∈xs,tZ l P (B x) x)→tZ l (P.many xs.length) (xs.flatMap B) xs:=by
 intro xs
 induction xs with
 | nil=>intro _ pre post _;simp [Pz.many]
 | cons x xs ih =>
  intro h pre post e;rw [List.flatMap_cons] at e ⊢;show (P (pre.length:Int)).bind _=_;rw [h x (List.mem_cons_self ..) pre (xs.flatMap B++post) (by rw [e];simp)];simp only [bS];have:=ih (λy a=>h y (List.mem_cons_of_mem _ a)) (pre++B x) post (by rw [e];simp);rw [List.length_append] at this;rw [this];simp only [Option.bind_some,List.length_append,Nat.add_assoc]
variable (hp:l.length≤1048576)
include hp
theorem nP {x:Int}(a:InR x):tZ l (gI l) (ez x) x:=λpre post e=>by
 subst e;unfold gI;rw [PI a hp]
theorem Ca {α:Type}{P:Pz α}{B:α→List Int}{xs:List α}(a:xs.length≤1000000)(h:∀x∈xs,tZ l P (B x) x):tZ l (db l P) (ez xs.length++xs.flatMap B) xs:=λpre post e=>by
 have hk:tZ l (P.many ((xs.length:Int)).toNat) (xs.flatMap B) xs:=by rw [Int.toNat_natCast];exact CG xs h
 have:=fP (P:=gI l) (Q:=λv=>if v<0 then (λ_=>none) else P.many v.toNat) (nP hp (CK (by omega))) (by rw [Q6];exact hk) pre post e;rw [←this];unfold db Pz.bind
 cases gI l pre.length with
 | none=>rfl
 | some y =>
  simp only [bS];split<;>rfl
theorem Ai {xs:List Int}(a:xs.length≤1000000)(h:rR xs):tZ l (db l (gI l)) (ly xs) xs:=Ca hp a λx c=>nP hp (h x c)
theorem IL (b:Bool):tZ l (Ax l) (ez (yy b)) b:=λpre post e=>by
 unfold Ax;rw [nP hp (EQ b) pre post e];cases b<;>rfl
theorem UW {x:az}(h:AA x)(c:szM x≤1000000):tZ l (vY l) (wr x) x:=by
 have j:=@xl x.q_.e_;have hz':=c;unfold szM at hz';obtain ⟨h1,d,f,g,i⟩:=h;have m:∀y,y∈[x.n_.k_,x.n_.j_,x.J_,x.K_,x.r_,x.G_,x.E_]→InR y:=h1
 have key:tZ l (vY l) (ez (yy x.D_)++(ez x.n_.k_++(ez x.n_.j_++(ly x.C_++(ez x.J_++(ly x.q_.l_++((ez x.q_.e_.length++x.q_.e_.flatMap ly)++(ez x.K_++(ly x.c_++(ez x.r_++(ez x.G_++(ez x.E_++([]))))))))))))) x:=by
  unfold vY;refine fP (IL hp x.D_) ?_;refine fP (nP hp (m x.n_.k_ (by simp))) ?_;refine fP (nP hp (m x.n_.j_ (by simp))) ?_;refine fP (Ai hp (by omega) d) ?_;refine fP (nP hp (m x.J_ (by simp))) ?_;refine fP (Ai hp (by omega) g) ?_;refine fP (Nh au.mk (Ca hp (by omega) λy a=>Ai hp (by have:=Ac a;omega) (i y a))) ?_;refine fP (nP hp (m x.K_ (by simp))) ?_;refine fP (Ai hp (by omega) f) ?_;refine fP (nP hp (m x.r_ (by simp))) ?_;refine fP (nP hp (m x.G_ (by simp))) ?_;refine fP (nP hp (m x.E_ (by simp))) ?_;exact Fh x
 intro pre post e;have eb:wr x=ez (yy x.D_)++(ez x.n_.k_++(ez x.n_.j_++(ly x.C_++(ez x.J_++(ly x.q_.l_++((ez x.q_.e_.length++x.q_.e_.flatMap ly)++(ez x.K_++(ly x.c_++(ez x.r_++(ez x.G_++(ez x.E_++([])))))))))))):=by unfold wr;simp only [List.append_assoc,List.append_nil]
 rw [eb] at e ⊢;exact key pre post e
theorem Fn {x:am}(c:InR x.o_)(h:∀y∈x.a_,AA y)(d:szU x≤1000000):tZ l (zi l) (xg x) x:=by
 have f:x.a_.length≤1000000:=by unfold szU at d;omega
 have key:tZ l (zi l) (ez x.o_++(ez x.a_.length++x.a_.flatMap wr)) x:=fP (Q:=λv=>Pz.map (λns=>am.mk ns v) (db l (vY l))) (nP hp c) (Nh (λns=>am.mk ns x.o_) (Ca hp f λy a=>UW hp (h y a) (by have:=MW a;omega)))
 intro pre post e;unfold xg at e ⊢;rw [List.append_assoc] at e ⊢;rw [List.append_assoc] at e;exact key pre post (by rw [e];simp only [List.append_assoc])
theorem IC {x:au}(h:∀r∈x.f_,rR r)(c:CF x.f_≤1000000):tZ l (Pz.map au.mk (db l (db l (gI l)))) (Ez x) x:=by
 have d:=@xl x.f_;exact Nh au.mk (Ca hp (by omega) λy a=>Ai hp (by have:=Ac a;omega) (h y a))
end
end Go.Vk
/- Readers: a fixed number of things, read on whether or not something was bad. -/
namespace Go.Vk
section
theorem TC {α ρ:Type}{op:ar→Option (α×ar)}{P:Pz α}(g:yP op P)(s:∀a v b,I64 a→P a=some (v,b)→I64 b)(N:Int)(Lp:Nat→Int→Bool→List α→Int→Option ρ)(fin:List α→ar→Option ρ)(step:∀k a q l i,Lp (k+1) a q l i=if decide (i<N) then (op ⟨a,q⟩).bind λy=>(app l [y.1]).bind λl'=>Lp k y.2.b_ y.2.P_ l' (IntKind.i64.wrap (i+1)) else fin l ⟨a,q⟩):∀(d k:Nat)(i a:Int)(l:List α),(N-i).toNat=d→d<k→0≤i→N≤1000000→(l.length:Int)=i →
   (∃l' a',Lp k a true l i=fin l' ⟨a',true⟩)∧(I64 a→(∀vs c,P.many d a=some (vs,c)→Lp k a false l i=fin (l++vs) ⟨c,false⟩)∧(P.many d a=none→∃l' a',Lp k a false l i=fin l' ⟨a',true⟩)):=by
 intro d
 induction d with
 | zero =>
  intro k i a l t hk u j w;obtain ⟨k,rfl⟩:=kS k (by omega);rw [step,if_neg (by rw [decide_eq_true_iff];omega),step,if_neg (by rw [decide_eq_true_iff];omega)];refine ⟨⟨_,_,rfl⟩,λ_=>⟨λvs c e=>?_,λe=>by simp [Pz.many] at e⟩⟩;obtain ⟨rfl,rfl⟩:=Prod.mk.inj (Option.some.inj e);simp
 | succ d ih =>
  intro k i a l t hk u j w;obtain ⟨k,rfl⟩:=kS k (by omega);have p:∀v:α,((l++[v]).length:Int)=i+1:=λv=>by simp;omega
  have m:∀v:α,app l [v]=some (l++[v]):=λv=>bA;have r:∀(v:α)(a:Int),∃l' a',Lp k a true (l++[v]) (i+1)=fin l' ⟨a',true⟩:=λv a=>(ih k (i+1) a (l++[v]) (by omega) (by omega) (by omega) j (p v)).1;refine ⟨?_,λo=>?_⟩
  ·obtain ⟨v,a',e⟩:=g.1 a;rw [step,if_pos (by rw [decide_eq_true_iff];omega),e];simp only [bS];rw [m];simp only [bS];rw [aV];exact r v a'
  rw [step,if_pos (by rw [decide_eq_true_iff];omega)];unfold Pz.many
  cases h:P a with
  | none =>
   refine ⟨λvs c e=>by simp at e,λ_=>?_⟩;obtain ⟨v,a',e⟩:=(g.2 a o).2 h;rw [e];simp only [bS];rw [m];simp only [bS];rw [aV];exact r v a'
  | some y =>
   obtain ⟨v,b⟩:=y;rw [(g.2 a o).1 v b h];simp only [bS];rw [m];simp only [bS];rw [aV];obtain ⟨x,A⟩:=(ih k (i+1) b (l++[v]) (by omega) (by omega) (by omega) j (p v)).2 (s a v b o h);refine ⟨λvs c e=>?_,λe=>?_⟩
   ·cases f:P.many d b with
    | none=>rw [f] at e;simp at e
    | some q =>
     rw [f] at e;obtain ⟨rfl,rfl⟩:=Prod.mk.inj (Option.some.inj e);rw [x q.1 q.2 f];simp
   cases f:P.many d b with
   | none=>exact A f
   | some q=>rw [f] at e;simp at e
end
def Sat {α:Type}(P:Pz α)(Q:α→Prop):Prop:=∀a v b,I64 a→P a=some (v,b)→I64 b∧Q v
theorem hZ {α β:Type}{P:Pz α}{R:α→Pz β}{Q:α→Prop}{S:β→Prop}(h:Sat P Q)(k:∀v,Q v→Sat (R v) S):Sat (Pz.bind P R) S:=λa v b c e=>by
 unfold Pz.bind at e;obtain ⟨y,d,f⟩:=dK e;obtain ⟨i,q⟩:=h a y.1 y.2 c d;exact k y.1 q y.2 v b i f
theorem FC {α:Type}{x:α}{Q:α→Prop}(h:Q x):Sat (λa=>some (x,a)) Q:=λa v b c e=>by
 obtain ⟨rfl,rfl⟩:=Prod.mk.inj (Option.some.inj e);exact ⟨c,h⟩
theorem QU {α β:Type}{P:Pz α}{f:α→β}{Q:α→Prop}{S:β→Prop}(h:Sat P Q)(k:∀v,Q v→S (f v)):Sat (Pz.map f P) S:=λa v b c e=>by
 obtain ⟨y,d,g⟩:=Option.map_eq_some_iff.1 e;obtain ⟨rfl,rfl⟩:=Prod.mk.inj g;obtain ⟨i,q⟩:=h a y.1 y.2 c d;exact ⟨i,k _ q⟩
theorem yB {α:Type}{P:Pz α}{Q:α→Prop}(h:Sat P Q):∀n,Sat (P.many n) (λvs=>vs.length=n∧∀x∈vs,Q x)
 | 0=>FC ⟨rfl,by simp⟩
 | n+1=>λa v b c e=>by
  unfold Pz.many at e;obtain ⟨y,d,e⟩:=dK e;obtain ⟨z,f,e⟩:=dK e;obtain ⟨i,q⟩:=h a y.1 y.2 c d;obtain ⟨j,g,k⟩:=yB h n y.2 z.1 z.2 i f;obtain ⟨rfl,rfl⟩:=Prod.mk.inj (Option.some.inj e);refine ⟨j,by simp [g],λx hx=>?_⟩;rcases List.mem_cons.1 hx with rfl|hx
  ·exact q
  exact k x hx
section
variable {p:List Int} (hb:gi p) (hp:p.length≤1048576)
include hb hp
theorem Aj:Sat (gI p) InR:=λ_ _ _ c e=>⟨(jK hb hp).i64 hp c e,Mp hb hp c e⟩
theorem JF {α:Type}{P:Pz α}{sz:α→Nat}{Q:α→Prop}(f:yw p P sz)(h:Sat P Q):Sat (db p P) (λvs=>vs.length≤1048576∧∀x∈vs,Q x):=λa v b c e=>by
 have g:=Ah hb hp f;obtain ⟨h1,j,l,m⟩:=g a v b c e;refine ⟨g.i64 hp c e,?_⟩;unfold db at e;obtain ⟨y,i,e⟩:=dK e;have k:=(Aj hb hp) a y.1 y.2 c i;split at e
 ·cases e
 have d:=jK hb hp a y.1 y.2 c i;simp only at d;obtain ⟨o,q,r,s⟩:=CZ f hp _ _ v b (by omega) d.2.2.1 e;refine ⟨?_,(yB h _ y.2 v b k.1 e).2.2⟩;simp only at j;omega
theorem Em:Sat (db p (gI p)) (λvs=>vs.length≤1048576∧∀x∈vs,InR x):=JF hb hp (jK hb hp) (Aj hb hp)
theorem SX:Sat (db p (db p (gI p))) (λvs=>vs.length≤1048576∧∀x∈vs,x.length≤1048576∧∀y∈x,InR y):=JF hb hp (pj hb hp) (Em hb hp)
end
end Go.Vk
