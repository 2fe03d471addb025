/- A schema's text: alike. -/
import Derived.Test.YtiackidnpjlnmaaGreatDoorRX
import Derived.Test.YtiackidnpjlnmaaGreatDoorPDr
import Derived.Test.YtiackidnpjlnmaaGreatDoorVkBs
import Derived.Test.YtiackidnpjlnmaaGreatDoorPTr
import Derived.Test.YtiackidnpjlnmaaGreatDoorPSpl
import Derived.Test.YtiackidnpjlnmaaGreatDoorVkBr
import Derived.Test.YtiackidnpjlnmaaGreatDoorVkCu
namespace Go.Vk
open Go.Proofs
theorem Dec.val {o:Option Bool} {P:Prop} (h:Dec o P) (p:P):o=some true:=by
 rcases h.cases with ⟨e,_⟩|⟨_,n⟩
 ·exact e
 exact absurd p n
theorem Le {ws:List (List UInt8)} (h:Aa ws):∀w∈ws,w.length≤8:=fun w a=>by
 obtain ⟨i,hi,rfl⟩:=List.getElem_of_mem a;have:=(h i (Nat.zero_le _) hi hi).1.1;omega
def sh (a:aK):List UInt8:=if 0<a.B_.length then a.H_++[58]++Lib.join (a.B_.map Lib.itoa) [44] else a.H_++[61]++Lib.join a.O_ [44]
theorem IT {a:aK} (d:jF a) (h:uc a):ox a=some (sh a)∧mM a=some (sh a)∧(sh a).length≤400:=by
 have t:a.H_.length≤8:=by have:=h.1.1;omega
 unfold ox mM sh;rw [(xZ (yW d)).val h,(Cg (yW d)).val h];simp only [cS];rcases h.2 with ⟨g,u,j⟩|⟨g,v,_⟩
 ·have m:=Dk (xs:=a.O_) (sep:=[44]) (Le j);have o:(Lib.join a.O_ [44]).length≤36:=by simp only [List.length_cons,List.length_nil] at m;omega
  rw [if_pos (by simp;omega),if_neg (c:=0<a.B_.length) (by omega),if_neg (c:=decide ((a.B_.length:Int)>0)=true) (by rw [decide_eq_true_iff];omega),vq (by simp;omega)];simp only [bS];rw [CY (by omega) (by omega) (by simp),CP (by omega) (by omega)];simp only [bS];rw [vq (by simp;omega)];exact ⟨rfl,rfl,by simp;omega⟩
 obtain ⟨q,o⟩:=KQ (sep:=[44]) d.2.1 (by simp);have r:a.B_.length≤3:=by omega
 have e:qw a.H_ [58]=some (a.H_++[58]):=vq (by simp only [List.length_cons,List.length_nil];omega);have f:qw (a.H_++[58]) (Lib.join (a.B_.map Lib.itoa) [44])=some (a.H_++[58]++Lib.join (a.B_.map Lib.itoa) [44]):=vq (by simp only [List.length_append,List.length_cons,List.length_nil];omega);rw [if_neg (c:=decide ((a.O_.length:Int)>0)=true) (by rw [decide_eq_true_iff];omega),if_pos (c:=0<a.B_.length) (by omega),if_pos (c:=decide ((a.B_.length:Int)>0)=true) (by rw [decide_eq_true_iff];omega),e];simp only [bS];rw [q];simp only [bS];rw [f];refine ⟨?_,rfl,by simp;omega⟩;refine (pz (p:=a.B_) Lib.itoa (fun k l i=>jK a k l i) (fun l=>(qw a.H_ [58]).bind fun s=>(my l [44]).bind fun y=>(qw s y).bind fun s=>some s) (fun k l=>?_) (fun k l i h hi=>?_) (by omega)).trans ?_
 ·show jK a (k+1) l _=_;rw [jK,if_neg (by simp)]
 ·show jK a (k+1) l _=_;rw [jK,if_pos (by simp;omega),aH h,ax (by omega)];simp only [bS];rw [GP (d.2.1.2 _ (List.getElem_mem h))];simp only [bS];rw [bo (by simp;omega)];rfl
 rw [e];simp only [bS];rw [CY (by simp;omega) (by omega) (by simp)];simp only [bS];rw [f];rfl
def xd (s:ae):List UInt8:=Lib.join (s.c_.map sh) [59]++[124]++Lib.join s.g_ [44]
theorem EX {s:ae} (a:bi s) (h:fV s):uM s=some (xd s)∧qL s=some (xd s)∧(xd s).length≤3000:=by
 have j:=h.1;have m:=h.2.1;have c:∀{i:Nat} (hi:i<s.c_.length),ox s.c_[i]=some (sh s.c_[i])∧mM s.c_[i]=some (sh s.c_[i])∧(sh s.c_[i]).length≤400:=fun hi=>IT (a.1.2 _ (List.getElem_mem hi)) (h.attr hi)
 have h1:(Lib.join (s.c_.map sh) [59]).length≤2005:=by
  have:=Dk (xs:=s.c_.map sh) (sep:=[59]) (b:=400) (fun x f=>by
   obtain ⟨y,g,rfl⟩:=List.mem_map.1 f;obtain ⟨i,hi,rfl⟩:=List.getElem_of_mem g;exact (c hi).2.2)
  rw [List.length_map] at this;simp only [List.length_cons,List.length_nil] at this;omega
 have o:(Lib.join s.g_ [44]).length≤27:=by
  have:=Dk (xs:=s.g_) (sep:=[44]) (Le h.2.2.1);simp only [List.length_cons,List.length_nil] at this;omega
 have d:qw (Lib.join (s.c_.map sh) [59]) [124]=some (Lib.join (s.c_.map sh) [59]++[124]):=vq (by simp only [List.length_cons,List.length_nil];omega);have e:qw (Lib.join (s.c_.map sh) [59]++[124]) (Lib.join s.g_ [44])=some (xd s):=vq (by simp only [List.length_append,List.length_cons,List.length_nil];omega);unfold uM qL;rw [(mH (la a)).val h,(oV (la a)).val h];simp only [cS];refine ⟨?_,?_,by unfold xd;simp;omega⟩
 ·refine (pz (p:=s.c_) sh (fun k l i=>ix s k l i) (fun l=>(my l [59]).bind fun y=>(qw y [124]).bind fun t=>(my s.g_ [44]).bind fun y=>(qw t y).bind fun t=>some t) (fun k l=>?_) (fun k l i h hi=>?_) (by omega)).trans ?_
  ·show ix s (k+1) l _=_;rw [ix,if_neg (by simp)]
  ·show ix s (k+1) l _=_;rw [ix,if_pos (by simp;omega),aH h,ax (by omega)];simp only [bS];rw [(c h).1];simp only [bS];rw [bo (by simp;omega)];rfl
  rw [CY (by simp;omega) (by omega) (by simp)];simp only [bS];rw [d];simp only [bS];rw [CY (by omega) (by omega) (by simp)];simp only [bS];rw [e];rfl
 refine (pz (p:=s.c_) sh (fun k l i=>gd s k i l) (fun l=>(zW l [59]).bind fun y=>(qw y [124]).bind fun t=>(zW s.g_ [44]).bind fun y=>(qw t y).bind fun t=>some t) (fun k l=>?_) (fun k l i h hi=>?_) (by omega)).trans ?_
 ·show gd s (k+1) _ l=_;rw [gd,if_neg (by simp)]
 ·show gd s (k+1) _ l=_;rw [gd,if_pos (by simp;omega),aH h,ax (by omega)];simp only [bS];rw [(c h).2.1];simp only [bS];rw [bo (by simp;omega)];rfl
 rw [CP (by simp;omega) (by omega)];simp only [bS];rw [d];simp only [bS];rw [CP (by omega) (by omega)];simp only [bS];rw [e];rfl
def Hq (w:List UInt8):List Int:=BS w.length++byS w
theorem Ji {w:List UInt8} (h:w.length≤3000):yG w=some (Hq w)∧vt w=some (Hq w)∧(Hq w).length≤3005:=by
 obtain ⟨h1,a,c⟩:=Jo (n:=w.length) (by omega);have d:=Kn w;have e:ED w=some (byS w):=if_pos (by omega);unfold yG vt Hq;rw [h1,a,e];simp only [bS];rw [bo (by omega)];exact ⟨rfl,rfl,by rw [List.length_append];omega⟩
theorem dI {a b:List Int} (c:dU a) (d:dU b):dU (a++b):=fun x e=>(List.mem_append.1 e).elim (c x) (d x)
theorem vV {α:Type} {p:List α} {B:α→List Int} (h:∀x∈p,dU (B x)):dU (p.flatMap B):=fun y a=>by
 obtain ⟨x,c,a⟩:=List.mem_flatMap.1 a;exact h x c y a
theorem Qt (s:List UInt8):dU (byS s):=fun x a=>by
 obtain ⟨b,_,rfl⟩:=List.mem_map.1 a;have:=b.toNat_lt;exact ⟨by omega,by omega⟩
theorem BA:∀n:Nat,dU (BS n)
 | n=>by
  by_cases h:n<128
  ·rw [KI h];intro x hx;rw [List.mem_singleton.1 hx];omega
  rw [Ob h];intro x hx;rcases List.mem_cons.1 hx with rfl|hx
  ·omega
  exact BA (n / 128) x hx
termination_by n=>n
theorem fT (x:Int):dU (nt x):=by
 unfold nt;split
 ·exact BA _
 intro x a;cases a
theorem Fp (p:List Int):dU (nU p):=vV fun x _=>fT x
theorem xp (p:List Int):dU (qg p):=dI (fT _) (Fp _)
theorem yu (p:List (List Int)):dU (p.flatMap qg):=vV fun x _=>xp x
theorem Lv (x:aA):dU (yj x) :=
 dI (dI (dI (dI (dI (dI (dI (dI (dI (dI (dI (fT _) (fT _)) (fT _)) (xp _)) (fT _)) (xp _)) (dI (fT _) (yu _))) (fT _)) (xp _)) (fT _)) (fT _)) (fT _)
end Go.Vk
/- What a right state's bytes need: alike. -/
namespace Go.Vk
theorem Gq {α:Type} {p:List α} {f:α→Nat} {b:Nat} (h:∀x∈p,f x≤b):(p.map f).sum≤b*p.length:=by
 induction p with
 | nil=>simp
 | cons x p ih =>
  have h1:=h x (by simp);have c:=ih fun y a=>h y (by simp [a]);simp only [List.map_cons,List.sum_cons,List.length_cons,Nat.mul_succ];omega
theorem Tx {l:List Int} {n:Nat} (h:∀i,0≤i→i<l.length→∀h:i<l.length,(0≤l[i]∧l[i]≤(n:Int)-1)∧(0<i→l[i-1]<l[i])):l.length≤n:=by
 have key:∀i,∀hi:i<l.length,(i:Int)≤l[i]:=by
  intro i
  induction i with
  | zero=>intro hi;exact (h 0 (Nat.le_refl _) hi hi).1.1
  | succ i ih =>
   intro hi;have h1:=ih (by omega);have a:=(h (i+1) (Nat.zero_le _) hi hi).2 (Nat.succ_pos i);simp only [Nat.add_sub_cancel] at a;omega
 by_cases c:l.length=0
 ·omega
 have h1:=key (l.length-1) (by omega);have a:=(h (l.length-1) (Nat.zero_le _) (by omega) (by omega)).1.2;omega
theorem AU {l:List Int} (h:∀x∈l,0≤x∧x≤99999):rD l:=fun x a=>by
 have:=h x a;exact ⟨by omega,by omega⟩
theorem Wo {s:ae} {f:aB} (h:us s f):f.f_≤4:=by
 have h1:=h.2.2.2
 have d:=(Co (a:=atr s f) (by
   obtain ⟨j,c,e⟩:=List.getElem_of_mem (yw h.2.1);rw [←e];exact h.1.attr c)).2
 unfold zH at h1;split at h1<;>omega
theorem PM {s:ae} {x:aE} (h:xF s x):rD x.j_∧(∀y∈x.d_,rD y)∧x.j_.length+AV x.d_≤80∧x.j_.sum≤999:=by
 obtain ⟨d,h1,j,k,a⟩:=h;have o:=d.2.1;have q:=d.1
 have g:∀y∈x.d_,rD y∧y.length≤12:=fun y c=>by
  rcases a with a|⟨a,l⟩
  ·rw [List.length_eq_zero_iff.1 a] at c;cases c
  obtain ⟨i,hi,rfl⟩:=List.getElem_of_mem c;obtain ⟨c1,c2,_⟩:=l i hi (by omega);have m:=(Co (d.attr (i:=i) (by omega))).2;have:=Nat.mul_le_mul m (show s.g_.length≤3 by omega);exact ⟨AU fun z e=>by have:=c2 z e;omega,by omega⟩
 have r:x.d_.length≤5:=by
  rcases a with a|⟨a,_⟩<;>omega
 refine ⟨AU fun z e=>by have:=j z e;omega,fun y c=>(g y c).1,?_,k⟩;have:=Gq (p:=x.d_) (f:=List.length) (b:=12) fun y c=>(g y c).2;unfold AV;omega
theorem JN {s:ae} {t:ao} (c:wa s t) {i:Nat} (hi:i<t.a_.length):Au t.a_[i]∧szM t.a_[i]≤100:=by
 have hL:=c.2.1;have hs:=c.2.2.1;have hA:=c.1.1;obtain ⟨⟨E,F,k,a,l,o⟩,r,v⟩:=c.2.2.2 i hi hi;obtain ⟨w,A,G,H⟩:=PM k;have L:=Tx a.2.2
 have C:rD t.a_[i].c_:=AU fun z q=>by
  obtain ⟨j,D,rfl⟩:=List.getElem_of_mem q;have:=(a.2.2 j (Nat.zero_le _) D D).1;omega
 have M : -1≤t.a_[i].F_∧t.a_[i].F_≤31:=by
  by_cases P:i=0
  ·have:=(r P).1;omega
  obtain ⟨u,a4,a5,e,_⟩:=v (by omega);omega
 generalize t.a_[i]=n at E F k a l o w A G H L C M
 have hk:rD n.z_∧n.z_.length≤4∧(-1≤n.n_.p_∧n.n_.p_≤5)∧(-1≤n.n_.f_∧n.n_.f_≤5)∧(0≤n.J_∧n.J_≤5)∧(0≤n.I_∧n.I_≤999):=by
  cases p:n.A_ with
  | true =>
   obtain ⟨⟨Q,R⟩,X,Z,d⟩:=l p;refine ⟨?_,by omega,by omega,by omega,by omega,d.1,?_⟩
   ·rw [List.length_eq_zero_iff.1 X];intro x f;cases f
   have:=d.2;split at this<;>omega
  | false =>
   obtain ⟨g,Q,R,_,Z,d⟩:=o p;have b1:=(LY g).2;have b2:=Wo g;have b3:=g.2.1;have b4:=g.2.2.1;refine ⟨AU fun z q=>?_,by omega,by omega,by omega,by omega,by omega⟩;obtain ⟨m,hm,e,_⟩:=d.2 z q;omega
 obtain ⟨k1,k2,k3,k4,k5,k6⟩:=hk;have hI:∀{x:Int},-1≤x∧x≤99999→InR x:=fun h=>⟨by omega,by omega⟩;refine ⟨⟨?_,k1,C,w,A⟩,by unfold szM;omega⟩;intro x f;simp only [List.mem_cons,List.not_mem_nil,or_false] at f;rcases f with rfl|rfl|rfl|rfl|rfl|rfl|rfl<;>exact hI (by omega)
def GE (t:ao):Prop:=szU t≤4000∧t.a_.length≤31∧InR t.m_∧∀y∈t.a_,Au y
theorem UM {s:ae} {t:ao} (a:wa s t):GE t:=by
 have d:=a.2.1;have e:=a.2.2.1
 have:=Gq (p:=t.a_) (f:=szM) (b:=100) fun y c=>by
  obtain ⟨i,hi,rfl⟩:=List.getElem_of_mem c;exact (JN a hi).2
 refine ⟨by unfold szU;omega,by omega,⟨by omega,by omega⟩,fun y c=>?_⟩;obtain ⟨i,hi,rfl⟩:=List.getElem_of_mem c;exact (JN a hi).1
theorem Un {t:ao} (h:Kv t):GE t:=by
 have e:=List.length_eq_zero_iff.1 h.1;refine ⟨by unfold szU;rw [e];simp,by rw [e];simp,⟨by have:=h.2;omega,by have:=h.2;omega⟩,fun y a=>?_⟩;rw [e] at a;cases a
def EQ (t:ao):List Int:=nt t.m_++nt t.a_.length++t.a_.flatMap yj
theorem Du {t:ao} (h:GE t):(EQ t).length≤22000:=by
 have h1:=dW t.m_;have c:=dW t.a_.length;have d:=Hi t.a_;have a:=h.1;have e:=h.2.1;unfold szU at a;unfold EQ;simp only [List.length_append];omega
theorem Fh (t:ao):dU (EQ t):=dI (dI (fT _) (fT _)) (vV fun x _=>Lv x)
theorem Jj {t:ao} (h:GE t):rN t=some (EQ t):=by
 rw [MC (by have:=h.1;omega),if_pos h.2.2];rfl
theorem JL {t:ao} (h:GE t) {l:List Int} (j:l.length≤1000000):ny ⟨l,false⟩ t=some ⟨l++EQ t,false⟩:=by
 have a:=Du h;have h1:=h.2.1;have m:=h.1;unfold EQ at a ⊢;simp only [List.length_append] at a;have d:InR (t.a_.length:Int):=Gn (by omega);have f:=om [t.m_,(t.a_.length:Int)];simp only [List.length_cons,List.length_nil] at f;unfold ny;rw [jw (by simp) _ _ (by omega)];simp only [bS];have e:(false||decide (¬ ∀x∈[t.m_,(t.a_.length:Int)],InR x))=false:=by simp [d,h.2.2.1]
 rw [e]
 refine (rv (M:=400000000) (p:=t.a_) (σ:=Bool) yj (fun q x=>q||decide (¬Au x)) (fR t) (fun l q=>some ⟨l,q⟩)
   (fun k l q=>by show (if _ then _ else _)=_;rw [if_neg (by simp)])
   (fun k l q i hi c=>by
    have g:=List.getElem_mem hi;exact Ir hi (by omega) (by have:=NP g;omega) c) (by omega) _ false (by simp only [List.length_append];omega)).trans ?_
 rw [Jx,decide_eq_false (show ¬ ¬_ from fun n=>n h.2.2.2)];simp [BG,DK]
def Pa (x:aw):Prop:=AV x.e_≤32∧∀r∈x.e_,rD r
theorem Wg {x:aw} (h:Gc x):Pa x:=by
 have c:∀r∈x.e_,rD r∧r.length≤3:=fun r a=>by
  obtain ⟨i,hi,rfl⟩:=List.getElem_of_mem a;obtain ⟨h1,d⟩:=h.2 i hi hi;have e:=h.1;have k:2^i≤2^8:=Nat.pow_le_pow_right (by omega) (by omega);exact ⟨AU fun z g=>by have:=d z g;omega,h1.2⟩
 have:=Gq (p:=x.e_) (f:=List.length) (b:=3) fun y j=>(c y j).2;have e:=h.1;exact ⟨by unfold AV;omega,fun r a=>(c r a).1⟩
def Nl (x:aw):List Int:=nt x.e_.length++x.e_.flatMap qg
theorem Lk {x:aw} (h:Pa x):(Nl x).length≤200:=by
 have h1:=dW x.e_.length;have a:=tw x.e_;have c:=h.1;unfold Nl;rw [List.length_append];omega
theorem GO (x:aw):dU (Nl x):=dI (fT _) (yu _)
theorem Lu {x:aw} (h:Pa x):pc x=some (Nl x):=by
 rw [Ix (by have:=h.1;omega),if_pos h.2];rfl
theorem LG {x:aw} (h:Pa x) {l:List Int} (a:l.length≤1000000):lJ ⟨l,false⟩ x=some ⟨l++Nl x,false⟩:=by
 have c:=h.1;have d:=@za x.e_;have e:=dW x.e_.length;unfold lJ;rw [yU (Gn (by omega)) _ _ (by omega)];simp only [bS];rw [Ck (p:=x.e_) (by omega) (lT x) _ (fun _ _ _ _=>rfl) _ _ (by simp only [List.length_append];omega),decide_eq_false (show ¬ ¬_ from fun n=>n h.2),List.append_assoc];rfl
end Go.Vk
/- The bytes of a state: alike. -/
namespace Go.Vk
def FP (m:aF):List Int:=EQ m.D_++nt (HP m.Q_)++EQ m.t_++Nl m.C_.w_++Nl m.C_.x_
def VP (m:aF):Prop:=GE m.D_∧GE m.t_∧Pa m.C_.w_∧Pa m.C_.x_
theorem WN {c:bh} {m:aF} (h:xl c m):VP m:=by
 obtain ⟨_,h1,a,e,f⟩:=h;refine ⟨UM h1.1,?_,Wg a.1,Wg a.2⟩
 cases d:m.Q_ with
 | true=>exact UM (e d).1
 | false=>exact Un (f d)
theorem SB {m:aF} (h:VP m):(FP m).length≤45000:=by
 have h1:=Du h.1;have a:=Du h.2.1;have c:=Lk h.2.2.1;have d:=Lk h.2.2.2;have e:=dW (HP m.Q_);unfold FP;simp only [List.length_append];omega
theorem NE (m:aF):dU (FP m):=dI (dI (dI (dI (Fh _) (fT _)) (Fh _)) (GO _)) (GO _)
def zD (p:aS):List Int:=nt p.Z_++nt p.aa_
def sT (st:aM):List Int:=[st.l_.k_.U_,st.l_.k_.T_,st.l_.k_.V_,st.l_.k_.r_,st.l_.k_.a_,st.l_.k_.K_,HP st.l_.k_.R_]
def uu (st:aM):List Int:=[st.l_.u_,st.l_.W_,st.l_.Y_,st.l_.w_,st.l_.x_]
def zC (st:aM):List Int:=[83,80,78,1]++Hq (xd st.l_.y_)
def Bk (st:aM):List Int:=st.N_.q_.flatMap qg++nt st.N_.s_.length++st.N_.s_.flatMap zD
structure StG (st:aM):Prop where
 head:(zC st).length≤3009
 numA:∀x∈sT st,InR x
 numC:∀x∈uu st,InR x
 mems:st.ab_.u_.length≤4
 mem:∀m∈st.ab_.u_,VP m
 rows:st.N_.q_.length≤3
 row:∀r∈st.N_.q_,rD r∧r.length≤3
 lasts:st.N_.s_.length≤20
 last:∀p∈st.N_.s_,InR p.Z_∧InR p.aa_
theorem stG {st:aM} (f:kK st) (h:wn st):StG st:=by
 obtain ⟨⟨g,A,j⟩,k⟩:=h;obtain ⟨h1,l,C,D,E,F,G,_⟩:=g;obtain ⟨o,H,q,e⟩:=k;obtain ⟨r1,L,M,P,Q,R⟩:=l;have X:=h1.1;have c:∀{x:Int},0≤x∧x≤99999→InR x:=fun h=>⟨by omega,by omega⟩;have d:=Kc st.l_.k_.R_;refine ⟨?_,?_,?_,by omega,fun m a=>WN (j m a),by omega,?_,?_,fun p s=>?_⟩
 ·have:=(Ji (EX f.1.1 h1).2.2).2.2;unfold zC;simp only [List.length_append,List.length_cons,List.length_nil];omega
 ·intro x a;simp only [sT,List.mem_cons,List.not_mem_nil,or_false] at a;rcases a with rfl|rfl|rfl|rfl|rfl|rfl|rfl
  all_goals first|exact d|exact c (by omega)
 ·intro x a;simp only [uu,List.mem_cons,List.not_mem_nil,or_false] at a;rcases a with rfl|rfl|rfl|rfl|rfl
  all_goals exact c (by omega)
 ·intro r t;obtain ⟨i,hi,rfl⟩:=List.getElem_of_mem t;obtain ⟨u,v⟩:=Kh hi (q i hi) o.2;exact ⟨AU fun z w=>by have:=v z w;omega,u⟩
 ·have:=e.2.1;split at this<;>omega
 obtain ⟨p1,p2⟩:=e.2.2 p s;exact ⟨c (by omega),c (by omega)⟩
theorem GL {α:Type} {p:List α} {B:α→List Int} {b:Nat} (h:∀x∈p,(B x).length≤b):(p.flatMap B).length≤b*p.length:=by
 rw [List.length_flatMap];exact Gq (f:=fun x=>(B x).length) h
theorem Ct {st:aM} (h:StG st):(st.ab_.u_.flatMap FP).length≤180000:=by
 have h1:=GL (p:=st.ab_.u_) (B:=FP) fun m a=>SB (h.mem m a);have c:=h.mems;omega
theorem MJ {st:aM} (h:StG st):(Bk st).length≤300:=by
 have h1:=GL (p:=st.N_.q_) (B:=qg) (b:=20) fun r a=>by
  have:=mX r;have:=(h.row r a).2;omega
 have c:=GL (p:=st.N_.s_) (B:=zD) (b:=10) fun p _=>by
  have h1:=dW p.Z_;have c:=dW p.aa_;unfold zD;rw [List.length_append];omega
 have d:=h.rows;have e:=h.lasts;have f:=dW st.N_.s_.length;unfold Bk;simp only [List.length_append];omega
theorem AO {st:aM} (h:StG st):(st.N_.s_.flatMap zD).length≤300∧(st.N_.q_.flatMap qg).length≤300:=by
 have:=MJ h;unfold Bk at this;simp only [List.length_append] at this;omega
theorem Na {n i:Nat} (h:i<n):decide ((i:Int)<(n:Int))=true:=by rw [decide_eq_true_iff];exact Int.ofNat_lt.2 h
theorem NL {n:Nat}:¬decide ((n:Int)<(n:Int))=true:=by simp
theorem Py {st:aM} (h:StG st) (l:List Int) (c:l.length≤400000) :
  lQ st bb 0 l=(nG (l++st.N_.s_.flatMap zD)).bind fun y=>(app (l++st.N_.s_.flatMap zD) y).bind fun z=>some z:=by
 have d:=(AO h).1;have e:=h.lasts
 exact rv (M:=1000000) (p:=st.N_.s_) (σ:=Unit) zD (fun _ _=>()) (fun k l _ i=>lQ st k i l) (fun l _=>(nG l).bind fun y=>(app l y).bind fun z=>some z)
  (fun k l _=>by
   show (if _ then _ else _)=_;rw [if_neg NL])
  (fun k l _ i hi a=>by
   show (if _ then _ else _)=_;unfold zD at a ⊢;rw [List.length_append] at a;rw [if_pos (Na hi),aH hi,ax (by omega)];simp only [bS];rw [fZ.1,fZ.1];simp only [bS];rw [bo (by omega)];simp only [bS];rw [bo (by rw [List.length_append];omega),List.append_assoc];rfl) (by omega) l () (by omega)
theorem Qq {st:aM} (h:StG st) (l:List Int) (f:l.length≤400000) :
  jP st bb 0 l false=(dX (l++st.N_.s_.flatMap zD)).bind fun y=>(app (l++st.N_.s_.flatMap zD) y).bind fun z=>some z:=by
 have g:=(AO h).1;have j:=h.lasts
 exact rv (M:=1000000) (p:=st.N_.s_) (σ:=Unit) zD (fun _ _=>()) (fun k l _ i=>jP st k i l false) (fun l _=>(dX l).bind fun y=>(app l y).bind fun z=>some z)
  (fun k l _=>by
   show (if _ then _ else _)=_;rw [if_neg NL])
  (fun k l _ i hi e=>by
   show (if _ then _ else _)=_;obtain ⟨a,c⟩:=h.last _ (List.getElem_mem hi);rw [if_pos (Na hi),aH hi,ax (by omega)];simp only [bS];have d:∀x∈[st.N_.s_[i].Z_,st.N_.s_[i].aa_],InR x:=by simp [a,c]
   rw [jw (by simp) _ _ (by omega),decide_eq_false (show ¬ ¬_ from fun n=>n d)];simp only [Option.bind_some,zD,BG,DK,List.append_nil];rfl) (by omega) l () (by omega)
theorem PS {st:aM} (h:StG st) (l:List Int) (d:l.length≤300000) :
  jL st bb l 0=(nG (l++Bk st)).bind fun y=>(app (l++Bk st) y).bind fun z=>some z:=by
 obtain ⟨e,f⟩:=AO h;have g:=h.rows;have j:=dW st.N_.s_.length
 refine (rv (M:=1000000) (p:=st.N_.q_) (σ:=Unit) qg (fun _ _=>()) (fun k l _ i=>jL st k l i) (fun l _=>(dY (st.N_.s_.length:Int)).bind fun y=>(app l y).bind fun l=>lQ st bb 0 l)
  (fun k l _=>by
   show (if _ then _ else _)=_;rw [if_neg NL])
  (fun k l _ i hi c=>by
   show (if _ then _ else _)=_;obtain ⟨a,m⟩:=h.row _ (List.getElem_mem hi);rw [if_pos (Na hi),aH hi,ax (by omega)];simp only [bS];rw [uw (by omega) a];simp only [bS];rw [bo (by omega)];rfl) (by omega) l () (by omega)).trans ?_
 rw [fZ.1];simp only [bS];rw [bo (by rw [List.length_append];omega)];simp only [bS];rw [Py h _ (by simp only [List.length_append];omega)];simp only [Bk,List.append_assoc]
theorem Qj {st:aM} (h:StG st) (l:List Int) (d:l.length≤300000) :
  iy st bb 0 l false=(dX (l++Bk st)).bind fun y=>(app (l++Bk st) y).bind fun z=>some z:=by
 obtain ⟨e,f⟩:=AO h;have g:=h.rows;have j:=h.lasts;have m:=dW st.N_.s_.length
 refine (rv (M:=1000000) (p:=st.N_.q_) (σ:=Unit) qg (fun _ _=>()) (fun k l _ i=>iy st k i l false) (fun l _=>(cx ⟨l,false⟩ [(st.N_.s_.length:Int)]).bind fun y=>jP st bb 0 y.ad_ y.L_)
  (fun k l _=>by
   show (if _ then _ else _)=_;rw [if_neg NL])
  (fun k l _ i hi c=>by
   show (if _ then _ else _)=_;obtain ⟨a,o⟩:=h.row _ (List.getElem_mem hi);rw [if_pos (Na hi),aH hi,ax (by omega)];simp only [bS];rw [rR (by omega) _ _ (by omega),decide_eq_false (show ¬ ¬_ from fun n=>n a)];rfl) (by omega) l () (by omega)).trans ?_
 rw [yU (Gn (by omega)) _ _ (by rw [List.length_append];omega)];simp only [bS];rw [Qq h _ (by simp only [List.length_append];omega)];simp only [Bk,List.append_assoc]
theorem Qa {st:aM} (h:StG st) (l:List Int) (g:l.length≤10000) :
  jX st bb l 0=jL st bb (l++st.ab_.u_.flatMap FP) 0:=by
 have h1:=h.mems;have j:=Ct h
 exact rv (M:=1000000) (p:=st.ab_.u_) (σ:=Unit) FP (fun _ _=>()) (fun k l _ i=>jX st k l i) (fun l _=>jL st bb l 0)
  (fun k l _=>by
   show (if _ then _ else _)=_;rw [if_neg NL])
  (fun k l _ i hi a=>by
   show (if _ then _ else _)=_;obtain ⟨c,d,e,f⟩:=h.mem _ (List.getElem_mem hi);rw [if_pos (Na hi),aH hi,ax (by omega)];generalize st.ab_.u_[i]=m at c d e f a;unfold FP at a ⊢;simp only [List.length_append] at a;simp only [bS];rw [Jj c,Jj d,Lu e,Lu f,(Dz _).1];simp only [bS];rw [fZ.1];simp only [bS];rw [bo (by omega)];simp only [bS];rw [bo (by simp only [List.length_append];omega)];simp only [bS];rw [bo (by simp only [List.length_append];omega)];simp only [bS];rw [bo (by simp only [List.length_append];omega)];simp only [bS];rw [bo (by simp only [List.length_append];omega)];simp only [Option.bind_some,List.append_assoc]) (by omega) l () (by omega)
theorem PG {st:aM} (h:StG st) (l:List Int) (g:l.length≤10000) :
  jN st bb l false 0=iy st bb 0 (l++st.ab_.u_.flatMap FP) false:=by
 have h1:=h.mems;have j:=Ct h
 exact rv (M:=1000000) (p:=st.ab_.u_) (σ:=Unit) FP (fun _ _=>()) (fun k l _ i=>jN st k l false i) (fun l _=>iy st bb 0 l false)
  (fun k l _=>by
   show (if _ then _ else _)=_;rw [if_neg NL])
  (fun k l _ i hi a=>by
   show (if _ then _ else _)=_;obtain ⟨c,d,e,f⟩:=h.mem _ (List.getElem_mem hi);rw [if_pos (Na hi),aH hi,ax (by omega)];generalize st.ab_.u_[i]=m at c d e f a;unfold FP at a ⊢;simp only [List.length_append] at a;simp only [bS];rw [JL c (by omega),(Dz _).2];simp only [bS];rw [yU (Kc _) _ _ (by simp only [List.length_append];omega)];simp only [bS];rw [JL d (by simp only [List.length_append];omega)];simp only [bS];rw [LG e (by simp only [List.length_append];omega)];simp only [bS];rw [LG f (by simp only [List.length_append];omega)];simp only [Option.bind_some,List.append_assoc]) (by omega) l () (by omega)
def lX (st:aM):List Int:=zC st++nU (sT st++uu st)++st.ab_.u_.flatMap FP++Bk st
theorem Cx {st:aM} (h:StG st):(lX st).length≤300000:=by
 have h1:=h.head;have a:=om (sT st++uu st);have d:=Ct h;have e:=MJ h;have c:(sT st++uu st).length=12:=rfl;unfold lX;simp only [List.length_append] at a c ⊢;omega
theorem ww (st:aM):dU (lX st):=by
 refine dI (dI (dI (dI ?_ (dI (BA _) (Qt _))) (Fp _)) (vV fun m _=>NE m)) (dI (dI (yu _) (fT _)) (vV fun p _=>dI (fT _) (fT _)));intro x a;simp only [List.mem_cons,List.not_mem_nil,or_false] at a;omega
theorem Tg {a:aM} (f:kK a) (g:wn a):∃s,nG (lX a)=some s∧dX (lX a)=some s∧s.length=4∧qP a=some (lX a++s)∧iu a=some (lX a++s):=by
 unfold qP iu;have e:=(AQ f).val g;have e':=(Jt f).val g;have c:=stG f g;obtain ⟨q,r,t⟩:=EX f.1.1 g.1.1.1;obtain ⟨x1,x2,_⟩:=Ji t;have v:=Cx c;obtain ⟨s,c1,c2,c3⟩:=Qv (ww a) (by omega);have j:=c.head;have w:=Ct c;have m:(sT a++uu a).length=12:=rfl;have h:=om (sT a++uu a);have x:=om (sT a);have A:(sT a).length=7:=rfl;rw [e,e',q,r];simp only [cS];rw [x1,x2,(Dz _).1,(Dz _).2,bo (xs:=[83,80,78]) (by simp)];simp only [bS];have o:app ([83,80,78,1]:List Int) (Hq (xd a.l_.y_))=some (zC a):=bo (by unfold zC at j;rw [List.length_append] at j;omega);have ha':app ([83,80,78]++[1]:List Int) (Hq (xd a.l_.y_))=some (zC a):=o;rw [o,ha'];simp only [bS];have d:app (lX a) s=some (lX a++s):=bo (by omega);refine ⟨s,c1,c2,c3,?_,?_⟩
 ·refine (rv (M:=1000000) (p:=sT a++uu a) (σ:=Unit) nt (fun _ _=>()) (fun k l _ i=>rg a (HP a.l_.k_.R_) k l i) (fun l _=>jX a bb l 0)
   (fun k l _=>by
    show (if decide (((sT a++uu a).length:Int)<((sT a++uu a).length:Int)) then _ else _)=_;rw [if_neg NL])
   (fun k l _ i hi u=>by
    show (if decide ((i:Int)<((sT a++uu a).length:Int)) then (idx (sT a++uu a) i).bind _ else _)=_;rw [if_pos (Na hi),aH hi,ax (by omega)];simp only [bS];rw [fZ.1];simp only [bS];rw [bo (by omega)];rfl) (by omega) (zC a) () (by unfold nU at h;omega)).trans ?_
  show jX a bb (zC a++nU (sT a++uu a)) 0=_;rw [Qa c _ (by rw [List.length_append];omega),PS c _ (by simp only [List.length_append] at h m ⊢;omega)];show (nG (lX a)).bind _=_;rw [c1];simp only [bS];show (app (lX a) s).bind _=_;rw [d];rfl
 show (cx ⟨zC a,false⟩ (sT a)).bind _=_;rw [jw (by omega) _ _ (by omega),decide_eq_false (show ¬ ¬_ from fun n=>n c.numA)];simp only [bS];show (cx ⟨_,false⟩ (uu a)).bind _=_;rw [jw (show (uu a).length≤1048576 by show 5≤1048576;omega) _ _ (by rw [List.length_append];omega),decide_eq_false (show ¬ ¬_ from fun n=>n c.numC)];simp only [bS]
 have eP:zC a++nU (sT a)++nU (uu a)=zC a++nU (sT a++uu a):=by
  rw [List.append_assoc];congr 1;exact List.flatMap_append.symm
 rw [eP];show jN a bb _ false 0=_;rw [PG c _ (by rw [List.length_append];omega),Qj c _ (by simp only [List.length_append] at h m ⊢;omega)];show (dX (lX a)).bind _=_;rw [c2];simp only [bS];show (app (lX a) s).bind _=_;rw [d];rfl
theorem Jw {a:aM} (c:kK a) (d:¬wn a):qP a=some []∧iu a=some []:=by
 unfold qP iu;rcases (AQ c).cases with ⟨_,h⟩|⟨e,_⟩
 ·exact absurd h d
 have e':sx a=some false:=by rw [(Jt c).eq (AQ c),e]
 rw [e,e'];exact ⟨rfl,rfl⟩
end Go.Vk
/- Numbers read from bytes; readers. -/
namespace Go.Vk
theorem Li (x:Int) {y:Int} (h:0≤y):shl .i64 x y=some (Nd .i64 x y):=by
 unfold shl;rw [if_neg (by omega)]
def KW (p:List Int) (a:Int) (r:Int×Int×Bool):Prop:=(r.2.2=true∧0≤a∧a<r.2.1∧r.2.1≤p.length)∨r=(0,0,false)
theorem SP {p:List Int} {a:Int} (hb:dU p) (hp:p.length≤1048576) (e:0≤a) (h1:a≤9223372036854775807):∀(d k i:Nat) (x:Int),5-i=d→d<k→i≤5 →
  ∃r,jd a p k x (i:Int)=some r∧ng a p k x (i:Int)=some r∧KW p a r:=by
 intro d
 induction d with
 | zero =>
  intro k i x f hk hi;obtain ⟨k,rfl⟩:=kS k (by omega);unfold jd ng;rw [if_neg (by simp;omega),if_neg (by simp;omega)];exact ⟨_,rfl,rfl,.inr rfl⟩
 | succ d ih =>
  intro k i x f hk hi;obtain ⟨k,rfl⟩:=kS k (by omega);unfold jd ng;rw [if_pos (by simp;omega)];have g:IntKind.i64.wrap ((p.length:Int)-(i:Int))=(p.length:Int)-i:=aR (by omega) (by omega);rw [g];by_cases q:a+i<p.length
  ·have h:IntKind.i64.wrap (a+(i:Int))=a+i:=aR (by omega) (by omega);rw [h,if_neg (by simp;omega),if_pos (by simp;omega)];obtain ⟨j,l⟩:∃j:Nat,a+(i:Int)=(j:Int):=⟨(a+i).toNat,by omega⟩;rw [l,aH (show j<p.length by omega)];simp only [bS];obtain ⟨n,m,o⟩:=DE hb (show j<p.length by omega);rw [m,gh (n:=n) (by omega),Sv n (by omega),show Int.tmod (n:Int) 128=((n%128:Nat):Int) from pD n 128,Li _ (show 0≤IntKind.i64.wrap (7*(i:Int)) by rw [aR (by omega) (by omega)];omega)];simp only [bS];by_cases s:n<128
   ·rw [if_pos (c:=decide ((n:Int)<128)=true) (by simp;omega),if_neg (c:=decide ((n:Int)≥128)=true) (by simp;omega),Bool.and_comm (decide ((i:Int)>0))];generalize ((((n:Int)==0)&&decide ((i:Int)>0))||decide (fv .or .i64 x (Nd .i64 ((n%128:Nat):Int) (IntKind.i64.wrap (7*(i:Int))))>2147483647))=b;cases b
    ·refine ⟨_,rfl,rfl,.inl ⟨rfl,e,?_,?_⟩⟩
     ·show a<IntKind.i64.wrap ((j:Int)+1);rw [aR (by omega) (by omega)];omega
     show IntKind.i64.wrap ((j:Int)+1)≤_;rw [aR (by omega) (by omega)];omega
    exact ⟨_,rfl,rfl,.inr rfl⟩
   rw [if_neg (c:=decide ((n:Int)<128)=true) (by simp;omega),if_pos (c:=decide ((n:Int)≥128)=true) (by simp;omega),ax (by omega)];exact ih k (i+1) _ (by omega) (by omega) (by omega)
  rw [if_pos (by simp;omega),if_neg ?_]
  ·exact ⟨_,rfl,rfl,.inr rfl⟩
  rw [IntKind.wrap_i64];simp only [Bool.and_eq_true,decide_eq_true_eq,not_and];omega
theorem ET {p:List Int} {a:Int} (hb:dU p) (hp:p.length≤1048576) (d:I64 a):∃r,xn p a=some r∧uq p a=some r∧KW p a r:=by
 unfold xn uq;by_cases c:a<0
 ·rw [if_pos (by simpa using c)];refine ⟨_,?_,rfl,.inr rfl⟩;obtain ⟨k,hk⟩:∃k,bb=k+1:=⟨bb-1,by have:=cN (n:=1) (by omega);omega⟩;rw [hk];unfold jd;rw [if_pos (by simp),if_pos (by simp [c])]
 rw [if_neg (by simpa using c)];exact SP hb hp (by omega) d.2 5 bb 0 0 (by omega) (cN (by omega)) (by omega)
theorem MG {p:List Int} {a:Int} (hb:dU p) (hp:p.length≤1048576) (e:I64 a):∃r,um p a=some r∧rr p a=some r∧KW p a r∧InR r.1:=by
 unfold um rr;obtain ⟨r,f,g,h⟩:=ET hb hp e;rw [f,g];simp only [bS]
 have d:∀z,∃q,(if (!r.2.2)=true then some (0,0,false) else sG r z)=some q∧ni r z=some q∧KW p a q∧InR q.1:=by
  intro z;unfold sG ni aV bf;simp only [bS];rcases h with ⟨h1,i,j,k⟩|rfl
  ·rw [h1];simp only [Bool.not_true,Bool.false_eq_true,if_false];by_cases c:InR z
   ·rw [qq c];exact ⟨_,rfl,rfl,.inl ⟨rfl,i,j,k⟩,c⟩
   rw [ra c];exact ⟨_,rfl,rfl,.inr rfl,by decide⟩
  exact ⟨_,rfl,rfl,.inr rfl,by decide⟩
 obtain ⟨q1,l,m,o⟩:=d (IntKind.i64.wrap ((IntKind.i64.wrap (0-(IntKind.i64.wrap (Int.tdiv r.1 2))))-1));obtain ⟨s,t,u,v⟩:=d (IntKind.i64.wrap (Int.tdiv r.1 2));cases w:(Int.tmod r.1 2==1)
 ·refine ⟨s,?_,by simpa using u,v⟩;rw [←t];cases r.2.2<;>simp
 refine ⟨q1,?_,by simpa using m,o⟩;rw [←l];cases r.2.2<;>simp
abbrev Pz (α:Type):=Int→Option (α×Int)
def Pz.many {α:Type} (P:Pz α):Nat→Pz (List α)
 | 0,a=>some ([],a)
 | n+1,a=>(P a).bind fun y=>(many P n y.2).bind fun z=>some (y.1::z.1,z.2)
def Pz.map {α β:Type} (f:α→β) (P:Pz α):Pz β:=fun a=>(P a).map fun y=>(f y.1,y.2)
def yP {α:Type} (p:List Int) (P:Pz α) (sz:α→Nat):Prop:=∀a v b,I64 a→P a=some (v,b)→0≤a∧a+sz v≤b∧b≤p.length∧1≤sz v
def wJ {α:Type} (op:aq→Option (α×aq)) (P:Pz α):Prop :=
 (∀a,∃v a',op ⟨a,true⟩=some (v,⟨a',true⟩))∧∀a,I64 a→(∀v b,P a=some (v,b)→op ⟨a,false⟩=some (v,⟨b,false⟩))∧(P a=none→∃v a',op ⟨a,false⟩=some (v,⟨a',true⟩))
theorem yP.i64 {α:Type} {p:List Int} {P:Pz α} {sz:α→Nat} (h:yP p P sz) (hp:p.length≤1048576) {a b:Int} {v:α} (c:I64 a) (e:P a=some (v,b)):I64 b:=by
 obtain ⟨h1,d,f,_⟩:=h a v b c e;exact ⟨by omega,by omega⟩
theorem AC {α:Type} {p:List Int} {P:Pz α} {sz:α→Nat} (h:yP p P sz) (hp:p.length≤1048576):∀(n:Nat) (a:Int) (vs:List α) (b:Int),0≤a→a≤p.length→P.many n a=some (vs,b)→a+(vs.map sz).sum≤b∧b≤p.length∧vs.length=n∧n≤(vs.map sz).sum:=by
 intro n
 induction n with
 | zero =>
  intro a vs b f h1 e;obtain ⟨rfl,rfl⟩:=Prod.mk.inj (Option.some.inj e);exact ⟨by simp,h1,rfl,Nat.zero_le _⟩
 | succ n ih =>
  intro a vs b f h1 e;unfold Pz.many at e
  cases c:P a with
  | none=>rw [c] at e;simp at e
  | some y =>
   rw [c] at e;simp only [bS] at e
   cases d:P.many n y.2 with
   | none=>rw [d] at e;simp at e
   | some z =>
    rw [d] at e;obtain ⟨rfl,rfl⟩:=Prod.mk.inj (Option.some.inj e);obtain ⟨j,k,g,l⟩:=h a y.1 y.2 ⟨by omega,by omega⟩ c;obtain ⟨m,i,o,q⟩:=ih y.2 z.1 z.2 (by omega) g d;simp only [List.map_cons,List.sum_cons,List.length_cons];exact ⟨by omega,i,by omega,by omega⟩
noncomputable def gI (p:List Int):Pz Int:=fun a=>match um p a with
 | some (v,b,true)=>some (v,b)
 | _=>none
section
variable {p:List Int} (hb:dU p) (hp:p.length≤1048576)
include hb hp
theorem Id {a:Int} (d:I64 a):(∃v b,gI p a=some (v,b)∧um p a=some (v,b,true)∧rr p a=some (v,b,true)∧0≤a∧a<b∧b≤p.length∧InR v)∨(gI p a=none∧um p a=some (0,0,false)∧rr p a=some (0,0,false)):=by
 obtain ⟨⟨v,b,q⟩,h1,c,h3,e⟩:=MG hb hp d;unfold gI;rcases h3 with ⟨f,g,h,i⟩|h3
 ·obtain rfl:q=true:=f;exact .inl ⟨v,b,by rw [h1],h1,c,g,h,i,e⟩
 rw [h3] at h1 c;exact .inr ⟨by rw [h1],h1,c⟩
theorem SG {a:Int} (c:I64 a) {v b:Int} (h:gI p a=some (v,b)):InR v:=by
 rcases Id hb hp c with ⟨v',b',h1,_,_,_,_,_,d⟩|⟨h1,_⟩
 ·rw [h] at h1;obtain ⟨rfl,rfl⟩:=Prod.mk.inj (Option.some.inj h1);exact d
 rw [h] at h1;simp at h1
omit hb hp in
theorem Js (a:Int):aW p ⟨a,true⟩=some (0,⟨a,true⟩):=rfl
theorem EZ:wJ (aW p) (gI p):=⟨fun a=>⟨_,_,rfl⟩,fun a d=>by
 unfold aW;simp only [Bool.false_eq_true,if_false];rcases Id hb hp d with ⟨v,b,h1,_,c,_⟩|⟨h1,_,c⟩<;>rw [h1,c]
 ·refine ⟨fun v' b' e=>?_,fun e=>by simp at e⟩;obtain ⟨rfl,rfl⟩:=Prod.mk.inj (Option.some.inj e);rfl
 exact ⟨fun v' b' e=>by simp at e,fun _=>⟨_,_,rfl⟩⟩⟩
end
theorem mx {p:List Int} (hb:dU p) (hp:p.length≤1048576):yP p (gI p) (fun _=>1):=fun a v b c h=>by
 rcases Id hb hp c with ⟨v',b',h1,_,_,d,f,e,_⟩|⟨h1,_⟩
 ·rw [h] at h1;obtain ⟨rfl,rfl⟩:=Prod.mk.inj (Option.some.inj h1);exact ⟨d,by show a+((1:Nat):Int)≤b;omega,e,Nat.le_refl _⟩
 rw [h] at h1;simp at h1
theorem Dh {α ρ:Type} {op:aq→Option (α×aq)}
  {Lp:Nat→Int→Bool→List α→Int→Option ρ} {fin:List α→aq→Option ρ}
  (step:∀k a q l n,Lp (k+1) a q l n=if (decide (n>0)) && !q then (op ⟨a,q⟩).bind fun y=>(app l [y.1]).bind fun l'=>Lp k y.2.b_ y.2.L_ l' (IntKind.i64.wrap (n-1)) else fin l ⟨a,q⟩)
  {k:Nat} (hk:0<k) (a:Int) (l:List α) (n:Int):Lp k a true l n=fin l ⟨a,true⟩:=by
 obtain ⟨k,rfl⟩:=kS k (by omega);rw [step,if_neg (by simp)]
theorem OJ {α ρ:Type} {op:aq→Option (α×aq)} {P:Pz α} {sz:α→Nat} {p:List Int} (i:wJ op P) (m:yP p P sz) (hp:p.length≤1048576)
  (Lp:Nat→Int→Bool→List α→Int→Option ρ) (fin:List α→aq→Option ρ)
  (step:∀k a q l n,Lp (k+1) a q l n=if (decide (n>0)) && !q then (op ⟨a,q⟩).bind fun y=>(app l [y.1]).bind fun l'=>Lp k y.2.b_ y.2.L_ l' (IntKind.i64.wrap (n-1)) else fin l ⟨a,q⟩) :
  ∀(d k:Nat) (n a:Int) (l:List α),n.toNat=d→d+1<k→n≤1000000000→0≤n→l.length+d≤1000000000→I64 a →
   (∀vs c,P.many d a=some (vs,c)→Lp k a false l n=fin (l++vs) ⟨c,false⟩)∧(P.many d a=none→∃l' a',Lp k a false l n=fin l' ⟨a',true⟩):=by
 intro d
 induction d with
 | zero =>
  intro k n a l o hk r j s g;obtain ⟨k,rfl⟩:=kS k (by omega);rw [step,if_neg (by simp;omega)];refine ⟨fun vs c e=>?_,fun e=>by simp [Pz.many] at e⟩;obtain ⟨rfl,rfl⟩:=Prod.mk.inj (Option.some.inj e);simp
 | succ d ih =>
  intro k n a l o hk r j s g;obtain ⟨k,rfl⟩:=kS k (by omega);rw [step,if_pos (by simp;omega)];unfold Pz.many
  cases h:P a with
  | none =>
   refine ⟨fun vs c e=>by simp at e,fun _=>?_⟩;obtain ⟨v,a',e⟩:=(i.2 a g).2 h;rw [e];simp only [bS];rw [bo (by simp;omega)];simp only [bS];exact ⟨_,_,Dh step (by omega) _ _ _⟩
  | some y =>
   obtain ⟨v,b⟩:=y;rw [(i.2 a g).1 v b h];simp only [bS];rw [bo (by simp;omega)];simp only [bS];rw [aR (by omega) (by omega)];obtain ⟨t,u⟩:=ih k (n-1) b (l++[v]) (by omega) (by omega) (by omega) (by omega) (by simp;omega) (m.i64 hp g h);refine ⟨fun vs c e=>?_,fun e=>?_⟩
   ·cases f:P.many d b with
    | none=>rw [f] at e;simp at e
    | some q =>
     rw [f] at e;obtain ⟨rfl,rfl⟩:=Prod.mk.inj (Option.some.inj e);rw [t q.1 q.2 f];simp
   cases f:P.many d b with
   | none=>exact u f
   | some q=>rw [f] at e;simp at e
noncomputable def cIr (p:List Int):Pz Int:=fun a=>(gI p a).bind fun y=>if y.1<0∨(p.length:Int)-y.2<y.1 then none else some y
noncomputable def fc {α:Type} (p:List Int) (P:Pz α):Pz (List α):=fun a=>(gI p a).bind fun y=>if y.1<0 then none else P.many y.1.toNat y.2
section
variable {p:List Int} (hb:dU p) (hp:p.length≤1048576)
include hb hp
omit hb hp in
theorem LN {a n b:Int} (h:cIr p a=some (n,b)):gI p a=some (n,b)∧0≤n∧n≤p.length-b:=by
 unfold cIr at h
 cases c:gI p a with
 | none=>rw [c] at h;simp at h
 | some y =>
  rw [c] at h;simp only [bS] at h;split at h
  ·simp at h
  rename_i d;obtain rfl:=Option.some.inj h;exact ⟨rfl,by omega,by omega⟩
theorem OK {α:Type} {P:Pz α} {sz:α→Nat} (c:yP p P sz) {a:Int} (d:I64 a):fc p P a=(cIr p a).bind fun y=>P.many y.1.toNat y.2:=by
 unfold fc cIr
 cases h:gI p a with
 | none=>rfl
 | some y =>
  obtain ⟨i,j,e,_⟩:=mx hb hp a y.1 y.2 d h;simp only [bS];by_cases h1:y.1<0
  ·rw [if_pos h1,if_pos (.inl h1)];rfl
  rw [if_neg h1];by_cases f:(p.length:Int)-y.2<y.1
  ·rw [if_pos (.inr f)]
   cases g:P.many y.1.toNat y.2 with
   | none=>rfl
   | some q =>
    obtain ⟨k,l,m,o⟩:=AC c hp _ _ q.1 q.2 (by omega) e g;exfalso;omega
  rw [if_neg (by omega)];rfl
theorem EI {α:Type} {P:Pz α} {sz:α→Nat} (d:yP p P sz):yP p (fc p P) (fun vs=>1+(vs.map sz).sum):=fun a vs b e h=>by
 unfold fc at h
 cases c:gI p a with
 | none=>rw [c] at h;simp at h
 | some y =>
  rw [c] at h;simp only [bS] at h;obtain ⟨f,g,i,_⟩:=mx hb hp a y.1 y.2 e c;have g2':a+((1:Nat):Int)≤y.2:=g;split at h
  ·simp at h
  obtain ⟨k,j,l,m⟩:=AC d hp _ _ vs b (by omega) i h;exact ⟨f,by show a+((1+(vs.map sz).sum:Nat):Int)≤b;omega,j,by show 1≤1+(vs.map sz).sum;omega⟩
theorem Cd:wJ (cU p) (cIr p):=⟨fun a=>by
 unfold cU;rw [Js];simp only [bS]
 split<;>exact ⟨_,_,rfl⟩,fun a c=>by
 unfold cU cIr;have d:=(EZ hb hp).2 a c
 cases h:gI p a with
 | none =>
  obtain ⟨v,a',e⟩:=d.2 h;rw [e];simp only [bS];refine ⟨fun v b e=>by simp at e,fun _=>?_⟩;split<;>exact ⟨_,_,rfl⟩
 | some y =>
  obtain ⟨n,b⟩:=y;obtain ⟨g,i,j,_⟩:=mx hb hp a n b c h;rw [d.1 n b h];simp only [bS];rw [aR (n:=(p.length:Int)-b) (by omega) (by omega)];by_cases f:n<0∨(p.length:Int)-b<n
  ·rw [if_pos f];exact ⟨fun v b e=>by simp at e,fun _=>⟨0,b,if_pos (by simp;omega)⟩⟩
  rw [if_neg f,if_neg (by simp;omega)];refine ⟨fun v' b' e=>?_,fun e=>by simp at e⟩;obtain ⟨rfl,rfl⟩:=Prod.mk.inj (Option.some.inj e);rfl⟩
end
end Go.Vk
/- Lists and lists of lists, read. -/
namespace Go.Vk
theorem Pz.map_some {α β:Type} {f:α→β} {P:Pz α} {a b:Int} {v:α} (h:P a=some (v,b)):Pz.map f P a=some (f v,b):=by unfold Pz.map;rw [h];rfl
theorem Pz.map_none {α β:Type} {f:α→β} {P:Pz α} {a:Int} (h:P a=none):Pz.map f P a=none:=by unfold Pz.map;rw [h];rfl
theorem Pz.map_id {α:Type} {P:Pz α}:Pz.map id P=P:=by funext a;unfold Pz.map;cases P a<;>rfl
section
variable {p:List Int} (hb:dU p) (hp:p.length≤1048576)
include hb hp
theorem Kb {α β:Type} {op:aq→Option (α×aq)} {P:Pz α} {sz:α→Nat} (m:wJ op P) (i:yP p P sz) (mk:List α→β) {big:aq→Option (β×aq)}
  (Lp:Nat→Int→Bool→List α→Int→Option (β×aq))
  (d:∀s,big s=(cU p s).bind fun y=>Lp bb y.2.b_ y.2.L_ [] y.1)
  (step:∀k a q l n,Lp (k+1) a q l n=if (decide (n>0)) && !q then (op ⟨a,q⟩).bind fun y=>(app l [y.1]).bind fun l'=>Lp k y.2.b_ y.2.L_ l' (IntKind.i64.wrap (n-1)) else some (mk l,⟨a,q⟩)) :
  wJ big (Pz.map mk (fc p P)):=⟨fun a=>by
 obtain ⟨v,a',e⟩:=(Cd hb hp).1 a;rw [d,e];simp only [bS]
 exact ⟨_,_,Dh (Lp:=Lp) (fin:=fun l s=>some (mk l,s)) step (cN (by omega)) _ _ _⟩,fun a f=>by
 rw [d];have j:=(Cd hb hp).2 a f;have c:=OK hb hp i f
 cases h:cIr p a with
 | none =>
  rw [h] at c;rw [Pz.map_none (by rw [c];rfl)];obtain ⟨v,a',e⟩:=j.2 h;rw [e];simp only [bS];exact ⟨fun v b e=>by simp at e,fun _=>⟨_,_,Dh (Lp:=Lp) (fin:=fun l s=>some (mk l,s)) step (cN (by omega)) _ _ _⟩⟩
 | some y =>
  obtain ⟨n,b⟩:=y;rw [h] at c;rw [j.1 n b h];simp only [bS];obtain ⟨h1,o,u⟩:=LN h;obtain ⟨w,x,A,_⟩:=mx hb hp a n b f h1;have hi:=SG hb hp f h1;obtain ⟨r,t⟩:=OJ m i hp Lp (fun l s=>some (mk l,s)) step n.toNat bb n b [] rfl (cN (by have:=hi.2;omega)) hi.2 o (by have:=hi.2;simp;omega) (mx hb hp |>.i64 hp f h1);simp only [bS] at c
  cases g:P.many n.toNat b with
  | none =>
   rw [Pz.map_none (by rw [c,g])];obtain ⟨l',a',e⟩:=t g;exact ⟨fun v b e=>by simp at e,fun _=>⟨_,_,e⟩⟩
  | some z =>
   rw [Pz.map_some (by rw [c,g])];refine ⟨fun v b e=>?_,fun e=>by simp at e⟩;obtain ⟨rfl,rfl⟩:=Prod.mk.inj (Option.some.inj e);exact r z.1 z.2 g⟩
theorem we:yP p (fc p (gI p)) (fun vs=>1+vs.length):=by
 have:=EI hb hp (mx hb hp);simpa only [SF] using this
theorem GI:wJ (dN p) (fc p (gI p)):=by
 have:=Kb hb hp (EZ hb hp) (mx hb hp) id (big:=dN p) (mU p) (fun _=>rfl) (fun _ _ _ _ _=>rfl);rwa [Pz.map_id] at this
theorem EU:yP p (fc p (fc p (gI p))) (fun vs=>1+(vs.map fun v=>1+v.length).sum):=EI hb hp (we hb hp)
theorem BB:wJ (fp p) (Pz.map aw.mk (fc p (fc p (gI p)))) :=
 Kb hb hp (GI hb hp) (we hb hp) aw.mk (big:=fp p) (gY p) (fun _=>rfl) (fun _ _ _ _ _=>rfl)
end
theorem Tn {p:List Int} (h:∀x∈p,Lz .u8 x):dU p:=fun x a=>by
 have:=h x a;simp [Lz,Lit.wf,IntKind.min,IntKind.max,IntKind.signed,IntKind.bits] at this;exact ⟨by omega,by omega⟩
end Go.Vk
/- Trees, read. -/
namespace Go.Vk
def Pz.bind {α β:Type} (P:Pz α) (Q:α→Pz β):Pz β:=fun a=>(P a).bind fun y=>Q y.1 y.2
section
variable {p:List Int} (hb:dU p) (hp:p.length≤1048576)
include hb hp
end
noncomputable def Bn (p:List Int):Pz Bool:=fun a=>(gI p a).bind fun y=>if y.1≠0∧y.1≠1 then none else some (y.1==1,y.2)
noncomputable def GK (p:List Int):Pz aA :=
 Pz.bind (Bn p) fun v0=>Pz.bind (gI p) fun e=>Pz.bind (gI p) fun f=>Pz.bind (fc p (gI p)) fun g=>Pz.bind (gI p) fun h=>Pz.bind (fc p (gI p)) fun i =>
 Pz.bind (Pz.map aw.mk (fc p (fc p (gI p)))) fun j=>Pz.bind (gI p) fun k=>Pz.bind (fc p (gI p)) fun l=>Pz.bind (gI p) fun m=>Pz.bind (gI p) fun c=>Pz.bind (gI p) fun d =>
 fun a=>some (⟨v0,⟨e,f⟩,g,h,⟨i,j.e_⟩,k,l,m,c,d⟩,a)
theorem Wc {α β:Type} (x:α) (f:α→Option β):(some x).bind f=f x:=rfl
theorem dd {α β:Type} {o:Option α} {f:α→Option β} {b:β} (h:o.bind f=some b):∃a,o=some a∧f a=some b:=by
 cases o with
 | none=>cases h
 | some a=>exact ⟨a,rfl,h⟩
theorem Hl {p:List Int} (hb:dU p) (hp:p.length≤1048576):yP p (GK p) (fun x=>1+szM x):=fun a v b c h=>by
 unfold GK Pz.bind Bn Pz.map at h;have gg:=mx hb hp;have gl:=we hb hp;have gL:=EU hb hp;have ig:=fun {a b:Int} {v:Int} (c:I64 a) (e:gI p a=some (v,b))=>gg.i64 hp c e;obtain ⟨z0,e0',h⟩:=dd h;obtain ⟨y0,f,e0'⟩:=dd e0';split at e0'
 ·cases e0'
 obtain rfl:=Option.some.inj e0';obtain ⟨y1,g,h⟩:=dd h;obtain ⟨y2,i,h⟩:=dd h;obtain ⟨y3,j,h⟩:=dd h;obtain ⟨y4,k,h⟩:=dd h;obtain ⟨y5,l,h⟩:=dd h;obtain ⟨z6,e6',h⟩:=dd h;obtain ⟨R,m,e6'⟩:=Option.map_eq_some_iff.1 e6';obtain rfl:=e6';obtain ⟨y7,o,h⟩:=dd h;obtain ⟨y8,e8,h⟩:=dd h;obtain ⟨y9,q,h⟩:=dd h;obtain ⟨d9,d,h⟩:=dd h;obtain ⟨f0,r,h⟩:=dd h;obtain ⟨rfl,rfl⟩:=Prod.mk.inj (Option.some.inj h);obtain ⟨X,Z,c0,_⟩:=gg _ _ _ c f;have s:=gg.i64 hp c f;obtain ⟨a1,b1,c1,_⟩:=gg _ _ _ s g;have t:=gg.i64 hp s g;obtain ⟨a2,b2,c2,_⟩:=gg _ _ _ t i;have u:=gg.i64 hp t i;obtain ⟨a3,b3,c3,_⟩:=gl _ _ _ u j;have w:=gl.i64 hp u j;obtain ⟨a4,b4,c4,_⟩:=gg _ _ _ w k;have A:=gg.i64 hp w k;obtain ⟨a5,b5,c5,_⟩:=gl _ _ _ A l;have C:=gl.i64 hp A l;obtain ⟨a6,D,c6,_⟩:=gL _ _ _ C m;have E:=gL.i64 hp C m;obtain ⟨a7,b7,c7,_⟩:=gg _ _ _ E o;have F:=gg.i64 hp E o;obtain ⟨a8,b8,c8,_⟩:=gl _ _ _ F e8;have G:=gl.i64 hp F e8;obtain ⟨a9,b9,c9,_⟩:=gg _ _ _ G q;have H:=gg.i64 hp G q;obtain ⟨f1,L,f2,_⟩:=gg _ _ _ H d;have M:=gg.i64 hp H d;obtain ⟨f3,P,Q,_⟩:=gg _ _ _ M r;have hs:=RT (p:=R.1);unfold szM;simp only at Z b1 b2 b3 b4 b5 D b7 b8 b9 L P ⊢;rw [hs] at D;exact ⟨X,by omega,Q,by omega⟩
def rb {α β:Type} (op:aq→Option (α×aq)) (opk:α→aq→Option (β×aq)):aq→Option (β×aq):=fun st=>(op st).bind fun y=>opk y.1 y.2
theorem sO {α β:Type} {op:aq→Option (α×aq)} {opk:α→aq→Option (β×aq)} {P:Pz α} {Q:α→Pz β} (h1:wJ op P) (hi:∀a v b,I64 a→P a=some (v,b)→I64 b) (c:∀v,wJ (opk v) (Q v)):wJ (rb op opk) (Pz.bind P Q):=⟨fun a=>by
 obtain ⟨v,a',e⟩:=h1.1 a;unfold rb;rw [e]
 exact (c v).1 a',fun a d=>by
 unfold rb Pz.bind
 cases h:P a with
 | none =>
  obtain ⟨v,a',e⟩:=(h1.2 a d).2 h;rw [e];exact ⟨fun v b e=>(by cases e),fun _=>(c v).1 a'⟩
 | some y =>
  obtain ⟨v,b⟩:=y;rw [(h1.2 a d).1 v b h];exact (c v).2 b (hi a v b d h)⟩
theorem Ky {α:Type} (v:α):wJ (fun st=>some (v,st)) (fun a=>some (v,a)):=⟨fun a=>⟨_,_,rfl⟩,fun a _=>⟨fun v' b e=>by
 obtain ⟨rfl,rfl⟩:=Prod.mk.inj (Option.some.inj e);rfl,fun e=>(by cases e)⟩⟩
section
variable {p:List Int} (hb:dU p) (hp:p.length≤1048576)
include hb hp
theorem KF:wJ (gG p) (Bn p):=⟨fun a=>⟨_,_,rfl⟩,fun a f=>by
 unfold gG Bn;have d:=(EZ hb hp).2 a f
 cases h:gI p a with
 | none =>
  obtain ⟨v,a',e⟩:=d.2 h;rw [e];exact ⟨fun v b e=>(by cases e),fun _=>⟨_,_,rfl⟩⟩
 | some y =>
  obtain ⟨n,b⟩:=y;rw [d.1 n b h];simp only [Option.bind_some,Bool.false_or];by_cases c:n≠0∧n≠1
  ·rw [if_pos c,show ((n != 0)&&(n != 1))=true by simp;exact c];exact ⟨fun v b e=>(by cases e),fun _=>⟨_,_,rfl⟩⟩
  rw [if_neg c,show ((n != 0)&&(n != 1))=false by simp;omega]
  exact ⟨fun v b e=>by
   obtain ⟨rfl,rfl⟩:=Prod.mk.inj (Option.some.inj e);rfl,fun e=>(by cases e)⟩⟩
end
noncomputable def Nb (p:List Int):aq→Option (aA×aq) :=
 rb (gG p) fun v0=>rb (aW p) fun d=>rb (aW p) fun e=>rb (dN p) fun f=>rb (aW p) fun g=>rb (dN p) fun h =>
 rb (fp p) fun i=>rb (aW p) fun j=>rb (dN p) fun k=>rb (aW p) fun l=>rb (aW p) fun a=>rb (aW p) fun c =>
 fun st=>some (⟨v0,⟨d,e⟩,f,g,⟨h,i.e_⟩,j,k,l,a,c⟩,st)
section
variable {p:List Int} (hb:dU p) (hp:p.length≤1048576)
include hb hp
theorem Uw:wJ (Nb p) (GK p):=by
 have gg:∀a v b,I64 a→gI p a=some (v,b)→I64 b:=fun a v b c e=>(mx hb hp).i64 hp c e;have gl:∀a v b,I64 a→fc p (gI p) a=some (v,b)→I64 b:=fun a v b c e=>(we hb hp).i64 hp c e
 have gf:∀a v b,I64 a→Bn p a=some (v,b)→I64 b:=fun a v b c e=>by
  unfold Bn at e;obtain ⟨y,f,d⟩:=dd e;split at d
  ·cases d
  obtain ⟨rfl,rfl⟩:=Prod.mk.inj (Option.some.inj d);exact gg _ _ _ c f
 have gw:∀a v b,I64 a→Pz.map aw.mk (fc p (fc p (gI p))) a=some (v,b)→I64 b:=fun a v b c e=>by
  obtain ⟨y,f,d⟩:=Option.map_eq_some_iff.1 e;obtain ⟨rfl,rfl⟩:=Prod.mk.inj d;exact (EU hb hp).i64 hp c f
 have ri:=EZ hb hp;have rl:=GI hb hp;exact sO (KF hb hp) gf fun _=>sO ri gg fun _=>sO ri gg fun _=>sO rl gl fun _=>sO ri gg fun _=>sO rl gl fun _=>sO (BB hb hp) gw fun _=>sO ri gg fun _=>sO rl gl fun _=>sO ri gg fun _=>sO ri gg fun _=>sO ri gg fun _=>Ky _
end
theorem Tz (p:List Int) (d:List aA) (e:Bool×aq) (f g:Int×aq) (h:(List Int)×aq) (i:Int×aq) (j:(List Int)×aq) (v:Int→Bool→(List aA)→Int→Option (ao×aq)) (m:Int) :
  ∀(k:Nat) (a:Int) (q:Bool) (l:List (List Int)) (n:Int),kV p d e f g h i j v m k a q l n =
   (gY p k a q l n).bind fun w=>(aW p w.2).bind fun o=>(dN p o.2).bind fun r=>(aW p r.2).bind fun s=>(aW p s.2).bind fun t=>(aW p t.2).bind fun c=>(app d [(aA.mk e.1 (aB.mk f.1 g.1) h.1 i.1 (aE.mk j.1 w.1.e_) o.1 r.1 s.1 t.1 c.1)]).bind fun u=>v c.2.b_ c.2.L_ u (IntKind.i64.wrap (m-1)):=by
 intro k
 induction k with
 | zero=>intro a q l n;rfl
 | succ k ih =>
  intro a q l n;unfold kV gY;split
  ·cases dN p ⟨a,q⟩ with
   | none=>rfl
   | some y =>
    simp only [bS]
    cases app l [y.1] with
    | none=>rfl
    | some l' =>
     simp only [bS];exact ih _ _ _ _
  rfl
theorem pE {α β:Type} {o:Option α} {f g:α→Option β} (h:∀a,f a=g a):o.bind f=o.bind g:=by cases o;rfl;exact h _
theorem Qn (p:List Int) (y2:Int×aq) (k:Nat) (a:Int) (q:Bool) (l:List aA) (n:Int) :
  eS p y2 (k+1) a q l n=if (decide (n>0)) && !q then (Nb p ⟨a,q⟩).bind fun y=>(app l [y.1]).bind fun l'=>eS p y2 k y.2.b_ y.2.L_ l' (IntKind.i64.wrap (n-1)) else some (⟨l,y2.1⟩,⟨a,q⟩):=by
 rw [eS];split
 ·unfold Nb rb;simp only [Option.bind_assoc];refine pE fun y0=>pE fun y1=>pE fun y2'=>pE fun y3=>pE fun y4=>pE fun y5=>?_;unfold fp;simp only [Option.bind_assoc];refine pE fun c=>?_;rw [Tz];rfl
 rfl
end Go.Vk
/- Trees, read by both. -/
namespace Go.Vk
section
variable {p:List Int} (hb:dU p) (hp:p.length≤1048576)
include hb hp
end
noncomputable def LR (p:List Int):Pz ao:=fun a=>(gI p a).bind fun y=>Pz.map (fun ns=>ao.mk ns y.1) (fc p (GK p)) y.2
section
variable {p:List Int} (hb:dU p) (hp:p.length≤1048576)
include hb hp
theorem Ov:wJ (iB p) (LR p):=by
 have big:∀y2:Int×aq,wJ (fun st=>(cU p st).bind fun c=>eS p y2 bb c.2.b_ c.2.L_ [] c.1) (Pz.map (fun ns=>ao.mk ns y2.1) (fc p (GK p))):=fun y2 =>
  Kb hb hp (Uw hb hp) (Hl hb hp) (fun ns=>ao.mk ns y2.1) (eS p y2) (fun _=>rfl) (fun k a q l n=>Qn p y2 k a q l n)
 refine ⟨fun a=>?_,fun a d=>?_⟩
 ·unfold iB;rw [Js];exact (big (0,⟨a,true⟩)).1 a
 unfold iB LR;have f:=(EZ hb hp).2 a d
 cases h:gI p a with
 | none =>
  obtain ⟨v,a',e⟩:=f.2 h;rw [e];exact ⟨fun v b e=>(by cases e),fun _=>(big (v,⟨a',true⟩)).1 a'⟩
 | some y =>
  obtain ⟨n,b⟩:=y;rw [f.1 n b h];exact (big (n,⟨b,false⟩)).2 b ((mx hb hp).i64 hp d h)
end
end Go.Vk
/- What is put is read again. -/
namespace Go.Vk
theorem Nr {m i:Nat} (a:m<128) (hi:i<5):Nd .i64 (m:Int) (IntKind.i64.wrap (7*(i:Int)))=((m*128^i:Nat):Int):=by
 have hi':i=0∨i=1∨i=2∨i=3∨i=4:=by omega
 rw [aR (by omega) (by omega)];rcases hi' with rfl|rfl|rfl|rfl|rfl
 ·show IntKind.i64.wrap ((m:Int)*1)=((m*1:Nat):Int);rw [aR (by omega) (by omega)];omega
 ·show IntKind.i64.wrap ((m:Int)*128)=((m*128:Nat):Int);rw [aR (by omega) (by omega)];omega
 ·show IntKind.i64.wrap ((m:Int)*16384)=((m*16384:Nat):Int);rw [aR (by omega) (by omega)];omega
 ·show IntKind.i64.wrap ((m:Int)*2097152)=((m*2097152:Nat):Int);rw [aR (by omega) (by omega)];omega
 show IntKind.i64.wrap ((m:Int)*268435456)=((m*268435456:Nat):Int);rw [aR (by omega) (by omega)];omega
theorem Vz {a m i:Nat} (d:a<128^i) (f:m<128) (hi:i<5):fv .or .i64 (a:Int) ((m*128^i:Nat):Int)=((a+m*128^i:Nat):Int):=by
 have c:(128:Nat)^i=2^(7*i):=by rw [Nat.pow_mul]
 have e:128^i≤128^4:=Nat.pow_le_pow_right (by omega) (by omega);have g:m*128^i≤127*128^4:=Nat.mul_le_mul (by omega) e;rw [RH a (m*128^i) (by omega) (by omega)];congr 1;rw [Nat.or_comm,c,Nat.mul_comm,←Nat.two_pow_add_eq_or_of_lt (by rw [←c];exact d),Nat.add_comm]
end Go.Vk
/- Trees and windows are read as they were put. -/
namespace Go.Vk
theorem dU.append {a b:List Int} (c:dU a) (d:dU b):dU (a++b):=fun x e=>by
 rcases List.mem_append.1 e with h|h
 ·exact c x h
 exact d x h
theorem dU.flat {α:Type} {xs:List α} {f:α→List Int} (h:∀x∈xs,dU (f x)):dU (xs.flatMap f):=fun y a=>by
 obtain ⟨x,c,d⟩:=List.mem_flatMap.1 a;exact h x c y d
section
variable {l:List Int}
variable (hp:l.length≤1048576)
include hp
end
end Go.Vk
/- Readers: a fixed number of things, read on whether or not something was bad. -/
namespace Go.Vk
section
theorem SI {α ρ:Type} {op:aq→Option (α×aq)} {P:Pz α} (g:wJ op P) (s:∀a v b,I64 a→P a=some (v,b)→I64 b) (N:Int)
  (Lp:Nat→Int→Bool→List α→Int→Option ρ) (fin:List α→aq→Option ρ)
  (step:∀k a q l i,Lp (k+1) a q l i=if decide (i<N) then (op ⟨a,q⟩).bind fun y=>(app l [y.1]).bind fun l'=>Lp k y.2.b_ y.2.L_ l' (IntKind.i64.wrap (i+1)) else fin l ⟨a,q⟩) :
  ∀(d k:Nat) (i a:Int) (l:List α),(N-i).toNat=d→d<k→0≤i→N≤1000000→(l.length:Int)=i →
   (∃l' a',Lp k a true l i=fin l' ⟨a',true⟩)∧(I64 a→(∀vs c,P.many d a=some (vs,c)→Lp k a false l i=fin (l++vs) ⟨c,false⟩)∧(P.many d a=none→∃l' a',Lp k a false l i=fin l' ⟨a',true⟩)):=by
 intro d
 induction d with
 | zero =>
  intro k i a l t hk hi j u;obtain ⟨k,rfl⟩:=kS k (by omega);rw [step,if_neg (by rw [decide_eq_true_iff];omega),step,if_neg (by rw [decide_eq_true_iff];omega)];refine ⟨⟨_,_,rfl⟩,fun _=>⟨fun vs c e=>?_,fun e=>by simp [Pz.many] at e⟩⟩;obtain ⟨rfl,rfl⟩:=Prod.mk.inj (Option.some.inj e);simp
 | succ d ih =>
  intro k i a l t hk hi j u;obtain ⟨k,rfl⟩:=kS k (by omega);have p:∀v:α,((l++[v]).length:Int)=i+1:=fun v=>by simp;omega
  have m:∀v:α,app l [v]=some (l++[v]):=fun v=>bo (by simp;omega);have r:∀(v:α) (a:Int),∃l' a',Lp k a true (l++[v]) (i+1)=fin l' ⟨a',true⟩:=fun v a=>(ih k (i+1) a (l++[v]) (by omega) (by omega) (by omega) j (p v)).1;refine ⟨?_,fun o=>?_⟩
  ·obtain ⟨v,a',e⟩:=g.1 a;rw [step,if_pos (by rw [decide_eq_true_iff];omega),e];simp only [bS];rw [m];simp only [bS];rw [aR (by omega) (by omega)];exact r v a'
  rw [step,if_pos (by rw [decide_eq_true_iff];omega)];unfold Pz.many
  cases h:P a with
  | none =>
   refine ⟨fun vs c e=>by simp at e,fun _=>?_⟩;obtain ⟨v,a',e⟩:=(g.2 a o).2 h;rw [e];simp only [bS];rw [m];simp only [bS];rw [aR (by omega) (by omega)];exact r v a'
  | some y =>
   obtain ⟨v,b⟩:=y;rw [(g.2 a o).1 v b h];simp only [bS];rw [m];simp only [bS];rw [aR (by omega) (by omega)];obtain ⟨w,x⟩:=(ih k (i+1) b (l++[v]) (by omega) (by omega) (by omega) j (p v)).2 (s a v b o h);refine ⟨fun vs c e=>?_,fun e=>?_⟩
   ·cases f:P.many d b with
    | none=>rw [f] at e;simp at e
    | some q =>
     rw [f] at e;obtain ⟨rfl,rfl⟩:=Prod.mk.inj (Option.some.inj e);rw [w q.1 q.2 f];simp
   cases f:P.many d b with
   | none=>exact x f
   | some q=>rw [f] at e;simp at e
end
def Sat {α:Type} (P:Pz α) (Q:α→Prop):Prop:=∀a v b,I64 a→P a=some (v,b)→I64 b∧Q v
theorem iD {α β:Type} {P:Pz α} {R:α→Pz β} {Q:α→Prop} {S:β→Prop} (h:Sat P Q) (k:∀v,Q v→Sat (R v) S):Sat (Pz.bind P R) S:=fun a v b c e=>by
 unfold Pz.bind at e;obtain ⟨y,d,f⟩:=dd e;obtain ⟨i,q⟩:=h a y.1 y.2 c d;exact k y.1 q y.2 v b i f
theorem Cz {α:Type} {x:α} {Q:α→Prop} (h:Q x):Sat (fun a=>some (x,a)) Q:=fun a v b c e=>by
 obtain ⟨rfl,rfl⟩:=Prod.mk.inj (Option.some.inj e);exact ⟨c,h⟩
theorem Oo {α β:Type} {P:Pz α} {f:α→β} {Q:α→Prop} {S:β→Prop} (h:Sat P Q) (k:∀v,Q v→S (f v)):Sat (Pz.map f P) S:=fun a v b c e=>by
 obtain ⟨y,d,g⟩:=Option.map_eq_some_iff.1 e;obtain ⟨rfl,rfl⟩:=Prod.mk.inj g;obtain ⟨i,q⟩:=h a y.1 y.2 c d;exact ⟨i,k _ q⟩
theorem Ao {α:Type} {P:Pz α} {Q:α→Prop} (h:Sat P Q):∀n,Sat (P.many n) (fun vs=>vs.length=n∧∀x∈vs,Q x)
 | 0=>Cz ⟨rfl,by simp⟩
 | n+1=>fun a v b c e=>by
  unfold Pz.many at e;obtain ⟨y,d,e⟩:=dd e;obtain ⟨z,f,e⟩:=dd e;obtain ⟨i,q⟩:=h a y.1 y.2 c d;obtain ⟨j,g,k⟩:=Ao h n y.2 z.1 z.2 i f;obtain ⟨rfl,rfl⟩:=Prod.mk.inj (Option.some.inj e);refine ⟨j,by simp [g],fun x hx=>?_⟩;rcases List.mem_cons.1 hx with rfl|hx
  ·exact q
  exact k x hx
section
variable {p:List Int} (hb:dU p) (hp:p.length≤1048576)
include hb hp
theorem Av:Sat (gI p) InR:=fun a v b c e=>⟨(mx hb hp).i64 hp c e,SG hb hp c e⟩
theorem CZ {α:Type} {P:Pz α} {sz:α→Nat} {Q:α→Prop} (f:yP p P sz) (h:Sat P Q):Sat (fc p P) (fun vs=>vs.length≤1048576∧∀x∈vs,Q x):=fun a v b c e=>by
 have g:=EI hb hp f;obtain ⟨h1,j,l,m⟩:=g a v b c e;refine ⟨g.i64 hp c e,?_⟩;unfold fc at e;obtain ⟨y,i,e⟩:=dd e;have k:=(Av hb hp) a y.1 y.2 c i;split at e
 ·cases e
 have d:=mx hb hp a y.1 y.2 c i;simp only at d;obtain ⟨o,q,r,s⟩:=AC f hp _ _ v b (by omega) d.2.2.1 e;refine ⟨?_,(Ao h _ y.2 v b k.1 e).2.2⟩;simp only at j;omega
theorem Cj:Sat (fc p (gI p)) (fun vs=>vs.length≤1048576∧∀x∈vs,InR x):=CZ hb hp (mx hb hp) (Av hb hp)
theorem Qr:Sat (fc p (fc p (gI p))) (fun vs=>vs.length≤1048576∧∀x∈vs,x.length≤1048576∧∀y∈x,InR y):=CZ hb hp (we hb hp) (Cj hb hp)
end
end Go.Vk
/- Texts taken apart; numbers read. -/
namespace Go.Vk
open Go.Proofs
theorem IW {α:Type} {s:List α} {f i:Nat} (c:f≤i) (hi:i<s.length):(s.drop f).take (i+1-f)=(s.drop f).take (i-f)++[s[i]]:=by
 have h1:i+1-f=(i-f)+1:=by omega
 have a:i-f<(s.drop f).length:=by rw [List.length_drop];omega
 rw [h1,List.take_succ_eq_append_getElem a,List.getElem_drop];congr 3;omega
theorem SJ {α:Type} {s:List α} {f i:Nat} (a:f≤i):s.drop f=(s.drop f).take (i-f)++s.drop i:=by
 have h:=List.take_append_drop (i-f) (s.drop f);rw [List.drop_drop] at h;have e:f+(i-f)=i:=by omega
 rw [e] at h;exact h.symm
theorem BU {α:Type} {xs:List α} {f i:Nat} (h:f≤i) (h':i≤xs.length):sub xs (f:Int) (i:Int)=some ((xs.drop f).take (i-f)):=by
 unfold sub;rw [if_pos ⟨by omega,by omega,by omega⟩];simp
theorem NV {x c:UInt8}:((x.toNat:Int)==(c.toNat:Int))=decide (x=c):=by
 rw [Bool.eq_iff_iff,beq_iff_eq,decide_eq_true_iff];constructor
 ·intro h;exact UInt8.toNat_inj.1 (by omega)
 rintro rfl;rfl
theorem Km {s:List UInt8} {c:UInt8} (r:s.length≤1048576):∀(d k i f:Nat) (out:List (List UInt8)),s.length-i=d→d<k→f≤i→i≤s.length→out.length≤i→c∉(s.drop f).take (i-f) →
  mK s (c.toNat:Int) k out (f:Int) (i:Int)=some (out++kw c (s.drop f)):=by
 intro d
 induction d with
 | zero =>
  intro k i f out o hk j hi p a;obtain ⟨k,rfl⟩:=kS k (by omega);have e:i=s.length:=by omega
  have m:(s.drop f).take (i-f)=s.drop f:=by rw [List.take_of_length_le];rw [List.length_drop];omega
  rw [mK,if_neg (by rw [decide_eq_true_iff];omega),BU (by omega) (Nat.le_refl _),←e,m];simp only [bS];rw [bo (by simp;omega)];rw [m] at a;rw [HO a];rfl
 | succ d ih =>
  intro k i f out o hk j hi p a;obtain ⟨k,rfl⟩:=kS k (by omega);have g:i<s.length:=by omega
  rw [mK,if_pos (by rw [decide_eq_true_iff];omega),aH g];simp only [bS];rw [NV,ax (by omega)];by_cases l:s[i]=c
  ·rw [if_pos (by simpa using l),BU j hi];simp only [bS];rw [bo (by simp;omega)];simp only [bS];rw [ih k (i+1) (i+1) _ (by omega) (by omega) (Nat.le_refl _) (by omega) (by simp;omega) (by simp)]
   have e:kw c (s.drop f)=(s.drop f).take (i-f)::kw c (s.drop (i+1)):=by
    conv=>lhs;rw [SJ j,List.drop_eq_getElem_cons g,l]
    exact HL a
   rw [e];simp
  rw [if_neg (by simpa using l)];refine ih k (i+1) f out (by omega) (by omega) (by omega) (by omega) (by omega) ?_;rw [IW j g];intro q;rcases List.mem_append.1 q with h|h
  ·exact a h
  exact l (List.mem_singleton.1 h).symm
theorem Kj {s:List UInt8} {c:UInt8} (t:s.length≤1048576):∀(d k i f:Nat) (out:List (List UInt8)),s.length-i=d→d+1<k→f≤i→i≤s.length→out.length≤i→c∉(s.drop f).take (i-f) →
  mG s (c.toNat:Int) k out (f:Int) (i:Int)=some (out++kw c (s.drop f)):=by
 intro d
 induction d with
 | zero =>
  intro k i f out o hk j hi p a;obtain ⟨k,rfl⟩:∃q,k=q+2:=⟨k-2,by omega⟩;have e:i=s.length:=by omega
  have m:(s.drop f).take (i-f)=s.drop f:=by rw [List.take_of_length_le];rw [List.length_drop];omega
  rw [mG,if_pos (by rw [decide_eq_true_iff];omega),if_pos (by rw [beq_iff_eq];omega)];simp only [Option.bind_some,if_true];rw [BU (by omega) (by omega),m];simp only [bS];rw [bo (by simp;omega)];simp only [bS];rw [ax (by omega),mG,if_neg (by rw [decide_eq_true_iff];omega)];rw [m] at a;rw [HO a]
 | succ d ih =>
  intro k i f out o hk j hi p a;obtain ⟨k,rfl⟩:=kS k (by omega);have g:i<s.length:=by omega
  rw [mG,if_pos (by rw [decide_eq_true_iff];omega),if_neg (by rw [beq_iff_eq];omega),aH g];simp only [bS];rw [NV,ax (by omega)];by_cases l:s[i]=c
  ·rw [if_pos (by simpa using l),BU j hi];simp only [bS];rw [bo (by simp;omega)];simp only [bS];rw [ih k (i+1) (i+1) _ (by omega) (by omega) (Nat.le_refl _) (by omega) (by simp;omega) (by simp)]
   have e:kw c (s.drop f)=(s.drop f).take (i-f)::kw c (s.drop (i+1)):=by
    conv=>lhs;rw [SJ j,List.drop_eq_getElem_cons g,l]
    exact HL a
   rw [e];simp
  rw [if_neg (by simpa using l)];refine ih k (i+1) f out (by omega) (by omega) (by omega) (by omega) (by omega) ?_;rw [IW j g];intro r;rcases List.mem_append.1 r with h|h
  ·exact a h
  exact l (List.mem_singleton.1 h).symm
theorem oJ {s:List UInt8} (a:s.length≤1048576) (c:UInt8) {p:Int} (d:(c.toNat:Int)=p):pn s p=some (kw c s)∧tc s p=some (kw c s):=by
 subst d;exact ⟨Kj a s.length bb 0 0 [] (by omega) (cN (by omega)) (Nat.le_refl _) (by omega) (by simp) (by simp),Km a s.length bb 0 0 [] (by omega) (cN (by omega)) (Nat.le_refl _) (by omega) (by simp) (by simp)⟩
theorem vK {c:UInt8}:∀(s:List UInt8),(kw c s).length≤s.length+1∧∀w∈kw c s,w.length≤s.length
 | []=>by simp [kw]
 | x::r=>by
  obtain ⟨h1,a⟩:=vK (c:=c) r;unfold kw;split
  ·refine ⟨by simp;omega,fun w hw=>?_⟩;rcases List.mem_cons.1 hw with rfl|hw
   ·simp
   have:=a w hw;simp only [List.length_cons];omega
  split
  ·simp
  rename_i h t e;rw [e] at h1 a;refine ⟨by simp only [List.length_cons] at h1 ⊢;omega,fun w hw=>?_⟩;rcases List.mem_cons.1 hw with rfl|hw
  ·have:=a h (by simp);simp only [List.length_cons];omega
  have:=a w (by simp [hw]);simp only [List.length_cons];omega
theorem LJ (n:Int):I64 (IntKind.i64.wrap n):=by
 show I64 (if (true&&decide (n%(18446744073709551616:Int)≥(9223372036854775808:Int)))=true then n%(18446744073709551616:Int)-(18446744073709551616:Int) else n%(18446744073709551616:Int));unfold I64;split
 ·rename_i h;simp only [Bool.true_and,decide_eq_true_iff] at h;constructor<;>omega
 rename_i h;simp only [Bool.true_and,decide_eq_true_iff] at h;constructor<;>omega
theorem Ia {s:List UInt8} (e:s.length≤1048576):Tot (xx s) (fun v=>I64 v.1):=by
 have c:I64 0:=⟨by omega,by omega⟩;unfold xx;refine aD (fun _=>am c) (fun f=>?_);refine cz (σ:=Int) (fun k a i=>lM s k a i) s.length (fun _ a=>I64 a) (fun k a d=>?_) (fun k a i hi d ih=>?_) (by omega) ((⟨by omega,by omega⟩:I64 0))
 ·show Tot (lM s (k+1) a _) _;rw [lM,if_neg (by simp),GP d];exact aD (fun _=>am c) (fun _=>am d)
 show Tot (lM s (k+1) a _) _;rw [lM,if_pos (by rw [decide_eq_true_iff];omega),aH hi];simp only [bS];refine Tot.bind (P:=fun _=>True) (aD (fun _=>am trivial) (fun _=>am trivial)) fun v _=>?_;refine aD (fun _=>am c) (fun _=>?_);rw [ax (by omega)];exact ih _ (LJ _)
theorem Hs {s:List UInt8} (j:s.length≤1048576):Tot (zL s) (fun v=>I64 v.1)∧Tot (xq s) (fun v=>I64 v.1):=by
 have c:I64 0:=⟨by omega,by omega⟩;refine ⟨?_,?_⟩
 ·unfold zL;refine aD (fun _=>am c) (fun k=>?_);have hl':0<s.length:=by simp at k;omega
  rw [show (0:Int)=((0:Nat):Int) from rfl,aH hl'];simp only [bS];refine aD (fun _=>(Ia j).bind fun v a=>aD (fun _=>am c) (fun _=>am a)) (fun _=>?_);have:=BU (xs:=s) (f:=1) (i:=s.length) hl' (Nat.le_refl _);have l:((1:Nat):Int)=1:=rfl;rw [l] at this;rw [this];simp only [bS];exact (Ia (by simp;omega)).bind fun v a=>aD (fun _=>am c) (fun _=>am (LJ _))
 have m:Tot (Mt s) (fun v=>v.2=true→I64 v.1):=by
  unfold Mt;rw [if_pos (by omega)];refine am ?_
  cases e:Lib.atoiAll s with
  | ok v=>exact fun _=>Lib.atoiAll_bounds e
  | range=>intro h;cases h
  | _=>intro h;cases h
 unfold xq yO;refine Tot.bind (P:=fun v=>I64 v.1) ?_ fun v a=>am a;refine m.bind fun v a=>?_;refine Tot.bind (P:=fun b=>b=false→I64 v.1) (aD (fun _=>am (by simp)) fun d=>?_) fun b g=>?_
 ·have h2':v.2=true:=by simpa using d
  refine Tot.bind (P:=fun _=>True) ⟨_,rfl,trivial⟩ fun _ _=>am fun _=>a h2'
 refine Tot.bind (P:=fun b=>b=false→I64 v.1) (aD (fun _=>am (by simp)) fun d=>?_) fun b g=>aD (fun _=>am c) fun o=>am (g (by simpa using o));have hi:=g (by simpa using d);rw [HK hi];exact am fun _=>hi
end Go.Vk
/- Attributes and schemas out of their texts. -/
namespace Go.Vk
open Go.Proofs
abbrev zA:aK:=⟨[],[],[]⟩
abbrev zS:ae:=⟨[],[]⟩
open Classical in
noncomputable def Cp (a:aK) (p:List UInt8):aK×Bool:=if uc a∧sh a=p then (a,true) else (zA,false)
theorem Mo {a:aK} (d:jF a) {p:List UInt8} (h:(Cp a p).2=true):uc (Cp a p).1∧jF (Cp a p).1:=by
 unfold Cp at h ⊢;split at h
 ·rename_i c;rw [if_pos c];exact ⟨c.1,d⟩
 cases h
theorem UN {a:aK} (c:jF a) (p:List UInt8):np p a.H_ a.B_ a.O_=some (Cp a p)∧kx p a.H_ a.B_ a.O_=some (Cp a p):=by
 unfold np kx;show (nL a).bind _=_∧(nJ a).bind _=_;rcases (xZ (yW c)).cases with ⟨e,d⟩|⟨e,d⟩
 ·obtain ⟨g,i,_⟩:=IT c d;rw [e,(Cg (yW c)).val d];have t1':ox (aK.mk a.H_ a.B_ a.O_)=some (sh a):=g;have t2':mM (aK.mk a.H_ a.B_ a.O_)=some (sh a):=i;simp only [cS];rw [t1',t2'];simp only [bS];by_cases f:sh a=p
  ·rw [show Cp a p=(a,true) from if_pos ⟨d,f⟩,if_neg (by simp [f])];exact ⟨rfl,rfl⟩
  rw [show Cp a p=(zA,false) from if_neg fun h=>f h.2,if_pos (by simp [f])];exact ⟨rfl,rfl⟩
 have e':nJ a=some false:=by rw [(Cg (yW c)).eq (xZ (yW c)),e]
 rw [e,e',show Cp a p=(zA,false) from if_neg fun h=>d h.1];exact ⟨rfl,rfl⟩
theorem OQ:jF zA:=⟨by simp,⟨by simp,by simp⟩,⟨by simp,by simp⟩⟩
def JH (v:aK×Bool):Prop:=v.2=true→uc v.1∧jF v.1
theorem AS {a:aK} (c:jF a) (p:List UInt8):Tot (np p a.H_ a.B_ a.O_) JH∧Tot (kx p a.H_ a.B_ a.O_) JH:=by
 rw [(UN c p).1,(UN c p).2];exact ⟨am fun h=>Mo c h,am fun h=>Mo c h⟩
theorem vN {s:List UInt8} (e:s.length≤1048575) (c:UInt8):nI (kw c s):=by
 obtain ⟨h1,a⟩:=vK (c:=c) s;exact ⟨by omega,fun y d=>by have:=a y d;omega⟩
def NU (i:Nat) (l:List Int):Prop:=l.length=i∧∀y∈l,I64 y
theorem GZ {i:Nat} {l:List Int} {x:Int} (h:NU i l) (a:I64 x):NU (i+1) (l++[x]):=⟨by simp [h.1],fun y c=>by
 rcases List.mem_append.1 c with h1|h1
 ·exact h.2 y h1
 rw [List.mem_singleton.1 h1];exact a⟩
theorem GH {ws:List (List UInt8)} (c:nI ws) {nm:List UInt8} (d:nm.length≤1048576) (p:List UInt8):Tot (kA ws p nm bb [] 0) JH:=by
 have f:=c.1;refine cz (σ:=List Int) (fun k l i=>kA ws p nm k l i) ws.length NU (fun k l h=>?_) (fun k l i hi h ih=>?_) (by omega) ⟨rfl,by simp⟩
 ·show Tot (kA ws p nm (k+1) l _) _;rw [kA,if_neg (by simp)];exact (AS (a:=⟨nm,l,[]⟩) ⟨d,⟨by show l.length≤_;have:=h.1;omega,h.2⟩,⟨by simp,by simp⟩⟩ p).1
 show Tot (kA ws p nm (k+1) l _) _;rw [kA,if_pos (by rw [decide_eq_true_iff];omega),aH hi];simp only [bS];refine (Hs (c.2 _ (List.getElem_mem hi))).1.bind fun v e=>aD (fun _=>am fun h=>by cases h) (fun _=>?_);rw [bo (by have:=h.1;simp;omega)];simp only [bS];rw [ax (by omega)];exact ih _ (GZ h e)
theorem Ha {ws:List (List UInt8)} (c:nI ws) {nm:List UInt8×List UInt8×Bool} (d:nm.1.length≤1048576) (p:List UInt8):Tot (je ws p nm bb 0 []) JH:=by
 have f:=c.1;refine cz (σ:=List Int) (fun k l i=>je ws p nm k i l) ws.length NU (fun k l h=>?_) (fun k l i hi h ih=>?_) (by omega) ⟨rfl,by simp⟩
 ·show Tot (je ws p nm (k+1) _ l) _;rw [je,if_neg (by simp)];exact (AS (a:=⟨nm.1,l,[]⟩) ⟨d,⟨by show l.length≤_;have:=h.1;omega,h.2⟩,⟨by simp,by simp⟩⟩ p).2
 show Tot (je ws p nm (k+1) _ l) _;rw [je,if_pos (by rw [decide_eq_true_iff];omega),aH hi];simp only [bS];refine (Hs (c.2 _ (List.getElem_mem hi))).2.bind fun v e=>aD (fun _=>am fun h=>by cases h) (fun _=>?_);rw [bo (by have:=h.1;simp;omega)];simp only [bS];rw [ax (by omega)];exact ih _ (GZ h e)
theorem Nj (s:List UInt8) (c:UInt8):(Lib.cut s [c]).1.length≤s.length∧(Lib.cut s [c]).2.1.length≤s.length:=by
 unfold Lib.cut;split
 ·simp;omega
 simp
theorem JY {s:List UInt8} (a:s.length≤1048576) (c:UInt8):Px s [c]=some (Lib.cut s [c]):=if_pos (by omega)
theorem Hu {s:List UInt8} (j:s.length≤1048575):Tot (zZ s) JH∧Tot (xz s) JH:=by
 refine ⟨?_,?_⟩
 ·unfold zZ;rw [(oJ (p:=61) (s:=s) (by omega) 61 rfl).1,(oJ (p:=58) (s:=s) (by omega) 58 rfl).1];simp only [bS];have d:=vK (c:=61) s;have e:=vK (c:=58) s;refine aD (fun h=>?_) fun _=>aD (fun h=>?_) fun _=>(AS OQ s).1
  ·rw [beq_iff_eq] at h;refine (gb (by omega)).bind fun v f=>(gb (by omega)).bind fun w g=>?_;have h1:=d.2 v f.1;have i:=d.2 w g.1;rw [(oJ (p:=44) (s:=w) (by omega) 44 rfl).1];simp only [bS];exact (AS (a:=⟨v,[],kw 44 w⟩) ⟨by show v.length≤_;omega,⟨by simp,by simp⟩,vN (by omega) 44⟩ s).1
  rw [beq_iff_eq] at h;refine (gb (by omega)).bind fun v f=>(gb (by omega)).bind fun w g=>?_;have h1:=e.2 v f.1;have i:=e.2 w g.1;rw [(oJ (p:=44) (s:=w) (by omega) 44 rfl).1];simp only [bS];exact GH (vN (by omega) 44) (by omega) s
 unfold xz;rw [JY (s:=s) (by omega) 61,JY (s:=s) (by omega) 58];simp only [bS];have d:=Nj s 61;have e:=Nj s 58;refine aD (fun h=>?_) fun _=>aD (fun h=>?_) fun _=>(AS OQ s).2
 ·rw [(oJ (p:=44) (s:=(Lib.cut s [61]).2.1) (by omega) 44 rfl).2];simp only [bS];exact (AS (a:=⟨(Lib.cut s [61]).1,[],kw 44 (Lib.cut s [61]).2.1⟩) ⟨by show (Lib.cut s [61]).1.length≤_;omega,⟨by simp,by simp⟩,vN (by omega) 44⟩ s).2
 rw [(oJ (p:=44) (s:=(Lib.cut s [58]).2.1) (by omega) 44 rfl).2];simp only [bS];exact Ha (vN (by omega) 44) (by omega) s
end Go.Vk
/- Schemas out of their texts. -/
namespace Go.Vk
open Go.Proofs
def AH (v:ae×Bool):Prop:=v.2=true→fV v.1∧bi v.1
def Kr (i:Nat) (l:List aK):Prop:=l.length=i∧∀y∈l,jF y
theorem Fk {i:Nat} {l:List aK} {x:aK} (h:Kr i l) (a:jF x):Kr (i+1) (l++[x]):=⟨by simp [h.1],fun y c=>by
 rcases List.mem_append.1 c with h1|h1
 ·exact h.2 y h1
 rw [List.mem_singleton.1 h1];exact a⟩
theorem Hk {s:ae} (c:bi s):Tot ((fG s).bind fun y=>if (!y) then some (zS,false) else some (s,true)) AH∧Tot ((gv s).bind fun y=>if (!y) then some (zS,false) else some (s,true)) AH:=by
 refine ⟨?_,?_⟩
 ·rcases (mH (la c)).cases with ⟨e,a⟩|⟨e,a⟩
  ·rw [e];exact am fun _=>⟨a,c⟩
  rw [e];exact am fun h=>by cases h
 rcases (oV (la c)).cases with ⟨e,a⟩|⟨e,a⟩
 ·rw [e];exact am fun _=>⟨a,c⟩
 rw [e];exact am fun h=>by cases h
theorem Fm {ws cs:List (List UInt8)} (a:ws.length≤1048576∧∀w∈ws,w.length≤1048575) (e:nI cs):Tot (iO ws cs bb [] 0) AH∧Tot (gF ws cs bb 0 []) AH:=by
 have f:=a.1;refine ⟨?_,?_⟩
 ·refine cz (σ:=List aK) (fun k l i=>iO ws cs k l i) ws.length Kr (fun k l h=>?_) (fun k l i hi h ih=>?_) (by omega) ⟨rfl,by simp⟩
  ·show Tot (iO ws cs (k+1) l _) _;rw [iO,if_neg (by simp)];exact (Hk (s:=⟨l,cs⟩) ⟨⟨by show l.length≤_;have:=h.1;omega,h.2⟩,e⟩).1
  show Tot (iO ws cs (k+1) l _) _;rw [iO,if_pos (by rw [decide_eq_true_iff];omega),aH hi];simp only [bS];refine (Hu (a.2 _ (List.getElem_mem hi))).1.bind fun v c=>aD (fun _=>am fun h=>by cases h) (fun d=>?_);rw [bo (by have:=h.1;simp;omega)];simp only [bS];rw [ax (by omega)];exact ih _ (Fk h (c (by simpa using d)).2)
 refine cz (σ:=List aK) (fun k l i=>gF ws cs k i l) ws.length Kr (fun k l h=>?_) (fun k l i hi h ih=>?_) (by omega) ⟨rfl,by simp⟩
 ·show Tot (gF ws cs (k+1) _ l) _;rw [gF,if_neg (by simp)];exact (Hk (s:=⟨l,cs⟩) ⟨⟨by show l.length≤_;have:=h.1;omega,h.2⟩,e⟩).2
 show Tot (gF ws cs (k+1) _ l) _;rw [gF,if_pos (by rw [decide_eq_true_iff];omega),aH hi];simp only [bS];refine (Hu (a.2 _ (List.getElem_mem hi))).2.bind fun v c=>aD (fun _=>am fun h=>by cases h) (fun d=>?_);rw [bo (by have:=h.1;simp;omega)];simp only [bS];rw [ax (by omega)];exact ih _ (Fk h (c (by simpa using d)).2)
theorem LZ {s:List UInt8} (e:s.length≤1048575) (c:UInt8):(kw c s).length≤1048576∧∀w∈kw c s,w.length≤1048575:=by
 obtain ⟨h1,a⟩:=vK (c:=c) s;exact ⟨by omega,fun w d=>by have:=a w d;omega⟩
theorem KX {s:List UInt8} (f:s.length≤1048575):Tot (Bg s) AH∧Tot (qt s) AH:=by
 refine ⟨?_,?_⟩
 ·unfold Bg;rw [(oJ (p:=124) (s:=s) (by omega) 124 rfl).1];simp only [bS];have a:=vK (c:=124) s;refine aD (fun _=>am fun h=>by cases h) (fun h=>?_);have h:(kw 124 s).length=2:=by simp at h;omega
  refine (gb (by omega)).bind fun v d=>?_;have h1:=a.2 v d.1;rw [(oJ (p:=44) (s:=v) (by omega) 44 rfl).1];simp only [bS];refine (gb (by omega)).bind fun w e=>?_;have g:=a.2 w e.1;rw [(oJ (p:=59) (s:=w) (by omega) 59 rfl).1];simp only [bS];exact (Fm (LZ (by omega) 59) (vN (by omega) 44)).1
 unfold qt;rw [JY (s:=s) (by omega) 124];simp only [bS];have a:=Nj s 124;refine aD (fun _=>am fun h=>by cases h) (fun h=>?_);rw [(oJ (p:=44) (s:=(Lib.cut s [124]).2.1) (by omega) 44 rfl).2,(oJ (p:=59) (s:=(Lib.cut s [124]).1) (by omega) 59 rfl).2];simp only [bS];exact (Fm (LZ (by omega) 59) (vN (by omega) 44)).2
end Go.Vk
