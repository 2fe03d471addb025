/- Texts taken apart; numbers read. -/
import Derived.Test.YtnjemlncpeekkabGreatDoorPSpl
import Derived.Test.YtnjemlncpeekkabGreatDoorPDr
import Derived.Test.YtnjemlncpeekkabGreatDoorVkBr
import Derived.Test.YtnjemlncpeekkabGreatDoorVkCu
import Derived.Test.YtnjemlncpeekkabGreatDoorPTx
import Derived.Test.YtnjemlncpeekkabGreatDoorPBi
import Derived.Test.YtnjemlncpeekkabGreatDoorPTr
namespace Go.Vk
open Go.Proofs
theorem Lg {α:Type}{s:List α}{f i:Nat}(c:f≤i)(d:i<s.length):(s.drop f).take (i+1-f)=(s.drop f).take (i-f)++[s[i]]:=by
 have h1:i+1-f=(i-f)+1:=by omega
 have a:i-f<(s.drop f).length:=by rw [List.length_drop];omega
 rw [h1,List.take_succ_eq_append_getElem a,List.getElem_drop];congr 3;omega
theorem Vp {α:Type}{s:List α}{f i:Nat}(a:f≤i):s.drop f=(s.drop f).take (i-f)++s.drop i:=by
 have h:=List.take_append_drop (i-f) (s.drop f);rw [List.drop_drop] at h;have e:f+(i-f)=i:=by omega
 rw [e] at h;exact h.symm
theorem AQ {α:Type}{xs:List α}{f i:Nat}(h:f≤i)(h':i≤xs.length):sub xs (f:Int) (i:Int)=some ((xs.drop f).take (i-f)):=by
 unfold sub;rw [if_pos ⟨by omega,by omega,by omega⟩];simp
theorem Qq {x c:UInt8}:((x.toNat:Int)==(c.toNat:Int))=decide (x=c):=by
 rw [Bool.eq_iff_iff,beq_iff_eq,decide_eq_true_iff];constructor
 ·intro h;exact UInt8.toNat_inj.1 (by omega)
 rintro rfl;rfl
theorem Nc {s:List UInt8}{c:UInt8}(t:s.length≤1048576):∀(d k i f:Nat)(out:List (List UInt8)),s.length-i=d→d<k→f≤i→i≤s.length→out.length≤i→c∉(s.drop f).take (i-f) →
  nK s (c.toNat:Int) k out (f:Int) (i:Int)=some (out++lE c (s.drop f)):=by
 intro d
 induction d with
 | zero =>
  intro k i f out p hk j m q a;obtain ⟨k,rfl⟩:=kS k (by omega);have e:i=s.length:=by omega
  have o:(s.drop f).take (i-f)=s.drop f:=List.take_of_length_le (by rw [List.length_drop];omega);rw [nK,if_neg (by rw [decide_eq_true_iff];omega),AQ (by omega) (Nat.le_refl _),←e,o];simp only [bS];rw [bA];rw [o] at a;rw [sU a];rfl
 | succ d ih =>
  intro k i f out p hk j m q a;obtain ⟨k,rfl⟩:=kS k (by omega);have g:i<s.length:=by omega
  rw [nK,if_pos (by rw [decide_eq_true_iff];omega),aH g];simp only [bS];rw [Qq,ax];by_cases l:s[i]=c
  ·rw [if_pos (by simpa using l),AQ j m];simp only [bS];rw [bA];simp only [bS];rw [ih k (i+1) (i+1) _ (by omega) (by omega) (Nat.le_refl _) (by omega) (by simp;omega) (by simp)]
   have e:lE c (s.drop f)=(s.drop f).take (i-f)::lE c (s.drop (i+1)):=by
    conv=>lhs;rw [Vp j,List.drop_eq_getElem_cons g,l]
    exact vi a
   rw [e];simp
  rw [if_neg (by simpa using l)];refine ih k (i+1) f out (by omega) (by omega) (by omega) (by omega) (by omega) ?_;rw [Lg j g];intro r;rcases List.mem_append.1 r with h|h
  ·exact a h
  exact l (List.mem_singleton.1 h).symm
theorem Mu {s:List UInt8}{c:UInt8}(u:s.length≤1048576):∀(d k i f:Nat)(out:List (List UInt8)),s.length-i=d→d+1<k→f≤i→i≤s.length→out.length≤i→c∉(s.drop f).take (i-f) →
  nH s (c.toNat:Int) k out (f:Int) (i:Int)=some (out++lE c (s.drop f)):=by
 intro d
 induction d with
 | zero =>
  intro k i f out p hk j m r a;obtain ⟨k,rfl⟩:∃q,k=q+2:=⟨k-2,by omega⟩;have e:i=s.length:=by omega
  have o:(s.drop f).take (i-f)=s.drop f:=List.take_of_length_le (by rw [List.length_drop];omega);rw [nH,if_pos (by rw [decide_eq_true_iff];omega),if_pos (by rw [beq_iff_eq];omega)];simp only [Option.bind_some,if_true];rw [AQ (by omega) (by omega),o];simp only [bS];rw [bA];simp only [bS];rw [ax,nH,if_neg (by rw [decide_eq_true_iff];omega)];rw [o] at a;rw [sU a]
 | succ d ih =>
  intro k i f out p hk j m r a;obtain ⟨k,rfl⟩:=kS k (by omega);have g:i<s.length:=by omega
  rw [nH,if_pos (by rw [decide_eq_true_iff];omega),if_neg (by rw [beq_iff_eq];omega),aH g];simp only [bS];rw [Qq,ax];by_cases l:s[i]=c
  ·rw [if_pos (by simpa using l),AQ j m];simp only [bS];rw [bA];simp only [bS];rw [ih k (i+1) (i+1) _ (by omega) (by omega) (Nat.le_refl _) (by omega) (by simp;omega) (by simp)]
   have e:lE c (s.drop f)=(s.drop f).take (i-f)::lE c (s.drop (i+1)):=by
    conv=>lhs;rw [Vp j,List.drop_eq_getElem_cons g,l]
    exact vi a
   rw [e];simp
  rw [if_neg (by simpa using l)];refine ih k (i+1) f out (by omega) (by omega) (by omega) (by omega) (by omega) ?_;rw [Lg j g];intro t;rcases List.mem_append.1 t with h|h
  ·exact a h
  exact l (List.mem_singleton.1 h).symm
theorem qq {s:List UInt8}(a:s.length≤1048576)(c:UInt8){p:Int}(d:(c.toNat:Int)=p):lC s p=some (lE c s)∧uO s p=some (lE c s):=by
 subst d;exact ⟨Mu a s.length bc 0 0 [] (by omega) cN (Nat.le_refl _) (by omega) (by simp) (by simp),Nc a s.length bc 0 0 [] (by omega) cN (Nat.le_refl _) (by omega) (by simp) (by simp)⟩
def WT (l:List UInt8)(a:Nat):Nat:=l.foldl (λa b=>10*a+(b.toNat-48)) a
theorem Nx:∀(u:Nat),WT (Lib.decDigits u) 0=u
 | u=>by
  by_cases h1:u<10
  ·rw [Lib.decDigits_one h1];show 10*0+((UInt8.ofNat (48+u)).toNat-48)=u;rw [xV h1];omega
  have a:u%10<10:=Nat.mod_lt _ (by omega);rw [Lib.decDigits.eq_def u,dif_neg h1];unfold WT;rw [List.foldl_append];have:=Nx (u / 10);unfold WT at this;rw [this];show 10*(u / 10)+((UInt8.ofNat (48+u%10)).toNat-48)=u;rw [xV a];omega
termination_by u=>u
theorem vR:∀(d u:Nat),u<10^(d+1)→(Lib.decDigits u).length≤d+1
 | 0,u,h=>by rw [Lib.decDigits_one (by simpa using h)];simp
 | d+1,u,h=>by
  by_cases h1:u<10
  ·rw [Lib.decDigits_one h1];simp
  rw [Lib.decDigits.eq_def u,dif_neg h1];have:=vR d (u / 10) (by rw [Nat.div_lt_iff_lt_mul (by omega),←Nat.pow_succ];exact h);simp;omega
theorem Kg {u:Nat}(h:u≤9999):zu (Lib.decDigits u)=some ((u:Int),true):=by
 have p:=vR 3 u (by omega);have g:=pQ u;have q:0<(Lib.decDigits u).length:=List.length_pos_iff.2 (tF u);unfold zu;rw [Q4]
 have key:∀(d k i a:Nat),(Lib.decDigits u).length-i=d→d<k→i≤(Lib.decDigits u).length→a<10^i→WT ((Lib.decDigits u).drop i) a=u→qx (Lib.decDigits u) k (a:Int) (i:Int)=some ((u:Int),true):=by
  intro d
  induction d with
  | zero =>
   intro k i a hd' hk j l c;obtain ⟨k,rfl⟩:=kS k (by omega);have e:(Lib.decDigits u).drop i=[]:=List.drop_eq_nil_iff.2 (by omega);rw [e] at c;have c:a=u:=c;subst c;rw [qx,if_neg (by rw [decide_eq_true_iff];omega),IT ⟨by omega,by omega⟩]
   have m:Lib.itoa (a:Int)=Lib.decDigits a:=by
    unfold Lib.itoa;rw [Q6,Int.toNat_natCast]
   rw [m];simp
  | succ d ih =>
   intro k i a hd' hk j l c;obtain ⟨k,rfl⟩:=kS k (by omega);have f:i<(Lib.decDigits u).length:=by omega
   have o:=g _ (List.getElem_mem f);rw [List.drop_eq_getElem_cons f] at c;have r:(10:Nat)^i≤10^4:=Nat.pow_le_pow_right (by omega) (by omega);rw [qx,if_pos (by rw [decide_eq_true_iff];omega),aH f];generalize (Lib.decDigits u)[i]=x at o c;simp only [bS];rw [if_neg (by rw [decide_eq_true_iff];omega),decide_eq_false (by omega)];simp only [Option.bind_some,Bool.false_eq_true,if_false];rw [aV (n:=10*(a:Int)) (by omega) (by omega),fQ (n:=x.toNat) (by omega),aV (n:=10*(a:Int)+x.toNat) (by omega) (by omega),aV,ax];have e:10*(a:Int)+x.toNat-48=((10*a+(x.toNat-48):Nat):Int):=by omega
   rw [e];exact ih k (i+1) _ (by omega) (by omega) (by omega) (by rw [Nat.pow_succ];omega) c
 exact key (Lib.decDigits u).length bc 0 0 (by omega) cN (by omega) (by simp) (Nx u)
theorem Ow {n:Int}(h : -9999≤n∧n≤9999):yR (Lib.itoa n)=some (n,true)∧wd (Lib.itoa n)=some (n,true):=by
 have c:I64 n:=⟨by omega,by omega⟩;refine ⟨?_,?_⟩
 ·unfold yR Lib.itoa;by_cases d:n<0
  ·obtain ⟨u,rfl⟩:∃u:Nat,n=-(u:Int):=⟨n.natAbs,by omega⟩;have eu:(-(u:Int)).natAbs=u:=by omega
   rw [if_pos d,eu];have e:=vR 3 u (by omega);have a:0<(Lib.decDigits u).length:=List.length_pos_iff.2 (tF u);rw [Q4];show (some (45:UInt8)).bind _=_;simp only [bS];rw [if_neg (by decide)];have g:=AQ (xs:=(45:UInt8)::Lib.decDigits u) (f:=1) (i:=((45:UInt8)::Lib.decDigits u).length) (by simp) (Nat.le_refl _);have j:((1:Nat):Int)=1:=rfl;rw [j] at g;rw [g];simp only [bS];have k:(((45:UInt8)::Lib.decDigits u).drop 1).take (((45:UInt8)::Lib.decDigits u).length-1)=Lib.decDigits u:=by simp
   rw [k,Kg (by omega)];simp only [bS];rw [Q4,aV];simp
  obtain ⟨u,rfl⟩:∃u:Nat,n=(u:Int):=⟨n.toNat,by omega⟩;rw [if_neg d,Int.toNat_natCast];have e:=vR 3 u (by omega);have a:0<(Lib.decDigits u).length:=List.length_pos_iff.2 (tF u);have l:=pQ u;rw [Q4,show (0:Int)=((0:Nat):Int) from rfl,aH a];simp only [bS];have:=l _ (List.getElem_mem a);rw [Q0,Kg (by omega)];simp only [bS];rw [Q4]
 unfold wd Bi QV;have e:=NM c;rw [Q3,Sj (by omega)];simp only [cS];unfold bm;rw [decide_eq_true (by omega),decide_eq_true (by omega)];simp only [Option.bind_some,Bool.and_self,Bool.not_true,Bool.false_eq_true,if_false];rw [JI c];simp
end Go.Vk
/- Attributes and schemas out of their texts. -/
namespace Go.Vk
open Go.Proofs
abbrev zA:aK:=⟨[],[],[]⟩
abbrev zS:ae:=⟨[],[]⟩
theorem Iu {w:List UInt8}(h:EX w){c:UInt8}(e:c.toNat<97∨122<c.toNat):c∉w:=λa=>by
 obtain ⟨i,d,rfl⟩:=List.getElem_of_mem a;have:=h.2 i (Nat.zero_le _) d;omega
theorem Cw {ws:List (List UInt8)}(h:Bq ws){c:UInt8}(d:c.toNat<97∨122<c.toNat):∀w∈ws,c∉w:=λw e=>by
 obtain ⟨i,a,rfl⟩:=List.getElem_of_mem e;exact Iu (h i (Nat.zero_le _) a a).1 d
theorem VL {n:Int}{c:UInt8}(a:c.toNat≠45∧(c.toNat<48∨57<c.toNat)):c∉Lib.itoa n:=λhm=>by
 unfold Lib.itoa at hm;split at hm
 ·rcases List.mem_cons.1 hm with rfl|hm
  ·exact a.1 rfl
  have:=pQ _ _ hm;omega
 have:=pQ _ _ hm;omega
theorem yZ {ws:List (List UInt8)}{c s:UInt8}(a:c≠s)(h:∀w∈ws,c∉w):c∉Lib.join ws [s]:=λd=>by
 rcases Uz d with h1|⟨w,e,h1⟩
 ·exact a (List.mem_singleton.1 h1)
 exact h w e h1
theorem Eu {l:List Int}{c:UInt8}(a:c.toNat≠45∧(c.toNat<48∨57<c.toNat)):∀w∈l.map Lib.itoa,c∉w:=λw d=>by
 obtain ⟨n,_,rfl⟩:=List.mem_map.1 d;exact VL a
open Classical in
noncomputable def Hu (a:aK)(p:List UInt8):aK×Bool:=if uL a∧eK a=p then (a,true) else (zA,false)
theorem XR {a:aK}(c:nx a)(p:List UInt8):ou p a.F_ a.B_ a.M_=some (Hu a p)∧lu p a.F_ a.B_ a.M_=some (Hu a p):=by
 unfold ou lu;show (oZ a).bind _=_∧(oY a).bind _=_;rcases (AB (Bc c)).cases with ⟨e,d⟩|⟨e,d⟩
 ·obtain ⟨g,i,_⟩:=FW c d;rw [e,(FH (Bc c)).val d];have t1':pH (aK.mk a.F_ a.B_ a.M_)=some (eK a):=g;have t2':nL (aK.mk a.F_ a.B_ a.M_)=some (eK a):=i;simp only [cS];rw [t1',t2'];simp only [bS];by_cases f:eK a=p
  ·rw [show Hu a p=(a,true) from if_pos ⟨d,f⟩,if_neg (by simp [f])];exact ⟨rfl,rfl⟩
  rw [show Hu a p=(zA,false) from if_neg λh=>f h.2,if_pos (by simp [f])];exact ⟨rfl,rfl⟩
 have e':oY a=some false:=by rw [(FH (Bc c)).eq (AB (Bc c)),e]
 rw [e,e',show Hu a p=(zA,false) from if_neg λh=>d h.1];exact ⟨rfl,rfl⟩
theorem Nn {s:List UInt8}(a:s.length≤1048576)(c:UInt8):RZ s [c]=some (Lib.cut s [c]):=if_pos (by omega)
theorem PP {l:List Int}(u:l.length≤3)(g:RE l){a:aK}(j:a.B_=l)(m:a.M_=[])(o:nx a)(p:List UInt8)(x:List UInt8×List UInt8×Bool)(q:x.1=a.F_):ll (l.map Lib.itoa) p a.F_ bc [] 0=some (Hu a p)∧ka (l.map Lib.itoa) p x bc 0 []=some (Hu a p):=by
 have d:(List.range (l.map Lib.itoa).length).map (λi=>l.getD i 0)=l:=by
  apply List.ext_getElem (by simp);intro i h1 s;simp [s]
 have f:∀i,(h:i<(l.map Lib.itoa).length)→yR (l.map Lib.itoa)[i]=some (l.getD i 0,true)∧wd (l.map Lib.itoa)[i]=some (l.getD i 0,true):=λi h=>by
  have h':i<l.length:=by simpa using h
  rw [List.getElem_map];have:=(g i (Nat.zero_le _) h' h').1;have e:l.getD i 0=l[i]:=by simp [h']
  rw [e];exact Ow (by omega)
 have c:=XR o p;rw [j,m] at c;refine ⟨?_,?_⟩
 ·refine (yc (n:=(l.map Lib.itoa).length) (λi=>l.getD i 0) (λk r i=>ll (l.map Lib.itoa) p a.F_ k r i) (λr=>ou p a.F_ r []) (λk r=>?_) (λk r i h t=>?_) (by simp;omega)).trans ?_
  ·show ll _ p _ (k+1) r _=_;rw [ll,Q5]
  ·show ll _ p _ (k+1) r _=_;rw [ll,if_pos (by rw [decide_eq_true_iff];omega),aH h];simp only [bS];rw [(f i h).1];simp only [cS];rw [bA (by simp at h ⊢;omega),ax (by simp at h;omega)];rfl
  rw [d];exact c.1
 refine (yc (n:=(l.map Lib.itoa).length) (λi=>l.getD i 0) (λk r i=>ka (l.map Lib.itoa) p x k i r) (λr=>lu p x.1 r []) (λk r=>?_) (λk r i h t=>?_) (by simp;omega)).trans ?_
 ·show ka _ p _ (k+1) _ r=_;rw [ka,Q5]
 ·show ka _ p _ (k+1) _ r=_;rw [ka,if_pos (by rw [decide_eq_true_iff];omega),aH h];simp only [bS];rw [(f i h).2];simp only [cS];rw [bA (by simp at h ⊢;omega),ax (by simp at h;omega)];rfl
 rw [d,q];exact c.2
theorem Ko {a:aK}(h:uL a):Hu a (eK a)=(a,true):=if_pos ⟨h,rfl⟩
theorem Qd {a:aK}(m:nx a)(h:uL a):zj (eK a)=some (a,true)∧wb (eK a)=some (a,true):=by
 have i:=(FW m h).2.2;have j:=XR m (eK a);rw [Ko h] at j;unfold zj wb;rw [(qq (p:=61) (s:=eK a) (by omega) 61 rfl).1,(qq (p:=58) (s:=eK a) (by omega) 58 rfl).1,Nn (s:=eK a) (by omega) 61,Nn (s:=eK a) (by omega) 58];simp only [bS];have c:(61:UInt8)∉a.F_:=Iu h.1 (.inl (by decide));have k:(58:UInt8)∉a.F_:=Iu h.1 (.inl (by decide));rcases h.2 with ⟨o,t,u⟩|⟨o,v,x⟩
 ·have e:eK a=a.F_++61::Lib.join a.M_ [44]:=by
   unfold eK;rw [Q6];simp
  have d:(61:UInt8)∉Lib.join a.M_ [44]:=yZ (by decide) (Cw u (.inl (by decide)));have q:lE 61 (eK a)=[a.F_,Lib.join a.M_ [44]]:=by rw [e,vi c,sU d]
  have r:Lib.cut (eK a) [61]=(a.F_,Lib.join a.M_ [44],true):=by rw [e,Jn c]
  have f:(Lib.join a.M_ [44]).length≤1048576:=by rw [e] at i;simp at i;omega
  have g:lE 44 (Lib.join a.M_ [44])=a.M_:=wu (λh=>by rw [h] at t;simp at t) (Cw u (.inl (by decide)));have ec:a.B_=[]:=List.length_eq_zero_iff.1 o;rw [ec] at j;rw [q,r];simp only [if_true];refine ⟨?_,?_⟩
  ·rw [Q2];show (lC (Lib.join a.M_ [44]) 44).bind _=_;rw [(qq (p:=44) f 44 rfl).1,g];exact j.1
  rw [(qq (p:=44) f 44 rfl).2,g];exact j.2
 have e:eK a=a.F_++58::Lib.join (a.B_.map Lib.itoa) [44]:=by
  unfold eK;rw [Q3];simp
 have d:(61:UInt8)∉Lib.join (a.B_.map Lib.itoa) [44]:=yZ (by decide) (Eu (by decide));have w:(58:UInt8)∉Lib.join (a.B_.map Lib.itoa) [44]:=yZ (by decide) (Eu (by decide))
 have l:(61:UInt8)∉eK a:=by
  rw [e];intro hm;rcases List.mem_append.1 hm with hm|hm
  ·exact c hm
  rcases List.mem_cons.1 hm with hm|hm
  ·exact absurd hm (by decide)
  exact d hm
 have q:lE 61 (eK a)=[eK a]:=sU l;have e1':lE 58 (eK a)=[a.F_,Lib.join (a.B_.map Lib.itoa) [44]]:=by rw [e,vi k,sU w]
 have r:Lib.cut (eK a) [61]=(eK a,[],false):=SI l;have e2':Lib.cut (eK a) [58]=(a.F_,Lib.join (a.B_.map Lib.itoa) [44],true):=by rw [e,Jn k]
 have f:(Lib.join (a.B_.map Lib.itoa) [44]).length≤1048576:=by rw [e] at i;simp at i;omega
 have g:lE 44 (Lib.join (a.B_.map Lib.itoa) [44])=a.B_.map Lib.itoa:=wu (λh=>by
  have:=congrArg List.length h;simp at this;rw [this] at v;simp at v) (Eu (by decide))
 have ev:a.M_=[]:=List.length_eq_zero_iff.1 o;rw [q,e1',r,e2'];simp only [if_true,Bool.false_eq_true,if_false];obtain ⟨c1,c2⟩:=PP (by omega) x rfl ev m (eK a) (a.F_,Lib.join (a.B_.map Lib.itoa) [44],true) rfl;rw [Ko h] at c1 c2;refine ⟨?_,?_⟩
 ·rw [Q5,Q2];show (lC (Lib.join (a.B_.map Lib.itoa) [44]) 44).bind _=_;rw [(qq (p:=44) f 44 rfl).1,g];exact c1
 rw [(qq (p:=44) f 44 rfl).2,g];exact c2
end Go.Vk
/- Schemas out of their texts. -/
namespace Go.Vk
open Go.Proofs
theorem Nz {a:aK}(h:uL a){c:UInt8}(e:c=59∨c=124):c∉eK a:=by
 have g:c.toNat<97∨122<c.toNat:=by rcases e with rfl|rfl<;>decide
 have j:c.toNat≠45∧(c.toNat<48∨57<c.toNat):=by rcases e with rfl|rfl<;>decide
 have d:c≠44∧c≠58∧c≠61:=by rcases e with rfl|rfl<;>decide
 have i:c∉a.F_:=Iu h.1 g
 have k:c∉Lib.join a.M_ [44]:=by
  rcases h.2 with ⟨_,_,f⟩|⟨f,_⟩
  ·exact yZ d.1 (Cw f g)
  rw [List.length_eq_zero_iff.1 f];exact yZ d.1 (by simp)
 have l:c∉Lib.join (a.B_.map Lib.itoa) [44]:=yZ d.1 (Eu j);unfold eK;split
 ·intro hm;rcases List.mem_append.1 hm with hm|hm
  ·rcases List.mem_append.1 hm with hm|hm
   ·exact i hm
   exact d.2.1 (List.mem_singleton.1 hm)
  exact l hm
 intro hm;rcases List.mem_append.1 hm with hm|hm
 ·rcases List.mem_append.1 hm with hm|hm
  ·exact i hm
  exact d.2.2 (List.mem_singleton.1 hm)
 exact k hm
theorem MC {s:ae}(f:bn s)(h:gF s):vD (li s)=some (s,true)∧rX (li s)=some (s,true):=by
 have m:=(zz f h).2.2;have g:=h.1
 have o:∀w∈s.c_.map eK,(124:UInt8)∉w∧(59:UInt8)∉w:=λw d=>by
  obtain ⟨a,g,rfl⟩:=List.mem_map.1 d;obtain ⟨i,c,rfl⟩:=List.getElem_of_mem g;exact ⟨Nz (h.attr c) (.inr rfl),Nz (h.attr c) (.inl rfl)⟩
 have e:li s=Lib.join (s.c_.map eK) [59]++124::Lib.join s.g_ [44]:=by unfold li;simp
 have nA:(124:UInt8)∉Lib.join (s.c_.map eK) [59]:=yZ (by decide) λw d=>(o w d).1;have nC:(124:UInt8)∉Lib.join s.g_ [44]:=yZ (by decide) (Cw h.2.2.1 (.inr (by decide)));have x:lE 124 (li s)=[Lib.join (s.c_.map eK) [59],Lib.join s.g_ [44]]:=by rw [e,vi nA,sU nC]
 have A:Lib.cut (li s) [124]=(Lib.join (s.c_.map eK) [59],Lib.join s.g_ [44],true):=by rw [e,Jn nA]
 have j:(Lib.join (s.c_.map eK) [59]).length≤1048576∧(Lib.join s.g_ [44]).length≤1048576:=by rw [e] at m;simp at m;omega
 have q:lE 44 (Lib.join s.g_ [44])=s.g_:=wu (λl=>by have:=h.2.1;rw [l] at this;simp at this) (Cw h.2.2.1 (.inl (by decide)))
 have t:lE 59 (Lib.join (s.c_.map eK) [59])=s.c_.map eK:=wu (λl=>by
  have:=congrArg List.length l;simp at this;rw [this] at g;simp at g) λw d=>(o w d).2
 have u:(List.range (s.c_.map eK).length).map (λi=>s.c_.getD i zA)=s.c_:=by
  apply List.ext_getElem (by simp);intro i h1 C;simp [C]
 have v:∀i,(c:i<(s.c_.map eK).length)→zj (s.c_.map eK)[i]=some (s.c_.getD i zA,true)∧wb (s.c_.map eK)[i]=some (s.c_.getD i zA,true):=λi c=>by
  have hi':i<s.c_.length:=by simpa using c
  rw [List.getElem_map];have e:s.c_.getD i zA=s.c_[i]:=by simp [hi']
  rw [e];exact Qd (f.1.2 _ (List.getElem_mem hi')) (h.attr hi')
 have E:(s.c_.map eK).length≤5:=by simp;omega
 unfold vD rX;rw [(qq (p:=124) (s:=li s) (by omega) 124 rfl).1,Nn (s:=li s) (by omega) 124,x,A];simp only [cS];refine ⟨?_,?_⟩
 ·rw [Q5];show (lC (Lib.join s.g_ [44]) 44).bind _=_;rw [(qq (p:=44) j.2 44 rfl).1,q];simp only [bS];show (lC (Lib.join (s.c_.map eK) [59]) 59).bind _=_;rw [(qq (p:=59) j.1 59 rfl).1,t];simp only [bS];refine (yc (n:=(s.c_.map eK).length) (λi=>s.c_.getD i zA) (λk r i=>kN (s.c_.map eK) s.g_ k r i) (λr=>(fH (ae.mk r s.g_)).bind λy=>if (!y) then some (zS,false) else some (⟨r,s.g_⟩,true)) (λk r=>?_) (λk r i c D=>?_) (by omega)).trans ?_
  ·show kN _ _ (k+1) r _=_;rw [kN,Q5]
  ·show kN _ _ (k+1) r _=_;rw [kN,if_pos (by rw [decide_eq_true_iff];omega),aH c];simp only [bS];rw [(v i c).1];simp only [cS];rw [bA,ax];rfl
  rw [u];show (fH s).bind _=_;rw [(nI (lT f)).val h];rfl
 rw [(qq (p:=44) j.2 44 rfl).2,q];simp only [bS];rw [(qq (p:=59) j.1 59 rfl).2,t];simp only [bS];refine (yc (n:=(s.c_.map eK).length) (λi=>s.c_.getD i zA) (λk r i=>jw (s.c_.map eK) s.g_ k i r) (λr=>(go (ae.mk r s.g_)).bind λy=>if (!y) then some (zS,false) else some (⟨r,s.g_⟩,true)) (λk r=>?_) (λk r i c D=>?_) (by omega)).trans ?_
 ·show jw _ _ (k+1) _ r=_;rw [jw,Q5]
 ·show jw _ _ (k+1) _ r=_;rw [jw,if_pos (by rw [decide_eq_true_iff];omega),aH c];simp only [bS];rw [(v i c).2];simp only [cS];rw [bA,ax];rfl
 rw [u];show (go s).bind _=_;rw [(qV (lT f)).val h];rfl
end Go.Vk
/- States, read: what is read, and that it answers. -/
namespace Go.Vk
abbrev zT:aF:=⟨⟨⟨[],[]⟩,⟨0,0,0,0,0,0,false⟩,0,0,0,0,0⟩,⟨[]⟩,⟨[],[]⟩⟩
def KZ {α:Type}(p:List Int)(P:Pz α):Prop:=∀(a:Int) v (b:Int),0≤a→a≤p.length→P a=some (v,b)→a≤b∧b≤p.length
theorem yw.mono {α:Type}{p:List Int}(hp:p.length≤1048576){P:Pz α}{sz:α→Nat}(h:yw p P sz):KZ p P:=λa v b d h1 e=>by
 obtain ⟨f,g,c,i⟩:=h a v b ⟨by omega,by omega⟩ e;exact ⟨by omega,c⟩
theorem Lz {α:Type}{p:List Int}(x:α):KZ p (λa=>some (x,a)):=λa v b c h1 e=>by
 obtain ⟨rfl,rfl⟩:=Prod.mk.inj (Option.some.inj e);exact ⟨Int.le_refl _,h1⟩
theorem Au {α β:Type}{p:List Int}{P:Pz α}{Q:α→Pz β}(h:KZ p P)(k:∀v,KZ p (Q v)):KZ p (Pz.bind P Q):=λa v b c h1 e=>by
 unfold Pz.bind at e;obtain ⟨y,d,f⟩:=dK e;obtain ⟨j,g⟩:=h a y.1 y.2 c h1 d;obtain ⟨l,i⟩:=k y.1 y.2 v b (by omega) g f;exact ⟨by omega,i⟩
theorem Oh {α β:Type}{p:List Int}{P:Pz α}(f:α→β)(h:KZ p P):KZ p (Pz.map f P):=λa v b c h1 e=>by
 obtain ⟨y,d,g⟩:=Option.map_eq_some_iff.1 e;obtain ⟨rfl,rfl⟩:=Prod.mk.inj g;exact h a y.1 y.2 c h1 d
theorem Gr {α β:Type}{p:List Int}{P:Pz α}{Q:α→Pz β}{sz:α→Nat}(h:yw p P sz)(k:∀v,KZ p (Q v)):yw p (Pz.bind P Q) (λ_=>1):=λa v b c e=>by
 unfold Pz.bind at e;obtain ⟨y,d,f⟩:=dK e;obtain ⟨g,l,i,m⟩:=h a y.1 y.2 c d;obtain ⟨o,j⟩:=k y.1 y.2 v b (by omega) i f;exact ⟨g,by show a+((1:Nat):Int)≤b;omega,j,Nat.le_refl _⟩
noncomputable abbrev KY (p:List Int):Pz au:=Pz.map au.mk (db p (db p (gI p)))
noncomputable def BL (p:List Int):Pz aA:=Pz.bind (zi p) λt=>Pz.bind (gI p) λh=>Pz.bind (zi p) λy=>Pz.bind (KY p) λw=>Pz.bind (KY p) λd=>λa=>some (⟨t,h==1,y,⟨w,d⟩⟩,a)
noncomputable def Ob (p:List Int):Pz aA:=Pz.bind (zi p) λt=>Pz.bind (Ax p) λh=>Pz.bind (zi p) λy=>Pz.bind (KY p) λw=>Pz.bind (KY p) λd=>λa=>some (⟨t,h,y,⟨w,d⟩⟩,a)
noncomputable def Fo (p:List Int):Pz aG:=Pz.bind (gI p) λt=>Pz.bind (gI p) λs=>λa=>some (⟨t,s⟩,a)
theorem EG {x:Int}(h:InR x) : -9223372036854775808≤x∧x≤9223372036854775807:=by
 unfold InR at h;exact ⟨by omega,by omega⟩
theorem My {x:List Int}(h:x.length≤1048576∧∀y∈x,InR y):qk x:=⟨h.1,λy a=>EG (h.2 y a)⟩
section
variable {p:List Int} (hb:gi p) (hp:p.length≤1048576)
include hb hp
theorem Jh:yw p (zi p) (λ_=>1):=Gr (Q:=λv=>Pz.map (λns=>am.mk ns v) (db p (vY p))) (jK hb hp) λv=>Oh (λns=>am.mk ns v) ((Ah hb hp (Bx hb hp)).mono hp)
theorem Mg:KZ p (KY p):=Oh _ ((Ah hb hp (pj hb hp)).mono hp)
theorem Rf:KZ p (gI p):=(jK hb hp).mono hp
theorem PF:yw p (BL p) (λ_=>1):=Gr (Jh hb hp) λ_=>Au (Rf hb hp) λ_=>Au ((Jh hb hp).mono hp) λ_=>Au (Mg hb hp) λ_=>Au (Mg hb hp) λ_=>Lz _
theorem PO:yw p (Fo p) (λ_=>1):=Gr (jK hb hp) λ_=>Au (Rf hb hp) λ_=>Lz _
theorem Fd:Sat (Ax p) (λ_=>True):=λa v b d e=>by
 unfold Ax at e;obtain ⟨y,f,c⟩:=dK e;split at c
 ·cases c
 obtain ⟨rfl,rfl⟩:=Prod.mk.inj (Option.some.inj c);exact ⟨(Aj hb hp a y.1 y.2 d f).1,trivial⟩
theorem zr:Sat (KY p) uZ:=QU (SX hb hp) λ_ h=>⟨h.1,λy a=>My (h.2 y a)⟩
theorem TA:Sat (vY p) pr:=by
 have i:=Aj hb hp;have l:=Em hb hp
 exact hZ (Fd hb hp) λv0 _=>hZ i λr h1=>hZ i λs d=>hZ l λt e=>hZ i λu f=>hZ l λv g=>hZ (zr hb hp) λw h=>hZ i λx j=>hZ l λA k=>hZ i λC m=>hZ i λo a=>hZ i λq c =>
  FC ⟨trivial,⟨EG h1,EG d⟩,My e,EG f,⟨My g,h⟩,EG j,My k,EG m,EG a,EG c⟩
theorem yJ:Sat (zi p) iB:=hZ (Q:=InR) (R:=λv=>Pz.map (λns=>am.mk ns v) (db p (vY p))) (Aj hb hp) λ_ a=>QU (JF hb hp (Bx hb hp) (TA hb hp)) λ_ h=>⟨h,EG a⟩
theorem Vq:Sat (BL p) qL:=hZ (yJ hb hp) λ_ h1=>hZ (Aj hb hp) λ_ _=>hZ (yJ hb hp) λ_ a=>hZ (zr hb hp) λ_ c=>hZ (zr hb hp) λ_ d=>FC ⟨h1,trivial,a,c,d⟩
theorem TP:Sat (Ob p) qL:=hZ (yJ hb hp) λ_ h1=>hZ (Fd hb hp) λ_ _=>hZ (yJ hb hp) λ_ a=>hZ (zr hb hp) λ_ c=>hZ (zr hb hp) λ_ d=>FC ⟨h1,trivial,a,c,d⟩
omit hb hp in
theorem Sat.i64 {α:Type}{P:Pz α}{Q:α→Prop}(h:Sat P Q):∀a v b,I64 a→P a=some (v,b)→I64 b:=λa v b c e=>(h a v b c e).1
noncomputable def XQ (p:List Int):ar→Option (aA×ar):=rb (jr p) λt=>rb (iy p) λh=>rb (jr p) λy=>rb (fU p) λw=>rb (fU p) λd=>λs=>some (⟨t,h,y,⟨w,d⟩⟩,s)
theorem Yc:yP (XQ p) (Ob p):=tY (Qt hb hp) (yJ hb hp).i64 λ_=>tY (MA hb hp) (Fd hb hp).i64 λ_=>tY (Qt hb hp) (yJ hb hp).i64 λ_=>tY (DR hb hp) (zr hb hp).i64 λ_=>tY (DR hb hp) (zr hb hp).i64 λ_=>Ni _
noncomputable def UB (p:List Int):ar→Option (aG×ar):=rb (bd p) λt=>rb (bd p) λu=>λs=>some (⟨t,u⟩,s)
theorem WC:yP (UB p) (Fo p):=tY (Hl hb hp) (Aj hb hp).i64 λ_=>tY (Hl hb hp) (Aj hb hp).i64 λ_=>Ni _
end
def Con (K:ar→Option (aF×Bool))(G:Int→Option aF):Prop:=(∀a,∃v,K ⟨a,true⟩=some (v,false))∧∀a,I64 a→(∀st,G a=some st→K ⟨a,false⟩=some (st,true))∧(G a=none→∃v,K ⟨a,false⟩=some (v,false))
theorem Uh {α:Type}{op:ar→Option (α×ar)}{P:Pz α}{K:ar→α×ar→Option (aF×Bool)}{G:α→Int→Option aF}(h:yP op P)(f:∀a v b,I64 a→P a=some (v,b)→I64 b)(k:∀g v,Con (λs=>K g (v,s)) (G v)):Con (λs=>(op s).bind (K s)) (λa=>(P a).bind λy=>G y.1 y.2):=by
 refine ⟨λa=>?_,λa c=>?_⟩
 ·obtain ⟨v,a',e⟩:=h.1 a;show ∃v,(op ⟨a,true⟩).bind _=_;rw [e];exact (k _ v).1 a'
 show (∀st,((P a).bind λy=>G y.1 y.2)=some st→(op ⟨a,false⟩).bind (K ⟨a,false⟩)=some (st,true))∧(((P a).bind λy=>G y.1 y.2)=none→∃v,(op ⟨a,false⟩).bind (K ⟨a,false⟩)=some (v,false))
 cases d:P a with
 | none =>
  obtain ⟨v,a',e⟩:=(h.2 a c).2 d;rw [e];exact ⟨λst e=>(by cases e),λ_=>(k _ v).1 a'⟩
 | some y =>
  obtain ⟨v,b⟩:=y;rw [(h.2 a c).1 v b d];exact (k _ v).2 b (f a v b c d)
theorem Wp (st:aF):Con (λs=>some (st,!s.P_)) (λ_=>some st):=⟨λa=>⟨_,rfl⟩,λa _=>⟨λst' e=>by cases e;rfl,λe=>by cases e⟩⟩
theorem LT {α:Type}{op:ar→Option (α×ar)}{P:Pz α}(g:yP op P)(f:∀a v b,I64 a→P a=some (v,b)→I64 b){N:Int}(h:N≤1000000)(Lp:Nat→Int→Bool→List α→Int→Option (aF×Bool))(fin:List α→ar→Option (aF×Bool)){G:List α→Int→Option aF}(step:∀k a q l i,Lp (k+1) a q l i=if decide (i<N) then (op ⟨a,q⟩).bind λy=>(app l [y.1]).bind λl'=>Lp k y.2.b_ y.2.P_ l' (IntKind.i64.wrap (i+1)) else fin l ⟨a,q⟩)(k:∀l,Con (fin l) (G l)):Con (λs=>Lp bc s.b_ s.P_ [] 0) (λa=>(P.many N.toNat a).bind λy=>G y.1 y.2):=by
 have H:=λa=>TC g f N Lp fin step N.toNat bc 0 a [] (by simp) cN (by omega) h rfl;have j:∀(n:Nat) a v b,I64 a→P.many n a=some (v,b)→I64 b:=λn a v b c e=>(yB (P:=P) (Q:=λ_=>True) (λa v b c e=>⟨f a v b c e,trivial⟩) n a v b c e).1;refine ⟨λa=>?_,λa c=>?_⟩
 ·obtain ⟨l',a',e⟩:=(H a).1;show ∃v,Lp bc a true [] 0=_;rw [e];exact (k l').1 a'
 show (∀st,((P.many N.toNat a).bind λy=>G y.1 y.2)=some st→Lp bc a false [] 0=some (st,true))∧(((P.many N.toNat a).bind λy=>G y.1 y.2)=none→∃v,Lp bc a false [] 0=some (v,false))
 cases d:P.many N.toNat a with
 | none =>
  obtain ⟨l',a',e⟩:=((H a).2 c).2 d;rw [e];exact ⟨λst e=>(by cases e),λ_=>(k l').1 a'⟩
 | some y =>
  obtain ⟨v,b⟩:=y;rw [((H a).2 c).1 v b d];exact (k v).2 b (j _ a v b c d)
theorem TE {α:Type}{p:List Int}(hb:gi p)(hp:p.length≤1048576){op:ar→Option (α×ar)}{P:Pz α}{sz:α→Nat}(m:yP op P)(f:yw p P sz)(Lp:Nat→Int→Bool→List α→Int→Option (aF×Bool))(fin:List α→ar→Option (aF×Bool)){G:List α→Int→Option aF}(step:∀k a q l n,Lp (k+1) a q l n=if (decide (n>0)) && !q then (op ⟨a,q⟩).bind λy=>(app l [y.1]).bind λl'=>Lp k y.2.b_ y.2.P_ l' (IntKind.i64.wrap (n-1)) else fin l ⟨a,q⟩)(k:∀l,Con (fin l) (G l)):Con (λs=>(dn p s).bind λy=>Lp bc y.2.b_ y.2.P_ [] y.1) (λa=>(db p P a).bind λy=>G y.1 y.2):=by
 refine ⟨λa=>?_,λa d=>?_⟩
 ·obtain ⟨v,a',e⟩:=(Ff hb hp).1 a;show ∃v,(dn p ⟨a,true⟩).bind _=_;rw [e];simp only [bS];rw [Ek (Lp:=Lp) (fin:=fin) step cN];exact (k []).1 a'
 show (∀st,((db p P a).bind λy=>G y.1 y.2)=some st→((dn p ⟨a,false⟩).bind λy=>Lp bc y.2.b_ y.2.P_ [] y.1)=some (st,true))∧(((db p P a).bind λy=>G y.1 y.2)=none→∃v,((dn p ⟨a,false⟩).bind λy=>Lp bc y.2.b_ y.2.P_ [] y.1)=some (v,false));have i:=(Ff hb hp).2 a d;rw [Qp hb hp f d]
 cases h:cIr p a with
 | none =>
  obtain ⟨v,a',e⟩:=i.2 h;rw [e];simp only [Option.bind_some,Option.bind_none];rw [Ek (Lp:=Lp) (fin:=fin) step cN];exact ⟨λst e=>(by cases e),λ_=>(k []).1 a'⟩
 | some y =>
  obtain ⟨n,b⟩:=y;rw [i.1 n b h];simp only [bS];obtain ⟨h1,o,u⟩:=OG h;obtain ⟨w,x,r,_⟩:=jK hb hp a n b d h1;have j:=(jK hb hp).i64 hp d h1;obtain ⟨r1,t⟩:=Qv m f hp Lp fin step n.toNat bc n b [] rfl cN (by omega) o (by simp;omega) j
  cases g:P.many n.toNat b with
  | none =>
   obtain ⟨l',a',e⟩:=t g;rw [e];exact ⟨λst e=>(by cases e),λ_=>(k l').1 a'⟩
  | some z =>
   obtain ⟨vs,c⟩:=z;rw [r1 vs c g];obtain ⟨A,C,D,E⟩:=CZ f hp _ _ vs c (by omega) r g;exact (k ([]++vs)).2 c ⟨by omega,by omega⟩
end Go.Vk
/- States, read by the program: alike what is read. -/
namespace Go.Vk
open Classical in
theorem Yy {c:aZ}{K:ar→Option (aF×Bool)}{G:Int→Option aF}{X:Option Bool}(d:Dec X (yM c))(k:yM c→Con K G):Con (λs=>(if s.P_ then some true else X.bind λy=>some (!y)).bind λu=>if u then some (zT,false) else K s) (λa=>if yM c then G a else none):=by
 refine ⟨λa=>⟨_,rfl⟩,λa f=>?_⟩;rcases d.cases with ⟨e,h⟩|⟨e,h⟩
 ·have hk:=(k h).2 a f;rw [e];refine ⟨λst e=>hk.1 st ?_,λe=>hk.2 ?_⟩
  ·have e:(if yM c then G a else none)=some st:=e;rwa [if_pos h] at e
  have e:(if yM c then G a else none)=none:=e;rwa [if_pos h] at e
 rw [e];refine ⟨λst e=>?_,λ_=>⟨_,rfl⟩⟩;have e:(if yM c then G a else none)=some st:=e;rw [if_neg h] at e;cases e
theorem mZ {α:Type}{op:ar→Option (α×ar)}{P:Pz α}{K:ar→α×ar→Option (aF×Bool)}{G:α×Int→Option aF}(h:yP op P)(c:∀a v b,I64 a→P a=some (v,b)→I64 b)(k:∀d v,Con (λs=>K d (v,s)) (λb=>G (v,b))):Con (λs=>(op s).bind (K s)) (λa=>(P a).bind G):=Uh (G:=λv b=>G (v,b)) h c k
theorem XA {F:ar→ar→Option (aF×Bool)}{G:Int→Option aF}(h:∀c,Con (F c) G):Con (λs=>F s s) G:=⟨λa=>(h ⟨a,true⟩).1 a,λa d=>(h ⟨a,false⟩).2 a d⟩
noncomputable def Dr (p:List Int)(M:Pz aA)(L:Pz (List aG))(c:aZ):Int→Option aF:=λa =>
 (M.many c.u_.toNat a).bind λy1=>((db p (gI p)).many (((c.y_.g_.length:Nat):Int)).toNat y1.2).bind λy2=>(L y2.2).bind λy3=>some ⟨c,⟨y1.1⟩,⟨y2.1,y3.1⟩⟩
open Classical in
noncomputable def Dx (c:aZ)(G:Int→Option aF):Int→Option aF:=λa=>if yM c then G a else none
noncomputable def Sl (p:List Int)(s:ae):Int→Option aF:=λa =>
 (gI p a).bind λy0=>(gI p y0.2).bind λy1=>(gI p y1.2).bind λy2=>(gI p y2.2).bind λy3=>(gI p y3.2).bind λy4=>(gI p y4.2).bind λy5=>(Ax p y5.2).bind λe=>(gI p e.2).bind λf=>(gI p f.2).bind λg=>(gI p g.2).bind λh=>(gI p h.2).bind λc=>(gI p c.2).bind λd =>
  Dx ⟨s,⟨y0.1,y1.1,y2.1,y3.1,y4.1,y5.1,e.1⟩,f.1,g.1,h.1,c.1,d.1⟩ (Dr p (Ob p) (db p (Fo p)) ⟨s,⟨y0.1,y1.1,y2.1,y3.1,y4.1,y5.1,e.1⟩,f.1,g.1,h.1,c.1,d.1⟩) d.2
section
variable {p:List Int} (hb:gi p) (hp:p.length≤1048576)
include hb hp
theorem XZ (c:ae×Bool)(d e f g h i:Int×ar)(j:Bool×ar)(m o r t u:Int×ar)(ms:List aA)(rows:List (List Int)):Con (λs=>(dn p s).bind λy=>iN p c d e f g h i j m o r t u ms rows bc y.1 [] y.2.b_ y.2.P_)
   (λa=>(db p (Fo p) a).bind λy3=>some ⟨⟨c.1,⟨d.1,e.1,f.1,g.1,h.1,i.1,j.1⟩,m.1,o.1,r.1,t.1,u.1⟩,⟨ms⟩,⟨rows,y3.1⟩⟩):=TE hb hp (WC hb hp) (PO hb hp) (λk a q l n=>iN p c d e f g h i j m o r t u ms rows k n l a q) (λl s=>some (⟨⟨c.1,⟨d.1,e.1,f.1,g.1,h.1,i.1,j.1⟩,m.1,o.1,r.1,t.1,u.1⟩,⟨ms⟩,⟨rows,l⟩⟩,!s.P_))
  (λk a q l n=>by
   show iN p c d e f g h i j m o r t u ms rows (k+1) n l a q=_;rw [iN];unfold UB rb;simp only [Option.bind_assoc,Option.bind_some]) (λl=>Wp _)
theorem Yn (c:ae×Bool)(w:c.1.g_.length≤1000000)(d e f g h j:Int×ar)(m:Bool×ar)(o r t u v:Int×ar)(ms:List aA):Con (λs=>iK c p d e f g h j m o r t u v ms bc 0 [] s.b_ s.P_)
   (λa=>((db p (gI p)).many (((c.1.g_.length:Nat):Int)).toNat a).bind λy2=>(db p (Fo p) y2.2).bind λy3=>some ⟨⟨c.1,⟨d.1,e.1,f.1,g.1,h.1,j.1,m.1⟩,o.1,r.1,t.1,u.1,v.1⟩,⟨ms⟩,⟨y2.1,y3.1⟩⟩):=LT (JN hb hp) (Em hb hp).i64 (by omega) (λk a q l i=>iK c p d e f g h j m o r t u v ms k i l a q) (λl s=>(dn p s).bind λy=>iN p c d e f g h j m o r t u v ms l bc y.1 [] y.2.b_ y.2.P_)
  (G:=λrows a=>(db p (Fo p) a).bind λy3=>some ⟨⟨c.1,⟨d.1,e.1,f.1,g.1,h.1,j.1,m.1⟩,o.1,r.1,t.1,u.1,v.1⟩,⟨ms⟩,⟨rows,y3.1⟩⟩)
  (λk a q l i=>by
   show iK c p d e f g h j m o r t u v ms (k+1) i l a q=_;rw [iK]) (λl=>XZ hb hp c d e f g h j m o r t u v ms l)
theorem YR (c:ae×Bool)(w:c.1.g_.length≤1000000)(e f g h j m:Int×ar)(o:Bool×ar)(d r t u v:Int×ar)(x:d.1≤1000000):Con (λs=>gK d p c e f g h j m o r t u v bc 0 [] s.b_ s.P_)
   (Dr p (Ob p) (db p (Fo p)) ⟨c.1,⟨e.1,f.1,g.1,h.1,j.1,m.1,o.1⟩,d.1,r.1,t.1,u.1,v.1⟩):=LT (Yc hb hp) (TP hb hp).i64 x (λk a q l i=>gK d p c e f g h j m o r t u v k i l a q) (λl s=>iK c p e f g h j m o d r t u v l bc 0 [] s.b_ s.P_)
  (G:=λms a=>((db p (gI p)).many (((c.1.g_.length:Nat):Int)).toNat a).bind λy2=>(db p (Fo p) y2.2).bind λy3=>some ⟨⟨c.1,⟨e.1,f.1,g.1,h.1,j.1,m.1,o.1⟩,d.1,r.1,t.1,u.1,v.1⟩,⟨ms⟩,⟨y2.1,y3.1⟩⟩)
  (λk a q l i=>by
   show gK d p c e f g h j m o r t u v (k+1) i l a q=_;rw [gK];unfold XQ rb;simp only [Option.bind_assoc,Option.bind_some]) (λl=>Yn hb hp c w e f g h j m o d r t u v l)
noncomputable def UK (p:List Int)(o:ae×Bool):ar→Option (aF×Bool):=λs =>
 (bd p s).bind λc=>(bd p c.2).bind λd=>(bd p d.2).bind λe=>(bd p e.2).bind λf=>(bd p f.2).bind λg=>(bd p g.2).bind λh=>(iy p h.2).bind λi=>(bd p i.2).bind λj=>(bd p j.2).bind λk=>(bd p k.2).bind λl=>(bd p l.2).bind λm=>(bd p m.2).bind λa =>
  (if a.2.P_ then some true else (qv (aZ.mk o.1 (bO.mk c.1 d.1 e.1 f.1 g.1 h.1 i.1) j.1 k.1 l.1 m.1 a.1)).bind λq=>some (!q)).bind λr=>if r then some (zT,false) else gK j p o c d e f g h i k l m a bc 0 [] a.2.b_ a.2.P_
theorem US (a:ae×Bool)(L:bn a.1):Con (UK p a) (Sl p a.1):=by
 have ri:=Hl hb hp;have si:=(Aj hb hp).i64;unfold UK Sl;refine mZ ri si λP v0=>?_;dsimp only;refine mZ ri si λu i=>?_;dsimp only;refine mZ ri si λv j=>?_;dsimp only;refine mZ ri si λw k=>?_;dsimp only;refine mZ ri si λx l=>?_;dsimp only;refine mZ ri si λA m=>?_;dsimp only;refine mZ (MA hb hp) (Fd hb hp).i64 λC o=>?_;dsimp only;refine mZ ri si λD d=>?_;dsimp only;refine mZ ri si λE q=>?_;dsimp only;refine mZ ri si λG t=>?_;dsimp only;refine mZ ri si λg e=>?_;dsimp only;refine mZ ri si λh f=>?_;dsimp only;refine Yy (c:=⟨a.1,⟨v0,i,j,k,l,m,o⟩,d,q,t,e,f⟩) (Js L) λH=>?_;have h1:a.1.g_.length≤1000000:=by have:(a.1.g_.length:Int)≤3:=H.1.2.1.2;omega
 have M:d≤1000000:=by have:d≤4:=H.2.2.1.2;omega
 exact XA (F:=λr s=>gK (d,E) p a (v0,u) (i,v) (j,w) (k,x) (l,A) (m,C) (o,D) (q,G) (t,g) (e,h) (f,r) bc 0 [] s.b_ s.P_) λr=>YR hb hp a h1 (v0,u) (i,v) (j,w) (k,x) (l,A) (m,C) (o,D) (d,E) (q,G) (t,g) (e,h) (f,r) M
end
end Go.Vk
/- States, read by the reference: what is read. -/
namespace Go.Vk
abbrev zM:aA:=⟨⟨[],0⟩,false,⟨[],0⟩,⟨⟨[]⟩,⟨[]⟩⟩⟩
def out (o:Option aF):aF×Bool:=match o with|some st=>(st,true)|none=>(zT,false)
def Fq (n:Nat)(l:List Int):List aG:=(List.range n).map λi=>⟨l.getD (2*i) 0,l.getD (2*i+1) 0⟩
noncomputable def AO (p:List Int):Pz (List aG):=λa=>(gI p a).bind λy=>if 0≤y.1∧y.1≤20 then ((gI p).many (2*y.1.toNat) y.2).bind λz=>some (Fq y.1.toNat z.1,z.2) else none
def cfL (s:ae)(l:List Int):aZ:=⟨s,⟨l.getD 0 0,l.getD 1 0,l.getD 2 0,l.getD 3 0,l.getD 4 0,l.getD 5 0,l.getD 6 0==1⟩,l.getD 7 0,l.getD 8 0,l.getD 9 0,l.getD 10 0,l.getD 11 0⟩
noncomputable def VX (p:List Int)(s:ae):Int→Option aF:=λa=>((gI p).many 12 a).bind λy=>Dx (cfL s y.1) (Dr p (BL p) (AO p) (cfL s y.1)) y.2
section
variable {p:List Int} (hb:gi p) (hp:p.length≤1048576)
include hb hp
theorem Th:KN (uv p) (KY p) ⟨[]⟩:=λa c=>by
 unfold uv KY Pz.map;rw [Ld hb hp a c]
 cases db p (db p (gI p)) a with
 | none=>rfl
 | some y=>rfl
theorem Yj:KN (yt p) (BL p) zM:=λa c=>by
 have st:=(yJ hb hp).i64;have sw:=(zr hb hp).i64;unfold yt BL Pz.bind;rw [Ra hb hp a c];simp only [bS]
 cases g:zi p a with
 | none=>rfl
 | some y0 =>
 have d:=st a _ _ c g;simp only [cS];rw [LD hb hp _ d];simp only [bS]
 cases h1:gI p y0.2 with
 | none=>rfl
 | some y1 =>
 have e:=(Aj hb hp).i64 _ _ _ d h1;simp only [cS];rw [Ra hb hp _ e];simp only [bS]
 cases h:zi p y1.2 with
 | none=>rfl
 | some y2 =>
 have f:=st _ _ _ e h;simp only [cS];rw [Th hb hp _ f];simp only [bS]
 cases i:KY p y2.2 with
 | none=>rfl
 | some y3 =>
 have j:=sw _ _ _ f i;simp only [cS];rw [Th hb hp _ j];simp only [bS]
 cases k:KY p y3.2 with
 | none=>rfl
 | some y4=>rfl
omit hb hp in
theorem WG {n s t:Int}{u q1:Bool}{vs:List Int}(C:0≤n∧n≤20)(D:vs.length=2*n.toNat)(a:ae×Bool)(c d e f g h j m o p q r:Int)(ms:List aA)(rows:List (List Int)):iq (n,s,u) (vs,t,q1) a c d e f g h j m o p q r ms rows bc [] 0=some (⟨⟨a.1,⟨c,d,e,f,g,h,j==1⟩,m,o,p,q,r⟩,⟨ms⟩,⟨rows,Fq n.toNat vs⟩⟩,true):=by
 refine yc (n:=n.toNat) (λi=>(⟨vs.getD (2*i) 0,vs.getD (2*i+1) 0⟩:aG)) (λk l i=>iq (n,s,u) (vs,t,q1) a c d e f g h j m o p q r ms rows k l i) (λl=>some (⟨⟨a.1,⟨c,d,e,f,g,h,j==1⟩,m,o,p,q,r⟩,⟨ms⟩,⟨rows,l⟩⟩,true)) (λk l=>?_) (λk l i E A=>?_) (by omega)
 ·show iq (n,s,u) (vs,t,q1) a c d e f g h j m o p q r ms rows (k+1) l _=_;rw [iq,if_neg (by rw [decide_eq_true_iff];show ¬((n.toNat:Int)<n);omega)]
 show iq (n,s,u) (vs,t,q1) a c d e f g h j m o p q r ms rows (k+1) l _=_;have x:IntKind.i64.wrap (2*(i:Int))=((2*i:Nat):Int):=by rw [aV];omega
 have v:2*i<vs.length:=by omega
 have w:2*i+1<vs.length:=by omega
 rw [iq,if_pos (by rw [decide_eq_true_iff];show (i:Int)<n;omega),x,ax,aH v,aH w];simp only [bS];rw [bA,ax];simp [v,w]
theorem Pv (e:ae×Bool)(f g i j k l m o q r s t:Int)(ms:List aA)(rows:List (List Int)){a:Int}(D:I64 a):((eW p a).bind λd=>(if (!d.2.2) then some true else (aU d.1 0 20).bind λx=>some (!x)).bind λA=>if A then some (zT,false) else (gH p d.2.1 (IntKind.i64.wrap (2*d.1))).bind λu=>if (!u.2.2) then some (zT,false) else iq d u e f g i j k l m o q r s t ms rows bc [] 0) =
   some (out ((AO p a).bind λy3=>some ⟨⟨e.1,⟨f,g,i,j,k,l,m==1⟩,o,q,r,s,t⟩,⟨ms⟩,⟨rows,y3.1⟩⟩)):=by
 unfold AO;rw [LD hb hp a D];simp only [bS]
 cases F:gI p a with
 | none=>rfl
 | some y =>
 obtain ⟨n,b⟩:=y;have E:=(Aj hb hp).i64 _ _ _ D F;simp only [cS];by_cases v:0≤n∧n≤20
 ·have C:aU n 0 20=some true:=by unfold aU;rw [decide_eq_true v.1,decide_eq_true v.2];rfl
  have w:IntKind.i64.wrap (2*n)=((2*n.toNat:Nat):Int):=by rw [aV];omega
  rw [C,if_pos v,w];simp only [cS];rw [IF hb hp (2*n.toNat) b (by omega) E];simp only [bS]
  cases G:(gI p).many (2*n.toNat) b with
  | none=>rfl
  | some z =>
  obtain ⟨vs,c⟩:=z;obtain ⟨L,H,M⟩:=yB (Aj hb hp) _ _ _ _ E G;simp only [cS];exact WG v H e f g i j k l m o q r s t ms rows
 have C:aU n 0 20=some false:=by
  unfold aU;congr 1;rw [Bool.eq_false_iff];intro h;simp at h;omega
 rw [C,if_neg v];rfl
theorem Xw (c:ae×Bool)(E:c.1.g_.length≤1000000)(e f g h j m o q r s t u:Int)(ms:List aA){a:Int}(A:I64 a):lD c p e f g h j m o q r s t u ms bc [] 0 a =
   some (out (((db p (gI p)).many (((c.1.g_.length:Nat):Int)).toNat a).bind λy2=>(AO p y2.2).bind λy3=>some ⟨⟨c.1,⟨e,f,g,h,j,m,o==1⟩,q,r,s,t,u⟩,⟨ms⟩,⟨y2.1,y3.1⟩⟩)):=by
 have:=EP (Jd hb hp) (pj hb hp) hp (n:=(c.1.g_.length:Int)) (by omega) (λk l i a=>lD c p e f g h j m o q r s t u ms k l i a)
  (λl a=>(eW p a).bind λd=>(if (!d.2.2) then some true else (aU d.1 0 20).bind λw=>some (!w)).bind λx=>if x then some (zT,false) else (gH p d.2.1 (IntKind.i64.wrap (2*d.1))).bind λv=>if (!v.2.2) then some (zT,false) else iq d v c e f g h j m o q r s t u ms l bc [] 0) (some (zT,false)) (λk l i a=>by
   show lD c p e f g h j m o q r s t u ms (k+1) l i a=_;rw [lD]) (((c.1.g_.length:Nat):Int)).toNat bc 0 a [] (by omega) cN (by omega) (by simp) (by omega) A
 refine this.trans ?_
 cases C:(db p (gI p)).many (((c.1.g_.length:Nat):Int)).toNat a with
 | none=>rfl
 | some z =>
 have D:=(yB (Em hb hp) _ _ _ _ A C).1;exact Pv hb hp c e f g h j m o q r s t u ms ([]++z.1) D
theorem We (d:ae×Bool)(w:d.1.g_.length≤1000000)(e f g h j m o c q r s t:Int)(u:c≤1000000){a:Int}(v:I64 a):lA c p d e f g h j m o q r s t bc [] 0 a=some (out (Dr p (BL p) (AO p) ⟨d.1,⟨e,f,g,h,j,m,o==1⟩,c,q,r,s,t⟩ a)):=by
 have:=EP (Yj hb hp) (PF hb hp) hp (n:=c) (by omega) (λk l i a=>lA c p d e f g h j m o q r s t k l i a)
  (λl a=>lD d p e f g h j m o c q r s t l bc [] 0 a) (some (zT,false)) (λk l i a=>by
   show lA c p d e f g h j m o q r s t (k+1) l i a=_;rw [lA]) c.toNat bc 0 a [] (by omega) cN (by omega) (by simp) (by omega) v
 refine this.trans ?_;unfold Dr
 cases u:(BL p).many c.toNat a with
 | none=>rfl
 | some z =>
 have x:=(yB (Vq hb hp) _ _ _ _ v u).1;exact Xw hb hp d w e f g h j m o c q r s t ([]++z.1) x
theorem Sz (a:ae×Bool)(C:bn a.1){vs:List Int}{b:Int}(Z:vs.length=12)(hb':I64 b):((idx vs 0).bind λg=>(idx vs 1).bind λj=>(idx vs 2).bind λk=>(idx vs 3).bind λl=>(idx vs 4).bind λm=>(idx vs 5).bind λo=>(idx vs 6).bind λq=>(idx vs 7).bind λr=>(idx vs 8).bind λs=>(idx vs 9).bind λt=>(idx vs 10).bind λu=>(idx vs 11).bind λv=>(lZ (aZ.mk a.1 (bO.mk g j k l m o (q==1)) r s t u v)).bind λw=>if (!w) then some (zT,false) else lA r p a g j k l m o q s t u v bc [] 0 b) =
   some (out (Dx (cfL a.1 vs) (Dr p (BL p) (AO p) (cfL a.1 vs)) b)):=by
 have d:∀i:Nat,i<12→idx vs (i:Int)=some (vs.getD i 0):=λi hi=>by
  have h:i<vs.length:=by omega
  rw [aH h];simp [h]
 have D:idx vs 0=some (vs.getD 0 0):=d 0 (by omega);have h1:idx vs 1=some (vs.getD 1 0):=d 1 (by omega);have E:idx vs 2=some (vs.getD 2 0):=d 2 (by omega);have F:idx vs 3=some (vs.getD 3 0):=d 3 (by omega);have G:idx vs 4=some (vs.getD 4 0):=d 4 (by omega);have H:idx vs 5=some (vs.getD 5 0):=d 5 (by omega);have L:idx vs 6=some (vs.getD 6 0):=d 6 (by omega);have M:idx vs 7=some (vs.getD 7 0):=d 7 (by omega);have P:idx vs 8=some (vs.getD 8 0):=d 8 (by omega);have Q:idx vs 9=some (vs.getD 9 0):=d 9 (by omega);have x:idx vs 10=some (vs.getD 10 0):=d 10 (by omega);have A:idx vs 11=some (vs.getD 11 0):=d 11 (by omega);rw [D,h1,E,F,G,H,L,M,P,Q,x,A];simp only [bS];show (lZ (cfL a.1 vs)).bind _=_;unfold Dx;rcases (Cx (c:=cfL a.1 vs) C).cases with ⟨e,f⟩|⟨e,f⟩
 ·rw [e,if_pos f];simp only [cS];have R:a.1.g_.length≤1000000:=by have:(a.1.g_.length:Int)≤3:=f.1.2.1.2;omega
  have X:vs.getD 7 0≤1000000:=by have:vs.getD 7 0≤4:=f.2.2.1.2;omega
  exact We hb hp a R _ _ _ _ _ _ _ _ _ _ _ _ X hb'
 rw [e,if_neg f];rfl
end
end Go.Vk
/- States are read as they were written. -/
namespace Go.Vk
theorem Tc {p:List Int}{a:Int}(hb:gi p)(hp:p.length≤1048576)(t:0≤a)(h1:a≤1000000000):∀(d k i u:Nat),5-i=d→d<k→i≤5→u<128^i→∀r,hY a p k (u:Int) (i:Int)=some r→0≤r.1:=by
 intro d
 induction d with
 | zero =>
  intro k i u g hk h c r e;obtain ⟨k,rfl⟩:=kS k (by omega);rw [hY,Q4] at e;obtain rfl:=Option.some.inj e;exact Int.le_refl 0
 | succ d ih =>
  intro k i u g hk h c r e;obtain ⟨k,rfl⟩:=kS k (by omega);have l:IntKind.i64.wrap ((p.length:Int)-(i:Int))=(p.length:Int)-i:=aV;rw [hY,Q0,l] at e;by_cases v:a+i<p.length
  ·have m:IntKind.i64.wrap (a+(i:Int))=a+i:=aV;obtain ⟨j,o⟩:∃j:Nat,a+(i:Int)=(j:Int):=⟨(a+i).toNat,by omega⟩;rw [m,Q4,o,aH (show j<p.length by omega)] at e;simp only [bS] at e;obtain ⟨n,q,s⟩:=GH hb (show j<p.length by omega);rw [q,fQ (n:=n) (by omega),show Int.tmod (n:Int) 128=((n%128:Nat):Int) from qm n 128,Ew _ (show 0≤IntKind.i64.wrap (7*(i:Int)) by rw [aV];omega)] at e;simp only [bS] at e;have f:n%128<128:=Nat.mod_lt _ (by omega);rw [Ea f (by omega),PQ c f (by omega)] at e;split at e
   ·split at e
    ·obtain rfl:=Option.some.inj e;exact Int.le_refl 0
    obtain rfl:=Option.some.inj e;exact Int.natCast_nonneg _
   rw [ax] at e;refine ih k (i+1) _ (by omega) (by omega) (by omega) ?_ r e;have:n%128*128^i≤127*128^i:=Nat.mul_le_mul_right _ (by omega);rw [Nat.pow_succ];omega
  rw [Q0] at e;obtain rfl:=Option.some.inj e;exact Int.le_refl 0
theorem Pe (l:List Int):(oc l).length=l.length:=by simp [oc]
theorem NO (w:List UInt8):oc (byS w)=w:=by
 unfold oc byS;rw [List.map_map];conv=>rhs;rw [←List.map_id w]
 refine List.map_congr_left λb _=>?_;show UInt8.ofNat ((b.toNat:Int)).toNat=b;rw [Int.toNat_natCast];simp
section
variable {p:List Int} (hb:gi p) (hp:p.length≤1048576)
include hb hp
theorem MS:∃r,qZ p 4=some r∧uz p 4=some r∧(r.2.2=true→r.1.length≤1048575∧I64 r.2.1):=by
 obtain ⟨y,c,d,h⟩:=Hp hb hp (a:=4) ⟨by omega,by omega⟩;unfold qZ uz;rw [c,d];simp only [bS];rcases h with ⟨h1,g,i,j⟩|rfl
 ·have k:0≤y.1:=Tc hb hp (a:=4) (by omega) (by omega) 5 bc 0 0 (by omega) cN (by omega) (by simp) y c;rw [h1,aV (n:=(p.length:Int)-y.2.1) (by omega) (by omega)];by_cases f:y.1>(p.length:Int)-y.2.1
  ·rw [if_pos (by simp [f])];exact ⟨_,rfl,rfl,λh=>by cases h⟩
  rw [Q4,aV (n:=y.2.1+y.1) (by omega) (by omega)];have e:sub p y.2.1 (y.2.1+y.1)=some ((p.drop y.2.1.toNat).take ((y.2.1+y.1).toNat-y.2.1.toNat)):=if_pos ⟨by omega,by omega,by omega⟩;rw [e];refine ⟨_,rfl,rfl,λ_=>⟨?_,?_,?_⟩⟩
  ·show (oc _).length≤_;rw [Pe,List.length_take,List.length_drop];omega
  ·show -9223372036854775808≤y.2.1+y.1;omega
  show y.2.1+y.1≤_;omega
 exact ⟨_,rfl,rfl,λh=>by cases h⟩
omit hb in
theorem OX {w:List UInt8}{pre post:List Int}(k:w.length≤3000)(d:pre.length=4)(e:p=pre++uJ w++post):qZ p 4=some (w,((pre.length+(uJ w).length:Nat):Int),true):=by
 have c:=congrArg List.length e;simp only [List.length_append,uJ,CP] at c;have:=IU (p:=p) (a:=pre.length) hp (n:=w.length) (by omega) 5 bc 0 (by omega) cN (by omega) (by omega) ⟨byS w++post,by rw [e];simp [uJ]⟩;simp only [Nat.pow_zero,Nat.mod_one,Nat.div_one,Nat.add_zero] at this;have f:tm p 4=some ((w.length:Int),((pre.length+(uH w.length).length:Nat):Int),true):=by rw [d] at this ⊢;exact this
 unfold qZ;rw [f];simp only [bS];rw [aV,Q4,aV];have g:((pre.length+(uH w.length).length:Nat):Int)+(w.length:Int)=((pre.length+(uH w.length).length+w.length:Nat):Int):=by omega
 have h:(p.drop (pre.length+(uH w.length).length)).take (pre.length+(uH w.length).length+w.length-(pre.length+(uH w.length).length))=byS w:=by
  have i:p=(pre++uH w.length)++(byS w++post):=by rw [e];simp [uJ]
  have j:pre.length+(uH w.length).length=(pre++uH w.length).length:=by rw [List.length_append]
  rw [i,j,List.drop_left,Nat.add_sub_cancel_left,←CP w,List.take_left]
 rw [g,AQ (by omega) (by omega),h];simp only [Option.bind_some,uJ,List.length_append,CP,NO,Nat.add_assoc]
end
def RdG (l:List Int)(G:Int→Option aF)(B:List Int)(st:aF):Prop:=∀pre post,l=pre++B++post→G (pre.length:Int)=some st
theorem lP {l:List Int}{α:Type}{P:Pz α}{G:α×Int→Option aF}{B C:List Int}{x:α}{st:aF}(h:tZ l P B x)(k:RdG l (λa=>G (x,a)) C st):RdG l (λa=>(P a).bind G) (B++C) st:=λpre post e=>by
 show (P _).bind G=_;rw [h pre (C++post) (by rw [e];simp)];simp only [bS];have:=k (pre++B) post (by rw [e];simp);rw [List.length_append] at this;exact this
theorem WW {l:List Int}(st:aF):RdG l (λ_=>some st) [] st:=λ_ _ _=>rfl
theorem NP {l B:List Int}{c:aZ}{G:Int→Option aF}{st:aF}(a:yM c)(h:RdG l G B st):RdG l (Dx c G) B st:=λpre post e=>by
 unfold Dx;rw [if_pos a];exact h pre post e
theorem PJ {l:List Int}{α:Type}{P:Pz α}{B C:List Int}{x:α}(e:C=B)(h:tZ l P B x):tZ l P C x:=by rw [e];exact h
section
variable {l:List Int} (hp:l.length≤1048576)
include hp
theorem TQ {m:aA}(h:Vy m):tZ l (Ob l) (xO m) m:=by
 obtain ⟨⟨f,_,a,c⟩,⟨y1,_,y2,y3⟩,⟨g,d⟩,⟨i,e⟩⟩:=h;refine PJ (B:=xg m.A_++(ez (yy m.N_)++(xg m.s_++(Ez m.z_.v_++(Ez m.z_.w_++[]))))) (by unfold xO;simp) ?_;exact fP (Fn hp a c (by omega)) (fP (IL hp m.N_) (fP (Fn hp y2 y3 (by omega)) (fP (IC hp d (by omega)) (fP (IC hp e (by omega)) (Fh m)))))
theorem Vg {m:aA}(h:Vy m):tZ l (BL l) (xO m) m:=by
 obtain ⟨⟨g,_,a,c⟩,⟨y1,_,y2,y3⟩,⟨i,d⟩,⟨j,f⟩⟩:=h;refine PJ (B:=xg m.A_++(ez (yy m.N_)++(xg m.s_++(Ez m.z_.v_++(Ez m.z_.w_++[]))))) (by unfold xO;simp) ?_
 have e:m=⟨m.A_,yy m.N_==1,m.s_,⟨m.z_.v_,m.z_.w_⟩⟩:=by
  have:(yy m.N_==1)=m.N_:=by cases m.N_<;>rfl
  rw [this]
 have:tZ l (BL l) (xg m.A_++(ez (yy m.N_)++(xg m.s_++(Ez m.z_.v_++(Ez m.z_.w_++[]))))) ⟨m.A_,yy m.N_==1,m.s_,⟨m.z_.v_,m.z_.w_⟩⟩:=by
  unfold BL;refine fP (Fn hp a c (by omega)) ?_;refine fP (nP hp (EQ m.N_)) ?_;refine fP (Fn hp y2 y3 (by omega)) ?_;refine fP (IC hp d (by omega)) ?_;refine fP (IC hp f (by omega)) ?_;exact Fh _
 rw [←e] at this;exact this
theorem SP {xs:List aG}(c:xs.length≤1000000)(h:∀x∈xs,InR x.U_∧InR x.V_):tZ l (db l (Fo l)) (ez xs.length++xs.flatMap se) xs:=Ca hp c λx a=>PJ (B:=ez x.U_++(ez x.V_++[])) (by unfold se;simp) (fP (nP hp (h x a).1) (fP (nP hp (h x a).2) (Fh x)))
def AD (xs:List aG):List Int:=xs.flatMap λx=>[x.U_,x.V_]
omit hp in
theorem LE:∀(xs:List aG)(i:Nat)(h:i<xs.length),(AD xs).getD (2*i) 0=xs[i].U_∧(AD xs).getD (2*i+1) 0=xs[i].V_
 | [],i,h=>by simp at h
 | x::xs,0,h=>⟨rfl,rfl⟩
 | x::xs,i+1,h=>by
  have:=LE xs i (by simpa using h);have e:AD (x::xs)=x.U_::x.V_::AD xs:=rfl;rw [e,show 2*(i+1)=2*i+1+1 by omega];exact this
omit hp in
theorem Su (xs:List aG):(AD xs).length=2*xs.length:=by
 induction xs with
 | nil=>rfl
 | cons x xs ih =>
  have e:AD (x::xs)=x.U_::x.V_::AD xs:=rfl;rw [e];simp only [List.length_cons,ih];omega
omit hp in
theorem Hr (xs:List aG):(AD xs).flatMap ez=xs.flatMap se:=by
 induction xs with
 | nil=>rfl
 | cons x xs ih =>
  have e:AD (x::xs)=x.U_::x.V_::AD xs:=rfl;rw [e,List.flatMap_cons,List.flatMap_cons,ih,List.flatMap_cons,se,List.append_assoc]
omit hp in
theorem Nu (xs:List aG):Fq xs.length (AD xs)=xs:=by
 apply List.ext_getElem (by simp [Fq]);intro i h1 a;obtain ⟨c,d⟩:=LE xs i a;simp only [Fq,List.getElem_map,List.getElem_range,c,d]
theorem Sf {xs:List aG}(g:xs.length≤20)(h:∀x∈xs,InR x.U_∧InR x.V_):tZ l (AO l) (ez xs.length++xs.flatMap se) xs:=λpre post e=>by
 have f:∀x∈AD xs,InR x:=λx a=>by
  obtain ⟨y,c,a⟩:=List.mem_flatMap.1 a;simp only [List.mem_cons,List.not_mem_nil,or_false] at a;rcases a with rfl|rfl
  ·exact (h y c).1
  exact (h y c).2
 have h1:=nP hp (CK (n:=xs.length) (by omega)) pre (xs.flatMap se++post) (by rw [e];simp);have d:=CG (l:=l) (P:=gI l) (B:=ez) (AD xs) (λx a=>nP hp (f x a)) (pre++ez xs.length) post (by rw [e,Hr];simp);rw [Su,Hr,List.length_append] at d;unfold AO;rw [h1];simp only [bS];rw [if_pos ⟨by omega,by omega⟩,Int.toNat_natCast,d];simp only [Option.bind_some,Nu,List.length_append,Nat.add_assoc]
theorem NS {st:aF}(a:wP st)(h:StG st){M:Pz aA}{L:Pz (List aG)}(d:∀m∈st.aa_.u_,tZ l M (xO m) m)(f:tZ l L (ez st.L_.t_.length++st.L_.t_.flatMap se) st.L_.t_):RdG l (Dr l M L st.m_) (st.aa_.u_.flatMap xO++uK st) st:=by
 have g:st.m_.u_.toNat=st.aa_.u_.length:=by have:=a.1.2.1;omega
 have i:(((st.m_.y_.g_.length:Nat):Int)).toNat=st.L_.p_.length:=by
  have:=a.2.2.1;rw [Int.toNat_natCast];omega
 have k:RdG l (Dr l M L st.m_) (st.aa_.u_.flatMap xO++(st.L_.p_.flatMap ly++((ez st.L_.t_.length++st.L_.t_.flatMap se)++[]))) st:=by
  unfold Dr;rw [g,i];refine lP (CG _ d) ?_;dsimp only;refine lP (CG (B:=ly) _ λr c=>Ai hp (by have:=(h.row r c).2;omega) (h.row r c).1) ?_;dsimp only;exact lP f (WW st)
 have e:uK st=st.L_.p_.flatMap ly++((ez st.L_.t_.length++st.L_.t_.flatMap se)++[]):=by unfold uK;simp
 rw [e];exact k
theorem Wf {st:aF}(a:wP st)(h:StG st):RdG l (Sl l st.m_.y_) (mR (nD st++nS st)++(st.aa_.u_.flatMap xO++uK st)) st:=by
 have d:=h.numA;have f:=h.numC;simp only [nD,nS,List.mem_cons,List.not_mem_nil,or_false,forall_eq_or_imp,forall_eq] at d f;obtain ⟨g,i,j,k,o,p,r⟩:=d;obtain ⟨c0,c1,c2,c3,c4⟩:=f
 have e:mR (nD st++nS st)++(st.aa_.u_.flatMap xO++uK st)=ez st.m_.d_.S_++(ez st.m_.d_.Q_++(ez st.m_.d_.T_++(ez st.m_.d_.r_++(ez st.m_.d_.a_++(ez st.m_.d_.H_++(ez (yy st.m_.d_.O_)++(ez st.m_.u_++(ez st.m_.X_++(ez st.m_.Z_++(ez st.m_.v_++(ez st.m_.w_++(st.aa_.u_.flatMap xO++uK st)))))))))))):=by
  simp [nD,nS,mR]
 rw [e];unfold Sl;refine lP (nP hp g) ?_;dsimp only;refine lP (nP hp i) ?_;dsimp only;refine lP (nP hp j) ?_;dsimp only;refine lP (nP hp k) ?_;dsimp only;refine lP (nP hp o) ?_;dsimp only;refine lP (nP hp p) ?_;dsimp only;refine lP (IL hp st.m_.d_.O_) ?_;dsimp only;refine lP (nP hp c0) ?_;dsimp only;refine lP (nP hp c1) ?_;dsimp only;refine lP (nP hp c2) ?_;dsimp only;refine lP (nP hp c3) ?_;dsimp only;refine lP (nP hp c4) ?_;dsimp only;exact NP (c:=st.m_) a.1.1 (NS hp a h (λm q=>TQ hp (h.mem m q)) (SP hp (by have:=h.lasts;omega) h.last))
theorem WQ {st:aF}(c:wP st)(h:StG st):RdG l (VX l st.m_.y_) (mR (nD st++nS st)++(st.aa_.u_.flatMap xO++uK st)) st:=by
 have e:cfL st.m_.y_ (nD st++nS st)=st.m_:=by
  have:(yy st.m_.d_.O_==1)=st.m_.d_.O_:=by cases st.m_.d_.O_<;>rfl
  show (⟨st.m_.y_,⟨_,_,_,_,_,_,yy st.m_.d_.O_==1⟩,_,_,_,_,_⟩:aZ)=_;rw [this];rfl
 have d:∀x∈nD st++nS st,InR x:=λx a=>(List.mem_append.1 a).elim (h.numA x) (h.numC x);unfold VX;refine lP (CG (B:=ez) (nD st++nS st) λx a=>nP hp (d x a)) ?_;show RdG l (Dx (cfL st.m_.y_ (nD st++nS st)) (Dr l (BL l) (AO l) (cfL st.m_.y_ (nD st++nS st)))) _ st;rw [e];exact NP c.1.1 (NS hp c h (λm f=>Vg hp (h.mem m f)) (Sf hp h.lasts h.last))
end
end Go.Vk
/- States out of their bytes: alike. -/
namespace Go.Vk
section
variable {p:List Int} (hb:gi p) (hp:p.length≤1048576)
include hb hp
theorem Zr {w:List UInt8}{a:Int}{s:ae}(h1:qZ p 4=some (w,a,true))(e:vD w=some (s,true))(f:bn s)(d:I64 a):AY p=some (out (VX p s a)):=by
 have g:gH p a 12=some (match (gI p).many 12 a with|some (vs,c)=>(vs,c,true)|none=>([],0,false)):=IF hb hp 12 a (by omega) d;unfold AY VX;rw [h1];simp only [cS];rw [e];simp only [Option.bind_some,Bool.not_true,Bool.false_or];rw [g];simp only [bS]
 cases h:(gI p).many 12 a with
 | none=>rfl
 | some z =>
 obtain ⟨vs,c⟩:=z;obtain ⟨i,j,k⟩:=yB (Aj hb hp) _ _ _ _ d h;exact Sz hb hp (s,true) f j i
theorem ZG {w:List UInt8}{a:Int}{s:ae}(h1:uz p 4=some (w,a,true))(c:rX w=some (s,true))(d:bn s)(f:I64 a):(∀st,Sl p s a=some st→mE p=some (st,true))∧(Sl p s a=none→∃v,mE p=some (v,false)):=by
 have hk:=(US hb hp (s,true) d).2 a f
 have e:mE p=UK p (s,true) ⟨a,false⟩:=by
  unfold mE;rw [h1];simp only [cS];rw [c];simp only [cS];rfl
 rw [e];exact hk
end
theorem Px {st:aF}(a:nh st)(c:wP st):AY (nU st)=some (st,true)∧mE (nU st)=some (st,true):=by
 have d:=stG a c;have q:=JZ d;have hb:=JV st;obtain ⟨_,_,g⟩:=zz a.1.1 c.1.1.1;have eB:nU st=[83,80,78,1]++uJ (li st.m_.y_)++(mR (nD st++nS st)++(st.aa_.u_.flatMap xO++uK st)):=by unfold nU Af;simp
 have e:=OX (p:=nU st) (by omega) g (pre:=[83,80,78,1]) rfl eB;obtain ⟨r,h,i,j⟩:=MS hb (p:=nU st) (by omega);obtain rfl:=Option.some.inj (e.symm.trans h);obtain ⟨_,f⟩:=j rfl;obtain ⟨m,o⟩:=MC a.1.1 c.1.1.1;have ePos:([83,80,78,1]++uJ (li st.m_.y_)).length=([83,80,78,1]:List Int).length+(uJ (li st.m_.y_)).length:=by rw [List.length_append]
 refine ⟨?_,?_⟩
 ·have k:=WQ (l:=nU st) (by omega) c d ([83,80,78,1]++uJ (li st.m_.y_)) [] (by rw [List.append_nil];exact eB);rw [ePos] at k;rw [Zr hb (by omega) e m a.1.1 f,k];rfl
 have k:=Wf (l:=nU st) (by omega) c d ([83,80,78,1]++uJ (li st.m_.y_)) [] (by rw [List.append_nil];exact eB);rw [ePos] at k;exact (ZG hb (by omega) i o a.1.1 f).1 st k
end Go.Vk
/- Windows that step, detectors: they are there, and Fk. -/
namespace Go.Vk
theorem Gk (w:au):Tot (ro w) (λl=>l.length≤24∧(0<l.length→HN w∧w.f_≠[])):=by
 unfold ro;rcases (EZ w).cases with ⟨e,h⟩|⟨e,h⟩
 ·rw [e];simp only [sS];have c:=h.1;have d:=Ui h _ (Nat.le_refl _);rw [aV,YL h _ _ _ (Nat.le_refl _) cN (by simp;omega),List.nil_append];refine ap ⟨by omega,λa=>⟨h,λh1=>?_⟩⟩;rw [h1] at a;simp [bk] at a
 rw [e];simp only [sS];exact ap ⟨by simp,by simp⟩
theorem SJ (n u m v k:Int):T (xJ n u m v k):=by
 unfold xJ;exact cW.t.bind λ_ _=>Tot.bind (P:=λ_=>True) (aP (λ_=>bu _) (λ_=>cW.t.bind λ_ _=>bu _)) λ_ _=>Tot.bind (P:=λ_=>True) (aP (λ_=>bu _) (λ_=>cW.t.bind λ_ _=>bu _)) λ_ _=>Tot.bind (P:=λ_=>True) (aP (λ_=>bu _) (λ_=>cW.t.bind λ_ _=>bu _)) λ_ _=>Tot.bind (P:=λ_=>True) (aP (λ_=>bu _) (λ_=>cW.t.bind λ_ _=>bu _)) λ_ _=>aP (λ_=>bu _) (λ_=>(PE _).bind λ_ _=>bu _)
theorem DB (w:au):T (mt w):=by
 unfold mt;refine (Gk w).bind λl a=>dh (λk (n:Int) i=>gy l k n i) l.length (λ_ _=>True) (λk s _=>?_) (λk s i c _ hk=>?_) (by have:=a.1;omega) trivial
 ·show Tot (gy _ (k+1) _ _) _;rw [gy,Q5];exact bu _
 show Tot (gy _ (k+1) _ _) _;have:=a.1;rw [gy,Q0,aH c,ax];exact hk _ trivial
theorem GW (w:au):T (nq w):=by
 unfold nq;refine (Gk w).bind λl a=>dh (λk (n:Int) i=>ic l k n i) l.length (λ_ _=>True) (λk s _=>?_) (λk s i c _ hk=>?_) (by have:=a.1;omega) trivial
 ·show Tot (ic _ (k+1) _ _) _;rw [ic,Q5];exact bu _
 show Tot (ic _ (k+1) _ _) _;have:=a.1;rw [ic,Q0,aH c,ax];exact hk _ trivial
theorem WB (w:au)(k:Int):Tot (AJ w k) (λv=>0<v→HN w∧w.f_≠[]):=by
 unfold AJ;refine (Gk w).bind λl d=>(DB w).bind λa _=>(GW w).bind λo _=>?_;have e:=d.1;refine dh (λc (σ:Int×Int) i=>ma l a o k c i σ.1 σ.2) (l.length-1) (λ_ _=>True) (λc σ _=>?_) (λc σ i f _ hk=>?_) (by omega) (s:=(0,0)) trivial
 ·show Tot (ma _ _ _ _ (c+1) _ _ _) _;rw [ma,if_neg (by rw [aV];simp;omega)];exact ap (λh=>by omega)
 show Tot (ma _ _ _ _ (c+1) _ _ _) _;rw [ma,if_pos (by rw [aV];simp;omega),aH (by omega:i<l.length)];simp only [bS];refine (SJ _ _ _ _ _).bind λb _=>aP (λ_=>ap λ_=>d.2 (by omega)) (λ_=>?_);rw [ax];exact hk (_,_) trivial
def Dj (l:List (List Int)):Nat:=(l.map List.length).sum
theorem Jq {l:List (List Int)}{r:List Int}:Dj (l++[r])=Dj l+r.length:=by simp [Dj]
theorem Yz {w:au}(c:gv 8 12 w.f_)(k:HN w)(m:w.f_≠[]):Tot (sN w) (λy=>gv 8 12 y.1.f_∧Dj y.1.f_<Dj w.f_):=by
 obtain ⟨l⟩:=w;obtain ⟨l,r,rfl⟩:∃l' r,l=l'++[r]:=⟨l.dropLast,l.getLast m,(List.dropLast_concat_getLast m).symm⟩;have o:=c.2 r (by simp);have j:=c.1;simp only [List.length_append,List.length_cons,List.length_nil] at j
 have A:1≤r.length:=by
  have:=(k.2 l.length (by show l.length<(l++[r]).length;simp) (by show l.length<(l++[r]).length;simp)).1.1;simpa using this
 unfold sN;rw [vd (c.mono (by omega) (by omega))];simp only [bS];rcases (EZ ⟨l++[r]⟩).cases with ⟨e,_⟩|⟨_,g⟩
 ·rw [e];simp only [bS];rw [Q4];have s:((l++[r]).length:Int)=l.length+1:=by simp
  have t:IntKind.i64.wrap (((l++[r]).length:Int)-1)=(l.length:Int):=by rw [s,aV];omega
  rw [t,aH (show l.length<(l++[r]).length by simp)];simp only [Option.bind_some,List.getElem_append_right (Nat.le_refl _),Nat.sub_self,List.getElem_cons_zero];refine (sJ ⟨by omega,by omega,by omega⟩).bind λa d=>?_;have i:smI 12 a:=⟨by rw [d];simp only [List.length_take,List.length_drop];have:=o.1;omega,λx f=>o.2 x (by rw [d] at f;exact List.mem_of_mem_drop (List.mem_of_mem_take f))⟩;have C:a.length<r.length:=by rw [d];simp only [List.length_take,List.length_drop];simp;omega
  rw [bA (by have:=i.1;simp;omega)];simp only [Option.bind_some,List.nil_append];have es:(l++[r]).set (l.length:Int).toNat a=l++[a]:=by simp
  rw [es];have u:Dj (l++[a])<Dj (l++[r]):=by rw [Jq,Jq];omega
  have p:gv 8 12 (l++[a]):=by rw [←es];exact c.set i _
  refine aP (λ_=>?_) (λ_=>ap ⟨p,u⟩);refine (sJ ⟨by omega,by omega,by simp;omega⟩).bind λh q=>ap ?_;have v:h=l:=by rw [q];simp
  subst v;refine ⟨⟨by show h.length≤8;omega,λx f=>c.2 x (by simp [show x∈h from f])⟩,?_⟩;show Dj h<_;rw [Jq];omega
 exact absurd k g
theorem Tq:∀{l:List (List Int)},(∀r∈l,smI 12 r)→Dj l≤12*l.length
 | [],_=>by simp [Dj]
 | r::l,h=>by
  have h1:=(h r (by simp)).1;have c:=Tq (l:=l) (λx a=>h x (List.mem_cons_of_mem _ a));simp only [Dj,List.map_cons,List.sum_cons,List.length_cons] at *
  omega
theorem TO {w:au}{c:Int}(h:gv 8 12 w.f_):Tot (yQ w c) (λy=>gv 8 12 y.1.f_):=by
 unfold yQ;rw [vd (h.mono (by omega) (by omega))];simp only [sS]
 have key:∀(d k:Nat)(l:List (List Int))(n:Int),Dj l<d→d≤k→gv 8 12 l→Tot (qO c k l n) (λy=>gv 8 12 y.1.f_):=by
  intro d
  induction d with
  | zero=>intro k l n h1;omega
  | succ d ih =>
   intro k l n h1 i e;obtain ⟨k,rfl⟩:=kS k (by omega);rw [qO];refine (WB ⟨l⟩ c).bind λv a=>aP (λg=>?_) (λ_=>ap e);have a:=a (by simpa using g);refine (Yz (w:=⟨l⟩) e a.1 a.2).bind λy f=>ih _ _ _ ?_ (by omega) f.1;have:=f.2;have h1:Dj l<d+1:=h1;have:Dj y.1.f_<Dj l:=this;omega
 have j:=Tq h.2;have e:=h.1;exact key (Dj w.f_+1) bc w.f_ 0 (by omega) (Nat.le_of_lt cN) h
theorem Lv {w:au}{b k:Int}(h:gv 8 12 w.f_):Tot (pE w b k) (λy=>gv 8 12 y.1.f_):=by
 unfold pE;rw [vd (h.mono (by omega) (by omega))];refine (Pc h).bind λy a=>Tot.bind (P:=λ_=>True) (aP (λ_=>bu _) (λ_=>cW.t.bind λ_ _=>bu _)) λu _=>aP (λ_=>ap h) (λ_=>(TO a).bind λz c=>Tot.bind (P:=λ_=>True) (aP (λ_=>(GW _).bind λ_ _=>(DB _).bind λ_ _=>(GW _).bind λ_ _=>(DB _).bind λ_ _=>bu _) (λ_=>bu _)) λ_ _=>ap c)
def Ta (d:cx):Prop:=gv 8 12 d.v_.f_∧gv 8 12 d.w_.f_
theorem xR (a b:Nat):gv a b []:=⟨by simp,λx c=>by cases c⟩
theorem JG {d:cx}(h:Ta d):ud d=some d:=by
 unfold ud;rw [vd (h.1.mono (by omega) (by omega)),vd (h.2.mono (by omega) (by omega))];rfl
theorem Mb {d:cx}{b w k:Int}(h:Ta d):Tot (uk d b w k) (λy=>Ta y.1):=by
 unfold uk;rw [JG h];exact (Lv h.1).bind λy a=>(Lv h.2).bind λz c=>aP (λ_=>ap h) (λ_=>aP (λ_=>ap ⟨xR _ _,xR _ _⟩) (λ_=>aP (λ_=>ap ⟨a,c⟩) (λ_=>ap ⟨a,c⟩)))
theorem TN {l:List Int}{w k:Int}(f:l.length≤1000):Tot (zD l w k) (λy=>Ta y.1):=by
 unfold zD;refine dh (λa (σ:List (List Int)×List (List Int)×List Int) i=>lq l w k a i σ.1 σ.2.1 σ.2.2) l.length (λi σ=>gv 8 12 σ.1∧gv 8 12 σ.2.1∧σ.2.2.length=i) (λa σ h=>?_) (λa σ i e h hk=>?_) (by omega) (s:=([],[],[])) ⟨xR _ _,xR _ _,rfl⟩
 ·show Tot (lq _ _ _ (a+1) _ _ _ _) _;rw [lq,Q5];exact ap ⟨h.1,h.2.1⟩
 show Tot (lq _ _ _ (a+1) _ _ _ _) _;have g:=h.2.2;rw [lq,Q0,aH e,ax];simp only [bS];refine (Mb (d:=⟨⟨σ.1⟩,⟨σ.2.1⟩⟩) ⟨h.1,h.2.1⟩).bind λy c=>?_;rw [bA];exact hk (_,_,_) ⟨c.1,c.2,by simp;omega⟩
section
variable {p:List Int} (hp:p.length≤1048576)
include hp
theorem Vr {c:ak}(i:Cur p c):TD p (xu p c) (λd=>gv 9 13 d.v_.f_∧gv 9 13 d.w_.f_):=by
 unfold xu;refine (rL hp i 2).bind λy g=>aP (λ_=>?_) (λ_=>(OB hp g.1).bind λa e=>(OB hp e.1).bind λb f=>ap ⟨f.1,e.2,f.2⟩);exact (Ty hp g.1 (n:=60) (by omega)).bind λa e=>(gh hp e.1 (by simp)).bind λb f=>(TN (by have:=e.2;omega)).bind λd h=>ap ⟨f.1,h.1.mono (by omega) (by omega),h.2.mono (by omega) (by omega)⟩
end
end Go.Vk
/- Scores drawn: they are there, and Fk. -/
namespace Go.Vk
structure Shp (N:Nat)(s:aW):Prop where
 len:s.p_.length=N
 row:∀r∈s.p_,r.length=N∧∀x∈r,V x
 few:s.t_.length≤30
 last:∀q∈s.t_,V q.U_∧V q.V_
theorem Shp.sml {N:Nat}{s:aW}(h:Shp N s)(d:N≤3):vl s:=⟨⟨by rw [h.len];omega,λr a=>⟨by rw [(h.row r a).1];omega,(h.row r a).2⟩⟩,by have:=h.few;show s.t_.length≤_;omega,λq c=>h.last q c⟩
theorem v0:V 0:=eg ⟨by omega,by omega⟩
theorem Xv {N:Nat}(c:2≤N∧N≤3):Tot (vI N) (λs=>Shp N s∧s.t_=[]):=by
 unfold vI aU;simp only [bS];rw [qj (by omega)];simp only [Bool.not_true,Bool.false_eq_true,if_false];refine dh (Lp:=λk l i=>jz N k l i) N (λi l=>l.length=i∧∀r∈l,r.length=N∧∀x∈r,V x) (λk l h=>?_) (λk l i d h rec=>?_) (by omega) ⟨rfl,by simp⟩
 ·show Tot (jz N (k+1) l _) _;rw [jz,Q5];exact ap ⟨⟨h.1,h.2,by simp,by simp⟩,rfl⟩
 show Tot (jz N (k+1) l _) _;rw [jz,Q0,QI _ (by omega)];simp only [bS];rw [bA,ax];refine rec _ ⟨by simp [h.1],λr hr=>?_⟩;rcases List.mem_append.1 hr with hr|hr
 ·exact h.2 r hr
 rw [List.mem_singleton.1 hr];exact ⟨by simp,λx a=>by rw [(List.mem_replicate.1 a).2];exact v0⟩
theorem Fz {N:Nat}{s:aW}{i j:Nat}{x:Int}{l:List aG}(h:Shp N s)(d:i<s.p_.length)(e:V x)(f:l.length≤30)(g:∀q∈l,V q.U_∧V q.V_):Shp N ⟨s.p_.set i (s.p_[i].set j x),l⟩:=by
 refine ⟨by simp [h.len],λr a=>?_,f,g⟩;rcases List.mem_or_eq_of_mem_set a with a|rfl
 ·exact h.row r a
 have:=h.row _ (List.getElem_mem d);refine ⟨by simp [this.1],λy c=>?_⟩;rcases List.mem_or_eq_of_mem_set c with c|rfl
 ·exact this.2 y c
 exact e
theorem MX {N:Nat}{s:aW}(c:N≤3)(h:Shp N s):xh s=some s:=by
 have h1:=h.len;have d:=h.few;unfold xh;rw [bA];simp only [Option.bind_some,List.nil_append]
 have:=qH (p:=s.p_) id (λk l i=>kl s s.t_ k l i) (λl=>some ⟨l,s.t_⟩) (λk l=>by
  show kl s s.t_ (k+1) l _=_
  rw [kl,Q5]) (λk l i a e=>by
  show kl s s.t_ (k+1) l _=_;have f:=(h.row _ (List.getElem_mem a)).1;rw [kl,Q0,aH a,ax];simp only [bS];rw [bA];simp only [bS];rw [bA];rfl) (by omega)
 rwa [List.map_id] at this
theorem Xf {N:Nat}{s:aW}(a:N≤3)(h:Shp N s):T (Bo N s):=by
 unfold Bo;have c:=h.len;refine (GY (h.sml a)).t.bind λb _=>aP (λ_=>bu _) (λ_=>?_);refine dh (λk (v:Int) i=>mj N s k v i) N (λ_ _=>True) (λk v _=>?_) (λk v i d _ hk=>?_) (by omega) trivial
 ·show Tot (mj N s (k+1) _ _) _;rw [mj,Q5];exact bu _
 show Tot (mj N s (k+1) _ _) _;rw [mj,Q0,aH (show i<s.p_.length by omega),ax];simp only [bS];exact (Rg (by rw [(h.row _ (List.getElem_mem _)).1];omega)).bind λ_ _=>hk _ trivial
theorem Wy {N:Nat}(c:2≤N∧N≤3){s:aW}(h:Shp N s){a b:Int}:Tot (vJ N s a b) (λm=>Shp N m.1):=by
 unfold vJ;rw [MX c.2 h];simp only [bS];refine la (GY (h.sml c.2)).t (by simp only [sS];exact ap h) (λhp=>?_);simp only [sS];rw [aV (n:=(N:Int)-1) (by omega) (by omega)];refine mM cW.t (by simp only [sS];exact ap h) (λf=>?_);simp only [sS];refine mM cW.t (by simp only [sS];exact ap h) (λg=>?_);simp only [sS];refine Tot.bind (P:=λ_=>True) ((Xf c.2 h).bind λ_ _=>bu _) (λu _=>aP (λ_=>ap h) (λ_=>?_))
 have k:s.t_.length≤20:=by
  obtain ⟨_,_,_,_,d,_⟩:=hp;split at d<;>omega
 obtain ⟨i,rfl⟩:∃x:Nat,a=x:=⟨a.toNat,by omega⟩;obtain ⟨j,rfl⟩:∃x:Nat,b=x:=⟨b.toNat,by omega⟩;have h1:i<s.p_.length:=by rw [h.len];omega
 have d:j<s.p_[i].length:=by rw [(h.row _ (List.getElem_mem h1)).1];omega
 rw [aH h1];simp only [bS];rw [aH d];simp only [bS];rw [bA];simp only [bS]
 have hq:∀q∈s.t_++[(⟨(i:Int),(j:Int)⟩:aG)],V q.U_∧V q.V_:=λq hq=>by
  rcases List.mem_append.1 hq with hq|hq
  ·exact h.last q hq
  rw [List.mem_singleton.1 hq];exact ⟨eg (x:=(i:Int)) ⟨by omega,by omega⟩,eg (x:=(j:Int)) ⟨by omega,by omega⟩⟩
 refine aP (λe=>?_) (λ_=>ap (Fz h h1 (pn _) (by simp;omega) hq));refine (sJ ⟨by omega,by simp;omega,by omega⟩).bind λl e=>?_;subst e;rw [bA];refine ap (Fz h h1 (pn _) (by simp;omega) λq hq'=>hq q ?_);rw [List.nil_append] at hq';exact List.mem_of_mem_drop (List.mem_of_mem_take hq')
section
variable {p:List Int} (hp:p.length≤1048576)
include hp
theorem Ls {c:ak}(w:Cur p c){N:Nat}(g:2≤N∧N≤3):TD p (rZ p c N) (Shp N):=by
 unfold rZ;refine (Xv g).bind λs e=>(rL hp w 6).bind λo j=>?_;obtain ⟨e,r⟩:=e;refine aP (λ_=>?_) (λ_=>?_)
 ·have h1:0<s.p_.length:=by rw [e.len];omega
  have x:0<s.p_[0].length:=by rw [(e.row _ (List.getElem_mem h1)).1];omega
  have A:idx s.p_ 0=some s.p_[0]:=aH h1;have C:idx s.p_[0] 0=some s.p_[0][0]:=aH x;rw [A];simp only [bS];refine (dY hp j.1 2).bind λd D=>?_;rw [C];simp only [bS];refine dh (Lp:=λk l i=>jy s s.p_[0] d k l i) 20 (λi l=>l.length=i∧∀q∈l,V q.U_∧V q.V_) (λk l h=>?_) (λk l i E h rec=>?_) (by omega) ⟨by rw [r];rfl,by rw [r];simp⟩
  ·show Tot (jy s _ d (k+1) l _) _;rw [jy,Q5];exact ap ⟨D.1,Fz e h1 (pn _) (by omega) h.2⟩
  show Tot (jy s _ d (k+1) l _) _;rw [jy,Q0,bA,ax];refine rec _ ⟨by simp [h.1],λq hq=>?_⟩;rcases List.mem_append.1 hq with hq|hq
  ·exact h.2 q hq
  rw [List.mem_singleton.1 hq];exact ⟨v0,v0⟩
 refine (gh hp j.1 (by simp)).bind λm f=>?_;obtain ⟨u,f⟩:=f
 obtain ⟨n,v,L⟩:∃n:Nat,m.1=n∧n≤30:=by
  simp only [List.mem_cons,List.not_mem_nil,or_false] at f;exact ⟨m.1.toNat,by omega,by omega⟩
 refine dh (σ:=Int×Int×aW) (Lp:=λk s i=>ju m p N k s.1 s.2.1 s.2.2.p_ s.2.2.t_ i) (s:=(m.2.i_,m.2.h_,s)) n (λi s=>Cur p ⟨s.1,s.2.1⟩∧Shp N s.2.2) (λk s h=>?_) (λk s i E h rec=>?_) (by omega) ⟨u,e⟩
 ·show Tot (ju m p N (k+1) s.1 s.2.1 _ _ _) _;rw [ju,if_neg (by rw [v];simp)];exact ap ⟨h.1,h.2⟩
 show Tot (ju m p N (k+1) s.1 s.2.1 _ _ _) _;rw [ju,if_pos (by rw [v];simp;omega),ax];refine (dY hp h.1 N).bind λa F=>(dY hp F.1 N).bind λb G=>(Wy g h.2).bind λt H=>?_;exact rec (b.2.i_,b.2.h_,t.1) ⟨G.1,H⟩
theorem Tt {c:ak}(j:Cur p c):TD p (xE p c 2) vl:=by
 unfold xE;refine (Ls hp j (N:=2) (by omega)).bind λv i=>(dY hp i.1 12).bind λd e=>?_;obtain ⟨s,c1⟩:=v;have a:Shp 2 s:=i.2;have g:=a.len;have D:=a.few;have h:1<s.p_.length:=by omega
 have h1:0<s.p_.length:=by omega
 have k:0<s.p_[0].length:=by rw [(a.row _ (List.getElem_mem h1)).1];omega
 have l:0<s.p_[1].length:=by rw [(a.row _ (List.getElem_mem h)).1];omega
 have m:idx s.p_ 0=some s.p_[0]:=aH h1;have o:idx s.p_[0] 0=some s.p_[0][0]:=aH k;have t:idx s.p_ 1=some s.p_[1]:=aH h;have u:idx s.p_[1] 0=some s.p_[1][0]:=aH l;have sm:=a.sml (by omega);dsimp only;refine aP (λ_=>?_) (λ_=>?_)
 ·rw [m];simp only [bS];rw [o];exact ap ⟨e.1,(Fz a h1 (pn _) a.few a.last).sml (by omega)⟩
 refine aP (λ_=>?_) (λ_=>?_)
 ·rw [t];simp only [bS];refine (gh hp e.1 (by simp)).bind λy f=>?_;rw [u];refine ap ⟨f.1,(Fz a h (yi (λz w=>?_) f.2) a.few a.last).sml (by omega)⟩;simp only [List.mem_cons,List.not_mem_nil,or_false] at w;unfold V;omega
 refine aP (λ_=>?_) (λ_=>?_)
 ·refine (dY hp e.1 4).bind λy f=>?_;rw [bA];refine ap ⟨f.1,sm.1,by show (s.t_++_).length≤_;simp;omega,λq hq=>?_⟩;rcases List.mem_append.1 hq with hq|hq
  ·exact a.last q hq
  rw [List.mem_singleton.1 hq];exact ⟨pn _,v0⟩
 refine aP (λ_=>?_) (λ_=>?_)
 ·rw [bA];refine ap ⟨e.1,⟨by show (s.p_++_).length≤_;simp;omega,λr hr=>?_⟩,sm.2⟩;rcases List.mem_append.1 hr with hr|hr
  ·exact sm.1.2 r hr
  rw [List.mem_singleton.1 hr];exact ⟨by simp,λx A=>by rw [List.mem_singleton.1 A];exact v0⟩
 refine aP (λ_=>?_) (λ_=>ap ⟨e.1,sm⟩);refine aP (λg=>?_) (λ_=>ap ⟨e.1,sm⟩);refine (dY hp e.1 5).bind λy f=>?_;have g:0<s.t_.length:=by simpa using g
 have C:idx s.t_ 0=some s.t_[0]:=aH g;rw [C];refine ap ⟨f.1,sm.1,by show (s.t_.set _ _).length≤_;rw [List.length_set];omega,λq hq=>?_⟩;rcases List.mem_or_eq_of_mem_set hq with hq|rfl
 ·exact a.last q hq
 exact ⟨(a.last _ (List.getElem_mem g)).1,pn _⟩
end
end Go.Vk
