/- Subsets by their rank: alike. -/
import Derived.Test.YtnjemlncpeekkabGreatDoorRX
import Derived.Test.YtnjemlncpeekkabGreatDoorPTr
import Derived.Test.YtnjemlncpeekkabGreatDoorVkBr
namespace Go.Vk
def ch:Nat→Nat→Nat
 | _,0=>1
 | 0,_+1=>0
 | n+1,k+1=>ch n k+ch n (k+1)
theorem IK (n:Nat):ch n 0=1:=by cases n<;>rfl
theorem ND:∀{n k:Nat},n<k→ch n k=0
 | 0,k+1,_=>rfl
 | n+1,k+1,h=>by
  show ch n k+ch n (k+1)=0;rw [ND (by omega),ND (by omega)]
theorem Rw:∀n:Nat,ch n n=1
 | 0=>rfl
 | n+1=>by
  show ch n n+ch n (n+1)=1;rw [Rw n,ND (by omega)]
theorem FG:∀n k:Nat,ch n k≤2^n
 | n,0=>by rw [IK];exact Nat.one_le_two_pow
 | 0,k+1=>by simp [ch]
 | n+1,k+1=>by
  show ch n k+ch n (k+1)≤2^(n+1);have h1:=FG n k;have a:=FG n (k+1);rw [Nat.pow_succ];omega
theorem Iw:∀n k:Nat,ch (n+1) (k+1)*(k+1)=(n+1)*ch n k
 | 0,0=>rfl
 | 0,k+1=>by
  show (ch 0 (k+1)+ch 0 (k+2))*_=_;simp [ch]
 | n+1,0=>by
  have h:=Iw n 0;show (ch (n+1) 0+ch (n+1) 1)*1=_;have h:ch (n+1) 1*1=(n+1)*ch n 0:=h;rw [IK] at h ⊢;omega
 | n+1,j+1=>by
  have h1:=Iw n j;have e:=Iw n (j+1);have f:ch (n+1) (j+1)=ch n j+ch n (j+1):=rfl;show (ch (n+1) (j+1)+ch (n+1) (j+2))*(j+2)=(n+2)*ch (n+1) (j+1);generalize ch (n+1) (j+2)=c at *
  generalize ch n j=a at *
  generalize ch n (j+1)=b at *
  generalize ch (n+1) (j+1)=d at *
  subst f;rw [Nat.add_mul _ _ (j+2)];have g:(a+b)*(j+2)=(a+b)*(j+1)+(a+b):=Nat.mul_succ _ _;have i:c*(j+2)=(n+1)*b:=e;have l:(n+2)*(a+b)=(n+1)*(a+b)+(a+b):=Nat.succ_mul _ _;have m:(n+1)*(a+b)=(n+1)*a+(n+1)*b:=Nat.mul_add _ _ _;omega
theorem WO {n k:Nat}(h:k≤n):ch n (k+1)*(k+1)=ch n k*(n-k):=by
 have h1:=Iw n k;have a:ch (n+1) (k+1)=ch n k+ch n (k+1):=rfl;rw [a,Nat.add_mul] at h1;have c:ch n k*(n-k)+ch n k*(k+1)=ch n k*(n+1):=by rw [←Nat.mul_add];congr 1;omega
 rw [Nat.mul_comm (n+1)] at h1;omega
def Fp (n k:Int):Nat:=if (0≤n∧n≤20)∧0≤k∧k≤n then ch n.toNat k.toNat else 0
theorem Jw {n:Nat}(h:n≤20):2^n≤1048576:=by
 have:(2:Nat)^n≤2^20:=Nat.pow_le_pow_right (by omega) h;omega
theorem QX (n k:Int):Fp n k≤1048576:=by
 unfold Fp;split
 ·exact Nat.le_trans (FG _ _) (Jw (by omega))
 omega
theorem RJ (n k:Int):vL n k=some (Fp n k:Int):=by
 unfold vL Fp;rcases (fE (x:=n) (a:=0) (b:=20)).cases with ⟨e,c⟩|⟨e,c⟩
 ·rw [e];simp only [sS];rcases (fE (x:=k) (a:=0) (b:=n)).cases with ⟨e,hk⟩|⟨e,hk⟩
  ·rw [e,if_pos ⟨c,hk⟩];simp only [sS];obtain ⟨m,rfl⟩:∃m:Nat,n=m:=⟨n.toNat,by omega⟩;obtain ⟨j,rfl⟩:∃j:Nat,k=j:=⟨k.toNat,by omega⟩;simp only [Int.toNat_natCast]
   have h:=jg (Lp:=λq i=>jE (j:Int) (m:Int) q (i:Int) ((ch m i:Nat):Int)) (n:=j) (fin:=some ((ch m j:Nat):Int)) (λq=>by
    show jE (j:Int) (m:Int) (q+1) _ _=_
    rw [jE,Q5]) (λq i o=>by
    show jE (j:Int) (m:Int) (q+1) _ _=jE (j:Int) (m:Int) q _ _;have h1:=Nat.le_trans (FG m i) (Jw (by omega));have d:=WO (n:=m) (k:=i) (by omega);have p:ch m i*(m-i)≤1048576*20:=Nat.mul_le_mul h1 (by omega);have f:IntKind.i64.wrap ((m:Int)-(i:Int))=((m-i:Nat):Int):=by rw [aV];omega
    have l:IntKind.i64.wrap (((ch m i:Nat):Int)*((m-i:Nat):Int))=((ch m i*(m-i):Nat):Int):=by rw [←Int.natCast_mul,fQ]
    rw [jE,Q0,f,l,ax];unfold quo;rw [Q6,yH,←d,Nat.mul_div_cancel _ (by omega)];have r:=Nat.le_trans (FG m (i+1)) (Jw (by omega));rw [fQ];rfl) (by omega)
   rw [IK] at h;exact h
  rw [e,if_neg (λg=>hk g.2)];rfl
 rw [e,if_neg (λg=>c g.1)];rfl
theorem Ix (n k:Int):pF n k=some (Fp n k:Int):=by
 unfold pF Fp;rcases (cW (x:=n) (a:=0) (b:=20)).cases with ⟨e,o⟩|⟨e,o⟩
 ·rw [e];simp only [sS];rcases (cW (x:=k) (a:=0) (b:=n)).cases with ⟨e,hk⟩|⟨e,hk⟩
  ·rw [e,if_pos ⟨o,hk⟩];simp only [sS];obtain ⟨m,rfl⟩:∃m:Nat,n=m:=⟨n.toNat,by omega⟩;obtain ⟨j,rfl⟩:∃j:Nat,k=j:=⟨k.toNat,by omega⟩;simp only [Int.toNat_natCast];refine jg (Lp:=λq i=>eT (m:Int) (j:Int) q ((List.range (i+1)).map λx=>((ch i x:Nat):Int)) (i:Int)) (n:=m) (λq=>?_) (λq i A=>?_) (by omega)
   ·show eT (m:Int) (j:Int) (q+1) _ _=_;rw [eT,Q5,aH (by simp;omega)];simp
   show eT (m:Int) (j:Int) (q+1) _ _=eT (m:Int) (j:Int) q _ _;rw [eT,Q0];generalize f:((List.range (i+1)).map λx=>((ch i x:Nat):Int))=row;have p:row.length=i+1:=by rw [←f];simp
   have l:∀x (h:x<row.length),row[x]=((ch i x:Nat):Int):=λx h=>by
    have h':x<i+1:=by omega
    subst f;simp
   have key:∀(d c x:Nat),i+1-x=d→d<c→1≤x→x≤i+1→mn row (eT (m:Int) (j:Int) q) (i:Int) c ((List.range x).map λy=>((ch (i+1) y:Nat):Int)) (x:Int)=eT (m:Int) (j:Int) q ((List.range (i+2)).map λx=>((ch (i+1) x:Nat):Int)) ((i+1:Nat):Int):=by
    intro d
    induction d with
    | zero =>
     intro c x r s h1 t;obtain ⟨c,rfl⟩:∃y,c=y+1:=⟨c-1,by omega⟩;obtain rfl:x=i+1:=by omega
     rw [mn,Q4,bA,ax];simp only [bS];rw [List.range_succ (n:=i+1),List.map_append];simp [Rw]
    | succ d ih =>
     intro c x r s h1 t;obtain ⟨c,rfl⟩:∃y,c=y+1:=⟨c-1,by omega⟩;obtain ⟨z,rfl⟩:∃z,x=z+1:=⟨x-1,by omega⟩;have v:=Nat.le_trans (FG i z) (Jw (by omega));have w:=Nat.le_trans (FG i (z+1)) (Jw (by omega));have u:IntKind.i64.wrap (((z+1:Nat):Int)-1)=(z:Int):=by rw [aV];omega
     rw [mn,Q0,u,aH (by omega:z<row.length),aH (by omega:z+1<row.length),l,l];simp only [bS];rw [bA,ax,aV];simp only [bS];have:=ih c (z+2) (by omega) (by omega) (by omega) (by omega);rw [←this,List.range_succ (n:=z+1),List.map_append];rfl
   have:=key i bc 1 (by omega) cN (Nat.le_refl _) (by omega);rw [←this];simp [List.range_succ,IK]
  rw [e,if_neg (λg=>hk g.2)];rfl
 rw [e,if_neg (λg=>o g.1)];rfl
def BY (l:List Int):Prop:=l.length≤20∧∀x∈l,0≤x∧x≤20
theorem OV {n k:Nat}{r:Int}(L:n≤20)(hk:k≤20)(f:0≤r∧r≤1048576):yv (pS n k r) (Dk n k r) BY:=by
 unfold pS Dk;have M:=QX n k;rw [Ix,RJ];simp only [bS];rw [aV];refine NN cW fE (λc=>?_) (λ_=>Am ⟨by simp,λx j=>by cases j⟩);simp only [sS]
 have F:k≤n:=by
  unfold Fp at c;by_cases h:(0≤(n:Int)∧(n:Int)≤20)∧0≤(k:Int)∧(k:Int)≤n
  ·omega
  rw [if_neg h] at c;omega
 have hin':r<(ch n k:Nat):=by
  unfold Fp at c;rw [if_pos ⟨by omega,by omega⟩] at c;simp only [Int.toNat_natCast] at c;omega
 have key:∀(d q q' x:Nat)(r:Int)(l:List Int),n-x=d→d<q→d<q'→x≤n→l.length≤k→0≤r→r<(ch (n-x) (k-l.length):Nat)→(∀y∈l,0≤y∧y≤20)→yv (kL k n q r l x) (mB k n q' r l x) BY:=by
  intro d
  induction d with
  | zero =>
   intro q q' x r l m u hq' j o p f e;obtain ⟨q,rfl⟩:∃y,q=y+1:=⟨q-1,by omega⟩;obtain ⟨q',rfl⟩:∃y,q'=y+1:=⟨q'-1,by omega⟩
   have s:l.length=k:=by
    by_cases h:l.length<k
    ·rw [m,ND (by omega)] at f;omega
    omega
   rw [kL,mB,Q4,Q4];exact Am ⟨by omega,e⟩
  | succ d ih =>
   intro q q' x r l m u hq' j o p f e;obtain ⟨q,rfl⟩:∃y,q=y+1:=⟨q-1,by omega⟩;obtain ⟨q',rfl⟩:∃y,q'=y+1:=⟨q'-1,by omega⟩;rw [kL,mB];by_cases s:l.length<k
   ·rw [Q0,Q0,Ix,RJ];simp only [bS]
    have v:IntKind.i64.wrap (IntKind.i64.wrap ((n:Int)-(x:Int))-1)=((n-x-1:Nat):Int):=by
     rw [aV (n:=(n:Int)-(x:Int)) (by omega) (by omega),aV];omega
    have w:IntKind.i64.wrap (IntKind.i64.wrap ((k:Int)-(l.length:Int))-1)=((k-l.length-1:Nat):Int):=by
     rw [aV (n:=(k:Int)-(l.length:Int)) (by omega) (by omega),aV];omega
    rw [v,w];obtain ⟨a,A⟩:∃a,n-x=a+1:=⟨n-x-1,by omega⟩;obtain ⟨b,i⟩:∃b,k-l.length=b+1:=⟨k-l.length-1,by omega⟩;have ha':n-x-1=a:=by omega
    have hb':k-l.length-1=b:=by omega
    have C:ch (n-x) (k-l.length)=ch a b+ch a (b+1):=by rw [A,i];rfl
    have D:Fp (a:Int) (b:Int)=ch a b:=by
     unfold Fp;by_cases G:b≤a
     ·rw [if_pos ⟨by omega,by omega⟩];simp
     rw [Q6,ND (by omega)]
    rw [ha',hb',D];rw [C] at f;have H:=Nat.le_trans (FG a b) (Jw (by omega));have E:=Nat.le_trans (FG a (b+1)) (Jw (by omega));refine Ml Iff.rfl (λg=>?_) (λg=>?_)
    ·have g:r<(ch a b:Nat):=by simpa using g
     rw [bA,ax];simp only [bS];refine ih q q' (x+1) r _ (by omega) (by omega) (by omega) (by omega) (by simp;omega) p ?_ (λy t=>?_)
     ·rw [show n-(x+1)=a by omega,show k-(l++[(x:Int)]).length=b by simp;omega];exact g
     rcases List.mem_append.1 t with h|h
     ·exact e y h
     rw [List.mem_singleton.1 h];omega
    have g:¬r<(ch a b:Nat):=by simpa using g
    rw [ax,aV];refine ih q q' (x+1) _ l (by omega) (by omega) (by omega) (by omega) o (by omega) ?_ e;rw [show n-(x+1)=a by omega,i];omega
   rw [Q4,Q4];exact Am ⟨by omega,e⟩
 exact key n bc bc 0 r [] (by omega) cN cN (by omega) (by simp) c.1 (by simpa using hin') (λy e=>by cases e)
end Go.Vk
/- A new state: alike. -/
namespace Go.Vk
def Nb (s:ae):aD:=⟨List.replicate s.g_.length 0,s.c_.map λa=>List.replicate (nb a*s.g_.length) 0⟩
theorem Nk {s:ae}(d:bn s)(c:gF s):mi s=some (Nb s):=by
 unfold mi;have o:=c.2.1;rcases (nI (lT d)).cases with ⟨e,_⟩|⟨_,g⟩
 ·rw [e];simp only [sS];rw [QI _ (by omega)];simp only [sS];refine qH (p:=s.c_) (λa=>List.replicate (nb a*s.g_.length) (0:Int)) (my s (List.replicate s.g_.length 0)) (λl=>some ⟨List.replicate s.g_.length 0,l⟩) (λk l=>?_) (λk l i h q=>?_) (by have:=c.1;omega)
  ·rw [my,Q5]
  have f:=d.1.2 _ (List.getElem_mem h);have j:=Fu (c.attr h);have r:nb s.c_[i]*s.g_.length≤4*3:=Nat.mul_le_mul (by omega) (by omega);have m:=c.1;rw [my,Q0,aH h,ax];simp only [sS];rw [vZ f (c.attr h)];simp only [sS];rw [←Int.natCast_mul,fQ,QI _ (by omega)];simp only [sS];rw [bA];rfl
 exact absurd c g
theorem PS {α:Type}{f:α→Nat}{b:Nat}{l:List α}(h:∀x∈l,f x≤b):(l.map f).sum≤b*l.length:=by
 induction l with
 | nil=>simp
 | cons x l ih =>
  have h1:=h x (by simp);have c:=ih (λy a=>h y (by simp [a]));simp only [List.map_cons,List.sum_cons,List.length_cons,Nat.mul_succ];omega
end Go.Vk
/- Examples: tested alike. -/
namespace Go.Vk
def ExP (s:ae)(e:cq):Prop:=gF s∧e.R_.length=s.c_.length∧(-1≤e.Y_∧e.Y_≤(s.g_.length:Int)-1) ∧
 ∀i,0≤i→i<e.R_.length→∃n:Nat,∃h:i<s.c_.length,mo s.c_[i]=some (n:Int)∧n≤4∧∀a:i<e.R_.length,-1≤e.R_[i]∧e.R_[i]≤(n:Int)-1
theorem Qe {s:ae}{e:cq}(d:OkS s)(m:gF s)(q:e.R_.length=s.c_.length):Dec (rC e s bc 0) (∀i,0≤i→i<e.R_.length→∃n:Nat,∃h:i<s.c_.length,mo s.c_[i]=some (n:Int)∧n≤4∧∀r:i<e.R_.length,-1≤e.R_[i]∧e.R_[i]≤(n:Int)-1):=by
 refine rk (Lp:=rC e s) (n:=e.R_.length) 0 (λk i f=>?_) (λk i _ f=>?_) (by have:=d.1;omega)
 ·show (if _ then _ else _)=_;rw [Q4]
 have a:i<s.c_.length:=by omega
 obtain ⟨n,o,j,_,p⟩:=Np (d.2.1 _ (List.getElem_mem a)) (m.2.2.2 i (Nat.zero_le _) a a).1;rw [rC,Q0,aH f,aH a,ax (by have:=d.1;omega)];simp only [bS];rw [o];simp only [bS];rw [aV];unfold aU;simp only [bS];by_cases c : -1≤e.R_[i]∧e.R_[i]≤(n:Int)-1
 ·rw [qj c];exact .inl ⟨⟨n,a,j,p,λ_=>c⟩,rfl⟩
 rw [rY c];exact .inr ⟨λ⟨n',_,l,_,g⟩=>c (by rw [j] at l;have:=Option.some.inj l;rw [this];exact g f),rfl⟩
theorem Qi {s:ae}{e:cq}(d:OkS s)(m:gF s)(p:e.R_.length=s.c_.length):Dec (tT e s bc 0) (∀i,0≤i→i<e.R_.length→∃n:Nat,∃h:i<s.c_.length,mo s.c_[i]=some (n:Int)∧n≤4∧∀q:i<e.R_.length,-1≤e.R_[i]∧e.R_[i]≤(n:Int)-1):=by
 refine rk (Lp:=tT e s) (n:=e.R_.length) 0 (λk i f=>?_) (λk i _ f=>?_) (by have:=d.1;omega)
 ·show (if _ then _ else _)=_;rw [Q4]
 have a:i<s.c_.length:=by omega
 obtain ⟨n,r,j,_,o⟩:=Np (d.2.1 _ (List.getElem_mem a)) (m.2.2.2 i (Nat.zero_le _) a a).1;rw [tT,Q0,aH f,aH a,ax (by have:=d.1;omega)];simp only [bS];rw [j];simp only [bS];rw [aV];unfold bm;simp only [bS];by_cases c : -1≤e.R_[i]∧e.R_[i]≤(n:Int)-1
 ·rw [qj c];exact .inl ⟨⟨n,a,j,o,λ_=>c⟩,rfl⟩
 rw [rY c];exact .inr ⟨λ⟨n',_,l,_,g⟩=>c (by rw [j] at l;have:=Option.some.inj l;rw [this];exact g f),rfl⟩
theorem Dw {s:ae}{e:cq}(d:OkS s):Dec (tu s e) (ExP s e):=by
 unfold tu ExP;rcases (nI d).cases with ⟨f,h⟩|⟨f,h⟩
 ·rw [f];unfold aU;simp only [Option.bind_some,Bool.not_true,Bool.false_or];by_cases a:e.R_.length=s.c_.length
  ·rw [if_neg (by simp [a])];simp only [bS];rw [aV (by omega) (by have:=d.2.2.1;omega)];by_cases c : -1≤e.Y_∧e.Y_≤(s.g_.length:Int)-1
   ·rw [qj c];simp only [Bool.not_true,Bool.false_eq_true,if_false];exact (Qe d h a).of_iff ⟨λg=>⟨h,a,c,g⟩,λg=>g.2.2.2⟩
   rw [rY c];exact ct λg=>c g.2.2.1
  rw [Q0];exact ct λg=>a g.2.1
 rw [f];exact ct λg=>h g.1
theorem Yt {s:ae}{e:cq}(d:OkS s):Dec (GV s e) (ExP s e):=by
 unfold GV ExP;rcases (qV d).cases with ⟨f,h⟩|⟨f,h⟩
 ·rw [f];unfold bm;simp only [Option.bind_some,Bool.not_true,Bool.false_or];by_cases a:e.R_.length=s.c_.length
  ·rw [if_neg (by simp [a])];simp only [bS];rw [aV (by omega) (by have:=d.2.2.1;omega)];by_cases c : -1≤e.Y_∧e.Y_≤(s.g_.length:Int)-1
   ·rw [qj c];simp only [Bool.not_true,Bool.false_eq_true,if_false];exact (Qi d h a).of_iff ⟨λg=>⟨h,a,c,g⟩,λg=>g.2.2.2⟩
   rw [rY c];exact ct λg=>c g.2.2.1
  rw [Q0];exact ct λg=>a g.2.1
 rw [f];exact ct λg=>h g.1
end Go.Vk
/- Entries: what the tests say. -/
namespace Go.Vk
end Go.Vk
/- The path of an example: alike. -/
namespace Go.Vk
def Kh (t:am)(i:Nat):az:=t.a_.getD i default
theorem GM {t:am}{i:Nat}(h:i<t.a_.length):Kh t i=t.a_[i]:=by unfold Kh;simp [h]
def Di (l:List Nat):List Int:=l.map (λ(i:Nat)=>(i:Int))
def LM (s:ae)(n:az)(e:cq):Int:=let b:=e.R_.getD n.n_.k_.toNat 0
 if 0≤b then KO (atr s n.n_) n.n_ b else n.J_
def nxt (s:ae)(t:am)(e:cq)(i:Nat):Nat:=((Kh t i).C_.getD (LM s (Kh t i) e).toNat 0).toNat
def th (s:ae)(t:am)(e:cq):Nat→Nat→List Nat
 | 0,i=>[i]
 | d+1,i=>if (Kh t i).D_=true then [i] else i::th s t e d (nxt s t e i)
theorem Yg {s:ae}{f:aC}(_:wA s f){b:Int}(a:0≤b∧b≤(nb (atr s f):Int)-1):0≤KO (atr s f) f b∧KO (atr s f) f b≤(brN s f:Int)-1:=by
 unfold KO brN;split
 ·omega
 split<;>split<;>omega
theorem UG {s:ae}{f:aC}{e:cq}(i:bn s)(g:ExP s e)(h:wA s f):∃b,idx e.R_ f.k_=some b∧b=e.R_.getD f.k_.toNat 0∧-1≤b∧b≤(nb (atr s f):Int)-1:=by
 obtain ⟨a,j,ea,et⟩:=GL h.2.1;have c:a<e.R_.length:=by have:=g.2.1;omega
 obtain ⟨n,h1,k,_,d⟩:=g.2.2.2 a (Nat.zero_le _) c
 have l:nb s.c_[a]=n:=by
  have:=yj (i.1.2 _ (List.getElem_mem j));rw [k] at this;have:=Option.some.inj this;omega
 have d:=d c;rw [ea,et,l,aH c,Int.toNat_natCast,zC c];exact ⟨_,rfl,rfl,d.1,d.2⟩
theorem VW {s:ae}{t:am}{n:az}{i:Nat}{e:cq}(c:bn s)(d:ExP s e)(h:Qk s t i n):∃k:Nat,LM s n e=k∧k<n.C_.length:=by
 obtain ⟨b,_,f,h1,g⟩:=UG c d h.1;unfold LM;rw [←f];have hk:=h.2.1;have j:=h.2.2.1;by_cases a:0≤b
 ·have:=Yg h.1 ⟨a,g⟩;show ∃k:Nat,(if 0≤b then _ else _)=(k:Int)∧_;rw [if_pos a];exact ⟨(KO (atr s n.n_) n.n_ b).toNat,by omega,by omega⟩
 show ∃k:Nat,(if 0≤b then _ else _)=(k:Int)∧_;rw [if_neg a];exact ⟨n.J_.toNat,by omega,by omega⟩
theorem TU {s:ae}{t:am}{e:cq}(f:bn s)(g:yN s t)(h:ExP s e){i:Nat}(c:i<t.a_.length)(j:t.a_[i].D_=false):∃(k:Nat)(hk:k<t.a_[i].C_.length)(r:nxt s t e i<t.a_.length),LM s t.a_[i] e=k∧t.a_[i].C_[k]=(nxt s t e i:Int)∧i<nxt s t e i∧t.a_[nxt s t e i].G_=i:=by
 have d:=(g.2.2.2 i c c).1.2.2.2.2.2 j;obtain ⟨k,hk,a⟩:=VW f h d;obtain ⟨m,l,h1,o,p⟩:=d.2.2.2.2.2.2 _ (List.getElem_mem a)
 have q:nxt s t e i=m:=by
  unfold nxt;rw [GM c,hk,Int.toNat_natCast,zC a,h1,Int.toNat_natCast]
 rw [q];exact ⟨k,a,l,hk,h1,o,p⟩
theorem SR {s:ae}{t:am}{e:cq}(h:bn s)(p:yN s t)(w:ExP s e):∀(d k k' i:Nat)(pre:List Int),t.a_.length-i≤d→d<k→d<k'→i<t.a_.length→pre.length≤i →
  np t e s k pre (i:Int)=some (pre++Di (th s t e d i))∧oS t e s k' (pre++[(i:Int)])=some (pre++Di (th s t e d i),false):=by
 intro d;have E:=p.2.1
 induction d with
 | zero=>intro k k' i pre h1 F G R;omega
 | succ d ih =>
  intro k k' i pre h1 F G f X;obtain ⟨k,rfl⟩:=kS k (by omega);obtain ⟨k',rfl⟩:∃q,k'=q+1:=⟨k'-1,by omega⟩
  have l:idx (pre++[(i:Int)]) (IntKind.i64.wrap (((pre++[(i:Int)]).length:Int)-1))=some (i:Int):=by
   rw [show ((pre++[(i:Int)]).length:Int)-1=(pre.length:Int) by simp,aV,aH (by simp)];simp
  rw [np,oS,l];simp only [bS];rw [aH f];simp only [sS,th];rw [GM f];cases x:t.a_[i].D_
  ·simp only [sS];obtain ⟨j,r,H,g,hk,P,_⟩:=TU h p w f x;have u:=(p.2.2.2 i f f).1.2.2.2.2.2 x;obtain ⟨b,L,A,Q,o⟩:=UG h w u.1;rw [bA,L];simp only [sS];have c:LM s t.a_[i] e=if 0≤b then KO (atr s t.a_[i].n_) t.a_[i].n_ b else t.a_[i].J_:=by rw [A];rfl
   obtain ⟨v,C⟩:=ih k k' (nxt s t e i) (pre++[(i:Int)]) (by omega) (by omega) (by omega) H (by simp;omega);have m:pre++[(i:Int)]++Di (th s t e d (nxt s t e i))=pre++Di (i::th s t e d (nxt s t e i)):=by simp [Di]
   rw [m] at v C
   have D:∀q:Int,q=LM s t.a_[i] e→uh t.a_[i] (pre++[(i:Int)]) (oS t e s k') q=some (pre++Di (i::th s t e d (nxt s t e i)),false):=λq M=>by
    unfold uh;rw [M,g,aH r,hk];simp only [sS];rw [bA];exact C
   by_cases a:0≤b
   ·rw [if_pos (by simpa using a),if_pos (by simpa using a),FK h u.1 ⟨a,o⟩,MV h u.1 ⟨a,o⟩];rw [if_pos a] at c;simp only [sS];rw [←c,g,aH r,hk];simp only [sS];exact ⟨v,by rw [←g];exact D _ rfl⟩
   rw [if_neg (by simpa using a),if_neg (by simpa using a)];rw [if_neg a] at c;rw [←c,g,aH r,hk];simp only [sS];exact ⟨v,by rw [←g];exact D _ rfl⟩
  simp only [sS];rw [bA];exact ⟨rfl,rfl⟩
theorem XK {s:ae}{t:am}{e:cq}(c:bn s)(a:yN s t)(d:ExP s e):AV s t e=some (Di (th s t e 32 0))∧Ou s t e=some (Di (th s t e 32 0),false):=by
 have f:=a.2.1;obtain ⟨h1,g⟩:=SR c a d 32 bc bc 0 [] (by omega) cN cN (by omega) (Nat.le_refl _);exact ⟨h1,g⟩
theorem JY {s:ae}{t:am}{e:cq}:∀d i,(th s t e d i).length≤d+1
 | 0,i=>by simp [th]
 | d+1,i=>by
  have:=JY (s:=s) (t:=t) (e:=e) d (nxt s t e i);simp only [th];split
  ·simp
  simp only [List.length_cons];omega
end Go.Vk
/- An example added: alike. -/
namespace Go.Vk
theorem Gm {t:aD}(h:gQ t):wn t=some t∧wE t=some t:=by
 have h1:=h.1.1;have d:=h.2.1;unfold wn wE jJ BI;rw [bA];simp only [sS,List.nil_append];constructor
 ·have g:=qH (p:=t.e_) (λx=>x) (oH t t.l_) (λl=>some (aD.mk t.l_ l)) (λk l=>by rw [oH,Q5]) (λk l i a c=>by
   have:=(h.2.2 _ (List.getElem_mem a)).1;rw [oH,Q0,aH a,ax];simp only [sS];rw [bA];simp only [sS];rw [bA];rfl) (by omega)
  simpa using g
 have g:=qH (p:=t.e_) (λx=>x) (mK t.e_) some (λk l=>by rw [mK,Q5]) (λk l i a c=>by
  have:=(h.2.2 _ (List.getElem_mem a)).1;rw [mK,Q0,aH a,ax];unfold jJ;simp only [sS];rw [bA];simp only [sS];rw [bA];rfl) (by omega)
 rw [g];simp
def zl (l:List Int)(n:Nat):Prop:=l.length=n∧∀x∈l,0≤x∧x≤2000
theorem Ht {l:List Int}{n i:Nat}{v:Int}(h:zl l n)(c:0≤v∧v≤2000):zl (l.set i v) n:=by
 refine ⟨by simp [h.1],λx a=>?_⟩;rcases List.mem_or_eq_of_mem_set a with a|rfl
 ·exact h.2 x a
 exact c
theorem Hs {l:List Int}{n:Nat}(h:zl l n)(c:n≤1000):qk l:=⟨by rw [h.1];omega,λx a=>by have:=h.2 x a;omega⟩
def Vv (s:ae)(l:List (List Int)):Prop:=(l.length=0∨l.length=s.c_.length)∧∀i (h:i<l.length) (a:i<s.c_.length),zl l[i] (nb s.c_[i]*s.g_.length)
def Kt (s:ae)(t:aD):Prop:=zl t.l_ s.g_.length∧Vv s t.e_
theorem nbc {s:ae}(a:gF s){i:Nat}(h:i<s.c_.length):nb s.c_[i]*s.g_.length≤12:=by
 have h1:=(Fu (a.attr h)).2;have c:s.g_.length≤3:=by have:=a.2.1;omega
 calc _≤4*3:=Nat.mul_le_mul h1 c
  _=12:=rfl
theorem Uy {s:ae}{t:aD}(d:bn s)(c:gF s)(h:Kt s t):gQ t:=by
 have j:s.g_.length≤3:=by have:=c.2.1;omega
 have k:=d.1.1;refine ⟨Hs h.1 (by omega),by rcases h.2.1 with g|g<;>omega,λx e=>?_⟩;obtain ⟨i,f,rfl⟩:=List.getElem_of_mem e;have a:i<s.c_.length:=by rcases h.2.1 with g|g<;>omega
 exact Hs (h.2.2 i f a) (by have:=nbc c a;omega)
theorem TI {s:ae}:Kt s (Nb s):=by
 have a:∀n,zl (List.replicate n 0) n:=λn=>⟨by simp,λx c=>by rw [List.eq_of_mem_replicate c];omega⟩;refine ⟨a _,.inr (by simp [Nb]),λi h d=>?_⟩;simp only [Nb,List.getElem_map];exact a _
theorem Ri {b n c k:Nat}(a:b<n)(hk:k<c):b*c+k<n*c:=by
 calc b*c+k<b*c+c:=by omega
  _=(b+1)*c:=by rw [Nat.add_mul,Nat.one_mul]
  _≤n*c:=Nat.mul_le_mul_right c a
theorem Vb {s:ae}{t:aD}{e:cq}{w:Int}(f:bn s)(L:gF s)(p:Kt s t):yv (nN s t e w) (Dp s t e w) (λy=>Kt s y.1):=by
 have r:=Uy f L p;obtain ⟨c1,c2⟩:=Gm r;unfold nN Dp;rw [c1,c2];simp only [bS];have bad:yv (some (t,false)) (some (t,false)) (λy:aD×Bool=>Kt s y.1):=Am p;refine NN (oG f r) (Ln f r) (λu=>?_) (λ_=>by simp only [sS];exact bad);simp only [sS];rw [←((Dw (e:=e) (lT f)).eq (Yt (lT f)))];rcases (Dw (e:=e) (lT f)).cases with ⟨M,P⟩|⟨M,_⟩
 ·rw [M];simp only [sS];obtain ⟨a5,a6⟩:=P.2.2.1;by_cases Z:e.Y_<0
  ·rw [show (decide (e.Y_<0))=true by simpa using Z,show (e.Y_ == -1)=true by simp;omega];simp only [sS];exact bad
  rw [show (decide (e.Y_<0))=false by simpa using Z,show (e.Y_ == -1)=false by simp;omega];simp only [sS];rw [←((cW (x:=w) (a:=1) (b:=7)).eq fE)];rcases (cW (x:=w) (a:=1) (b:=7)).cases with ⟨Q,hw⟩|⟨Q,_⟩
  ·rw [Q];simp only [sS];have a7:=MD L u.2.1 u.2.2.1;rw [Gi f r u,Ji (λx hx=>by have:=u.2.2.1 x hx;omega) r.1.1];simp only [sS];obtain ⟨c,v⟩:∃c:Nat,e.Y_=c:=⟨e.Y_.toNat,by omega⟩;have D:c<s.g_.length:=by omega
   have E:c<t.l_.length:=by rw [p.1.1];exact D
   refine Ml Iff.rfl (λ_=>bad) (λ_=>?_);rw [v,aH E];simp only [sS];have hx:0≤t.l_[c]∧t.l_[c]≤999:=u.2.2.1 _ (List.getElem_mem E);have hT:zl (t.l_.set c (IntKind.i64.wrap (t.l_[c]+w))) s.g_.length:=Ht p.1 (by rw [aV];omega);have a9:=r.2.1
   refine Vs (λk l i=>kX t e s w t.l_[c] k l i) (λk l i=>mp t e s w t.l_[c] k l i) t.e_.length
    (λi a b=>b=a∧a.length=t.e_.length∧Vv s a∧∀j (h:j<a.length) (m:j<t.e_.length),i≤j→a[j]=t.e_[j]) (λk a b h=>?_) (λk a b i hi h hk=>?_) (by omega) ⟨rfl,rfl,p.2,λj h m _=>rfl⟩
   ·obtain ⟨rfl,h1,m,_⟩:=h;rw [kX,mp,Q5,Q5,v];exact Am ⟨hT,m⟩
   obtain ⟨rfl,h1,m,R⟩:=h;have A:i<b.length:=by omega
   have o:i<s.c_.length:=by have:=p.2.1;omega
   have C:i<e.R_.length:=by rw [P.2.1];exact o
   have d:=m.2 i A o;rw [kX,mp,Q0,Q0,aH C,aH A,ax];simp only [sS];refine Ml Iff.rfl (λF=>?_) (λ_=>hk _ _ ⟨rfl,h1,m,λj h h' X=>R j h h' (by omega)⟩);have F:0≤e.R_[i]:=by simpa using F
   obtain ⟨n,b0,a2,b3,G⟩:=P.2.2.2 i (Nat.zero_le _) C
   have hn:nb s.c_[i]=n:=by
    have:=yj (f.1.2 _ (List.getElem_mem o));rw [a2] at this;have:=Option.some.inj this;omega
   have G:=(G C).2;obtain ⟨q,hq⟩:∃q:Nat,e.R_[i]=q:=⟨e.R_[i].toNat,by omega⟩;have H:q*s.g_.length+c<b[i].length:=by rw [d.1,hn];exact Ri (by omega) D
   have b4:=nbc L o;have b5:=d.1;have b6:q*s.g_.length≤12:=by omega
   have a3:b[i]=t.e_[i]:=R i A hi (Nat.le_refl _)
   have a4:∀x∈b[i],0≤x∧x≤999:=by
    rw [a3];rcases u.2.2.2.2 with g|⟨_,g⟩
    ·omega
    exact (g i hi o).2.1
   rw [hq,v,←Int.natCast_mul,fQ,←Int.natCast_add,fQ,aH H];simp only [sS];have hv:=a4 _ (List.getElem_mem H);refine hk _ _ ⟨rfl,by simpa using h1,⟨?_,λj h h'=>?_⟩,λj h h' X=>?_⟩
   ·simpa using m.1
   ·simp only [List.getElem_set,Int.toNat_natCast];split
    ·rename_i X;subst X;exact Ht d (by rw [aV];omega)
    exact m.2 j (by simpa using h) h'
   simp only [List.getElem_set,Int.toNat_natCast];rw [Q6];exact R j (by simpa using h) h' (by omega)
  rw [Q];simp only [sS];exact bad
 rw [M];simp only [sS];exact bad
end Go.Vk
/- Natural numbers, fractions: they always answer. -/
namespace Go.Vk
abbrev T {α:Type}(o:Option α):Prop:=Tot o (λ_=>True)
theorem bu {α:Type}(v:α):T (some v):=ap trivial
theorem Dec.t {o:Option Bool}{P:Prop}(h:Dec o P):Tot o (λb=>b=true→P):=by
 obtain ⟨b,h1,a⟩:=h;exact ⟨b,h1,a.1⟩
theorem la {ρ:Type}{o:Option Bool}{P:Prop}(h:Tot o (λb=>b=true→P)){g:Bool→Option ρ}{Q:ρ→Prop}(a:Tot (g false) Q)(c:P→Tot (g true) Q):Tot (o.bind g) Q:=by
 obtain ⟨b,rfl,d⟩:=h;cases b
 ·exact a
 exact c (d rfl)
theorem mM {ρ:Type}{o:Option Bool}{P:Prop}(h:Tot o (λb=>b=true→P)){f:Bool→Option ρ}{Q:ρ→Prop}(a:Tot (f true) Q)(c:P→Tot (f false) Q):Tot ((o.bind λy=>some (!y)).bind f) Q:=by
 obtain ⟨b,rfl,d⟩:=h;cases b
 ·exact a
 exact c (d rfl)
theorem CM (p:List Int):Tot (pk p) (λb=>b=true→p.length≤16):=by
 unfold pk;refine aP (λ_=>ap (by simp)) (λh=>?_);have h:p.length≤16:=by simp at h;omega
 refine dh (λk (_:Unit) i=>mc p k i) p.length (λ_ _=>True) (λk _ _=>?_) (λk _ i c _ hk=>?_) (by omega) (s:=()) trivial
 ·show Tot (mc p (k+1) _) _;rw [mc,Q5];refine Tot.bind (P:=λ_=>True) (aP (λ_=>ap trivial) (λa=>?_)) (λ_ _=>ap (λ_=>h));have a:p.length≠0:=by simpa using a
  rw [aV];exact (kD ⟨by omega,by omega⟩).bind λ_ _=>ap trivial
 show Tot (mc p (k+1) _) _;rw [mc,Q0,aH c,ax];simp only [bS];refine la cW.t (by simp only [sS];exact ap (by simp)) (λ_=>?_);simp only [sS];exact hk () trivial
theorem Tr {p:List Int}(d:p.length≤1000):Tot (wc p) (λl=>l.length≤p.length):=by
 unfold wc
 have key:∀(n k:Nat),n≤p.length→n<k→Tot (og p k (n:Int)) (λl=>l.length≤p.length):=by
  intro n
  induction n with
  | zero =>
   intro k c hk;obtain ⟨k,rfl⟩:=kS k (by omega);rw [og,Q5];simp only [sS];refine (sJ ⟨by omega,by omega,by omega⟩).bind λl a=>?_;subst a;refine (rn (by simp)).bind λl a=>ap ?_;subst a;simp
  | succ n ih =>
   intro k c hk;obtain ⟨k,rfl⟩:=kS k (by omega);rw [og,Q2,aV,show ((n+1:Nat):Int)-1=(n:Int) by omega,aH (show n<p.length by omega)];simp only [sS];refine aP (λ_=>ih k (by omega) (by omega)) (λ_=>?_);refine (sJ ⟨by omega,by omega,by omega⟩).bind λl a=>?_;subst a;refine (rn).bind λl a=>ap ?_;subst a;simp;omega
 exact key p.length bc (Nat.le_refl _) cN
theorem CI (a b:List Int):Tot (pc a b) (λy=>y.1.length≤16):=by
 unfold pc;have bad:Tot (some (([]:List Int),false)) (λy=>y.1.length≤16):=ap (by simp);refine la (CM a) (by simp only [sS];exact bad) (λp=>?_);simp only [sS];refine mM (CM b) (by simp only [sS];exact bad) (λq=>?_);simp only [sS];rw [aV (n:=(a.length:Int)+b.length) (by omega) (by omega),aV];refine (MU ⟨by omega,by omega⟩).bind λl d=>?_;subst d;refine dh (ls a b) a.length (λ_ l=>l.length=a.length+b.length+1) (λk l d=>?_) (λk l i f d hk=>?_) (by omega) (by simp;omega)
 ·rw [ls,Q5];refine (Tr (by omega)).bind λg o=>aP (λ_=>bad) (λh=>ap ?_);simp at h;show g.length≤16;omega
 rw [ls,Q0];refine dh (λc (σ:List Int×Int) j=>lk b i a (ls a b k) c σ.1 σ.2 j) b.length (λ_ σ=>σ.1.length=a.length+b.length+1) (λc σ hσ=>?_) (λc σ j m hσ e=>?_) (by omega) (s:=(l,0)) d
 ·show Tot (lk _ _ _ _ (c+1) _ _ _) _;rw [lk,Q5,aV (n:=(i:Int)+b.length) (by omega) (by omega),show (i:Int)+(b.length:Int)=((i+b.length:Nat):Int) by omega,aH (show i+b.length<σ.1.length by omega),ax];simp only [bS];exact hk _ (by simpa using hσ)
 show Tot (lk _ _ _ _ (c+1) _ _ _) _;rw [lk,Q0,aV (n:=(i:Int)+j) (by omega) (by omega),show (i:Int)+(j:Int)=((i+j:Nat):Int) by omega,aH (show i+j<σ.1.length by omega),aH f,aH m,ax (i:=j) (by omega)];simp only [bS];exact e (_,_) (by simpa using hσ)
theorem Qa (p:List Int){i:Int}(h:0≤i):T (tl p i):=by
 unfold tl;exact aP (λg=>(kD ⟨h,by simpa using g⟩).bind λ_ _=>bu _) (λ_=>bu _)
theorem JH (a b:List Int):T (tc a b):=by
 unfold tc;refine la (CM a) (by simp only [sS];exact bu _) (λe=>?_);simp only [sS];refine mM (CM b) (by simp only [sS];exact bu _) (λf=>?_);simp only [sS]
 have c:Tot (Bj (a.length:Int) b.length) (λm=>∃n:Nat,m=n∧n≤16):=by
  unfold Bj;exact aP (λ_=>ap ⟨_,rfl,by omega⟩) (λ_=>ap ⟨_,rfl,by omega⟩)
 refine c.bind λm c=>?_;obtain ⟨n,rfl,d⟩:=c;rw [aV]
 have key:∀(n k:Nat),n≤16→n<k→T (oI a b k ((n:Int)-1)):=by
  intro n
  induction n with
  | zero =>
   intro k _ hk;obtain ⟨k,rfl⟩:=kS k (by omega);rw [oI,Q5];exact bu _
  | succ n ih =>
   intro k d hk;obtain ⟨k,rfl⟩:=kS k (by omega);rw [show ((n+1:Nat):Int)-1=(n:Int) by omega,oI,Q2,aV];refine (Qa a (by omega)).bind λ_ _=>(Qa b (by omega)).bind λ_ _=>?_;exact aP (λ_=>bu _) (λ_=>aP (λ_=>bu _) (λ_=>ih k (by omega) (by omega)))
 exact key n bc d cN
theorem Vh (a b:List Int):T (zy a b):=by
 unfold zy;refine la (CM a) (by simp only [sS];exact bu _) (λe=>?_);simp only [sS];refine mM (CM b) (by simp only [sS];exact bu _) (λf=>?_);simp only [sS];refine Tot.bind (P:=λ_=>True) ((JH a b).bind λ_ _=>bu _) (λu _=>aP (λ_=>bu _) (λ_=>?_));refine dh (λk (σ:List Int×Int) i=>iU a b k σ.1 σ.2 i) a.length (λi σ=>σ.1.length=i) (λk σ h=>?_) (λk σ i d h hk=>?_) (by omega) (s:=([],0)) rfl
 ·show Tot (iU _ _ (k+1) _ _ _) _;rw [iU,Q5];exact (Tr (by omega)).bind λ_ _=>bu _
 show Tot (iU _ _ (k+1) _ _ _) _;rw [iU,Q0,aH d];simp only [bS];refine (Qa b (by omega)).bind λ_ _=>?_;unfold qC;rw [ax];refine aP (λ_=>?_) (λ_=>?_)
 ·exact (rn).bind λl c=>hk (_,_) (by subst c;simp;omega)
 exact (rn).bind λl c=>hk (_,_) (by subst c;simp;omega)
theorem RC {n:Int}(h:n≤9223372036854775807):T (yz n):=by
 unfold yz;refine aP (λ_=>bu _) (λa=>?_);have a:0≤n:=by simpa using a
 have key:∀(d k:Nat)(n:Int)(l:List Int),0≤n→n<(16777216:Int)^d→d≤3→d<k→l.length+d≤100→T (pM k n l):=by
  intro d
  induction d with
  | zero =>
   intro k n l a h1 _ hk j;obtain ⟨k,rfl⟩:=kS k (by omega);rw [Int.pow_zero] at h1;rw [pM,Q4];exact bu _
  | succ d ih =>
   intro k n l a h1 o hk j;obtain ⟨k,rfl⟩:=kS k (by omega);rw [Int.pow_succ] at h1;rw [pM];refine aP (λ_=>(rn).bind λp c=>?_) (λ_=>bu _);subst c
   have e:(16777216:Int)^d≤16777216^2:=by
    rcases (show d=0∨d=1∨d=2 by omega) with rfl|rfl|rfl<;>decide
   have f:(16777216:Int)^2=281474976710656:=by decide
   rw [f] at e;have m:Int.tdiv n 16777216=n / 16777216:=Int.tdiv_eq_ediv_of_nonneg a;have g:0≤n / 16777216:=by omega
   have i:n / 16777216<16777216^d:=by
    generalize (16777216:Int)^d=z at h1 e;omega
   rw [m,aV];exact ih k _ _ g i (by omega) (by omega) (by simp;omega)
 exact key 3 bc n [] a (by have:(16777216:Int)^3=4722366482869645213696:=(by decide);omega) (by omega) cN (by simp)
theorem AM {a b:Int}(c:a≤9223372036854775807)(d:b≤9223372036854775807):T (lg a b):=by
 unfold lg;exact (RC c).bind λ_ _=>(RC d).bind λ_ _=>(CI _ _).bind λ_ _=>bu _
def Vd (f:co):Prop:=(0≤f.I_∧f.I_≤4000000000000000)∧1≤f.ab_∧f.ab_≤4000000000000000
theorem AE (f:co):Dec (nr f) (Vd f):=by
 unfold nr Vd;simp only [vV];exact Xa cW λ_=>cW
theorem Ad (a b:co):T (nz a b):=by
 unfold nz;refine la (AE a).t (by simp only [sS];exact bu _) (λc=>?_);simp only [sS];refine mM (AE b).t (by simp only [sS];exact bu _) (λd=>?_);simp only [sS];have:=c.1;have:=c.2;have:=d.1;have:=d.2;exact (AM (by omega) (by omega)).bind λ_ _=>(AM (by omega) (by omega)).bind λ_ _=>(JH _ _).bind λ_ _=>bu _
theorem SM (a b:co):T (xm a b):=by
 unfold xm;refine la (AE a).t (by simp only [sS];exact bu _) (λc=>?_);simp only [sS];refine mM (AE b).t (by simp only [sS];exact bu _) (λd=>?_);simp only [sS];have:=c.1;have:=c.2;have:=d.1;have:=d.2;refine Tot.bind (P:=λ_=>True) ((Ad a b).bind λ_ _=>bu _) (λu _=>aP (λ_=>bu _) (λ_=>?_));exact (AM (by omega) (by omega)).bind λ_ _=>(AM (by omega) (by omega)).bind λ_ _=>(Vh _ _).bind λ_ _=>(AM (by omega) (by omega)).bind λ_ _=>bu _
theorem Zj {a b:Int}(s:0≤a)(t:1≤b)(m:b≤4000000000000000):Tot (EI a b) (λg=>1≤g):=by
 unfold EI;rw [Q4]
 have key:∀(d k a b:Nat),1≤a+b→b<2^d→2*d+1<k→Tot (qD k (a:Int) (b:Int)) (λg=>1≤g):=by
  intro d
  induction d with
  | zero =>
   intro k a b h1 f hk;obtain ⟨k,rfl⟩:=kS k (by omega);rw [qD,Q4];exact ap (by omega)
  | succ d ih =>
   intro k a b h1 f hk;obtain ⟨k,rfl⟩:∃q,k=q+2:=⟨k-2,by omega⟩;rw [qD];refine aP (λc=>?_) (λc=>ap (by simp at c;omega));have c:0<b:=by simp at c;omega
   have h:rem (a:Int) (b:Int)=some ((a%b:Nat):Int):=by
    unfold rem;rw [Q6,Int.tmod_eq_emod_of_nonneg (by omega)];rfl
   rw [h];simp only [bS];have i:=Nat.mod_lt a c;generalize a%b=r at i;rw [qD];refine aP (λe=>?_) (λ_=>ap (by omega));have e:0<r:=by simp at e;omega
   have j:rem (b:Int) (r:Int)=some ((b%r:Nat):Int):=by
    unfold rem;rw [Q6,Int.tmod_eq_emod_of_nonneg (by omega)];rfl
   rw [j];simp only [bS];have o:=Nat.mod_lt b e;have l:1≤b / r:=Nat.div_pos (by omega) e;have u:=Nat.div_add_mod b r;have p:r≤r*(b / r):=Nat.le_mul_of_pos_right _ l;refine ih k r (b%r) (by omega) ?_ (by omega);rw [Nat.pow_succ] at f;omega
 have:=key 60 bc a.toNat b.toNat (by omega) (by have:(2:Nat)^60=1152921504606846976:=(by decide);omega) cN;rw [show ((a.toNat:Nat):Int)=a by omega,show ((b.toNat:Nat):Int)=b by omega] at this;exact this
theorem TT {k:IntKind}{x y:Int}(h:y≠0):T (quo k x y):=by
 unfold quo;rw [if_neg h];exact bu _
theorem Sn (f:co):T (xM f):=by
 unfold xM;refine la (AE f).t (by simp only [sS];exact bu _) (λh=>?_);simp only [sS];have:=h.1;have:=h.2;exact (Zj (by omega) (by omega) (by omega)).bind λg a=>(TT (by omega)).bind λ_ _=>(TT (by omega)).bind λ_ _=>bu _
theorem Rg {l:List Int}(h:l.length≤1048576):T (pb l):=by
 unfold pb;refine dh (ol l) l.length (λ_ _=>True) (λk s _=>?_) (λk s i a _ hk=>?_) (by omega) trivial
 ·rw [ol,Q5];exact bu _
 rw [ol,Q0,aH a,ax];exact hk _ trivial
theorem LU (l:List Int):T (tK l):=by
 unfold tK;refine aP (λ_=>bu _) (λh=>?_);have h:l.length≤3:=by simp at h;omega
 refine dh (mY l) l.length (λ_ _=>True) (λk s _=>?_) (λk s i a _ hk=>?_) (by omega) trivial
 ·rw [mY,Q5];exact bu _
 rw [mY,Q0,aH a,ax];simp only [bS];refine la cW.t (by simp only [sS];exact bu _) (λ_=>?_);simp only [sS];exact hk _ trivial
end Go.Vk
/- Merits of forks: they always answer. -/
namespace Go.Vk
theorem LV {s:ae}{t:aD}{f:aC}(h:bn s)(E:gQ t)(i:Int):Tot (nw s t f i) (λl=>l.length=0∨l.length=s.g_.length∧gF s):=by
 unfold nw;have bad:Tot (some ([]:List Int)) (λl=>l.length=0∨l.length=s.g_.length∧gF s):=ap (.inl rfl);refine la (oG h E).t (by simp only [sS];exact bad) (λu=>?_);simp only [sS];by_cases x:t.e_.length=0
 ·rw [show ((t.e_.length:Int)==0)=true by simpa using x];simp only [sS];exact bad
 rw [show ((t.e_.length:Int)==0)=false by simpa using x];simp only [sS];refine mM (qM h).t (by simp only [sS];exact bad) (λv=>?_);simp only [sS];rw [ra h v];simp only [bS];refine mM cW.t (by simp only [sS];exact bad) (λ_=>?_);simp only [sS];have m:=u.1;have H:=m.2.1;refine (MU ⟨by omega,by omega⟩).bind λp c=>?_;have c:p.length=s.g_.length:=by rw [c];simp
 obtain ⟨a,d,ea,et⟩:=GL v.2.1;have A:=h.1.2 _ (List.getElem_mem d);have L:=Fu (m.attr d);have M:t.e_.length=s.c_.length:=by rcases u.2.2.2.2 with g|g;omega;exact g.1
 have q:Kb s.g_.length (nb s.c_[a]) t.l_ t.e_[a]:=by
  rcases u.2.2.2.2 with g|g
  ·omega
  exact g.2 a (by omega) d
 refine dh (λk (l:List Int) b=>ef s f i p t k b l) (nb s.c_[a]) (λ_ l=>l.length=s.g_.length) (λk l r=>?_) (λk l b F r hk=>?_) (by omega) c
 ·show Tot (ef _ _ _ _ _ (k+1) _ _) _;rw [ef,ea,aH d];simp only [bS];rw [vZ A (m.attr d)];simp only [bS];rw [Q5];exact ap (.inr ⟨r,m⟩)
 show Tot (ef _ _ _ _ _ (k+1) _ _) _;rw [ef,ea,aH d];simp only [bS];rw [vZ A (m.attr d)];simp only [bS];rw [Q0,FK h v (b:=(b:Int)) ⟨by omega,by rw [et];omega⟩,ax];simp only [bS];refine aP (λ_=>?_) (λ_=>hk _ r);refine dh (λo (e:List Int) j=>fN p t f b s (ef s f i p t k) o j e) s.g_.length (λ_ e=>e.length=s.g_.length) (λo e w=>?_) (λo e j G w C=>?_) (by omega) r
 ·show Tot (fN _ _ _ _ _ _ (o+1) _ _) _;rw [fN,c,Q5,ax];exact hk _ w
 show Tot (fN _ _ _ _ _ _ (o+1) _ _) _
 have P:b*s.g_.length≤12:=by
  calc b*s.g_.length≤4*3:=Nat.mul_le_mul (by omega) (by omega)
   _=12:=rfl
 have D:b*s.g_.length+j<t.e_[a].length:=by rw [q.1];exact Ri F G
 rw [fN,c,Q0,aH (show j<e.length by omega),ea,aH (show a<t.e_.length by omega)];simp only [bS];rw [←Int.natCast_mul,fQ,←Int.natCast_add,fQ,aH D,ax];simp only [bS];exact C _ (by simpa using w)
theorem QH {s:ae}{t:aD}{f:aC}(e:bn s)(u:gQ t):T (yo s t f):=by
 unfold yo;refine la (oG e u).t (by simp only [sS];exact bu _) (λM=>?_);simp only [sS];by_cases w:t.e_.length=0
 ·rw [show ((t.e_.length:Int)==0)=true by simpa using w];simp only [sS];exact bu _
 rw [show ((t.e_.length:Int)==0)=false by simpa using w];simp only [sS];refine mM (qM e).t (by simp only [sS];exact bu _) (λr=>?_);simp only [sS];have a0:=M.1.2.1;refine (MU ⟨by omega,by omega⟩).bind λA m=>?_;have m:A.length=s.g_.length:=by rw [m];simp
 have a1:=Ol r;refine dh (λk (σ:List Int×List Int×List Int) i=>jT s f t k i σ.1 σ.2.1 σ.2.2) (brN s f) (λi σ=>σ.1.length=s.g_.length∧σ.2.2.length=σ.2.1.length∧σ.2.1.length≤i∧∀x∈σ.2.1,0<x) (λk σ h=>?_) (λk σ i hi h hk=>?_) (by omega) (s:=(A,[],[])) ⟨m,rfl,by simp,λx hx=>by cases hx⟩
 ·obtain ⟨h1,C,D,p⟩:=h;show T (jT s f t (k+1) _ _ _ _);rw [jT,ra e r];simp only [bS];rw [Q5];refine (Rg (by omega)).bind λy _=>aP (λ_=>bu _) (λ_=>?_);refine dh (pI σ.2.1 σ.2.2 y σ.1) σ.2.1.length (λ_ _=>True) (λP z _=>?_) (λP z j c _ E=>?_) (by omega) trivial
  ·rw [pI,Q5];refine dh (pK σ.2.1 σ.2.2 z y σ.1) σ.2.1.length (λ_ _=>True) (λQ v _=>?_) (λQ v j c _ F=>?_) (by omega) trivial
   ·rw [pK,Q5];exact (LU _).bind λ_ _=>(Sn _).bind λ_ _=>bu _
   rw [pK,Q0,aH (show j<σ.2.2.length by omega),aH c,ax];simp only [bS];have:=p _ (List.getElem_mem c);exact (TT (by omega)).bind λ_ _=>F _ trivial
  rw [pI,Q0,aH c,ax];exact E _ trivial
 obtain ⟨h1,C,D,p⟩:=h;show T (jT s f t (k+1) _ _ _ _);rw [jT,ra e r];simp only [bS];rw [Q0];refine (LV e u _).bind λy R=>?_;have a2:y.length≤s.g_.length:=by rcases R with g|g<;>omega
 refine dh (λo (d:List Int) j=>mf y σ.2.1 σ.2.2 (jT s f t k) i o j d) y.length (λ_ d=>d.length=s.g_.length) (λo d a=>?_) (λo d j c a G=>?_) (by omega) h1
 ·show T (mf _ _ _ _ _ (o+1) _ _);rw [mf,Q5,ax];obtain ⟨v,X,_⟩:=Rg (l:=y) (by omega);rw [X];simp only [bS];refine aP (λZ=>?_) (λ_=>hk (_,_,_) ⟨a,C,Nat.le_succ_of_le D,p⟩);refine (rn).bind λl3 H=>(LU _).bind λq _=>(rn).bind λl4 L=>?_;subst H L;refine hk (_,_,_) ⟨a,by simp;omega,by simp;omega,λx hx=>?_⟩;rcases List.mem_append.1 hx with hx|hx
  ·exact p x hx
  rw [List.mem_singleton.1 hx];simpa using Z
 show T (mf _ _ _ _ _ (o+1) _ _);rw [mf,Q0,aH (show j<d.length by omega),aH c,ax];simp only [bS];exact G _ (by simpa using a)
theorem SQ {s:ae}(c:gF s){a:Int}(d:0≤a∧a≤(s.c_.length:Int)-1):Cz s [a]:=by
 refine ⟨c,by simp,λi _ e h=>?_⟩;have:i=0:=by simp at e;omega
 subst this;exact ⟨d,λg=>absurd g (by omega)⟩
theorem XE {s:ae}{a:Int}{two:Bool}(r:bn s)(u:gF s)(C:0≤a∧a≤(s.c_.length:Int)-1):Tot (sB s [a] two) (λl=>1≤l.length∧l.length≤10):=by
 unfold sB;rcases (uW (l:=[a]) r (by simp)).cases with ⟨e,_⟩|⟨_,g⟩
 ·rw [e];simp only [sS];obtain ⟨j,rfl⟩:∃j:Nat,a=j:=⟨a.toNat,by omega⟩;have q:j<s.c_.length:=by omega
  refine dh (fV [(j:Int)] s two) 1 (λi l=>i≤l.length∧l.length≤5*i) (λk l h=>?_) (λk l i D h hk=>?_) (by omega) ⟨by simp,by simp⟩
  ·rw [fV,Q5];exact ap (by omega)
  have:i=0:=by omega
  subst this;have E:l=[]:=List.length_eq_zero_iff.1 (by omega);subst E;have F:idx [(j:Int)] ((0:Nat):Int)=some (j:Int):=by rw [aH (by simp)];rfl
  rw [fV,Q2,F];simp only [bS];rw [aH q];simp only [bS];refine aP (λ_=>?_) (λ_=>?_)
  ·rw [bA (by simp),ax];simp only [bS];refine hk _ ?_;simp
  have v:wA s ⟨(j:Int),0⟩:=by
   have M:=Fu (u.attr q);refine ⟨u,by show 0≤(j:Int)∧(j:Int)≤_;omega,?_⟩
   have w:atr s ⟨(j:Int),0⟩=s.c_[j]:=by
    obtain ⟨i,D,h1,c⟩:=GL (s:=s) (f:=⟨(j:Int),0⟩) (by show 0≤(j:Int)∧(j:Int)≤_;omega);have:j=i:=by have h1:(j:Int)=i:=h1;omega
    subst this;exact c
   show -1≤(0:Int)∧(0:Int)≤Cj (atr s ⟨(j:Int),0⟩);rw [w];unfold Cj;split<;>omega
  refine dh (λo d m=>fW [(j:Int)] (0:Nat) s (fV [(j:Int)] s two k) o d m) 4 (λm d=>d.length≤m∧(1≤m→1≤d.length)) (λo d c=>?_) (λo d m L c p=>?_) (by omega) (s:=[]) ⟨by simp,λh=>absurd h (by omega)⟩
  ·show Tot (fW _ _ _ _ (o+1) _ _) _;rw [fW,Q5,ax];have:=c.2 (by omega);exact hk _ ⟨by omega,by omega⟩
  show Tot (fW _ _ _ _ (o+1) _ _) _;have G:idx [(j:Int)] ((0:Nat):Int)=some (j:Int):=by rw [aH (by simp)];rfl
  rw [fW,Q0,G,ax];simp only [bS];by_cases H:m=0
  ·subst H;rcases (qM (f:=⟨(j:Int),0⟩) r).cases with ⟨e,_⟩|⟨_,g⟩
   ·have x:=c.1;rw [show ((0:Nat):Int)=(0:Int) from rfl,e];simp only [bS];have A:d=[]:=List.length_eq_zero_iff.1 (by omega);subst A;rw [if_pos trivial,bA (by simp)];simp only [bS];exact p _ ⟨by simp,λ_=>by simp⟩
   exact absurd v g
  have h1:=c.2 (by omega);have x:=c.1;refine (Dec.t (qM (f:=⟨(j:Int),(m:Int)⟩) r)).bind λb _=>aP (λ_=>?_) (λ_=>p _ ⟨by omega,λ_=>h1⟩);rw [bA];simp only [bS];exact p _ ⟨by simp;omega,λ_=>by simp⟩
 exact absurd (SQ u C) g
theorem Uj {s:ae}{t:aD}{a:Int}{two:Bool}(f:bn s)(g:gQ t):T (yX s t a two):=by
 unfold yX;refine la (oG f g).t (by simp only [sS];exact bu _) (λh=>?_);simp only [sS];by_cases j:t.e_.length=0
 ·rw [show ((t.e_.length:Int)==0)=true by simpa using j];simp only [sS];exact bu _
 rw [show ((t.e_.length:Int)==0)=false by simpa using j];simp only [sS];refine mM cW.t (by simp only [sS];exact bu _) (λo=>?_);simp only [sS];have v:=h.1.1;rw [aV] at o;refine (XE f h.1 o).bind λl w=>?_;have p:0<l.length:=by omega
 have q:idx l 0=some l[0]:=aH p;rw [q];simp only [bS];refine (QH f g).bind λm _=>?_
 have key:∀(d k i:Nat)(a b c e:Int),l.length-i=d→d<k→T (mL l s t k a b c e (i:Int)):=by
  intro d
  induction d with
  | zero =>
   intro k i a b c e r hk;obtain ⟨k,rfl⟩:=kS k (by omega);rw [mL,Q4];exact bu _
  | succ d ih =>
   intro k i a b c e r hk;obtain ⟨k,rfl⟩:=kS k (by omega);have u:i<l.length:=by omega
   rw [mL,Q0,aH u];simp only [bS];refine (QH f g).bind λm _=>?_;rw [ax];exact (Ad _ _).bind λ_ _=>aP (λ_=>ih _ _ _ _ _ _ (by omega) (by omega)) (λ_=>ih _ _ _ _ _ _ (by omega) (by omega))
 exact key (l.length-1) bc 1 _ _ _ _ rfl cN
theorem Yv {s:ae}{t:aD}{l:List Int}{two:Bool}(c:bn s)(p:gQ t)(D:l.length≤1048576):T (Da s t l two):=by
 unfold Da;refine la (oG c p).t (by simp only [sS];exact bu _) (λQ=>?_);simp only [sS];by_cases v:t.e_.length=0
 ·rw [show ((t.e_.length:Int)==0)=true by simpa using v];simp only [sS];exact bu _
 rw [show ((t.e_.length:Int)==0)=false by simpa using v];simp only [sS];refine mM (uW c D).t (by simp only [sS];exact bu _) (λR=>?_);simp only [sS];refine dh (λk (r:List cA) i=>ke l s t two k i r) l.length (λi r=>r.length=i) (λk r h=>?_) (λk r i E h hk=>?_) (by omega) rfl
 ·show T (ke _ _ _ _ (k+1) _ _);rw [ke,Q5];exact bu _
 show T (ke _ _ _ _ (k+1) _ _);rw [ke,Q0,aH E];simp only [bS];refine (Uj c p).bind λb _=>?_
 have key:∀(j a:Nat),j≤r.length→j<a→T (ru r b (ke l s t two k) i a (j:Int)):=by
  have fin:∀j:Nat,j≤r.length→T ((sub r 0 (j:Int)).bind λd=>(app ([]:List cA) d).bind λe=>(app e ([(cA.mk b.1 b.2)]:List cA)).bind λf=>(sub r (j:Int) (r.length:Int)).bind λg=>(app f g).bind λm=>(ke l s t two k) (IntKind.i64.wrap ((i:Int)+1)) m):=by
   intro j w;refine (sJ ⟨by omega,by omega,by omega⟩).bind λF h1=>?_;have h1:F.length=j:=by rw [h1];simp;omega
   refine (rn).bind λG o=>?_;have o:G.length=j:=by rw [o];simp [h1]
   refine (rn).bind λH x=>?_;have x:H.length=j+1:=by rw [x];simp [o]
   refine (sJ ⟨by omega,by omega,by omega⟩).bind λL A=>?_;have A:L.length=r.length-j:=by rw [A];simp
   refine (rn (by omega)).bind λX M=>?_;rw [ax];exact hk _ (by rw [M];simp;omega)
  intro j
  induction j with
  | zero =>
   intro a _ C;obtain ⟨a,rfl⟩:∃q,a=q+1:=⟨a-1,by omega⟩;rw [ru,Q5];simp only [sS];exact fin 0 (by omega)
  | succ j ih =>
   intro a w C;obtain ⟨a,rfl⟩:∃q,a=q+1:=⟨a-1,by omega⟩;rw [ru,Q2,aV,show ((j+1:Nat):Int)-1=(j:Int) by omega,aH (show j<r.length by omega)];simp only [bS];unfold DU;refine Tot.bind (P:=λ_=>True) (((Ad _ _).bind λ_ _=>bu _).bind λ_ _=>bu _) (λu _=>aP (λ_=>ih a (by omega) (by omega)) (λ_=>fin (j+1) w))
 exact key r.length bc (Nat.le_refl _) cN
theorem Pj {s:ae}{t:aD}{l:List Int}{two:Bool}(a:bn s)(c:gQ t)(d:l.length≤1048576):T (vU s t l two):=by
 unfold vU;refine (Yv a c d).bind λr _=>aP (λ_=>bu _) (λh=>?_);have h:r.length≠0:=by simpa using h
 unfold oC;refine aP (λh1=>?_) (λ_=>(kD ⟨by omega,by omega⟩).bind λ_ _=>bu _);have h1:(r.length:Int)>1:=by simpa using h1
 exact (kD ⟨by omega,by omega⟩).bind λ_ _=>(kD ⟨by omega,by omega⟩).bind λ_ _=>bu _
end Go.Vk
/- Verdicts, places, copies: they always answer. -/
namespace Go.Vk
def V (x:Int):Prop:=-9223372036854775808≤x∧x≤9223372036854775807
theorem pn (n:Int):V (IntKind.i64.wrap n):=by
 unfold V;rw [IntKind.wrap_i64];omega
theorem eg {x:Int}(h : -1000000000000≤x∧x≤1000000000000):V x:=⟨by omega,by omega⟩
theorem IJ (a:co):Tot (nM a) (λb=>b=true→Vd a):=by
 unfold nM;exact (AE a).t.bind λb c=>ap λh=>c (by simp at h;exact h.1)
theorem PE (p:Int):Tot (xT p) (λv=>v≤9223372036854775807):=by
 unfold xT;exact cW.t.bind λb _=>aP (λ_=>ap (by omega)) (λ_=>ap (pn _).2)
theorem Ur (a b:co)(n k:Int):T (zo a b n k):=by
 unfold zo;refine la (IJ a) (by simp only [sS];exact bu _) (λ_=>?_);simp only [sS];refine mM (IJ b) (by simp only [sS];exact bu _) (λ_=>?_);simp only [sS];refine Tot.bind (P:=λ_=>True) ((Ad a b).bind λ_ _=>bu _) (λu _=>?_);cases u
 ·simp only [sS];refine mM cW.t (by simp only [sS];exact bu _) (λd=>?_);simp only [sS];refine mM cW.t (by simp only [sS];exact bu _) (λ_=>?_);simp only [sS];exact (SM a b).bind λ_ _=>(CI _ _).bind λ_ _=>(AM (by omega) (by omega)).bind λ_ _=>(CI _ _).bind λ_ _=>(CI _ _).bind λ_ _=>(PE k).bind λv c=>(AM c (by omega)).bind λ_ _=>(CI _ _).bind λ_ _=>(JH _ _).bind λ_ _=>bu _
 simp only [sS];exact bu _
theorem YA (r:bO)(n:Int):T (Db r n):=by
 unfold Db;refine (BX r).t.bind λa _=>?_;refine Tot.bind (P:=λ_=>True) (aP (λ_=>cW.t.bind λ_ _=>bu _) (λ_=>bu _)) (λb _=>?_);exact Tot.bind (P:=λ_=>True) (aP (λ_=>(PE _).bind λ_ _=>bu _) (λ_=>bu _)) (λ_ _=>bu _)
theorem Sh (r:bO)(a b:co)(n:Int):T (xI r a b n):=by
 unfold xI;refine la (BX r).t (by simp only [sS];exact bu _) (λ_=>?_);simp only [sS];refine mM cW.t (by simp only [sS];exact bu _) (λ_=>?_);simp only [sS];refine mM (IJ a) (by simp only [sS];exact bu _) (λ_=>?_);simp only [sS];refine mM (IJ b) (by simp only [sS];exact bu _) (λ_=>?_);simp only [sS];refine Tot.bind (P:=λ_=>True) ((Ad a b).bind λ_ _=>bu _) (λu _=>?_);exact aP (λ_=>bu _) (λ_=>aP (λ_=>bu _) (λ_=>(Ur ..).bind λ_ _=>aP (λ_=>bu _) (λ_=>(YA ..).bind λ_ _=>aP (λ_=>bu _) (λ_=>bu _))))
theorem Nt {l:List Int}(h:l.length≤1048576):Tot (ve l) (λv => -1≤v∧v<l.length∧(0<l.length→0≤v)):=by
 unfold ve;refine dh (nG l) l.length (λi s => -1≤s∧s<i∧(0<i→0≤s)) (λk s h1=>?_) (λk s i a h1 hk=>?_) (by omega) ⟨by omega,by omega,λg=>absurd g (by omega)⟩
 ·rw [nG,Q5];exact ap h1
 obtain ⟨h1,d,e⟩:=h1;rw [nG,Q0,aH a,ax];simp only [bS];refine Tot.bind (P:=λu=>u=false→0≤s) (aP (λ_=>ap (λh=>by cases h)) (λg=>?_)) (λu c=>aP (λ_=>hk _ ⟨by omega,by omega,λ_=>by omega⟩) (λg=>?_))
 ·have g:0≤s:=by simpa using g
  exact (kD ⟨g,by omega⟩).bind λ_ _=>ap λ_=>g
 have:=c (by simpa using g);exact hk _ ⟨by omega,by omega,λ_=>by omega⟩
theorem Iz {s:ae}{t:aD}(a:bn s)(c:gQ t):T (gb s t):=by
 rcases (oG a c).cases with ⟨e,h⟩|⟨e,h⟩
 ·rw [Gi a c h];exact bu _
 unfold gb;rw [e];simp only [sS];exact bu _
theorem LQ {s:ae}{t:aD}(a:bn s)(c:gQ t):T (ua s t):=by
 unfold ua;rcases (oG a c).cases with ⟨e,h⟩|⟨e,h⟩
 ·rw [e];simp only [sS];have h1:=h.1.2.1;have f:=h.2.1;exact (Iz a c).bind λ_ _=>(Nt (by omega)).bind λv d=>(kD ⟨d.2.2 (by omega),d.2.1⟩).bind λ_ _=>bu _
 rw [e];simp only [sS];exact bu _
theorem UA {s:ae}(a:bn s)(f:aC):∃n:Nat,gr s f=some (n:Int)∧n≤4:=by
 rcases (qM (f:=f) a).cases with ⟨_,h⟩|⟨_,h⟩
 ·exact ⟨_,ra a h,(Ol h).2⟩
 exact ⟨0,KW a h,by omega⟩
theorem Pk {s:ae}{t:aD}{f:aC}(a:bn s)(d:gQ t):Tot (vP s t f) V:=by
 unfold vP;obtain ⟨n,eB,m⟩:=UA a f;refine dh (λk (l:List Int) i=>jv s f t k l i) n (λi l=>l.length=i) (λk l h=>?_) (λk l i o h hk=>?_) (by omega) (s:=[]) rfl
 ·show Tot (jv s f t (k+1) _ _) _;rw [jv,eB];simp only [bS];rw [Q5];exact (Nt (by omega)).bind λv p=>ap (eg ⟨by omega,by omega⟩)
 show Tot (jv s f t (k+1) _ _) _;rw [jv,eB];simp only [bS];rw [Q0];have j:=a.2.1;refine (LV a d _).bind λy e=>aP (λ_=>ap (eg ⟨by omega,by omega⟩)) (λ_=>(Rg (by rcases e with g|g<;>omega)).bind λv _=>(rn).bind λq c=>?_);subst c;rw [ax];exact hk _ (by simp;omega)
theorem MR {t:aD}(h:t.l_.length≤1048576):xS t=some ⟨t.l_,[]⟩:=by
 unfold xS;rw [bA];rfl
theorem Wd {s:ae}{r:bO}{n:az}(a:bn s)(c:pr n):T (Bu s r n):=by
 unfold Bu;have d:=c.2.2.2.2.1;have e:=c.2.2.2.2.2.2.1.1;exact (Pj a d e).bind λ_ _=>aP (λ_=>bu _) (λ_=>(Iz a d).bind λ_ _=>(Sh ..).bind λ_ _=>aP (λ_=>bu _) (λ_=>bu _))
theorem Hi {n:az}(h:pr n):oF n=some n:=by
 have h1:=h.2.2.1.1;have a:=h.2.2.2.2.2.2.1.1;unfold oF;rw [bA,bA,(Gm h.2.2.2.2.1).1];rfl
theorem tv {t:am}(h:iB t):kb t=some t:=by
 have c:=h.1.1;unfold kb
 rw [qH (p:=t.a_) id (mV t) (λl=>some ⟨l,t.o_⟩) (λk l=>by rw [mV,Q5]) (λk l i a d=>by
  rw [mV,Q0,aH a,ax];simp only [bS];rw [Hi (h.1.2 _ (List.getElem_mem a))];simp only [bS];rw [bA];rfl) (by omega),List.map_id]
theorem iO {t:bB}(h:t.x_.length≤1048576):dp t=some t:=by
 unfold dp;rw [bA];rfl
theorem EH (t:bB):Dec (qU t) (t.x_.length≤600∧0≤t.j_∧t.j_≤t.x_.length):=by
 unfold qU;by_cases h:t.x_.length≤600
 ·rw [Q0];refine Dec.of_iff ?_ (show ((0:Int)≤t.j_∧t.j_≤(t.x_.length:Int))↔_ from ⟨λg=>⟨h,g⟩,λg=>g.2⟩);simp only [vV];exact cW
 rw [Q4];exact ct λg=>h g.1
theorem TK {t:bB}(h:t.x_.length≤1048576):Tot (Ay t) (λy=>y.1.x_.length≤1048576):=by
 unfold Ay zQ;rw [iO h];simp only [bS];rcases (EH t).cases with ⟨e,g⟩|⟨e,_⟩
 ·rw [e];simp only [sS];refine aP (λ_=>ap h) (λa=>?_);have a:¬IntKind.i64.wrap ((t.x_.length:Int)-t.j_)<2:=by simpa using a
  rw [aV] at a;rw [aV (n:=t.j_+1) (by omega) (by omega)];exact (kD ⟨by omega,by omega⟩).bind λ_ _=>(kD ⟨by omega,by omega⟩).bind λ_ _=>ap h
 rw [e];simp only [sS];rw [Q2];exact ap h
theorem Uc {n k:Nat}(a:n≤20)(hk:k≤20)(r:Int):Tot (pS n k r) BY:=by
 by_cases h:0≤r∧r≤1048576
 ·obtain ⟨v,e,_,g⟩:=OV a hk h;exact ⟨v,e,g⟩
 unfold pS;have d:=QX n k;rw [Ix];simp only [bS];rw [aV]
 have:aU r 0 ((Fp n k:Int)-1)=some false:=by
  unfold aU;have:¬(r≥0∧r≤(Fp n k:Int)-1):=by omega
  simp;omega
 rw [this];simp only [sS];exact ap ⟨by simp,λx c=>by cases c⟩
theorem LS {t:bB}{n k:Nat}(h:t.x_.length≤1048576)(a:n≤20)(hk:k≤20):Tot (pC t n k) (λy=>y.1.x_.length≤1048576∧BY y.2.1):=by
 have bad:BY []:=⟨by simp,λx c=>by cases c⟩;unfold pC ym;rw [Ix];simp only [bS];obtain ⟨⟨y1,y2,y3⟩,e,d⟩:=TK h;rw [e,iO h];simp only [bS]
 have key:Tot (if (!y3)=true then some true else (aU (Fp n k:Int) 1 65536).bind λy=>some (!y)) (λu=>u=false→(Fp n k:Int)≠0):=by
  refine aP (λ_=>ap (λh=>by cases h)) (λ_=>cW.t.bind λb f=>ap λg=>?_);have:b=true:=by simpa using g
  have:=f this;omega
 obtain ⟨u,eu,i⟩:=key;rw [eu];simp only [bS];cases u
 ·simp only [sS];have j:=i rfl;unfold rem;rw [if_neg j];simp only [bS];simp only [sS];exact (Uc a hk _).bind λl m=>ap ⟨d,m⟩
 simp only [sS];exact ap ⟨h,bad⟩
end Go.Vk
/- Splits, memory, learning: they always answer, and trees stay Fk. -/
namespace Go.Vk
def smI (n:Nat)(l:List Int):Prop:=l.length≤n∧∀y∈l,V y
def uG (d:Nat)(t:aD):Prop:=smI (8+d) t.l_∧t.e_.length≤8+d∧∀c∈t.e_,smI (16+d) c
def Az (d:Nat)(n:az):Prop:=(V n.n_.k_∧V n.n_.j_)∧smI (8+d) n.C_∧V n.J_∧uG d n.q_∧V n.K_∧smI (24+d) n.c_∧V n.r_∧V n.G_∧V n.E_
def ib (d:Nat)(t:am):Prop:=(t.a_.length≤40∧∀n∈t.a_,Az d n)∧V t.o_
theorem smI.mono {n m:Nat}(h:n≤m){l:List Int}(g:smI n l):smI m l:=⟨Nat.le_trans g.1 h,g.2⟩
theorem smI.sml {n:Nat}{l:List Int}(g:smI n l)(h:n≤1000):qk l:=⟨by have:=g.1;omega,g.2⟩
theorem smI.app {n m:Nat}{l:List Int}{x:Int}(g:smI n l)(a:V x)(h:n+1≤m):smI m (l++[x]):=⟨by have:=g.1;simp;omega,λy hy=>by
 rcases List.mem_append.1 hy with hy|hy
 ·exact g.2 y hy
 rw [List.mem_singleton.1 hy];exact a⟩
theorem smI.set {n:Nat}{l:List Int}{x:Int}(g:smI n l)(c:V x)(i:Nat):smI n (l.set i x):=⟨by rw [List.length_set];exact g.1,λy a=>by
 rcases List.mem_or_eq_of_mem_set a with a|rfl
 ·exact g.2 y a
 exact c⟩
theorem smI.nil (n:Nat):smI n []:=⟨by simp,λx a=>by cases a⟩
theorem smI.small {n:Nat}{l:List Int}(h:BY l)(a:20≤n):smI n l:=⟨Nat.le_trans h.1 a,λy c=>by have:=h.2 y c;exact eg ⟨by omega,by omega⟩⟩
theorem uG.mono {d d':Nat}(h:d≤d'){t:aD}(g:uG d t):uG d' t:=⟨g.1.mono (by omega),by have:=g.2.1;omega,λc a=>(g.2.2 c a).mono (by omega)⟩
theorem Az.mono {d d':Nat}(h:d≤d'){t:az}(g:Az d t):Az d' t:=by
 obtain ⟨a,c,e,f,i,j,k,l,m⟩:=g;exact ⟨a,c.mono (by omega),e,f.mono h,i,j.mono (by omega),k,l,m⟩
theorem uG.sml {d:Nat}(e:d≤10){t:aD}(g:uG d t):gQ t:=⟨g.1.sml (by omega),by have:=g.2.1;omega,λc a=>(g.2.2 c a).sml (by omega)⟩
theorem Az.sml {d:Nat}(a:d≤10){t:az}(g:Az d t):pr t:=by
 obtain ⟨c,e,f,h,i,j,k,l,m⟩:=g;exact ⟨trivial,c,e.sml (by omega),f,h.sml a,i,j.sml (by omega),k,l,m⟩
theorem ib.sml {d:Nat}(a:d≤10){t:am}(g:ib d t):iB t:=⟨⟨by have:=g.1.1;omega,λn c=>(g.1.2 n c).sml a⟩,g.2⟩
theorem ib.mono {d d':Nat}(h:d≤d'){t:am}(g:ib d t):ib d' t:=⟨⟨g.1.1,λn a=>(g.1.2 n a).mono h⟩,g.2⟩
theorem ib.setN {d:Nat}{l:List az}{x:Int}{n:az}(g:l.length≤40∧∀n∈l,Az d n)(c:Az d n)(e:V x)(i:Nat):ib d ⟨l.set i n,x⟩:=⟨⟨by rw [List.length_set];exact g.1,λy a=>by
 rcases List.mem_or_eq_of_mem_set a with a|rfl
 ·exact g.2 y a
 exact c⟩,e⟩
theorem Hz {l:List Int}{n m:Nat}(h:zl l n)(a:n≤m):smI m l:=⟨by rw [h.1];exact a,λy c=>by have:=h.2 y c;exact eg ⟨by omega,by omega⟩⟩
theorem TZ {s:ae}{t:aD}(d:gF s)(h:Kt s t):uG 0 t:=by
 obtain ⟨h1,j,f⟩:=h;have k:=d.1;have e:=d.2.1;refine ⟨Hz h1 (by omega),by omega,λc e=>?_⟩;obtain ⟨i,g,rfl⟩:=List.getElem_of_mem e;have a:i<s.c_.length:=by omega
 exact Hz (f i g a) (by have:=nbc d a;omega)
theorem Yq {s:ae}{t:aD}(h:zL s t):Kt s t:=by
 obtain ⟨_,e,f,_,c⟩:=h;refine ⟨⟨e,λx a=>by have:=f x a;omega⟩,by rcases c with g|g;exact .inl g;exact .inr g.1,λi j d=>?_⟩;rcases c with g|g
 ·omega
 obtain ⟨c1,c2,_⟩:=g.2 i j d;exact ⟨c1,λx a=>by have:=c2 x a;omega⟩
theorem Bv {s:ae}(a:bn s):Tot (mi s) (uG 0):=by
 rcases (nI (lT a)).cases with ⟨_,h⟩|⟨e,_⟩
 ·rw [Nk a h];exact ap (TZ h TI)
 unfold mi;rw [e];simp only [sS];exact ap ⟨.nil _,by simp,λx c=>by cases c⟩
theorem Jz {s:ae}{t:aD}{e:cq}{w:Int}(a:bn s)(c:uG 0 t):Tot (nN s t e w) (λy=>uG 0 y.1):=by
 have d:=c.sml (by omega);rcases (oG a d).cases with ⟨_,h⟩|⟨eP,_⟩
 ·obtain ⟨v,h1,_,f⟩:=Vb (e:=e) (w:=w) a h.1 (Yq h);exact ⟨v,h1,TZ h.1 f⟩
 unfold nN;rw [(Gm d).1,eP];simp only [sS];exact ap c
theorem Xl {s:ae}{t:am}{i:Int}{f:aC}{sets:List (List Int)}(e:bn s)(a:ib 0 t)(Z:sets.length≤4)(l:∀x∈sets,BY x):Tot (xF s t i f sets) (λy=>ib 0 y.1):=by
 have A:=a.sml (by omega);unfold xF;rw [tv A];simp only [bS];refine la (yd e A).t (by simp only [sS];exact ap a) (λF=>?_);simp only [sS];refine mM cW.t (by simp only [sS];exact ap a) (λG=>?_);simp only [sS];have H:=F.2.1;rw [aV] at G;obtain ⟨j,rfl⟩:∃j:Nat,i=j:=⟨i.toNat,by omega⟩;have r:j<t.a_.length:=by omega
 have hn:=a.1.2 _ (List.getElem_mem r);rw [aH r];simp only [bS]
 cases t.a_[j].D_ with
 | false=>simp only [sS];exact ap a
 | true =>
 simp only [sS]
 cases ((t.a_[j].q_.e_.length:Int)==0) with
 | true=>simp only [sS];exact ap a
 | false =>
 simp only [sS];refine mM (qM e).t (by simp only [sS];exact ap a) (λo=>?_);simp only [sS];rw [ra e o];simp only [bS];refine aP (λ_=>ap a) (λ_=>?_);refine dh (λk (_:Unit) x=>kr sets s t t (j:Int) f k x) sets.length (λ_ _=>True) (λk _ _=>?_) (λk _ x c _ hk=>?_) (by omega) (s:=()) trivial
 ·show Tot (kr _ _ _ _ _ _ (k+1) _) _;rw [kr,Q5,aH r];simp only [bS];refine aP (λ_=>ap a) (λg=>?_);have g:¬(IntKind.i64.wrap ((t.a_.length:Int)+(sets.length:Int))>31):=by simp at g;omega
  rw [aV] at g;obtain ⟨g1,g2,g3,u,g5,C,L,M,P⟩:=hn;refine (Pk e (u.sml (by omega))).bind λm q=>?_;rw [MR (by have:=u.1.1;omega)];simp only [bS];rw [bA (by have:=C.1;simp;omega)];simp only [Option.bind_some,List.nil_append];refine dh (λp (σ:List az×List Int) x=>ku sets s t.a_[j] (j:Int) t f m ⟨t.a_[j].q_.l_,[]⟩ t.a_[j].c_ t.a_[j] t.a_[j] t p σ.1 σ.2 x) sets.length (λx σ=>σ.1.length=t.a_.length+x∧σ.2.length=x∧(∀n∈σ.1,Az 0 n)∧∀y∈σ.2,V y) (λp σ h=>?_) (λp σ x c h D=>?_) (by omega) (s:=(t.a_,[])) ⟨rfl,rfl,a.1.2,λx c=>by cases c⟩
  ·obtain ⟨h1,Q,v,w⟩:=h;show Tot (ku _ _ _ _ _ _ _ _ _ _ _ _ (p+1) _ _ _) _;rw [ku,Q5,aH (show j<σ.1.length by omega)];simp only [bS];have X:=o.2
   have E:Cj (atr s f)≤4:=by
    have:=Fu (DL o.1 o.2.1);unfold Cj;split<;>omega
   have ha:=o.1.1;have vA:V f.k_:=eg ⟨by omega,by omega⟩;have vB:V f.j_:=eg ⟨by omega,by omega⟩;have z:V 0:=eg ⟨by omega,by omega⟩
   have R:Az 0 ⟨false,f,σ.2,m,⟨t.a_[j].q_.l_,[]⟩,0,t.a_[j].c_,t.a_[j].r_,t.a_[j].G_,t.a_[j].E_⟩:=⟨⟨vA,vB⟩,⟨by show σ.2.length≤_;omega,w⟩,q,⟨u.1,by simp,λx c=>by cases c⟩,z,C,L,M,P⟩
   exact ap (ib.setN ⟨by omega,v⟩ R a.2 _)
  obtain ⟨h1,Q,v,w⟩:=h;show Tot (ku _ _ _ _ _ _ _ _ _ _ _ _ (p+1) _ _ _) _;rw [ku,Q0,bA];simp only [bS];rw [aH c];simp only [bS];obtain ⟨y,ey,hy⟩:=Bv e;rw [ey];simp only [bS];have d:=l _ (List.getElem_mem c);rw [bA (by have:=d.1;simp;omega)];simp only [Option.bind_some,List.nil_append];rw [bA,ax];simp only [bS];refine D (_,_) ⟨by simp;omega,by simp;omega,λn hn=>?_,λy hy=>?_⟩
  ·rcases List.mem_append.1 hn with hn|hn
   ·exact v n hn
   rw [List.mem_singleton.1 hn];have z:V 0:=eg ⟨by omega,by omega⟩;have vj:V (j:Int):=eg ⟨by omega,by omega⟩;exact ⟨⟨z,z⟩,.nil _,z,hy,z,.small d (by omega),pn _,vj,a.2⟩
  rcases List.mem_append.1 hy with hy|hy
  ·exact w y hy
  rw [List.mem_singleton.1 hy];exact eg ⟨by omega,by omega⟩
 show Tot (kr _ _ _ _ _ _ (k+1) _) _;rw [kr,Q0,aH c,ax];simp only [bS];have d:=l _ (List.getElem_mem c);refine (uW e (by have:=d.1;omega)).t.bind λb _=>aP (λ_=>ap a) (λ_=>hk () trivial)
end Go.Vk
/- Memory and learning: they always answer, and trees stay Fk. -/
namespace Go.Vk
theorem Sy {n:az}(h:pr n):T (rv n):=by
 have h1:=h.2.2.2.2.1.2.1;unfold rv;refine aP (λ_=>bu _) (λ_=>?_);refine dh (ko n) n.q_.e_.length (λ_ _=>True) (λk s _=>?_) (λk s i a _ hk=>?_) (by omega) trivial
 ·rw [ko,Q5];exact bu _
 rw [ko,Q0,aH a,ax];exact hk _ trivial
theorem Hq {t:am}(h:iB t):T (mG t):=by
 have h1:=h.1.1;unfold mG;refine dh (iP t) t.a_.length (λ_ _=>True) (λk s _=>?_) (λk s i a _ hk=>?_) (by omega) trivial
 ·rw [iP,Q5];exact bu _
 rw [iP,Q0,aH a,ax];exact (Sy (h.1.2 _ (List.getElem_mem a))).bind λ_ _=>hk _ trivial
theorem Te {t:am}(h:iB t):T (rt t):=by
 have h1:=h.1.1;unfold rt;refine dh (eS t) t.a_.length (λ_ _=>True) (λk s _=>?_) (λk s i a _ hk=>?_) (by omega) trivial
 ·rw [eS,Q5];exact bu _
 rw [eS,Q0,aH a,ax];exact Tot.bind (P:=λ_=>True) (aP (λ_=>bu _) (λ_=>bu _)) (λ_ _=>aP (λ_=>hk _ trivial) (λ_=>hk _ trivial))
theorem YG {s:ae}{r:bO}{t:am}(a:bn s)(h:iB t):Tot (tj s r t) (λb=>b=true→yN s t):=by
 unfold tj;rcases (yd a h).cases with ⟨e,g⟩|⟨e,_⟩
 ·rw [e];simp only [sS];exact Tot.bind (P:=λ_=>True) ((BX r).t.bind λ_ _=>bu _) (λ_ _=>Tot.bind (P:=λ_=>True) (aP (λ_=>(Te h).bind λ_ _=>bu _) (λ_=>bu _)) (λ_ _=>Tot.bind (P:=λ_=>True) (aP (λ_=>(Hq h).bind λ_ _=>bu _) (λ_=>bu _)) (λ_ _=>ap λ_=>g)))
 rw [e];simp only [sS];exact ap λh=>by cases h
def Act (t:am)(x:Int):Prop:=∃j:Nat,∃h:j<t.a_.length,x=j∧0<t.a_[j].q_.e_.length
theorem Tp {t:am}(h:iB t):Tot (qg t) (λl=>l.length≤t.a_.length∧∀x∈l,Act t x):=by
 have h1:=h.1.1;unfold qg;refine dh (gY t) t.a_.length (λi l=>l.length≤i∧∀x∈l,Act t x) (λk l a=>?_) (λk l i c a hk=>?_) (by omega) ⟨by simp,λx hx=>by cases hx⟩
 ·rw [gY,Q5];exact ap a
 obtain ⟨j,d⟩:=a;rw [gY,Q0,aH c,ax];simp only [bS];refine Tot.bind (P:=λu=>u=true→0<t.a_[i].q_.e_.length) (aP (λ_=>ap (λh=>by simpa using h)) (λ_=>ap (λh=>by cases h))) (λu f=>aP (λg=>?_) (λ_=>hk _ ⟨by omega,d⟩));refine (rn).bind λm e=>?_;subst e;refine hk _ ⟨by simp;omega,λx hx=>?_⟩;rcases List.mem_append.1 hx with hx|hx
 ·exact d x hx
 exact ⟨i,c,List.mem_singleton.1 hx,f g⟩
theorem Sb {s:ae}{t:am}(d:bn s)(h:iB t):Tot (tD s t) (λv=>v=-1∨Act t v):=by
 have h1:=h.1.1;unfold tD;rcases (yd d h).cases with ⟨e,_⟩|⟨e,_⟩
 ·rw [e];simp only [sS];refine (Tp h).bind λl o=>?_;refine dh (lF l t s) l.length (λ_ v=>v=-1∨Act t v) (λk v a=>?_) (λk v i m a hk=>?_) (by omega) (.inl rfl)
  ·rw [lF,Q5];exact ap a
  obtain ⟨j,f,ej,p⟩:=o.2 _ (List.getElem_mem m);rw [lF,Q0,aH m,ax];simp only [bS];refine Tot.bind (P:=λ_=>True) (aP (λ_=>bu _) (λg=>?_)) (λu _=>aP (λ_=>hk _ (.inr ⟨j,f,ej,p⟩)) (λ_=>hk _ a));rcases a with rfl|⟨q,c,rfl,_⟩
  ·exact absurd (by simp) g
  rw [ej,aH f,aH c];simp only [bS];exact (LQ d (h.1.2 _ (List.getElem_mem f)).2.2.2.2.1).bind λ_ _=>(LQ d (h.1.2 _ (List.getElem_mem c)).2.2.2.2.1).bind λ_ _=>bu _
 rw [e];simp only [sS];exact ap (.inl rfl)
def Nf (n:az):Nat:=if 0<n.q_.e_.length then 1 else 0
theorem WK:∀(l:List az)(i:Nat)(h:i<l.length)(v:az),Nf l[i]=1→Nf v=0→((l.set i v).map Nf).sum+1=(l.map Nf).sum:=by
 intro l
 induction l with
 | nil=>intro i h;exact absurd h (by simp)
 | cons x l ih =>
  intro i h v h1 a
  cases i with
  | zero =>
   have h1:Nf x=1:=h1;simp only [List.set_cons_zero,List.map_cons,List.sum_cons,a,h1];omega
  | succ i =>
   have:=ih i (by simpa using h) v h1 a;simp only [List.set_cons_succ,List.map_cons,List.sum_cons];omega
theorem Td {s:ae}{t:am}(q:bn s)(a:ib 0 t)(b:Int):Tot (xD s t b) (λy=>ib 0 y.1):=by
 have r:=a.sml (by omega);unfold xD;rw [tv r];simp only [bS];rcases (yd q r).cases with ⟨e,_⟩|⟨e,_⟩
 ·rw [e];simp only [sS]
  have key:∀(d k:Nat)(l:List az)(g:List Int),(l.map Nf).sum<d→d≤k→l.length≤40→(∀n∈l,Az 0 n)→g.length+d≤1000→Tot (pp t b s k l g) (λy=>ib 0 y.1):=by
   intro d
   induction d with
   | zero=>intro k l g h;exact absurd h (by omega)
   | succ d ih =>
    intro k l g h hk i m hg;obtain ⟨k,rfl⟩:=kS k (by omega);have w:ib 0 ⟨l,t.o_⟩:=⟨⟨i,m⟩,a.2⟩;have A:=w.sml (by omega);rw [pp];refine (Hq A).bind λu _=>?_;obtain ⟨v,ev,D⟩:=Sb q A;rw [ev];simp only [bS];refine Tot.bind (P:=λu=>u=true→0≤v) (aP (λ_=>ap (λh=>by simpa using h)) (λ_=>ap (λh=>by cases h))) (λu E=>aP (λgu=>?_) (λ_=>ap w));have h0:=E gu;rcases D with rfl|⟨j,c,rfl,o⟩
    ·omega
    have c:j<l.length:=c;have o:0<l[j].q_.e_.length:=o;have F:=m _ (List.getElem_mem c);rw [aH c];simp only [bS];obtain ⟨G,H,L,C,g5,M,Q,R,X⟩:=F;rw [MR (by have:=C.1.1;omega)];simp only [bS];rw [bA];simp only [bS];have z:V 0:=eg ⟨by omega,by omega⟩;have hN':Az 0 {l[j] with q_:=⟨l[j].q_.l_,[]⟩,K_:=0}:=⟨G,H,L,⟨C.1,by simp,λx Z=>by cases Z⟩,z,M,Q,R,X⟩;have p:=WK l j c {l[j] with q_:=⟨l[j].q_.l_,[]⟩,K_:=0} (by unfold Nf;rw [if_pos o]) rfl;refine ih k _ _ ?_ (by omega) (by rw [List.length_set];exact i) (ib.setN ⟨i,m⟩ hN' z _).1.2 (by simp;omega);exact Nat.le_trans (Nat.le_of_eq p) (by omega)
  have a0:=PS (f:=Nf) (b:=1) (l:=t.a_) (λx _=>by unfold Nf;split<;>omega);have:=a.1.1;exact key 41 bc t.a_ [] (by omega) (Nat.le_of_lt cN) a.1.1 a.1.2 (by simp)
 rw [e];simp only [sS];exact ap a
theorem RH {s:ae}{t:am}{e:cq}(f:bn s)(g:yN s t)(h:ExP s e):∀(d i:Nat),i<t.a_.length→th s t e d i≠[]∧∀x∈th s t e d i,x<t.a_.length:=by
 intro d
 induction d with
 | zero =>
  intro i a;exact ⟨by simp [th],λx hx=>by rw [List.mem_singleton.1 hx];exact a⟩
 | succ d ih =>
  intro i a;unfold th;split
  ·exact ⟨by simp,λx hx=>by rw [List.mem_singleton.1 hx];exact a⟩
  rename_i c;rw [GM a] at c;obtain ⟨_,_,j,_⟩:=TU f g h a (by simpa using c);refine ⟨by simp,λx hx=>?_⟩;rcases List.mem_cons.1 hx with rfl|hx
  ·exact a
  exact (ih _ j).2 x hx
theorem WN {s:ae}{t:am}{e:cq}(a:bn s)(f:iB t)(c:yN s t)(d:ExP s e):Tot (xp s t e) (λv=>∃j:Nat,v=j∧j<t.a_.length):=by
 unfold xp wh;rcases (yd a f).cases with ⟨i,_⟩|⟨_,g⟩
 ·rcases (Dw (lT a)).cases with ⟨k,_⟩|⟨_,g⟩
  ·rw [i,k,(XK a c d).1];simp only [sS];have l:=c.2.1;obtain ⟨p1,p2⟩:=RH a c d 32 0 (by omega);have p:=JY (s:=s) (t:=t) (e:=e) 32 0;have q:(Di (th s t e 32 0)).length=(th s t e 32 0).length:=by simp [Di]
   have r:(th s t e 32 0).length≠0:=λh=>p1 (List.length_eq_zero_iff.1 h);rw [if_neg (by rw [beq_iff_eq];omega),aV];refine (kD ⟨by omega,by omega⟩).bind λv m=>ap ?_;obtain ⟨x,o,rfl⟩:=List.mem_map.1 m.1;exact ⟨x,rfl,p2 x o⟩
  exact absurd d g
 exact absurd c g
theorem Nq {s:ae}{r:bO}{t:am}{e:cq}{w k:Int}{tape:bB}(d:bn s)(l:ib 0 t)(a:tape.x_.length≤1048576):Tot (oM s r t e w tape k) (λy=>ib 0 y.1∧y.2.1.x_.length≤1048576):=by
 have A:=l.sml (by omega);unfold oM;rw [tv A,iO a];refine la (YG d A) (by simp only [sS];exact ap ⟨l,a⟩) (λG=>?_);simp only [sS];refine mM (Dw (lT d)).t (by simp only [sS];exact ap ⟨l,a⟩) (λQ=>?_);simp only [sS];refine Tot.bind (P:=λ_=>True) (aP (λ_=>bu _) (λ_=>cW.t.bind λ_ _=>bu _)) (λu _=>?_);refine Tot.bind (P:=λ_=>True) (aP (λ_=>bu _) (λ_=>(EH _).t.bind λ_ _=>bu _)) (λu2 _=>?_);refine Tot.bind (P:=λu=>u=false→1≤k∧k≤s.c_.length) (aP (λ_=>ap (λh=>by cases h)) (λ_=>cW.t.bind λb a=>ap (λg=>a (by simpa using g)))) (λu3 hk=>aP (λ_=>ap ⟨l,a⟩) (λg=>?_));have hk:=hk (by simpa using g);obtain ⟨k,rfl⟩:∃q:Nat,k=q:=⟨k.toNat,by omega⟩;refine (WN d A G Q).bind λv R=>?_;obtain ⟨j,rfl,D⟩:=R;have m:=l.1.2 _ (List.getElem_mem D);rw [aH D];simp only [bS];refine Tot.bind (P:=λ_=>True) (aP (λ_=>bu _) (λ_=>(Iz d (m.2.2.2.1.sml (by omega))).bind λ_ _=>bu _)) (λu _=>aP (λ_=>ap ⟨l,a⟩) (λ_=>?_));rw [Hi (m.sml (by omega))];simp only [bS];refine (Jz d m.2.2.2.1).bind λy X=>?_
 have key:∀(c:Int)(q:Bool),V c→Tot (jY t (j:Int) tape t.a_[j] y t s r (k:Int) c q) (λy=>ib 0 y.1∧y.2.1.x_.length≤1048576):=by
  intro c q Z;obtain ⟨g1,g2,g3,g4,g5,g6,g7,g8,g9⟩:=m;have H:Az 0 {t.a_[j] with q_:=y.1,K_:=c}:=⟨g1,g2,g3,X,Z,g6,g7,g8,g9⟩;have E:ib 0 ⟨t.a_.set (j:Int).toNat {t.a_[j] with q_:=y.1,K_:=c},IntKind.i64.wrap (t.o_+1)⟩:=ib.setN l.1 H (pn _) _;unfold jY;rw [aH D,iO a];simp only [bS];refine aP (λ_=>ap ⟨E,a⟩) (λ_=>(Wd d (H.sml (by omega))).bind λf _=>?_);obtain ⟨n,eB,a8⟩:=UA d f.1;rw [eB];simp only [bS];refine Tot.bind (P:=λ_=>True) (aP (λ_=>bu _) (λ_=>bu _)) (λu _=>aP (λ_=>ap ⟨E,a⟩) (λ_=>?_));refine dh (λo (σ:List (List Int)×List Int×Int) i=>iM s f (k:Int) t tape t (j:Int) t.a_[j] y c r o σ.1 σ.2.1 σ.2.2 i) n (λi σ=>σ.1.length=i∧(∀x∈σ.1,BY x)∧σ.2.1.length≤1048576) (λo σ h=>?_) (λo σ i hi h L=>?_) (by omega) (s:=([],tape.x_,tape.j_)) ⟨rfl,(λx hx=>by cases hx),a⟩
  ·obtain ⟨h1,p,F⟩:=h;show Tot (iM _ _ _ _ _ _ _ _ _ _ _ (o+1) _ _ _ _) _;rw [iM,eB];simp only [bS];rw [Q5];exact (Xl d E (by omega) p).bind λy2 p=>(Td d p _).bind λy3 h4=>ap ⟨h4,F⟩
  obtain ⟨h1,p,F⟩:=h;show Tot (iM _ _ _ _ _ _ _ _ _ _ _ (o+1) _ _ _ _) _;rw [iM,eB];simp only [bS];rw [Q0,tv A,iO a];have hS:=G.1.1;refine (LS (t:=⟨σ.2.1,σ.2.2⟩) (n:=s.c_.length) (k:=k) F (by omega) (by omega)).bind λy4 C=>aP (λ_=>ap ⟨l,a⟩) (λ_=>?_);refine (rn).bind λl3 M=>?_;subst M;rw [ax];refine L (_,_,_) ⟨by simp;omega,λx hx=>?_,C.1⟩;rcases List.mem_append.1 hx with hx|hx
  ·exact p x hx
  rw [List.mem_singleton.1 hx];exact C.2
 exact aP (λ_=>aP (λ_=>key _ _ (eg ⟨by omega,by omega⟩)) (λ_=>key _ _ (pn _))) (λ_=>key _ _ m.2.2.2.2.1)
end Go.Vk
