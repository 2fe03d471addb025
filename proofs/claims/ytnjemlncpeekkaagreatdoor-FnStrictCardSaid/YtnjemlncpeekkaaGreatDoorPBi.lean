/- Subsets by their rank: alike. -/
import Derived.Test.YtnjemlncpeekkaaGreatDoorRX
import Derived.Test.YtnjemlncpeekkaaGreatDoorPTr
import Derived.Test.YtnjemlncpeekkaaGreatDoorVkBr
namespace Go.Vk
def ch:Nat→Nat→Nat
 | _,0=>1
 | 0,_+1=>0
 | n+1,k+1=>ch n k+ch n (k+1)
theorem Hj (n:Nat):ch n 0=1:=by cases n<;>rfl
theorem LZ:∀{n k:Nat},n<k→ch n k=0
 | 0,k+1,_=>rfl
 | n+1,k+1,h=>by
  show ch n k+ch n (k+1)=0;rw [LZ (by omega),LZ (by omega)]
theorem OH:∀n:Nat,ch n n=1
 | 0=>rfl
 | n+1=>by
  show ch n n+ch n (n+1)=1;rw [OH n,LZ (by omega)]
theorem DV:∀n k:Nat,ch n k≤2^n
 | n,0=>by rw [Hj];exact Nat.one_le_two_pow
 | 0,k+1=>by simp [ch]
 | n+1,k+1=>by
  show ch n k+ch n (k+1)≤2^(n+1);have h1:=DV n k;have a:=DV n (k+1);rw [Nat.pow_succ];omega
theorem Ha:∀n k:Nat,ch (n+1) (k+1)*(k+1)=(n+1)*ch n k
 | 0,0=>rfl
 | 0,k+1=>by
  show (ch 0 (k+1)+ch 0 (k+2))*_=_;simp [ch]
 | n+1,0=>by
  have h:=Ha n 0;show (ch (n+1) 0+ch (n+1) 1)*1=_;have h:ch (n+1) 1*1=(n+1)*ch n 0:=h;rw [Hj] at h ⊢;omega
 | n+1,j+1=>by
  have h1:=Ha n j;have e:=Ha n (j+1);have f:ch (n+1) (j+1)=ch n j+ch n (j+1):=rfl;show (ch (n+1) (j+1)+ch (n+1) (j+2))*(j+2)=(n+2)*ch (n+1) (j+1);generalize ch (n+1) (j+2)=c at *
  generalize ch n j=a at *
  generalize ch n (j+1)=b at *
  generalize ch (n+1) (j+1)=d at *
  subst f;rw [Nat.add_mul _ _ (j+2)];have g:(a+b)*(j+2)=(a+b)*(j+1)+(a+b):=Nat.mul_succ _ _;have i:c*(j+2)=(n+1)*b:=e;have l:(n+2)*(a+b)=(n+1)*(a+b)+(a+b):=Nat.succ_mul _ _;have m:(n+1)*(a+b)=(n+1)*a+(n+1)*b:=Nat.mul_add _ _ _;omega
theorem Uu {n k:Nat}(h:k≤n):ch n (k+1)*(k+1)=ch n k*(n-k):=by
 have h1:=Ha n k;have a:ch (n+1) (k+1)=ch n k+ch n (k+1):=rfl;rw [a,Nat.add_mul] at h1;have c:ch n k*(n-k)+ch n k*(k+1)=ch n k*(n+1):=by rw [←Nat.mul_add];congr 1;omega
 rw [Nat.mul_comm (n+1)] at h1;omega
def CX (n k:Int):Nat:=if (0≤n∧n≤20)∧0≤k∧k≤n then ch n.toNat k.toNat else 0
theorem Hp {n:Nat}(h:n≤20):2^n≤1048576:=by
 have:(2:Nat)^n≤2^20:=Nat.pow_le_pow_right (by omega) h;omega
theorem Pb (n k:Int):CX n k≤1048576:=by
 unfold CX;split
 ·exact Nat.le_trans (DV _ _) (Hp (by omega))
 omega
theorem OR (n k:Int):tU n k=some (CX n k:Int):=by
 unfold tU CX;rcases (fi (x:=n) (a:=0) (b:=20)).cases with ⟨e,c⟩|⟨e,c⟩
 ·rw [e];simp only [sS];rcases (fi (x:=k) (a:=0) (b:=n)).cases with ⟨e,hk⟩|⟨e,hk⟩
  ·rw [e,if_pos ⟨c,hk⟩];simp only [sS];obtain ⟨m,rfl⟩:∃m:Nat,n=m:=⟨n.toNat,by omega⟩;obtain ⟨j,rfl⟩:∃j:Nat,k=j:=⟨k.toNat,by omega⟩;simp only [Int.toNat_natCast]
   have h:=vV (Lp:=fun q i=>iK (j:Int) (m:Int) q (i:Int) ((ch m i:Nat):Int)) (n:=j) (fin:=some ((ch m j:Nat):Int)) (fun q=>by
    show iK (j:Int) (m:Int) (q+1) _ _=_
    rw [iK,if_neg (by simp)]) (fun q i o=>by
    show iK (j:Int) (m:Int) (q+1) _ _=iK (j:Int) (m:Int) q _ _;have h1:=Nat.le_trans (DV m i) (Hp (by omega));have d:=Uu (n:=m) (k:=i) (by omega);have p:ch m i*(m-i)≤1048576*20:=Nat.mul_le_mul h1 (by omega);have f:IntKind.i64.wrap ((m:Int)-(i:Int))=((m-i:Nat):Int):=by rw [aP (by omega) (by omega)];omega
    have l:IntKind.i64.wrap (((ch m i:Nat):Int)*((m-i:Nat):Int))=((ch m i*(m-i):Nat):Int):=by rw [←Int.natCast_mul,fm (by omega)]
    rw [iK,if_pos (by simp;omega),f,l,ax (by omega)];unfold quo;rw [if_neg (by omega),wD,←d,Nat.mul_div_cancel _ (by omega)];have r:=Nat.le_trans (DV m (i+1)) (Hp (by omega));rw [fm (by omega)];rfl) (by omega)
   rw [Hj] at h;exact h
  rw [e,if_neg (fun g=>hk g.2)];rfl
 rw [e,if_neg (fun g=>c g.1)];rfl
theorem Hb (n k:Int):pb n k=some (CX n k:Int):=by
 unfold pb CX;rcases (cz (x:=n) (a:=0) (b:=20)).cases with ⟨e,o⟩|⟨e,o⟩
 ·rw [e];simp only [sS];rcases (cz (x:=k) (a:=0) (b:=n)).cases with ⟨e,hk⟩|⟨e,hk⟩
  ·rw [e,if_pos ⟨o,hk⟩];simp only [sS];obtain ⟨m,rfl⟩:∃m:Nat,n=m:=⟨n.toNat,by omega⟩;obtain ⟨j,rfl⟩:∃j:Nat,k=j:=⟨k.toNat,by omega⟩;simp only [Int.toNat_natCast];refine vV (Lp:=fun q i=>eJ (m:Int) (j:Int) q ((List.range (i+1)).map fun x=>((ch i x:Nat):Int)) (i:Int)) (n:=m) (fun q=>?_) (fun q i A=>?_) (by omega)
   ·show eJ (m:Int) (j:Int) (q+1) _ _=_;rw [eJ,if_neg (by simp),aH (by simp;omega)];simp
   show eJ (m:Int) (j:Int) (q+1) _ _=eJ (m:Int) (j:Int) q _ _;rw [eJ,if_pos (by simp;omega)];generalize f:((List.range (i+1)).map fun x=>((ch i x:Nat):Int))=row;have p:row.length=i+1:=by rw [←f];simp
   have l:∀x (h:x<row.length),row[x]=((ch i x:Nat):Int):=fun x h=>by
    have h':x<i+1:=by omega
    subst f;simp
   have key:∀(d c x:Nat),i+1-x=d→d<c→1≤x→x≤i+1→lD row (eJ (m:Int) (j:Int) q) (i:Int) c ((List.range x).map fun y=>((ch (i+1) y:Nat):Int)) (x:Int)=eJ (m:Int) (j:Int) q ((List.range (i+2)).map fun x=>((ch (i+1) x:Nat):Int)) ((i+1:Nat):Int):=by
    intro d
    induction d with
    | zero =>
     intro c x r s h1 t;obtain ⟨c,rfl⟩:∃y,c=y+1:=⟨c-1,by omega⟩;obtain rfl:x=i+1:=by omega
     rw [lD,if_neg (by simp;omega),bC (by simp;omega),ax (by omega)];simp only [bS];rw [List.range_succ (n:=i+1),List.map_append];simp [OH]
    | succ d ih =>
     intro c x r s h1 t;obtain ⟨c,rfl⟩:∃y,c=y+1:=⟨c-1,by omega⟩;obtain ⟨z,rfl⟩:∃z,x=z+1:=⟨x-1,by omega⟩;have v:=Nat.le_trans (DV i z) (Hp (by omega));have w:=Nat.le_trans (DV i (z+1)) (Hp (by omega));have u:IntKind.i64.wrap (((z+1:Nat):Int)-1)=(z:Int):=by rw [aP (by omega) (by omega)];omega
     rw [lD,if_pos (by simp;omega),u,aH (by omega:z<row.length),aH (by omega:z+1<row.length),l,l];simp only [bS];rw [bC (by simp;omega),ax (by omega),aP (by omega) (by omega)];simp only [bS];have:=ih c (z+2) (by omega) (by omega) (by omega) (by omega);rw [←this,List.range_succ (n:=z+1),List.map_append];rfl
   have:=key i aY 1 (by omega) (cx (by omega)) (Nat.le_refl _) (by omega);rw [←this];simp [List.range_succ,Hj]
  rw [e,if_neg (fun g=>hk g.2)];rfl
 rw [e,if_neg (fun g=>o g.1)];rfl
def AQ (l:List Int):Prop:=l.length≤20∧∀x∈l,0≤x∧x≤20
theorem MZ {n k:Nat}{r:Int}(L:n≤20)(hk:k≤20)(f:0≤r∧r≤1048576):wM (pl n k r) (BU n k r) AQ:=by
 unfold pl BU;have M:=Pb n k;rw [Hb,OR];simp only [bS];rw [aP (by omega) (by omega)];refine MP cz fi (fun c=>?_) (fun _=>yr ⟨by simp,fun x j=>by cases j⟩);simp only [sS]
 have F:k≤n:=by
  unfold CX at c;by_cases h:(0≤(n:Int)∧(n:Int)≤20)∧0≤(k:Int)∧(k:Int)≤n
  ·omega
  rw [if_neg h] at c;omega
 have hin':r<(ch n k:Nat):=by
  unfold CX at c;rw [if_pos ⟨by omega,by omega⟩] at c;simp only [Int.toNat_natCast] at c;omega
 have key:∀(d q q' x:Nat)(r:Int)(l:List Int),n-x=d→d<q→d<q'→x≤n→l.length≤k→0≤r→r<(ch (n-x) (k-l.length):Nat)→(∀y∈l,0≤y∧y≤20)→wM (jQ k n q r l x) (lA k n q' r l x) AQ:=by
  intro d
  induction d with
  | zero =>
   intro q q' x r l m u hq' j o p f e;obtain ⟨q,rfl⟩:∃y,q=y+1:=⟨q-1,by omega⟩;obtain ⟨q',rfl⟩:∃y,q'=y+1:=⟨q'-1,by omega⟩
   have s:l.length=k:=by
    by_cases h:l.length<k
    ·rw [m,LZ (by omega)] at f;omega
    omega
   rw [jQ,lA,if_neg (by simp;omega),if_neg (by simp;omega)];exact yr ⟨by omega,e⟩
  | succ d ih =>
   intro q q' x r l m u hq' j o p f e;obtain ⟨q,rfl⟩:∃y,q=y+1:=⟨q-1,by omega⟩;obtain ⟨q',rfl⟩:∃y,q'=y+1:=⟨q'-1,by omega⟩;rw [jQ,lA];by_cases s:l.length<k
   ·rw [if_pos (by simp;omega),if_pos (by simp;omega),Hb,OR];simp only [bS]
    have v:IntKind.i64.wrap (IntKind.i64.wrap ((n:Int)-(x:Int))-1)=((n-x-1:Nat):Int):=by
     rw [aP (n:=(n:Int)-(x:Int)) (by omega) (by omega),aP (by omega) (by omega)];omega
    have w:IntKind.i64.wrap (IntKind.i64.wrap ((k:Int)-(l.length:Int))-1)=((k-l.length-1:Nat):Int):=by
     rw [aP (n:=(k:Int)-(l.length:Int)) (by omega) (by omega),aP (by omega) (by omega)];omega
    rw [v,w];obtain ⟨a,A⟩:∃a,n-x=a+1:=⟨n-x-1,by omega⟩;obtain ⟨b,i⟩:∃b,k-l.length=b+1:=⟨k-l.length-1,by omega⟩;have ha':n-x-1=a:=by omega
    have hb':k-l.length-1=b:=by omega
    have C:ch (n-x) (k-l.length)=ch a b+ch a (b+1):=by rw [A,i];rfl
    have D:CX (a:Int) (b:Int)=ch a b:=by
     unfold CX;by_cases G:b≤a
     ·rw [if_pos ⟨by omega,by omega⟩];simp
     rw [if_neg (by omega),LZ (by omega)]
    rw [ha',hb',D];rw [C] at f;have H:=Nat.le_trans (DV a b) (Hp (by omega));have E:=Nat.le_trans (DV a (b+1)) (Hp (by omega));refine Ls Iff.rfl (fun g=>?_) (fun g=>?_)
    ·have g:r<(ch a b:Nat):=by simpa using g
     rw [bC (by simp;omega),ax (by omega)];simp only [bS];refine ih q q' (x+1) r _ (by omega) (by omega) (by omega) (by omega) (by simp;omega) p ?_ (fun y t=>?_)
     ·rw [show n-(x+1)=a by omega,show k-(l++[(x:Int)]).length=b by simp;omega];exact g
     rcases List.mem_append.1 t with h|h
     ·exact e y h
     rw [List.mem_singleton.1 h];omega
    have g:¬r<(ch a b:Nat):=by simpa using g
    rw [ax (by omega),aP (by omega) (by omega)];refine ih q q' (x+1) _ l (by omega) (by omega) (by omega) (by omega) o (by omega) ?_ e;rw [show n-(x+1)=a by omega,i];omega
   rw [if_neg (by simp;omega),if_neg (by simp;omega)];exact yr ⟨by omega,e⟩
 exact key n aY aY 0 r [] (by omega) (cx (by omega)) (cx (by omega)) (by omega) (by simp) c.1 (by simpa using hin') (fun y e=>by cases e)
end Go.Vk
/- A new state: alike. -/
namespace Go.Vk
def Lt (s:ae):aE:=⟨List.replicate s.f_.length 0,s.c_.map fun a=>List.replicate (nb a*s.f_.length) 0⟩
theorem Lx {s:ae}(d:ba s)(c:fL s):mW s=some (Lt s):=by
 unfold mW;have o:=c.2.1;rcases (lP (kC d)).cases with ⟨e,_⟩|⟨_,g⟩
 ·rw [e];simp only [sS];rw [OK _ (by omega)];simp only [sS];refine pZ (p:=s.c_) (fun a=>List.replicate (nb a*s.f_.length) (0:Int)) (lH s (List.replicate s.f_.length 0)) (fun l=>some ⟨List.replicate s.f_.length 0,l⟩) (fun k l=>?_) (fun k l i h q=>?_) (by have:=c.1;omega)
  ·rw [lH,if_neg (by simp)]
  have f:=d.1.2 _ (List.getElem_mem h);have j:=DZ (c.attr h);have r:nb s.c_[i]*s.f_.length≤4*3:=Nat.mul_le_mul (by omega) (by omega);have m:=c.1;rw [lH,if_pos (by simp;omega),aH h,ax (by omega)];simp only [sS];rw [uM f (c.attr h)];simp only [sS];rw [←Int.natCast_mul,fm (by omega),OK _ (by omega)];simp only [sS];rw [bC (by simp;omega)];rfl
 exact absurd c g
theorem Oy {α:Type}{f:α→Nat}{b:Nat}{l:List α}(h:∀x∈l,f x≤b):(l.map f).sum≤b*l.length:=by
 induction l with
 | nil=>simp
 | cons x l ih =>
  have h1:=h x (by simp);have c:=ih (fun y a=>h y (by simp [a]));simp only [List.map_cons,List.sum_cons,List.length_cons,Nat.mul_succ];omega
end Go.Vk
/- Examples: tested alike. -/
namespace Go.Vk
def ExP (s:ae)(e:cl):Prop:=fL s∧e.O_.length=s.c_.length∧(-1≤e.W_∧e.W_≤(s.f_.length:Int)-1) ∧
 ∀i,0≤i→i<e.O_.length→∃n:Nat,∃h:i<s.c_.length,lC s.c_[i]=some (n:Int)∧n≤4∧∀a:i<e.O_.length,-1≤e.O_[i]∧e.O_[i]≤(n:Int)-1
theorem Ox {s:ae}{e:cl}(d:OkS s)(m:fL s)(q:e.O_.length=s.c_.length):Dec (qH e s aY 0) (∀i,0≤i→i<e.O_.length→∃n:Nat,∃h:i<s.c_.length,lC s.c_[i]=some (n:Int)∧n≤4∧∀r:i<e.O_.length,-1≤e.O_[i]∧e.O_[i]≤(n:Int)-1):=by
 refine qt (Lp:=qH e s) (n:=e.O_.length) 0 (fun k i f=>?_) (fun k i _ f=>?_) (by have:=d.1;omega)
 ·show (if _ then _ else _)=_;rw [if_neg (by simp;omega)]
 have a:i<s.c_.length:=by omega
 obtain ⟨n,o,j,_,p⟩:=Lh (d.2.1 _ (List.getElem_mem a)) (m.2.2.2 i (Nat.zero_le _) a a).1;rw [qH,if_pos (by simp;omega),aH f,aH a,ax (by have:=d.1;omega)];simp only [bS];rw [o];simp only [bS];rw [aP (by omega) (by omega)];unfold aM;simp only [bS];by_cases c : -1≤e.O_[i]∧e.O_[i]≤(n:Int)-1
 ·rw [pF c];exact .inl ⟨⟨n,a,j,p,fun _=>c⟩,rfl⟩
 rw [qZ c];exact .inr ⟨fun ⟨n',_,l,_,g⟩=>c (by rw [j] at l;have:=Option.some.inj l;rw [this];exact g f),rfl⟩
theorem OA {s:ae}{e:cl}(d:OkS s)(m:fL s)(p:e.O_.length=s.c_.length):Dec (tm e s aY 0) (∀i,0≤i→i<e.O_.length→∃n:Nat,∃h:i<s.c_.length,lC s.c_[i]=some (n:Int)∧n≤4∧∀q:i<e.O_.length,-1≤e.O_[i]∧e.O_[i]≤(n:Int)-1):=by
 refine qt (Lp:=tm e s) (n:=e.O_.length) 0 (fun k i f=>?_) (fun k i _ f=>?_) (by have:=d.1;omega)
 ·show (if _ then _ else _)=_;rw [if_neg (by simp;omega)]
 have a:i<s.c_.length:=by omega
 obtain ⟨n,r,j,_,o⟩:=Lh (d.2.1 _ (List.getElem_mem a)) (m.2.2.2 i (Nat.zero_le _) a a).1;rw [tm,if_pos (by simp;omega),aH f,aH a,ax (by have:=d.1;omega)];simp only [bS];rw [j];simp only [bS];rw [aP (by omega) (by omega)];unfold bc;simp only [bS];by_cases c : -1≤e.O_[i]∧e.O_[i]≤(n:Int)-1
 ·rw [pF c];exact .inl ⟨⟨n,a,j,o,fun _=>c⟩,rfl⟩
 rw [qZ c];exact .inr ⟨fun ⟨n',_,l,_,g⟩=>c (by rw [j] at l;have:=Option.some.inj l;rw [this];exact g f),rfl⟩
theorem CJ {s:ae}{e:cl}(d:OkS s):Dec (se s e) (ExP s e):=by
 unfold se ExP;rcases (lP d).cases with ⟨f,h⟩|⟨f,h⟩
 ·rw [f];unfold aM;simp only [Option.bind_some,Bool.not_true,Bool.false_or];by_cases a:e.O_.length=s.c_.length
  ·rw [if_neg (by simp [a])];simp only [bS];rw [aP (by omega) (by have:=d.2.2.1;omega)];by_cases c : -1≤e.W_∧e.W_≤(s.f_.length:Int)-1
   ·rw [pF c];simp only [Bool.not_true,Bool.false_eq_true,if_false];exact (Ox d h a).of_iff ⟨fun g=>⟨h,a,c,g⟩,fun g=>g.2.2.2⟩
   rw [qZ c];exact bW fun g=>c g.2.2.1
  rw [if_pos (by simp;omega)];exact bW fun g=>a g.2.1
 rw [f];exact bW fun g=>h g.1
theorem Wj {s:ae}{e:cl}(d:OkS s):Dec (FC s e) (ExP s e):=by
 unfold FC ExP;rcases (ox d).cases with ⟨f,h⟩|⟨f,h⟩
 ·rw [f];unfold bc;simp only [Option.bind_some,Bool.not_true,Bool.false_or];by_cases a:e.O_.length=s.c_.length
  ·rw [if_neg (by simp [a])];simp only [bS];rw [aP (by omega) (by have:=d.2.2.1;omega)];by_cases c : -1≤e.W_∧e.W_≤(s.f_.length:Int)-1
   ·rw [pF c];simp only [Bool.not_true,Bool.false_eq_true,if_false];exact (OA d h a).of_iff ⟨fun g=>⟨h,a,c,g⟩,fun g=>g.2.2.2⟩
   rw [qZ c];exact bW fun g=>c g.2.2.1
  rw [if_pos (by simp;omega)];exact bW fun g=>a g.2.1
 rw [f];exact bW fun g=>h g.1
end Go.Vk
/- Entries: what the tests say. -/
namespace Go.Vk
end Go.Vk
/- The path of an example: alike. -/
namespace Go.Vk
def HZ (t:am)(i:Nat):au:=t.b_.getD i default
theorem EG {t:am}{i:Nat}(h:i<t.b_.length):HZ t i=t.b_[i]:=by unfold HZ;simp [h]
def BI (l:List Nat):List Int:=l.map (fun (i:Nat)=>(i:Int))
def Kb (s:ae)(n:au)(e:cl):Int :=
 let b:=e.O_.getD n.n_.q_.toNat 0
 if 0≤b then IW (atr s n.n_) n.n_ b else n.K_
def nxt (s:ae)(t:am)(e:cl)(i:Nat):Nat:=((HZ t i).A_.getD (Kb s (HZ t i) e).toNat 0).toNat
def rS (s:ae)(t:am)(e:cl):Nat→Nat→List Nat
 | 0,i=>[i]
 | d+1,i=>if (HZ t i).D_=true then [i] else i::rS s t e d (nxt s t e i)
theorem Wp {s:ae}{f:aI}(_:uP s f){b:Int}(a:0≤b∧b≤(nb (atr s f):Int)-1):0≤IW (atr s f) f b∧IW (atr s f) f b≤(brN s f:Int)-1:=by
 unfold IW brN;split
 ·omega
 split<;>split<;>omega
theorem Tv {s:ae}{f:aI}{e:cl}(i:ba s)(g:ExP s e)(h:uP s f):∃b,idx e.O_ f.q_=some b∧b=e.O_.getD f.q_.toNat 0∧-1≤b∧b≤(nb (atr s f):Int)-1:=by
 obtain ⟨a,j,ea,et⟩:=Fx h.2.1;have c:a<e.O_.length:=by have:=g.2.1;omega
 obtain ⟨n,h1,k,_,d⟩:=g.2.2.2 a (Nat.zero_le _) c
 have l:nb s.c_[a]=n:=by
  have:=wE (i.1.2 _ (List.getElem_mem j));rw [k] at this;have:=Option.some.inj this;omega
 have d:=d c;rw [ea,et,l,aH c,Int.toNat_natCast,xM c];exact ⟨_,rfl,rfl,d.1,d.2⟩
theorem Ua {s:ae}{t:am}{n:au}{i:Nat}{e:cl}(c:ba s)(d:ExP s e)(h:NC s t i n):∃k:Nat,Kb s n e=k∧k<n.A_.length:=by
 obtain ⟨b,_,f,h1,g⟩:=Tv c d h.1;unfold Kb;rw [←f];have hk:=h.2.1;have j:=h.2.2.1;by_cases a:0≤b
 ·have:=Wp h.1 ⟨a,g⟩;show ∃k:Nat,(if 0≤b then _ else _)=(k:Int)∧_;rw [if_pos a];exact ⟨(IW (atr s n.n_) n.n_ b).toNat,by omega,by omega⟩
 show ∃k:Nat,(if 0≤b then _ else _)=(k:Int)∧_;rw [if_neg a];exact ⟨n.K_.toNat,by omega,by omega⟩
theorem SH {s:ae}{t:am}{e:cl}(f:ba s)(g:xh s t)(h:ExP s e){i:Nat}(c:i<t.b_.length)(j:t.b_[i].D_=false):∃(k:Nat)(hk:k<t.b_[i].A_.length)(r:nxt s t e i<t.b_.length),Kb s t.b_[i] e=k∧t.b_[i].A_[k]=(nxt s t e i:Int)∧i<nxt s t e i∧t.b_[nxt s t e i].H_=i:=by
 have d:=(g.2.2.2 i c c).1.2.2.2.2.2 j;obtain ⟨k,hk,a⟩:=Ua f h d;obtain ⟨m,l,h1,o,p⟩:=d.2.2.2.2.2.2 _ (List.getElem_mem a)
 have q:nxt s t e i=m:=by
  unfold nxt;rw [EG c,hk,Int.toNat_natCast,xM a,h1,Int.toNat_natCast]
 rw [q];exact ⟨k,a,l,hk,h1,o,p⟩
theorem PW {s:ae}{t:am}{e:cl}(h:ba s)(p:xh s t)(w:ExP s e):∀(d k k' i:Nat)(pre:List Int),t.b_.length-i≤d→d<k→d<k'→i<t.b_.length→pre.length≤i →
  mx t e s k pre (i:Int)=some (pre++BI (rS s t e d i))∧nN t e s k' (pre++[(i:Int)])=some (pre++BI (rS s t e d i),false):=by
 intro d;have E:=p.2.1
 induction d with
 | zero=>intro k k' i pre h1 F G R;omega
 | succ d ih =>
  intro k k' i pre h1 F G f X;obtain ⟨k,rfl⟩:=kS k (by omega);obtain ⟨k',rfl⟩:∃q,k'=q+1:=⟨k'-1,by omega⟩
  have l:idx (pre++[(i:Int)]) (IntKind.i64.wrap (((pre++[(i:Int)]).length:Int)-1))=some (i:Int):=by
   rw [show ((pre++[(i:Int)]).length:Int)-1=(pre.length:Int) by simp,aP (by omega) (by omega),aH (by simp)];simp
  rw [mx,nN,l];simp only [bS];rw [aH f];simp only [sS,rS];rw [EG f];cases x:t.b_[i].D_
  ·simp only [sS];obtain ⟨j,r,H,g,hk,P,_⟩:=SH h p w f x;have u:=(p.2.2.2 i f f).1.2.2.2.2.2 x;obtain ⟨b,L,A,Q,o⟩:=Tv h w u.1;rw [bC (by simp;omega),L];simp only [sS];have c:Kb s t.b_[i] e=if 0≤b then IW (atr s t.b_[i].n_) t.b_[i].n_ b else t.b_[i].K_:=by rw [A];rfl
   obtain ⟨v,C⟩:=ih k k' (nxt s t e i) (pre++[(i:Int)]) (by omega) (by omega) (by omega) H (by simp;omega);have m:pre++[(i:Int)]++BI (rS s t e d (nxt s t e i))=pre++BI (i::rS s t e d (nxt s t e i)):=by simp [BI]
   rw [m] at v C
   have D:∀q:Int,q=Kb s t.b_[i] e→sP t.b_[i] (pre++[(i:Int)]) (nN t e s k') q=some (pre++BI (i::rS s t e d (nxt s t e i)),false):=fun q M=>by
    unfold sP;rw [M,g,aH r,hk];simp only [sS];rw [bC (by simp;omega)];exact C
   by_cases a:0≤b
   ·rw [if_pos (by simpa using a),if_pos (by simpa using a),Eg h u.1 ⟨a,o⟩,Lw h u.1 ⟨a,o⟩];rw [if_pos a] at c;simp only [sS];rw [←c,g,aH r,hk];simp only [sS];exact ⟨v,by rw [←g];exact D _ rfl⟩
   rw [if_neg (by simpa using a),if_neg (by simpa using a)];rw [if_neg a] at c;rw [←c,g,aH r,hk];simp only [sS];exact ⟨v,by rw [←g];exact D _ rfl⟩
  simp only [sS];rw [bC (by simp;omega)];exact ⟨rfl,rfl⟩
theorem VF {s:ae}{t:am}{e:cl}(c:ba s)(a:xh s t)(d:ExP s e):yY s t e=some (BI (rS s t e 32 0))∧Mu s t e=some (BI (rS s t e 32 0),false):=by
 have f:=a.2.1;obtain ⟨h1,g⟩:=PW c a d 32 aY aY 0 [] (by omega) (cx (by omega)) (cx (by omega)) (by omega) (Nat.le_refl _);exact ⟨h1,g⟩
theorem Iv {s:ae}{t:am}{e:cl}:∀d i,(rS s t e d i).length≤d+1
 | 0,i=>by simp [rS]
 | d+1,i=>by
  have:=Iv (s:=s) (t:=t) (e:=e) d (nxt s t e i);simp only [rS];split
  ·simp
  simp only [List.length_cons];omega
end Go.Vk
/- An example added: alike. -/
namespace Go.Vk
theorem EN {t:aE}(h:gZ t):uO t=some t∧uZ t=some t:=by
 have h1:=h.1.1;have d:=h.2.1;unfold uO uZ iT zC;rw [bC (by simp;omega)];simp only [sS,List.nil_append];constructor
 ·have g:=pZ (p:=t.g_) (fun x=>x) (oa t t.l_) (fun l=>some (aE.mk t.l_ l)) (fun k l=>by rw [oa,if_neg (by simp)]) (fun k l i a c=>by
   have:=(h.2.2 _ (List.getElem_mem a)).1;rw [oa,if_pos (by simp;omega),aH a,ax (by omega)];simp only [sS];rw [bC (by simp;omega)];simp only [sS];rw [bC (by simp;omega)];rfl) (by omega)
  simpa using g
 have g:=pZ (p:=t.g_) (fun x=>x) (lW t.g_) some (fun k l=>by rw [lW,if_neg (by simp)]) (fun k l i a c=>by
  have:=(h.2.2 _ (List.getElem_mem a)).1;rw [lW,if_pos (by simp;omega),aH a,ax (by omega)];unfold iT;simp only [sS];rw [bC (by simp;omega)];simp only [sS];rw [bC (by simp;omega)];rfl) (by omega)
 rw [g];simp
def xN (l:List Int)(n:Nat):Prop:=l.length=n∧∀x∈l,0≤x∧x≤2000
theorem FX {l:List Int}{n i:Nat}{v:Int}(h:xN l n)(c:0≤v∧v≤2000):xN (l.set i v) n:=by
 refine ⟨by simp [h.1],fun x a=>?_⟩;rcases List.mem_or_eq_of_mem_set a with a|rfl
 ·exact h.2 x a
 exact c
theorem Gb {l:List Int}{n:Nat}(h:xN l n)(c:n≤1000):sn l:=⟨by rw [h.1];omega,fun x a=>by have:=h.2 x a;omega⟩
def TL (s:ae)(l:List (List Int)):Prop:=(l.length=0∨l.length=s.c_.length)∧∀i (h:i<l.length) (a:i<s.c_.length),xN l[i] (nb s.c_[i]*s.f_.length)
def IR (s:ae)(t:aE):Prop:=xN t.l_ s.f_.length∧TL s t.g_
theorem nbc {s:ae}(a:fL s){i:Nat}(h:i<s.c_.length):nb s.c_[i]*s.f_.length≤12:=by
 have h1:=(DZ (a.attr h)).2;have c:s.f_.length≤3:=by have:=a.2.1;omega
 calc _≤4*3:=Nat.mul_le_mul h1 c
  _=12:=rfl
theorem Tn {s:ae}{t:aE}(d:ba s)(c:fL s)(h:IR s t):gZ t:=by
 have j:s.f_.length≤3:=by have:=c.2.1;omega
 have k:=d.1.1;refine ⟨Gb h.1 (by omega),by rcases h.2.1 with g|g<;>omega,fun x e=>?_⟩;obtain ⟨i,f,rfl⟩:=List.getElem_of_mem e;have a:i<s.c_.length:=by rcases h.2.1 with g|g<;>omega
 exact Gb (h.2.2 i f a) (by have:=nbc c a;omega)
theorem Tm {s:ae}:IR s (Lt s):=by
 have a:∀n,xN (List.replicate n 0) n:=fun n=>⟨by simp,fun x c=>by rw [List.eq_of_mem_replicate c];omega⟩;refine ⟨a _,.inr (by simp [Lt]),fun i h d=>?_⟩;simp only [Lt,List.getElem_map];exact a _
theorem OP {b n c k:Nat}(a:b<n)(hk:k<c):b*c+k<n*c:=by
 calc b*c+k<b*c+c:=by omega
  _=(b+1)*c:=by rw [Nat.add_mul,Nat.one_mul]
  _≤n*c:=Nat.mul_le_mul_right c a
theorem Sm {s:ae}{t:aE}{e:cl}{w:Int}(f:ba s)(L:fL s)(p:IR s t):wM (pd s t e w) (BM s t e w) (fun y=>IR s y.1):=by
 have r:=Tn f L p;obtain ⟨c1,c2⟩:=EN r;unfold pd BM;rw [c1,c2];simp only [bS];have bad:wM (some (t,false)) (some (t,false)) (fun y:aE×Bool=>IR s y.1):=yr p;refine MP (ny f r) (Kr f r) (fun u=>?_) (fun _=>by simp only [sS];exact bad);simp only [sS];rw [←((CJ (e:=e) (kC f)).eq (Wj (kC f)))];rcases (CJ (e:=e) (kC f)).cases with ⟨M,P⟩|⟨M,_⟩
 ·rw [M];simp only [sS];obtain ⟨a5,a6⟩:=P.2.2.1;by_cases Z:e.W_<0
  ·rw [show (decide (e.W_<0))=true by simpa using Z,show (e.W_ == -1)=true by simp;omega];simp only [sS];exact bad
  rw [show (decide (e.W_<0))=false by simpa using Z,show (e.W_ == -1)=false by simp;omega];simp only [sS];rw [←((cz (x:=w) (a:=1) (b:=7)).eq fi)];rcases (cz (x:=w) (a:=1) (b:=7)).cases with ⟨Q,hw⟩|⟨Q,_⟩
  ·rw [Q];simp only [sS];have a7:=LD L u.2.1 u.2.2.1;rw [Et f r u,Il (fun x hx=>by have:=u.2.2.1 x hx;omega) r.1.1];simp only [sS];obtain ⟨c,v⟩:∃c:Nat,e.W_=c:=⟨e.W_.toNat,by omega⟩;have D:c<s.f_.length:=by omega
   have E:c<t.l_.length:=by rw [p.1.1];exact D
   refine Ls Iff.rfl (fun _=>bad) (fun _=>?_);rw [v,aH E];simp only [sS];have hx:0≤t.l_[c]∧t.l_[c]≤999:=u.2.2.1 _ (List.getElem_mem E);have hT:xN (t.l_.set c (IntKind.i64.wrap (t.l_[c]+w))) s.f_.length:=FX p.1 (by rw [aP (by omega) (by omega)];omega);have a9:=r.2.1
   refine RL (fun k l i=>kb t e s w t.l_[c] k l i) (fun k l i=>lF t e s w t.l_[c] k l i) t.g_.length
    (fun i a b=>b=a∧a.length=t.g_.length∧TL s a∧∀j (h:j<a.length) (m:j<t.g_.length),i≤j→a[j]=t.g_[j]) (fun k a b h=>?_) (fun k a b i hi h hk=>?_) (by omega) ⟨rfl,rfl,p.2,fun j h m _=>rfl⟩
   ·obtain ⟨rfl,h1,m,_⟩:=h;rw [kb,lF,if_neg (by simp),if_neg (by simp),v];exact yr ⟨hT,m⟩
   obtain ⟨rfl,h1,m,R⟩:=h;have A:i<b.length:=by omega
   have o:i<s.c_.length:=by have:=p.2.1;omega
   have C:i<e.O_.length:=by rw [P.2.1];exact o
   have d:=m.2 i A o;rw [kb,lF,if_pos (by simp;omega),if_pos (by simp;omega),aH C,aH A,ax (by omega)];simp only [sS];refine Ls Iff.rfl (fun F=>?_) (fun _=>hk _ _ ⟨rfl,h1,m,fun j h h' X=>R j h h' (by omega)⟩);have F:0≤e.O_[i]:=by simpa using F
   obtain ⟨n,b0,a2,b3,G⟩:=P.2.2.2 i (Nat.zero_le _) C
   have hn:nb s.c_[i]=n:=by
    have:=wE (f.1.2 _ (List.getElem_mem o));rw [a2] at this;have:=Option.some.inj this;omega
   have G:=(G C).2;obtain ⟨q,hq⟩:∃q:Nat,e.O_[i]=q:=⟨e.O_[i].toNat,by omega⟩;have H:q*s.f_.length+c<b[i].length:=by rw [d.1,hn];exact OP (by omega) D
   have b4:=nbc L o;have b5:=d.1;have b6:q*s.f_.length≤12:=by omega
   have a3:b[i]=t.g_[i]:=R i A hi (Nat.le_refl _)
   have a4:∀x∈b[i],0≤x∧x≤999:=by
    rw [a3];rcases u.2.2.2.2 with g|⟨_,g⟩
    ·omega
    exact (g i hi o).2.1
   rw [hq,v,←Int.natCast_mul,fm (by omega),←Int.natCast_add,fm (by omega),aH H];simp only [sS];have hv:=a4 _ (List.getElem_mem H);refine hk _ _ ⟨rfl,by simpa using h1,⟨?_,fun j h h'=>?_⟩,fun j h h' X=>?_⟩
   ·simpa using m.1
   ·simp only [List.getElem_set,Int.toNat_natCast];split
    ·rename_i X;subst X;exact FX d (by rw [aP (by omega) (by omega)];omega)
    exact m.2 j (by simpa using h) h'
   simp only [List.getElem_set,Int.toNat_natCast];rw [if_neg (by omega)];exact R j (by simpa using h) h' (by omega)
  rw [Q];simp only [sS];exact bad
 rw [M];simp only [sS];exact bad
end Go.Vk
/- Natural numbers, fractions: they always answer. -/
namespace Go.Vk
abbrev T {α:Type}(o:Option α):Prop:=Tot o (fun _=>True)
theorem bj {α:Type}(v:α):T (some v):=ar trivial
theorem Dec.t {o:Option Bool}{P:Prop}(h:Dec o P):Tot o (fun b=>b=true→P):=by
 obtain ⟨b,h1,a⟩:=h;exact ⟨b,h1,a.1⟩
theorem ki {ρ:Type}{o:Option Bool}{P:Prop}(h:Tot o (fun b=>b=true→P)){g:Bool→Option ρ}{Q:ρ→Prop}(a:Tot (g false) Q)(c:P→Tot (g true) Q):Tot (o.bind g) Q:=by
 obtain ⟨b,rfl,d⟩:=h;cases b
 ·exact a
 exact c (d rfl)
theorem lV {ρ:Type}{o:Option Bool}{P:Prop}(h:Tot o (fun b=>b=true→P)){f:Bool→Option ρ}{Q:ρ→Prop}(a:Tot (f true) Q)(c:P→Tot (f false) Q):Tot ((o.bind fun y=>some (!y)).bind f) Q:=by
 obtain ⟨b,rfl,d⟩:=h;cases b
 ·exact a
 exact c (d rfl)
theorem Bx (p:List Int):Tot (oC p) (fun b=>b=true→p.length≤16):=by
 unfold oC;refine aZ (fun _=>ar (by simp)) (fun h=>?_);have h:p.length≤16:=by simp at h;omega
 refine dj (fun k (_:Unit) i=>ly p k i) p.length (fun _ _=>True) (fun k _ _=>?_) (fun k _ i c _ hk=>?_) (by omega) (s:=()) trivial
 ·show Tot (ly p (k+1) _) _;rw [ly,if_neg (by simp)];refine Tot.bind (P:=fun _=>True) (aZ (fun _=>ar trivial) (fun a=>?_)) (fun _ _=>ar (fun _=>h));have a:p.length≠0:=by simpa using a
  rw [aP (by omega) (by omega)];exact (ga ⟨by omega,by omega⟩).bind fun _ _=>ar trivial
 show Tot (ly p (k+1) _) _;rw [ly,if_pos (by simp;omega),aH c,ax (by omega)];simp only [bS];refine ki cz.t (by simp only [sS];exact ar (by simp)) (fun _=>?_);simp only [sS];exact hk () trivial
theorem Tu {p:List Int}(d:p.length≤1000):Tot (uK p) (fun l=>l.length≤p.length):=by
 unfold uK
 have key:∀(n k:Nat),n≤p.length→n<k→Tot (nB p k (n:Int)) (fun l=>l.length≤p.length):=by
  intro n
  induction n with
  | zero =>
   intro k c hk;obtain ⟨k,rfl⟩:=kS k (by omega);rw [nB,if_neg (by simp)];simp only [sS];refine (qu ⟨by omega,by omega,by omega⟩).bind fun l a=>?_;subst a;refine (me (by simp)).bind fun l a=>ar ?_;subst a;simp
  | succ n ih =>
   intro k c hk;obtain ⟨k,rfl⟩:=kS k (by omega);rw [nB,if_pos (by simp),aP (by omega) (by omega),show ((n+1:Nat):Int)-1=(n:Int) by omega,aH (show n<p.length by omega)];simp only [sS];refine aZ (fun _=>ih k (by omega) (by omega)) (fun _=>?_);refine (qu ⟨by omega,by omega,by omega⟩).bind fun l a=>?_;subst a;refine (me (by simp;omega)).bind fun l a=>ar ?_;subst a;simp;omega
 exact key p.length aY (Nat.le_refl _) (cx (by omega))
theorem AD (a b:List Int):Tot (oo a b) (fun y=>y.1.length≤16):=by
 unfold oo;have bad:Tot (some (([]:List Int),false)) (fun y=>y.1.length≤16):=ar (by simp);refine ki (Bx a) (by simp only [sS];exact bad) (fun p=>?_);simp only [sS];refine lV (Bx b) (by simp only [sS];exact bad) (fun q=>?_);simp only [sS];rw [aP (n:=(a.length:Int)+b.length) (by omega) (by omega),aP (by omega) (by omega)];refine (Lj ⟨by omega,by omega⟩).bind fun l d=>?_;subst d;refine dj (ky a b) a.length (fun _ l=>l.length=a.length+b.length+1) (fun k l d=>?_) (fun k l i f d hk=>?_) (by omega) (by simp;omega)
 ·rw [ky,if_neg (by simp)];refine (Tu (by omega)).bind fun g o=>aZ (fun _=>bad) (fun h=>ar ?_);simp at h;show g.length≤16;omega
 rw [ky,if_pos (by simp;omega)];refine dj (fun c (σ:List Int×Int) j=>kv b i a (ky a b k) c σ.1 σ.2 j) b.length (fun _ σ=>σ.1.length=a.length+b.length+1) (fun c σ hσ=>?_) (fun c σ j m hσ e=>?_) (by omega) (s:=(l,0)) d
 ·show Tot (kv _ _ _ _ (c+1) _ _ _) _;rw [kv,if_neg (by simp),aP (n:=(i:Int)+b.length) (by omega) (by omega),show (i:Int)+(b.length:Int)=((i+b.length:Nat):Int) by omega,aH (show i+b.length<σ.1.length by omega),ax (by omega)];simp only [bS];exact hk _ (by simpa using hσ)
 show Tot (kv _ _ _ _ (c+1) _ _ _) _;rw [kv,if_pos (by simp;omega),aP (n:=(i:Int)+j) (by omega) (by omega),show (i:Int)+(j:Int)=((i+j:Nat):Int) by omega,aH (show i+j<σ.1.length by omega),aH f,aH m,ax (i:=j) (by omega)];simp only [bS];exact e (_,_) (by simpa using hσ)
theorem NP (p:List Int){i:Int}(h:0≤i):T (sc p i):=by
 unfold sc;exact aZ (fun g=>(ga ⟨h,by simpa using g⟩).bind fun _ _=>bj _) (fun _=>bj _)
theorem HD (a b:List Int):T (rX a b):=by
 unfold rX;refine ki (Bx a) (by simp only [sS];exact bj _) (fun e=>?_);simp only [sS];refine lV (Bx b) (by simp only [sS];exact bj _) (fun f=>?_);simp only [sS]
 have c:Tot (yX (a.length:Int) b.length) (fun m=>∃n:Nat,m=n∧n≤16):=by
  unfold yX;exact aZ (fun _=>ar ⟨_,rfl,by omega⟩) (fun _=>ar ⟨_,rfl,by omega⟩)
 refine c.bind fun m c=>?_;obtain ⟨n,rfl,d⟩:=c;rw [aP (by omega) (by omega)]
 have key:∀(n k:Nat),n≤16→n<k→T (nz a b k ((n:Int)-1)):=by
  intro n
  induction n with
  | zero =>
   intro k _ hk;obtain ⟨k,rfl⟩:=kS k (by omega);rw [nz,if_neg (by simp)];exact bj _
  | succ n ih =>
   intro k d hk;obtain ⟨k,rfl⟩:=kS k (by omega);rw [show ((n+1:Nat):Int)-1=(n:Int) by omega,nz,if_pos (by simp),aP (by omega) (by omega)];refine (NP a (by omega)).bind fun _ _=>(NP b (by omega)).bind fun _ _=>?_;exact aZ (fun _=>bj _) (fun _=>aZ (fun _=>bj _) (fun _=>ih k (by omega) (by omega)))
 exact key n aY d (cx (by omega))
theorem RA (a b:List Int):T (xl a b):=by
 unfold xl;refine ki (Bx a) (by simp only [sS];exact bj _) (fun e=>?_);simp only [sS];refine lV (Bx b) (by simp only [sS];exact bj _) (fun f=>?_);simp only [sS];refine Tot.bind (P:=fun _=>True) ((HD a b).bind fun _ _=>bj _) (fun u _=>aZ (fun _=>bj _) (fun _=>?_));refine dj (fun k (σ:List Int×Int) i=>hZ a b k σ.1 σ.2 i) a.length (fun i σ=>σ.1.length=i) (fun k σ h=>?_) (fun k σ i d h hk=>?_) (by omega) (s:=([],0)) rfl
 ·show Tot (hZ _ _ (k+1) _ _ _) _;rw [hZ,if_neg (by simp)];exact (Tu (by omega)).bind fun _ _=>bj _
 show Tot (hZ _ _ (k+1) _ _ _) _;rw [hZ,if_pos (by simp;omega),aH d];simp only [bS];refine (NP b (by omega)).bind fun _ _=>?_;unfold pQ;rw [ax (by omega)];refine aZ (fun _=>?_) (fun _=>?_)
 ·exact (me (by simp;omega)).bind fun l c=>hk (_,_) (by subst c;simp;omega)
 exact (me (by simp;omega)).bind fun l c=>hk (_,_) (by subst c;simp;omega)
theorem Pm {n:Int}(h:n≤9223372036854775807):T (xa n):=by
 unfold xa;refine aZ (fun _=>bj _) (fun a=>?_);have a:0≤n:=by simpa using a
 have key:∀(d k:Nat)(n:Int)(l:List Int),0≤n→n<(16777216:Int)^d→d≤3→d<k→l.length+d≤100→T (pc k n l):=by
  intro d
  induction d with
  | zero =>
   intro k n l a h1 _ hk j;obtain ⟨k,rfl⟩:=kS k (by omega);rw [Int.pow_zero] at h1;rw [pc,if_neg (by simp;omega)];exact bj _
  | succ d ih =>
   intro k n l a h1 o hk j;obtain ⟨k,rfl⟩:=kS k (by omega);rw [Int.pow_succ] at h1;rw [pc];refine aZ (fun _=>(me (by simp;omega)).bind fun p c=>?_) (fun _=>bj _);subst c
   have e:(16777216:Int)^d≤16777216^2:=by
    rcases (show d=0∨d=1∨d=2 by omega) with rfl|rfl|rfl<;>decide
   have f:(16777216:Int)^2=281474976710656:=by decide
   rw [f] at e;have m:Int.tdiv n 16777216=n / 16777216:=Int.tdiv_eq_ediv_of_nonneg a;have g:0≤n / 16777216:=by omega
   have i:n / 16777216<16777216^d:=by
    generalize (16777216:Int)^d=z at h1 e;omega
   rw [m,aP (by omega) (by omega)];exact ih k _ _ g i (by omega) (by omega) (by simp;omega)
 exact key 3 aY n [] a (by have:(16777216:Int)^3=4722366482869645213696:=(by decide);omega) (by omega) (cx (by omega)) (by simp)
theorem yW {a b:Int}(c:a≤9223372036854775807)(d:b≤9223372036854775807):T (kq a b):=by
 unfold kq;exact (Pm c).bind fun _ _=>(Pm d).bind fun _ _=>(AD _ _).bind fun _ _=>bj _
def Rx (f:bT):Prop:=(0≤f.B_∧f.B_≤4000000000000000)∧1≤f.ab_∧f.ab_≤4000000000000000
theorem yl (f:bT):Dec (mP f) (Rx f):=by
 unfold mP Rx;simp only [uq];exact Um cz fun _=>cz
theorem yn (a b:bT):T (mR a b):=by
 unfold mR;refine ki (yl a).t (by simp only [sS];exact bj _) (fun c=>?_);simp only [sS];refine lV (yl b).t (by simp only [sS];exact bj _) (fun d=>?_);simp only [sS];have:=c.1;have:=c.2;have:=d.1;have:=d.2;exact (yW (by omega) (by omega)).bind fun _ _=>(yW (by omega) (by omega)).bind fun _ _=>(HD _ _).bind fun _ _=>bj _
theorem QM (a b:bT):T (vJ a b):=by
 unfold vJ;refine ki (yl a).t (by simp only [sS];exact bj _) (fun c=>?_);simp only [sS];refine lV (yl b).t (by simp only [sS];exact bj _) (fun d=>?_);simp only [sS];have:=c.1;have:=c.2;have:=d.1;have:=d.2;refine Tot.bind (P:=fun _=>True) ((yn a b).bind fun _ _=>bj _) (fun u _=>aZ (fun _=>bj _) (fun _=>?_));exact (yW (by omega) (by omega)).bind fun _ _=>(yW (by omega) (by omega)).bind fun _ _=>(RA _ _).bind fun _ _=>(yW (by omega) (by omega)).bind fun _ _=>bj _
theorem WX {a b:Int}(s:0≤a)(t:1≤b)(m:b≤4000000000000000):Tot (DT a b) (fun g=>1≤g):=by
 unfold DT;rw [if_neg (by simp;omega)]
 have key:∀(d k a b:Nat),1≤a+b→b<2^d→2*d+1<k→Tot (pT k (a:Int) (b:Int)) (fun g=>1≤g):=by
  intro d
  induction d with
  | zero =>
   intro k a b h1 f hk;obtain ⟨k,rfl⟩:=kS k (by omega);rw [pT,if_neg (by simp;omega)];exact ar (by omega)
  | succ d ih =>
   intro k a b h1 f hk;obtain ⟨k,rfl⟩:∃q,k=q+2:=⟨k-2,by omega⟩;rw [pT];refine aZ (fun c=>?_) (fun c=>ar (by simp at c;omega));have c:0<b:=by simp at c;omega
   have h:rem (a:Int) (b:Int)=some ((a%b:Nat):Int):=by
    unfold rem;rw [if_neg (by omega),Int.tmod_eq_emod_of_nonneg (by omega)];rfl
   rw [h];simp only [bS];have i:=Nat.mod_lt a c;generalize a%b=r at i;rw [pT];refine aZ (fun e=>?_) (fun _=>ar (by omega));have e:0<r:=by simp at e;omega
   have j:rem (b:Int) (r:Int)=some ((b%r:Nat):Int):=by
    unfold rem;rw [if_neg (by omega),Int.tmod_eq_emod_of_nonneg (by omega)];rfl
   rw [j];simp only [bS];have o:=Nat.mod_lt b e;have l:1≤b / r:=Nat.div_pos (by omega) e;have u:=Nat.div_add_mod b r;have p:r≤r*(b / r):=Nat.le_mul_of_pos_right _ l;refine ih k r (b%r) (by omega) ?_ (by omega);rw [Nat.pow_succ] at f;omega
 have:=key 60 aY a.toNat b.toNat (by omega) (by have:(2:Nat)^60=1152921504606846976:=(by decide);omega) (cx (by omega));rw [show ((a.toNat:Nat):Int)=a by omega,show ((b.toNat:Nat):Int)=b by omega] at this;exact this
theorem SQ {k:IntKind}{x y:Int}(h:y≠0):T (quo k x y):=by
 unfold quo;rw [if_neg h];exact bj _
theorem Rm (f:bT):T (vZ f):=by
 unfold vZ;refine ki (yl f).t (by simp only [sS];exact bj _) (fun h=>?_);simp only [sS];have:=h.1;have:=h.2;exact (WX (by omega) (by omega) (by omega)).bind fun g a=>(SQ (by omega)).bind fun _ _=>(SQ (by omega)).bind fun _ _=>bj _
theorem Po {l:List Int}(h:l.length≤1048576):T (oe l):=by
 unfold oe;refine dj (nw l) l.length (fun _ _=>True) (fun k s _=>?_) (fun k s i a _ hk=>?_) (by omega) trivial
 ·rw [nw,if_neg (by simp)];exact bj _
 rw [nw,if_pos (by simp;omega),aH a,ax (by omega)];exact hk _ trivial
theorem Kc (l:List Int):T (sy l):=by
 unfold sy;refine aZ (fun _=>bj _) (fun h=>?_);have h:l.length≤3:=by simp at h;omega
 refine dj (mC l) l.length (fun _ _=>True) (fun k s _=>?_) (fun k s i a _ hk=>?_) (by omega) trivial
 ·rw [mC,if_neg (by simp)];exact bj _
 rw [mC,if_pos (by simp;omega),aH a,ax (by omega)];simp only [bS];refine ki cz.t (by simp only [sS];exact bj _) (fun _=>?_);simp only [sS];exact hk _ trivial
end Go.Vk
/- Merits of forks: they always answer. -/
namespace Go.Vk
theorem Km {s:ae}{t:aE}{f:aI}(h:ba s)(E:gZ t)(i:Int):Tot (mQ s t f i) (fun l=>l.length=0∨l.length=s.f_.length∧fL s):=by
 unfold mQ;have bad:Tot (some ([]:List Int)) (fun l=>l.length=0∨l.length=s.f_.length∧fL s):=ar (.inl rfl);refine ki (ny h E).t (by simp only [sS];exact bad) (fun u=>?_);simp only [sS];by_cases x:t.g_.length=0
 ·rw [show ((t.g_.length:Int)==0)=true by simpa using x];simp only [sS];exact bad
 rw [show ((t.g_.length:Int)==0)=false by simpa using x];simp only [sS];refine lV (rj h).t (by simp only [sS];exact bad) (fun v=>?_);simp only [sS];rw [qK h v];simp only [bS];refine lV cz.t (by simp only [sS];exact bad) (fun _=>?_);simp only [sS];have m:=u.1;have H:=m.2.1;refine (Lj ⟨by omega,by omega⟩).bind fun p c=>?_;have c:p.length=s.f_.length:=by rw [c];simp
 obtain ⟨a,d,ea,et⟩:=Fx v.2.1;have A:=h.1.2 _ (List.getElem_mem d);have L:=DZ (m.attr d);have M:t.g_.length=s.c_.length:=by rcases u.2.2.2.2 with g|g;omega;exact g.1
 have q:Ir s.f_.length (nb s.c_[a]) t.l_ t.g_[a]:=by
  rcases u.2.2.2.2 with g|g
  ·omega
  exact g.2 a (by omega) d
 refine dj (fun k (l:List Int) b=>dJ s f i p t k b l) (nb s.c_[a]) (fun _ l=>l.length=s.f_.length) (fun k l r=>?_) (fun k l b F r hk=>?_) (by omega) c
 ·show Tot (dJ _ _ _ _ _ (k+1) _ _) _;rw [dJ,ea,aH d];simp only [bS];rw [uM A (m.attr d)];simp only [bS];rw [if_neg (by simp)];exact ar (.inr ⟨r,m⟩)
 show Tot (dJ _ _ _ _ _ (k+1) _ _) _;rw [dJ,ea,aH d];simp only [bS];rw [uM A (m.attr d)];simp only [bS];rw [if_pos (by simp;omega),Eg h v (b:=(b:Int)) ⟨by omega,by rw [et];omega⟩,ax (by omega)];simp only [bS];refine aZ (fun _=>?_) (fun _=>hk _ r);refine dj (fun o (e:List Int) j=>fo p t f b s (dJ s f i p t k) o j e) s.f_.length (fun _ e=>e.length=s.f_.length) (fun o e w=>?_) (fun o e j G w C=>?_) (by omega) r
 ·show Tot (fo _ _ _ _ _ _ (o+1) _ _) _;rw [fo,c,if_neg (by simp),ax (by omega)];exact hk _ w
 show Tot (fo _ _ _ _ _ _ (o+1) _ _) _
 have P:b*s.f_.length≤12:=by
  calc b*s.f_.length≤4*3:=Nat.mul_le_mul (by omega) (by omega)
   _=12:=rfl
 have D:b*s.f_.length+j<t.g_[a].length:=by rw [q.1];exact OP F G
 rw [fo,c,if_pos (by simp;omega),aH (show j<e.length by omega),ea,aH (show a<t.g_.length by omega)];simp only [bS];rw [←Int.natCast_mul,fm (by omega),←Int.natCast_add,fm (by omega),aH D,ax (by omega)];simp only [bS];exact C _ (by simpa using w)
theorem OX {s:ae}{t:aE}{f:aI}(e:ba s)(u:gZ t):T (wB s t f):=by
 unfold wB;refine ki (ny e u).t (by simp only [sS];exact bj _) (fun M=>?_);simp only [sS];by_cases w:t.g_.length=0
 ·rw [show ((t.g_.length:Int)==0)=true by simpa using w];simp only [sS];exact bj _
 rw [show ((t.g_.length:Int)==0)=false by simpa using w];simp only [sS];refine lV (rj e).t (by simp only [sS];exact bj _) (fun r=>?_);simp only [sS];have a0:=M.1.2.1;refine (Lj ⟨by omega,by omega⟩).bind fun A m=>?_;have m:A.length=s.f_.length:=by rw [m];simp
 have a1:=Ma r;refine dj (fun k (σ:List Int×List Int×List Int) i=>iZ s f t k i σ.1 σ.2.1 σ.2.2) (brN s f) (fun i σ=>σ.1.length=s.f_.length∧σ.2.2.length=σ.2.1.length∧σ.2.1.length≤i∧∀x∈σ.2.1,0<x) (fun k σ h=>?_) (fun k σ i hi h hk=>?_) (by omega) (s:=(A,[],[])) ⟨m,rfl,by simp,fun x hx=>by cases hx⟩
 ·obtain ⟨h1,C,D,p⟩:=h;show T (iZ s f t (k+1) _ _ _ _);rw [iZ,qK e r];simp only [bS];rw [if_neg (by simp)];refine (Po (by omega)).bind fun y _=>aZ (fun _=>bj _) (fun _=>?_);refine dj (pg σ.2.1 σ.2.2 y σ.1) σ.2.1.length (fun _ _=>True) (fun P z _=>?_) (fun P z j c _ E=>?_) (by omega) trivial
  ·rw [pg,if_neg (by simp)];refine dj (oY σ.2.1 σ.2.2 z y σ.1) σ.2.1.length (fun _ _=>True) (fun Q v _=>?_) (fun Q v j c _ F=>?_) (by omega) trivial
   ·rw [oY,if_neg (by simp)];exact (Kc _).bind fun _ _=>(Rm _).bind fun _ _=>bj _
   rw [oY,if_pos (by simp;omega),aH (show j<σ.2.2.length by omega),aH c,ax (by omega)];simp only [bS];have:=p _ (List.getElem_mem c);exact (SQ (by omega)).bind fun _ _=>F _ trivial
  rw [pg,if_pos (by simp;omega),aH c,ax (by omega)];exact E _ trivial
 obtain ⟨h1,C,D,p⟩:=h;show T (iZ s f t (k+1) _ _ _ _);rw [iZ,qK e r];simp only [bS];rw [if_pos (by simp;omega)];refine (Km e u _).bind fun y R=>?_;have a2:y.length≤s.f_.length:=by rcases R with g|g<;>omega
 refine dj (fun o (d:List Int) j=>lr y σ.2.1 σ.2.2 (iZ s f t k) i o j d) y.length (fun _ d=>d.length=s.f_.length) (fun o d a=>?_) (fun o d j c a G=>?_) (by omega) h1
 ·show T (lr _ _ _ _ _ (o+1) _ _);rw [lr,if_neg (by simp),ax (by omega)];obtain ⟨v,X,_⟩:=Po (l:=y) (by omega);rw [X];simp only [bS];refine aZ (fun Z=>?_) (fun _=>hk (_,_,_) ⟨a,C,Nat.le_succ_of_le D,p⟩);refine (me (by simp;omega)).bind fun l3 H=>(Kc _).bind fun q _=>(me (by simp;omega)).bind fun l4 L=>?_;subst H L;refine hk (_,_,_) ⟨a,by simp;omega,by simp;omega,fun x hx=>?_⟩;rcases List.mem_append.1 hx with hx|hx
  ·exact p x hx
  rw [List.mem_singleton.1 hx];simpa using Z
 show T (lr _ _ _ _ _ (o+1) _ _);rw [lr,if_pos (by simp;omega),aH (show j<d.length by omega),aH c,ax (by omega)];simp only [bS];exact G _ (by simpa using a)
theorem Qd {s:ae}(c:fL s){a:Int}(d:0≤a∧a≤(s.c_.length:Int)-1):AY s [a]:=by
 refine ⟨c,by simp,fun i _ e h=>?_⟩;have:i=0:=by simp at e;omega
 subst this;exact ⟨d,fun g=>absurd g (by omega)⟩
theorem Ub {s:ae}{a:Int}{two:Bool}(r:ba s)(u:fL s)(C:0≤a∧a≤(s.c_.length:Int)-1):Tot (rC s [a] two) (fun l=>1≤l.length∧l.length≤10):=by
 unfold rC;rcases (wl (l:=[a]) r (by simp)).cases with ⟨e,_⟩|⟨_,g⟩
 ·rw [e];simp only [sS];obtain ⟨j,rfl⟩:∃j:Nat,a=j:=⟨a.toNat,by omega⟩;have q:j<s.c_.length:=by omega
  refine dj (fq [(j:Int)] s two) 1 (fun i l=>i≤l.length∧l.length≤5*i) (fun k l h=>?_) (fun k l i D h hk=>?_) (by omega) ⟨by simp,by simp⟩
  ·rw [fq,if_neg (by simp)];exact ar (by omega)
  have:i=0:=by omega
  subst this;have E:l=[]:=List.length_eq_zero_iff.1 (by omega);subst E;have F:idx [(j:Int)] ((0:Nat):Int)=some (j:Int):=by rw [aH (by simp)];rfl
  rw [fq,if_pos (by simp),F];simp only [bS];rw [aH q];simp only [bS];refine aZ (fun _=>?_) (fun _=>?_)
  ·rw [bC (by simp),ax (by omega)];simp only [bS];refine hk _ ?_;simp
  have v:uP s ⟨(j:Int),0⟩:=by
   have M:=DZ (u.attr q);refine ⟨u,by show 0≤(j:Int)∧(j:Int)≤_;omega,?_⟩
   have w:atr s ⟨(j:Int),0⟩=s.c_[j]:=by
    obtain ⟨i,D,h1,c⟩:=Fx (s:=s) (f:=⟨(j:Int),0⟩) (by show 0≤(j:Int)∧(j:Int)≤_;omega);have:j=i:=by have h1:(j:Int)=i:=h1;omega
    subst this;exact c
   show -1≤(0:Int)∧(0:Int)≤Af (atr s ⟨(j:Int),0⟩);rw [w];unfold Af;split<;>omega
  refine dj (fun o d m=>fu [(j:Int)] (0:Nat) s (fq [(j:Int)] s two k) o d m) 4 (fun m d=>d.length≤m∧(1≤m→1≤d.length)) (fun o d c=>?_) (fun o d m L c p=>?_) (by omega) (s:=[]) ⟨by simp,fun h=>absurd h (by omega)⟩
  ·show Tot (fu _ _ _ _ (o+1) _ _) _;rw [fu,if_neg (by simp),ax (by omega)];have:=c.2 (by omega);exact hk _ ⟨by omega,by omega⟩
  show Tot (fu _ _ _ _ (o+1) _ _) _;have G:idx [(j:Int)] ((0:Nat):Int)=some (j:Int):=by rw [aH (by simp)];rfl
  rw [fu,if_pos (by simp;omega),G,ax (by omega)];simp only [bS];by_cases H:m=0
  ·subst H;rcases (rj (f:=⟨(j:Int),0⟩) r).cases with ⟨e,_⟩|⟨_,g⟩
   ·have x:=c.1;rw [show ((0:Nat):Int)=(0:Int) from rfl,e];simp only [bS];have A:d=[]:=List.length_eq_zero_iff.1 (by omega);subst A;rw [if_pos trivial,bC (by simp)];simp only [bS];exact p _ ⟨by simp,fun _=>by simp⟩
   exact absurd v g
  have h1:=c.2 (by omega);have x:=c.1;refine (Dec.t (rj (f:=⟨(j:Int),(m:Int)⟩) r)).bind fun b _=>aZ (fun _=>?_) (fun _=>p _ ⟨by omega,fun _=>h1⟩);rw [bC (by simp;omega)];simp only [bS];exact p _ ⟨by simp;omega,fun _=>by simp⟩
 exact absurd (Qd u C) g
theorem TN {s:ae}{t:aE}{a:Int}{two:Bool}(f:ba s)(g:gZ t):T (xx s t a two):=by
 unfold xx;refine ki (ny f g).t (by simp only [sS];exact bj _) (fun h=>?_);simp only [sS];by_cases j:t.g_.length=0
 ·rw [show ((t.g_.length:Int)==0)=true by simpa using j];simp only [sS];exact bj _
 rw [show ((t.g_.length:Int)==0)=false by simpa using j];simp only [sS];refine lV cz.t (by simp only [sS];exact bj _) (fun o=>?_);simp only [sS];have v:=h.1.1;rw [aP (by omega) (by omega)] at o;refine (Ub f h.1 o).bind fun l w=>?_;have p:0<l.length:=by omega
 have q:idx l 0=some l[0]:=aH p;rw [q];simp only [bS];refine (OX f g).bind fun m _=>?_
 have key:∀(d k i:Nat)(a b c e:Int),l.length-i=d→d<k→T (lZ l s t k a b c e (i:Int)):=by
  intro d
  induction d with
  | zero =>
   intro k i a b c e r hk;obtain ⟨k,rfl⟩:=kS k (by omega);rw [lZ,if_neg (by simp;omega)];exact bj _
  | succ d ih =>
   intro k i a b c e r hk;obtain ⟨k,rfl⟩:=kS k (by omega);have u:i<l.length:=by omega
   rw [lZ,if_pos (by simp;omega),aH u];simp only [bS];refine (OX f g).bind fun m _=>?_;rw [ax (by omega)];exact (yn _ _).bind fun _ _=>aZ (fun _=>ih _ _ _ _ _ _ (by omega) (by omega)) (fun _=>ih _ _ _ _ _ _ (by omega) (by omega))
 exact key (l.length-1) aY 1 _ _ _ _ rfl (cx (by omega))
theorem VQ {s:ae}{t:aE}{l:List Int}{two:Bool}(c:ba s)(p:gZ t)(D:l.length≤1048576):T (Bi s t l two):=by
 unfold Bi;refine ki (ny c p).t (by simp only [sS];exact bj _) (fun Q=>?_);simp only [sS];by_cases v:t.g_.length=0
 ·rw [show ((t.g_.length:Int)==0)=true by simpa using v];simp only [sS];exact bj _
 rw [show ((t.g_.length:Int)==0)=false by simpa using v];simp only [sS];refine lV (wl c D).t (by simp only [sS];exact bj _) (fun R=>?_);simp only [sS];refine dj (fun k (r:List ca) i=>jg l s t two k i r) l.length (fun i r=>r.length=i) (fun k r h=>?_) (fun k r i E h hk=>?_) (by omega) rfl
 ·show T (jg _ _ _ _ (k+1) _ _);rw [jg,if_neg (by simp)];exact bj _
 show T (jg _ _ _ _ (k+1) _ _);rw [jg,if_pos (by simp;omega),aH E];simp only [bS];refine (TN c p).bind fun b _=>?_
 have key:∀(j a:Nat),j≤r.length→j<a→T (qr r b (jg l s t two k) i a (j:Int)):=by
  have fin:∀j:Nat,j≤r.length→T ((sub r 0 (j:Int)).bind fun d=>(app ([]:List ca) d).bind fun e=>(app e ([(ca.mk b.1 b.2)]:List ca)).bind fun f=>(sub r (j:Int) (r.length:Int)).bind fun g=>(app f g).bind fun m=>(jg l s t two k) (IntKind.i64.wrap ((i:Int)+1)) m):=by
   intro j w;refine (qu ⟨by omega,by omega,by omega⟩).bind fun F h1=>?_;have h1:F.length=j:=by rw [h1];simp;omega
   refine (me (by simp;omega)).bind fun G o=>?_;have o:G.length=j:=by rw [o];simp [h1]
   refine (me (by simp;omega)).bind fun H x=>?_;have x:H.length=j+1:=by rw [x];simp [o]
   refine (qu ⟨by omega,by omega,by omega⟩).bind fun L A=>?_;have A:L.length=r.length-j:=by rw [A];simp
   refine (me (by omega)).bind fun X M=>?_;rw [ax (by omega)];exact hk _ (by rw [M];simp;omega)
  intro j
  induction j with
  | zero =>
   intro a _ C;obtain ⟨a,rfl⟩:∃q,a=q+1:=⟨a-1,by omega⟩;rw [qr,if_neg (by simp)];simp only [sS];exact fin 0 (by omega)
  | succ j ih =>
   intro a w C;obtain ⟨a,rfl⟩:∃q,a=q+1:=⟨a-1,by omega⟩;rw [qr,if_pos (by simp),aP (by omega) (by omega),show ((j+1:Nat):Int)-1=(j:Int) by omega,aH (show j<r.length by omega)];simp only [bS];unfold CE;refine Tot.bind (P:=fun _=>True) (((yn _ _).bind fun _ _=>bj _).bind fun _ _=>bj _) (fun u _=>aZ (fun _=>ih a (by omega) (by omega)) (fun _=>fin (j+1) w))
 exact key r.length aY (Nat.le_refl _) (cx (by omega))
theorem Nt {s:ae}{t:aE}{l:List Int}{two:Bool}(a:ba s)(c:gZ t)(d:l.length≤1048576):T (ur s t l two):=by
 unfold ur;refine (VQ a c d).bind fun r _=>aZ (fun _=>bj _) (fun h=>?_);have h:r.length≠0:=by simpa using h
 unfold nF;refine aZ (fun h1=>?_) (fun _=>(ga ⟨by omega,by omega⟩).bind fun _ _=>bj _);have h1:(r.length:Int)>1:=by simpa using h1
 exact (ga ⟨by omega,by omega⟩).bind fun _ _=>(ga ⟨by omega,by omega⟩).bind fun _ _=>bj _
end Go.Vk
/- Verdicts, places, copies: they always answer. -/
namespace Go.Vk
def V (x:Int):Prop:=-9223372036854775808≤x∧x≤9223372036854775807
theorem tG (n:Int):V (IntKind.i64.wrap n):=by
 unfold V;rw [IntKind.wrap_i64];omega
theorem ko {x:Int}(h : -1000000000000≤x∧x≤1000000000000):V x:=⟨by omega,by omega⟩
theorem Hg (a:bT):Tot (mU a) (fun b=>b=true→Rx a):=by
 unfold mU;exact (yl a).t.bind fun b c=>ar fun h=>c (by simp at h;exact h.1)
theorem NQ (p:Int):Tot (wg p) (fun v=>v≤9223372036854775807):=by
 unfold wg;exact cz.t.bind fun b _=>aZ (fun _=>ar (by omega)) (fun _=>ar (tG _).2)
theorem Sv (a b:bT)(n k:Int):T (xk a b n k):=by
 unfold xk;refine ki (Hg a) (by simp only [sS];exact bj _) (fun _=>?_);simp only [sS];refine lV (Hg b) (by simp only [sS];exact bj _) (fun _=>?_);simp only [sS];refine Tot.bind (P:=fun _=>True) ((yn a b).bind fun _ _=>bj _) (fun u _=>?_);cases u
 ·simp only [sS];refine lV cz.t (by simp only [sS];exact bj _) (fun d=>?_);simp only [sS];refine lV cz.t (by simp only [sS];exact bj _) (fun _=>?_);simp only [sS];exact (QM a b).bind fun _ _=>(AD _ _).bind fun _ _=>(yW (by omega) (by omega)).bind fun _ _=>(AD _ _).bind fun _ _=>(AD _ _).bind fun _ _=>(NQ k).bind fun v c=>(yW c (by omega)).bind fun _ _=>(AD _ _).bind fun _ _=>(HD _ _).bind fun _ _=>bj _
 simp only [sS];exact bj _
theorem Wa (r:bA)(n:Int):T (Bo r n):=by
 unfold Bo;refine (Bb r).t.bind fun a _=>?_;refine Tot.bind (P:=fun _=>True) (aZ (fun _=>cz.t.bind fun _ _=>bj _) (fun _=>bj _)) (fun b _=>?_);exact Tot.bind (P:=fun _=>True) (aZ (fun _=>(NQ _).bind fun _ _=>bj _) (fun _=>bj _)) (fun _ _=>bj _)
theorem QQ (r:bA)(a b:bT)(n:Int):T (vF r a b n):=by
 unfold vF;refine ki (Bb r).t (by simp only [sS];exact bj _) (fun _=>?_);simp only [sS];refine lV cz.t (by simp only [sS];exact bj _) (fun _=>?_);simp only [sS];refine lV (Hg a) (by simp only [sS];exact bj _) (fun _=>?_);simp only [sS];refine lV (Hg b) (by simp only [sS];exact bj _) (fun _=>?_);simp only [sS];refine Tot.bind (P:=fun _=>True) ((yn a b).bind fun _ _=>bj _) (fun u _=>?_);exact aZ (fun _=>bj _) (fun _=>aZ (fun _=>bj _) (fun _=>(Sv ..).bind fun _ _=>aZ (fun _=>bj _) (fun _=>(Wa ..).bind fun _ _=>aZ (fun _=>bj _) (fun _=>bj _))))
theorem KF {l:List Int}(h:l.length≤1048576):Tot (tH l) (fun v => -1≤v∧v<l.length∧(0<l.length→0≤v)):=by
 unfold tH;refine dj (mY l) l.length (fun i s => -1≤s∧s<i∧(0<i→0≤s)) (fun k s h1=>?_) (fun k s i a h1 hk=>?_) (by omega) ⟨by omega,by omega,fun g=>absurd g (by omega)⟩
 ·rw [mY,if_neg (by simp)];exact ar h1
 obtain ⟨h1,d,e⟩:=h1;rw [mY,if_pos (by simp;omega),aH a,ax (by omega)];simp only [bS];refine Tot.bind (P:=fun u=>u=false→0≤s) (aZ (fun _=>ar (fun h=>by cases h)) (fun g=>?_)) (fun u c=>aZ (fun _=>hk _ ⟨by omega,by omega,fun _=>by omega⟩) (fun g=>?_))
 ·have g:0≤s:=by simpa using g
  exact (ga ⟨g,by omega⟩).bind fun _ _=>ar fun _=>g
 have:=c (by simpa using g);exact hk _ ⟨by omega,by omega,fun _=>by omega⟩
theorem GZ {s:ae}{t:aE}(a:ba s)(c:gZ t):T (fG s t):=by
 rcases (ny a c).cases with ⟨e,h⟩|⟨e,h⟩
 ·rw [Et a c h];exact bj _
 unfold fG;rw [e];simp only [sS];exact bj _
theorem Ko {s:ae}{t:aE}(a:ba s)(c:gZ t):T (sY s t):=by
 unfold sY;rcases (ny a c).cases with ⟨e,h⟩|⟨e,h⟩
 ·rw [e];simp only [sS];have h1:=h.1.2.1;have f:=h.2.1;exact (GZ a c).bind fun _ _=>(KF (by omega)).bind fun v d=>(ga ⟨d.2.2 (by omega),d.2.1⟩).bind fun _ _=>bj _
 rw [e];simp only [sS];exact bj _
theorem RC {s:ae}(a:ba s)(f:aI):∃n:Nat,fM s f=some (n:Int)∧n≤4:=by
 rcases (rj (f:=f) a).cases with ⟨_,h⟩|⟨_,h⟩
 ·exact ⟨_,qK a h,(Ma h).2⟩
 exact ⟨0,Jy a h,by omega⟩
theorem NV {s:ae}{t:aE}{f:aI}(a:ba s)(d:gZ t):Tot (uv s t f) V:=by
 unfold uv;obtain ⟨n,eB,m⟩:=RC a f;refine dj (fun k (l:List Int) i=>iE s f t k l i) n (fun i l=>l.length=i) (fun k l h=>?_) (fun k l i o h hk=>?_) (by omega) (s:=[]) rfl
 ·show Tot (iE s f t (k+1) _ _) _;rw [iE,eB];simp only [bS];rw [if_neg (by simp)];exact (KF (by omega)).bind fun v p=>ar (ko ⟨by omega,by omega⟩)
 show Tot (iE s f t (k+1) _ _) _;rw [iE,eB];simp only [bS];rw [if_pos (by simp;omega)];have j:=a.2.1;refine (Km a d _).bind fun y e=>aZ (fun _=>ar (ko ⟨by omega,by omega⟩)) (fun _=>(Po (by rcases e with g|g<;>omega)).bind fun v _=>(me (by simp;omega)).bind fun q c=>?_);subst c;rw [ax (by omega)];exact hk _ (by simp;omega)
theorem PJ {t:aE}(h:t.l_.length≤1048576):ye t=some ⟨t.l_,[]⟩:=by
 unfold ye;rw [bC (by simp;omega)];rfl
theorem UL {s:ae}{r:bA}{n:au}(a:ba s)(c:rg n):T (yL s r n):=by
 unfold yL;have d:=c.2.2.2.2.1;have e:=c.2.2.2.2.2.2.1.1;exact (Nt a d e).bind fun _ _=>aZ (fun _=>bj _) (fun _=>(GZ a d).bind fun _ _=>(QQ ..).bind fun _ _=>aZ (fun _=>bj _) (fun _=>bj _))
theorem FZ {n:au}(h:rg n):nY n=some n:=by
 have h1:=h.2.2.1.1;have a:=h.2.2.2.2.2.2.1.1;unfold nY;rw [bC (by simp;omega),bC (by simp;omega),(EN h.2.2.2.2.1).1];rfl
theorem rT {t:am}(h:iC t):jf t=some t:=by
 have c:=h.1.1;unfold jf
 rw [pZ (p:=t.b_) id (mD t) (fun l=>some ⟨l,t.p_⟩) (fun k l=>by rw [mD,if_neg (by simp)]) (fun k l i a d=>by
  rw [mD,if_pos (by simp;omega),aH a,ax (by omega)];simp only [bS];rw [FZ (h.1.2 _ (List.getElem_mem a))];simp only [bS];rw [bC (by simp;omega)];rfl) (by omega),List.map_id]
theorem gQ {t:bp}(h:t.v_.length≤1048576):cX t=some t:=by
 unfold cX;rw [bC (by simp;omega)];rfl
theorem Du (t:bp):Dec (qb t) (t.v_.length≤600∧0≤t.j_∧t.j_≤t.v_.length):=by
 unfold qb;by_cases h:t.v_.length≤600
 ·rw [if_pos (by simp;omega)];refine Dec.of_iff ?_ (show ((0:Int)≤t.j_∧t.j_≤(t.v_.length:Int))↔_ from ⟨fun g=>⟨h,g⟩,fun g=>g.2⟩);simp only [uq];exact cz
 rw [if_neg (by simp;omega)];exact bW fun g=>h g.1
theorem SX {t:bp}(h:t.v_.length≤1048576):Tot (yo t) (fun y=>y.1.v_.length≤1048576):=by
 unfold yo xY;rw [gQ h];simp only [bS];rcases (Du t).cases with ⟨e,g⟩|⟨e,_⟩
 ·rw [e];simp only [sS];refine aZ (fun _=>ar h) (fun a=>?_);have a:¬IntKind.i64.wrap ((t.v_.length:Int)-t.j_)<2:=by simpa using a
  rw [aP (by omega) (by omega)] at a;rw [aP (n:=t.j_+1) (by omega) (by omega)];exact (ga ⟨by omega,by omega⟩).bind fun _ _=>(ga ⟨by omega,by omega⟩).bind fun _ _=>ar h
 rw [e];simp only [sS];rw [if_pos (by simp)];exact ar h
theorem RH {n k:Nat}(a:n≤20)(hk:k≤20)(r:Int):Tot (pl n k r) AQ:=by
 by_cases h:0≤r∧r≤1048576
 ·obtain ⟨v,e,_,g⟩:=MZ a hk h;exact ⟨v,e,g⟩
 unfold pl;have d:=Pb n k;rw [Hb];simp only [bS];rw [aP (by omega) (by omega)]
 have:aM r 0 ((CX n k:Int)-1)=some false:=by
  unfold aM;have:¬(r≥0∧r≤(CX n k:Int)-1):=by omega
  simp;omega
 rw [this];simp only [sS];exact ar ⟨by simp,fun x c=>by cases c⟩
theorem Kv {t:bp}{n k:Nat}(h:t.v_.length≤1048576)(a:n≤20)(hk:k≤20):Tot (oQ t n k) (fun y=>y.1.v_.length≤1048576∧AQ y.2.1):=by
 have bad:AQ []:=⟨by simp,fun x c=>by cases c⟩;unfold oQ wF;rw [Hb];simp only [bS];obtain ⟨⟨y1,y2,y3⟩,e,d⟩:=SX h;rw [e,gQ h];simp only [bS]
 have key:Tot (if (!y3)=true then some true else (aM (CX n k:Int) 1 65536).bind fun y=>some (!y)) (fun u=>u=false→(CX n k:Int)≠0):=by
  refine aZ (fun _=>ar (fun h=>by cases h)) (fun _=>cz.t.bind fun b f=>ar fun g=>?_);have:b=true:=by simpa using g
  have:=f this;omega
 obtain ⟨u,eu,i⟩:=key;rw [eu];simp only [bS];cases u
 ·simp only [sS];have j:=i rfl;unfold rem;rw [if_neg j];simp only [bS];simp only [sS];exact (RH a hk _).bind fun l m=>ar ⟨d,m⟩
 simp only [sS];exact ar ⟨h,bad⟩
end Go.Vk
/- Splits, memory, learning: they always answer, and trees stay CT. -/
namespace Go.Vk
def smI (n:Nat)(l:List Int):Prop:=l.length≤n∧∀y∈l,V y
def xT (d:Nat)(t:aE):Prop:=smI (8+d) t.l_∧t.g_.length≤8+d∧∀c∈t.g_,smI (16+d) c
def yI (d:Nat)(n:au):Prop:=(V n.n_.q_∧V n.n_.j_)∧smI (8+d) n.A_∧V n.K_∧xT d n.m_∧V n.J_∧smI (24+d) n.c_∧V n.o_∧V n.H_∧V n.F_
def mn (d:Nat)(t:am):Prop:=(t.b_.length≤40∧∀n∈t.b_,yI d n)∧V t.p_
theorem smI.mono {n m:Nat}(h:n≤m){l:List Int}(g:smI n l):smI m l:=⟨Nat.le_trans g.1 h,g.2⟩
theorem smI.sml {n:Nat}{l:List Int}(g:smI n l)(h:n≤1000):sn l:=⟨by have:=g.1;omega,g.2⟩
theorem smI.app {n m:Nat}{l:List Int}{x:Int}(g:smI n l)(a:V x)(h:n+1≤m):smI m (l++[x]):=⟨by have:=g.1;simp;omega,fun y hy=>by
 rcases List.mem_append.1 hy with hy|hy
 ·exact g.2 y hy
 rw [List.mem_singleton.1 hy];exact a⟩
theorem smI.set {n:Nat}{l:List Int}{x:Int}(g:smI n l)(c:V x)(i:Nat):smI n (l.set i x):=⟨by rw [List.length_set];exact g.1,fun y a=>by
 rcases List.mem_or_eq_of_mem_set a with a|rfl
 ·exact g.2 y a
 exact c⟩
theorem smI.nil (n:Nat):smI n []:=⟨by simp,fun x a=>by cases a⟩
theorem smI.small {n:Nat}{l:List Int}(h:AQ l)(a:20≤n):smI n l:=⟨Nat.le_trans h.1 a,fun y c=>by have:=h.2 y c;exact ko ⟨by omega,by omega⟩⟩
theorem xT.mono {d d':Nat}(h:d≤d'){t:aE}(g:xT d t):xT d' t:=⟨g.1.mono (by omega),by have:=g.2.1;omega,fun c a=>(g.2.2 c a).mono (by omega)⟩
theorem yI.mono {d d':Nat}(h:d≤d'){t:au}(g:yI d t):yI d' t:=by
 obtain ⟨a,c,e,f,i,j,k,l,m⟩:=g;exact ⟨a,c.mono (by omega),e,f.mono h,i,j.mono (by omega),k,l,m⟩
theorem xT.sml {d:Nat}(e:d≤10){t:aE}(g:xT d t):gZ t:=⟨g.1.sml (by omega),by have:=g.2.1;omega,fun c a=>(g.2.2 c a).sml (by omega)⟩
theorem yI.sml {d:Nat}(a:d≤10){t:au}(g:yI d t):rg t:=by
 obtain ⟨c,e,f,h,i,j,k,l,m⟩:=g;exact ⟨trivial,c,e.sml (by omega),f,h.sml a,i,j.sml (by omega),k,l,m⟩
theorem mn.sml {d:Nat}(a:d≤10){t:am}(g:mn d t):iC t:=⟨⟨by have:=g.1.1;omega,fun n c=>(g.1.2 n c).sml a⟩,g.2⟩
theorem mn.mono {d d':Nat}(h:d≤d'){t:am}(g:mn d t):mn d' t:=⟨⟨g.1.1,fun n a=>(g.1.2 n a).mono h⟩,g.2⟩
theorem mn.setN {d:Nat}{l:List au}{x:Int}{n:au}(g:l.length≤40∧∀n∈l,yI d n)(c:yI d n)(e:V x)(i:Nat):mn d ⟨l.set i n,x⟩:=⟨⟨by rw [List.length_set];exact g.1,fun y a=>by
 rcases List.mem_or_eq_of_mem_set a with a|rfl
 ·exact g.2 y a
 exact c⟩,e⟩
theorem Ga {l:List Int}{n m:Nat}(h:xN l n)(a:n≤m):smI m l:=⟨by rw [h.1];exact a,fun y c=>by have:=h.2 y c;exact ko ⟨by omega,by omega⟩⟩
theorem Tr {s:ae}{t:aE}(d:fL s)(h:IR s t):xT 0 t:=by
 obtain ⟨h1,j,f⟩:=h;have k:=d.1;have e:=d.2.1;refine ⟨Ga h1 (by omega),by omega,fun c e=>?_⟩;obtain ⟨i,g,rfl⟩:=List.getElem_of_mem e;have a:i<s.c_.length:=by omega
 exact Ga (f i g a) (by have:=nbc d a;omega)
theorem Wn {s:ae}{t:aE}(h:xP s t):IR s t:=by
 obtain ⟨_,e,f,_,c⟩:=h;refine ⟨⟨e,fun x a=>by have:=f x a;omega⟩,by rcases c with g|g;exact .inl g;exact .inr g.1,fun i j d=>?_⟩;rcases c with g|g
 ·omega
 obtain ⟨c1,c2,_⟩:=g.2 i j d;exact ⟨c1,fun x a=>by have:=c2 x a;omega⟩
theorem HC {s:ae}(a:ba s):Tot (mW s) (xT 0):=by
 rcases (lP (kC a)).cases with ⟨_,h⟩|⟨e,_⟩
 ·rw [Lx a h];exact ar (Tr h Tm)
 unfold mW;rw [e];simp only [sS];exact ar ⟨.nil _,by simp,fun x c=>by cases c⟩
theorem NL {s:ae}{t:aE}{e:cl}{w:Int}(a:ba s)(c:xT 0 t):Tot (pd s t e w) (fun y=>xT 0 y.1):=by
 have d:=c.sml (by omega);rcases (ny a d).cases with ⟨_,h⟩|⟨eP,_⟩
 ·obtain ⟨v,h1,_,f⟩:=Sm (e:=e) (w:=w) a h.1 (Wn h);exact ⟨v,h1,Tr h.1 f⟩
 unfold pd;rw [(EN d).1,eP];simp only [sS];exact ar c
theorem Uo {s:ae}{t:am}{i:Int}{f:aI}{sets:List (List Int)}(e:ba s)(a:mn 0 t)(Z:sets.length≤4)(l:∀x∈sets,AQ x):Tot (vO s t i f sets) (fun y=>mn 0 y.1):=by
 have A:=a.sml (by omega);unfold vO;rw [rT A];simp only [bS];refine ki (wV e A).t (by simp only [sS];exact ar a) (fun F=>?_);simp only [sS];refine lV cz.t (by simp only [sS];exact ar a) (fun G=>?_);simp only [sS];have H:=F.2.1;rw [aP (by omega) (by omega)] at G;obtain ⟨j,rfl⟩:∃j:Nat,i=j:=⟨i.toNat,by omega⟩;have r:j<t.b_.length:=by omega
 have hn:=a.1.2 _ (List.getElem_mem r);rw [aH r];simp only [bS]
 cases t.b_[j].D_ with
 | false=>simp only [sS];exact ar a
 | true =>
 simp only [sS]
 cases ((t.b_[j].m_.g_.length:Int)==0) with
 | true=>simp only [sS];exact ar a
 | false =>
 simp only [sS];refine lV (rj e).t (by simp only [sS];exact ar a) (fun o=>?_);simp only [sS];rw [qK e o];simp only [bS];refine aZ (fun _=>ar a) (fun _=>?_);refine dj (fun k (_:Unit) x=>js sets s t t (j:Int) f k x) sets.length (fun _ _=>True) (fun k _ _=>?_) (fun k _ x c _ hk=>?_) (by omega) (s:=()) trivial
 ·show Tot (js _ _ _ _ _ _ (k+1) _) _;rw [js,if_neg (by simp),aH r];simp only [bS];refine aZ (fun _=>ar a) (fun g=>?_);have g:¬(IntKind.i64.wrap ((t.b_.length:Int)+(sets.length:Int))>31):=by simp at g;omega
  rw [aP (by omega) (by omega)] at g;obtain ⟨g1,g2,g3,u,g5,C,L,M,P⟩:=hn;refine (NV e (u.sml (by omega))).bind fun m q=>?_;rw [PJ (by have:=u.1.1;omega)];simp only [bS];rw [bC (by have:=C.1;simp;omega)];simp only [Option.bind_some,List.nil_append];refine dj (fun p (σ:List au×List Int) x=>jD sets s t.b_[j] (j:Int) t f m ⟨t.b_[j].m_.l_,[]⟩ t.b_[j].c_ t.b_[j] t.b_[j] t p σ.1 σ.2 x) sets.length (fun x σ=>σ.1.length=t.b_.length+x∧σ.2.length=x∧(∀n∈σ.1,yI 0 n)∧∀y∈σ.2,V y) (fun p σ h=>?_) (fun p σ x c h D=>?_) (by omega) (s:=(t.b_,[])) ⟨rfl,rfl,a.1.2,fun x c=>by cases c⟩
  ·obtain ⟨h1,Q,v,w⟩:=h;show Tot (jD _ _ _ _ _ _ _ _ _ _ _ _ (p+1) _ _ _) _;rw [jD,if_neg (by simp),aH (show j<σ.1.length by omega)];simp only [bS];have X:=o.2
   have E:Af (atr s f)≤4:=by
    have:=DZ (Cm o.1 o.2.1);unfold Af;split<;>omega
   have ha:=o.1.1;have vA:V f.q_:=ko ⟨by omega,by omega⟩;have vB:V f.j_:=ko ⟨by omega,by omega⟩;have z:V 0:=ko ⟨by omega,by omega⟩
   have R:yI 0 ⟨false,f,σ.2,m,⟨t.b_[j].m_.l_,[]⟩,0,t.b_[j].c_,t.b_[j].o_,t.b_[j].H_,t.b_[j].F_⟩ :=
    ⟨⟨vA,vB⟩,⟨by show σ.2.length≤_;omega,w⟩,q,⟨u.1,by simp,fun x c=>by cases c⟩,z,C,L,M,P⟩
   exact ar (mn.setN ⟨by omega,v⟩ R a.2 _)
  obtain ⟨h1,Q,v,w⟩:=h;show Tot (jD _ _ _ _ _ _ _ _ _ _ _ _ (p+1) _ _ _) _;rw [jD,if_pos (by simp;omega),bC (by simp;omega)];simp only [bS];rw [aH c];simp only [bS];obtain ⟨y,ey,hy⟩:=HC e;rw [ey];simp only [bS];have d:=l _ (List.getElem_mem c);rw [bC (by have:=d.1;simp;omega)];simp only [Option.bind_some,List.nil_append];rw [bC (by simp;omega),ax (by omega)];simp only [bS];refine D (_,_) ⟨by simp;omega,by simp;omega,fun n hn=>?_,fun y hy=>?_⟩
  ·rcases List.mem_append.1 hn with hn|hn
   ·exact v n hn
   rw [List.mem_singleton.1 hn];have z:V 0:=ko ⟨by omega,by omega⟩;have vj:V (j:Int):=ko ⟨by omega,by omega⟩;exact ⟨⟨z,z⟩,.nil _,z,hy,z,.small d (by omega),tG _,vj,a.2⟩
  rcases List.mem_append.1 hy with hy|hy
  ·exact w y hy
  rw [List.mem_singleton.1 hy];exact ko ⟨by omega,by omega⟩
 show Tot (js _ _ _ _ _ _ (k+1) _) _;rw [js,if_pos (by simp;omega),aH c,ax (by omega)];simp only [bS];have d:=l _ (List.getElem_mem c);refine (wl e (by have:=d.1;omega)).t.bind fun b _=>aZ (fun _=>ar a) (fun _=>hk () trivial)
end Go.Vk
/- Memory and learning: they always answer, and trees stay CT. -/
namespace Go.Vk
theorem Qf {n:au}(h:rg n):T (qD n):=by
 have h1:=h.2.2.2.2.1.2.1;unfold qD;refine aZ (fun _=>bj _) (fun _=>?_);refine dj (ju n) n.m_.g_.length (fun _ _=>True) (fun k s _=>?_) (fun k s i a _ hk=>?_) (by omega) trivial
 ·rw [ju,if_neg (by simp)];exact bj _
 rw [ju,if_pos (by simp;omega),aH a,ax (by omega)];exact hk _ trivial
theorem FN {t:am}(h:iC t):T (lO t):=by
 have h1:=h.1.1;unfold lO;refine dj (gR t) t.b_.length (fun _ _=>True) (fun k s _=>?_) (fun k s i a _ hk=>?_) (by omega) trivial
 ·rw [gR,if_neg (by simp)];exact bj _
 rw [gR,if_pos (by simp;omega),aH a,ax (by omega)];exact (Qf (h.1.2 _ (List.getElem_mem a))).bind fun _ _=>hk _ trivial
theorem Qm {t:am}(h:iC t):T (qv t):=by
 have h1:=h.1.1;unfold qv;refine dj (eG t) t.b_.length (fun _ _=>True) (fun k s _=>?_) (fun k s i a _ hk=>?_) (by omega) trivial
 ·rw [eG,if_neg (by simp)];exact bj _
 rw [eG,if_pos (by simp;omega),aH a,ax (by omega)];exact Tot.bind (P:=fun _=>True) (aZ (fun _=>bj _) (fun _=>bj _)) (fun _ _=>aZ (fun _=>hk _ trivial) (fun _=>hk _ trivial))
theorem VJ {s:ae}{r:bA}{t:am}(a:ba s)(h:iC t):Tot (rZ s r t) (fun b=>b=true→xh s t):=by
 unfold rZ;rcases (wV a h).cases with ⟨e,g⟩|⟨e,_⟩
 ·rw [e];simp only [sS];exact Tot.bind (P:=fun _=>True) ((Bb r).t.bind fun _ _=>bj _) (fun _ _=>Tot.bind (P:=fun _=>True) (aZ (fun _=>(Qm h).bind fun _ _=>bj _) (fun _=>bj _)) (fun _ _=>Tot.bind (P:=fun _=>True) (aZ (fun _=>(FN h).bind fun _ _=>bj _) (fun _=>bj _)) (fun _ _=>ar fun _=>g)))
 rw [e];simp only [sS];exact ar fun h=>by cases h
def Act (t:am)(x:Int):Prop:=∃j:Nat,∃h:j<t.b_.length,x=j∧0<t.b_[j].m_.g_.length
theorem Sl {t:am}(h:iC t):Tot (pu t) (fun l=>l.length≤t.b_.length∧∀x∈l,Act t x):=by
 have h1:=h.1.1;unfold pu;refine dj (gm t) t.b_.length (fun i l=>l.length≤i∧∀x∈l,Act t x) (fun k l a=>?_) (fun k l i c a hk=>?_) (by omega) ⟨by simp,fun x hx=>by cases hx⟩
 ·rw [gm,if_neg (by simp)];exact ar a
 obtain ⟨j,d⟩:=a;rw [gm,if_pos (by simp;omega),aH c,ax (by omega)];simp only [bS];refine Tot.bind (P:=fun u=>u=true→0<t.b_[i].m_.g_.length) (aZ (fun _=>ar (fun h=>by simpa using h)) (fun _=>ar (fun h=>by cases h))) (fun u f=>aZ (fun g=>?_) (fun _=>hk _ ⟨by omega,d⟩));refine (me (by simp;omega)).bind fun m e=>?_;subst e;refine hk _ ⟨by simp;omega,fun x hx=>?_⟩;rcases List.mem_append.1 hx with hx|hx
 ·exact d x hx
 exact ⟨i,c,List.mem_singleton.1 hx,f g⟩
theorem Qu {s:ae}{t:am}(d:ba s)(h:iC t):Tot (sZ s t) (fun v=>v=-1∨Act t v):=by
 have h1:=h.1.1;unfold sZ;rcases (wV d h).cases with ⟨e,_⟩|⟨e,_⟩
 ·rw [e];simp only [sS];refine (Sl h).bind fun l o=>?_;refine dj (kH l t s) l.length (fun _ v=>v=-1∨Act t v) (fun k v a=>?_) (fun k v i m a hk=>?_) (by omega) (.inl rfl)
  ·rw [kH,if_neg (by simp)];exact ar a
  obtain ⟨j,f,ej,p⟩:=o.2 _ (List.getElem_mem m);rw [kH,if_pos (by simp;omega),aH m,ax (by omega)];simp only [bS];refine Tot.bind (P:=fun _=>True) (aZ (fun _=>bj _) (fun g=>?_)) (fun u _=>aZ (fun _=>hk _ (.inr ⟨j,f,ej,p⟩)) (fun _=>hk _ a));rcases a with rfl|⟨q,c,rfl,_⟩
  ·exact absurd (by simp) g
  rw [ej,aH f,aH c];simp only [bS];exact (Ko d (h.1.2 _ (List.getElem_mem f)).2.2.2.2.1).bind fun _ _=>(Ko d (h.1.2 _ (List.getElem_mem c)).2.2.2.2.1).bind fun _ _=>bj _
 rw [e];simp only [sS];exact ar (.inl rfl)
def KJ (n:au):Nat:=if 0<n.m_.g_.length then 1 else 0
theorem Ut:∀(l:List au)(i:Nat)(h:i<l.length)(v:au),KJ l[i]=1→KJ v=0→((l.set i v).map KJ).sum+1=(l.map KJ).sum:=by
 intro l
 induction l with
 | nil=>intro i h;exact absurd h (by simp)
 | cons x l ih =>
  intro i h v h1 a
  cases i with
  | zero =>
   have h1:KJ x=1:=h1;simp only [List.set_cons_zero,List.map_cons,List.sum_cons,a,h1];omega
  | succ i =>
   have:=ih i (by simpa using h) v h1 a;simp only [List.set_cons_succ,List.map_cons,List.sum_cons];omega
theorem Ro {s:ae}{t:am}(q:ba s)(a:mn 0 t)(b:Int):Tot (vy s t b) (fun y=>mn 0 y.1):=by
 have r:=a.sml (by omega);unfold vy;rw [rT r];simp only [bS];rcases (wV q r).cases with ⟨e,_⟩|⟨e,_⟩
 ·rw [e];simp only [sS]
  have key:∀(d k:Nat)(l:List au)(g:List Int),(l.map KJ).sum<d→d≤k→l.length≤40→(∀n∈l,yI 0 n)→g.length+d≤1000→Tot (oS t b s k l g) (fun y=>mn 0 y.1):=by
   intro d
   induction d with
   | zero=>intro k l g h;exact absurd h (by omega)
   | succ d ih =>
    intro k l g h hk i m hg;obtain ⟨k,rfl⟩:=kS k (by omega);have w:mn 0 ⟨l,t.p_⟩:=⟨⟨i,m⟩,a.2⟩;have A:=w.sml (by omega);rw [oS];refine (FN A).bind fun u _=>?_;obtain ⟨v,ev,D⟩:=Qu q A;rw [ev];simp only [bS];refine Tot.bind (P:=fun u=>u=true→0≤v) (aZ (fun _=>ar (fun h=>by simpa using h)) (fun _=>ar (fun h=>by cases h))) (fun u E=>aZ (fun gu=>?_) (fun _=>ar w));have h0:=E gu;rcases D with rfl|⟨j,c,rfl,o⟩
    ·omega
    have c:j<l.length:=c;have o:0<l[j].m_.g_.length:=o;have F:=m _ (List.getElem_mem c);rw [aH c];simp only [bS];obtain ⟨G,H,L,C,g5,M,Q,R,X⟩:=F;rw [PJ (by have:=C.1.1;omega)];simp only [bS];rw [bC (by simp;omega)];simp only [bS];have z:V 0:=ko ⟨by omega,by omega⟩;have hN':yI 0 {l[j] with m_:=⟨l[j].m_.l_,[]⟩,J_:=0}:=⟨G,H,L,⟨C.1,by simp,fun x Z=>by cases Z⟩,z,M,Q,R,X⟩;have p:=Ut l j c {l[j] with m_:=⟨l[j].m_.l_,[]⟩,J_:=0} (by unfold KJ;rw [if_pos o]) rfl;refine ih k _ _ ?_ (by omega) (by rw [List.length_set];exact i) (mn.setN ⟨i,m⟩ hN' z _).1.2 (by simp;omega);exact Nat.le_trans (Nat.le_of_eq p) (by omega)
  have a0:=Oy (f:=KJ) (b:=1) (l:=t.b_) (fun x _=>by unfold KJ;split<;>omega);have:=a.1.1;exact key 41 aY t.b_ [] (by omega) (Nat.le_of_lt (cx (by omega))) a.1.1 a.1.2 (by simp)
 rw [e];simp only [sS];exact ar a
theorem PG {s:ae}{t:am}{e:cl}(f:ba s)(g:xh s t)(h:ExP s e):∀(d i:Nat),i<t.b_.length→rS s t e d i≠[]∧∀x∈rS s t e d i,x<t.b_.length:=by
 intro d
 induction d with
 | zero =>
  intro i a;exact ⟨by simp [rS],fun x hx=>by rw [List.mem_singleton.1 hx];exact a⟩
 | succ d ih =>
  intro i a;unfold rS;split
  ·exact ⟨by simp,fun x hx=>by rw [List.mem_singleton.1 hx];exact a⟩
  rename_i c;rw [EG a] at c;obtain ⟨_,_,j,_⟩:=SH f g h a (by simpa using c);refine ⟨by simp,fun x hx=>?_⟩;rcases List.mem_cons.1 hx with rfl|hx
  ·exact a
  exact (ih _ j).2 x hx
theorem Ul {s:ae}{t:am}{e:cl}(a:ba s)(f:iC t)(c:xh s t)(d:ExP s e):Tot (wc s t e) (fun v=>∃j:Nat,v=j∧j<t.b_.length):=by
 unfold wc uT;rcases (wV a f).cases with ⟨i,_⟩|⟨_,g⟩
 ·rcases (CJ (kC a)).cases with ⟨k,_⟩|⟨_,g⟩
  ·rw [i,k,(VF a c d).1];simp only [sS];have l:=c.2.1;obtain ⟨p1,p2⟩:=PG a c d 32 0 (by omega);have p:=Iv (s:=s) (t:=t) (e:=e) 32 0;have q:(BI (rS s t e 32 0)).length=(rS s t e 32 0).length:=by simp [BI]
   have r:(rS s t e 32 0).length≠0:=fun h=>p1 (List.length_eq_zero_iff.1 h);rw [if_neg (by rw [beq_iff_eq];omega),aP (by omega) (by omega)];refine (ga ⟨by omega,by omega⟩).bind fun v m=>ar ?_;obtain ⟨x,o,rfl⟩:=List.mem_map.1 m.1;exact ⟨x,rfl,p2 x o⟩
  exact absurd d g
 exact absurd c g
theorem OG {s:ae}{r:bA}{t:am}{e:cl}{w k:Int}{tape:bp}(d:ba s)(l:mn 0 t)(a:tape.v_.length≤1048576):Tot (pU s r t e w tape k) (fun y=>mn 0 y.1∧y.2.1.v_.length≤1048576):=by
 have A:=l.sml (by omega);unfold pU;rw [rT A,gQ a];refine ki (VJ d A) (by simp only [sS];exact ar ⟨l,a⟩) (fun G=>?_);simp only [sS];refine lV (CJ (kC d)).t (by simp only [sS];exact ar ⟨l,a⟩) (fun Q=>?_);simp only [sS];refine Tot.bind (P:=fun _=>True) (aZ (fun _=>bj _) (fun _=>cz.t.bind fun _ _=>bj _)) (fun u _=>?_);refine Tot.bind (P:=fun _=>True) (aZ (fun _=>bj _) (fun _=>(Du _).t.bind fun _ _=>bj _)) (fun u2 _=>?_);refine Tot.bind (P:=fun u=>u=false→1≤k∧k≤s.c_.length) (aZ (fun _=>ar (fun h=>by cases h)) (fun _=>cz.t.bind fun b a=>ar (fun g=>a (by simpa using g)))) (fun u3 hk=>aZ (fun _=>ar ⟨l,a⟩) (fun g=>?_));have hk:=hk (by simpa using g);obtain ⟨k,rfl⟩:∃q:Nat,k=q:=⟨k.toNat,by omega⟩;refine (Ul d A G Q).bind fun v R=>?_;obtain ⟨j,rfl,D⟩:=R;have m:=l.1.2 _ (List.getElem_mem D);rw [aH D];simp only [bS];refine Tot.bind (P:=fun _=>True) (aZ (fun _=>bj _) (fun _=>(GZ d (m.2.2.2.1.sml (by omega))).bind fun _ _=>bj _)) (fun u _=>aZ (fun _=>ar ⟨l,a⟩) (fun _=>?_));rw [FZ (m.sml (by omega))];simp only [bS];refine (NL d m.2.2.2.1).bind fun y X=>?_
 have key:∀(c:Int)(q:Bool),V c→Tot (jb t (j:Int) tape t.b_[j] y t s r (k:Int) c q) (fun y=>mn 0 y.1∧y.2.1.v_.length≤1048576):=by
  intro c q Z;obtain ⟨g1,g2,g3,g4,g5,g6,g7,g8,g9⟩:=m;have H:yI 0 {t.b_[j] with m_:=y.1,J_:=c}:=⟨g1,g2,g3,X,Z,g6,g7,g8,g9⟩;have E:mn 0 ⟨t.b_.set (j:Int).toNat {t.b_[j] with m_:=y.1,J_:=c},IntKind.i64.wrap (t.p_+1)⟩:=mn.setN l.1 H (tG _) _;unfold jb;rw [aH D,gQ a];simp only [bS];refine aZ (fun _=>ar ⟨E,a⟩) (fun _=>(UL d (H.sml (by omega))).bind fun f _=>?_);obtain ⟨n,eB,a8⟩:=RC d f.1;rw [eB];simp only [bS];refine Tot.bind (P:=fun _=>True) (aZ (fun _=>bj _) (fun _=>bj _)) (fun u _=>aZ (fun _=>ar ⟨E,a⟩) (fun _=>?_));refine dj (fun o (σ:List (List Int)×List Int×Int) i=>gS s f (k:Int) t tape t (j:Int) t.b_[j] y c r o σ.1 σ.2.1 σ.2.2 i) n (fun i σ=>σ.1.length=i∧(∀x∈σ.1,AQ x)∧σ.2.1.length≤1048576) (fun o σ h=>?_) (fun o σ i hi h L=>?_) (by omega) (s:=([],tape.v_,tape.j_)) ⟨rfl,(fun x hx=>by cases hx),a⟩
  ·obtain ⟨h1,p,F⟩:=h;show Tot (gS _ _ _ _ _ _ _ _ _ _ _ (o+1) _ _ _ _) _;rw [gS,eB];simp only [bS];rw [if_neg (by simp)];exact (Uo d E (by omega) p).bind fun y2 p=>(Ro d p _).bind fun y3 h4=>ar ⟨h4,F⟩
  obtain ⟨h1,p,F⟩:=h;show Tot (gS _ _ _ _ _ _ _ _ _ _ _ (o+1) _ _ _ _) _;rw [gS,eB];simp only [bS];rw [if_pos (by simp;omega),rT A,gQ a];have hS:=G.1.1;refine (Kv (t:=⟨σ.2.1,σ.2.2⟩) (n:=s.c_.length) (k:=k) F (by omega) (by omega)).bind fun y4 C=>aZ (fun _=>ar ⟨l,a⟩) (fun _=>?_);refine (me (by simp;omega)).bind fun l3 M=>?_;subst M;rw [ax (by omega)];refine L (_,_,_) ⟨by simp;omega,fun x hx=>?_,C.1⟩;rcases List.mem_append.1 hx with hx|hx
  ·exact p x hx
  rw [List.mem_singleton.1 hx];exact C.2
 exact aZ (fun _=>aZ (fun _=>key _ _ (ko ⟨by omega,by omega⟩)) (fun _=>key _ _ (tG _))) (fun _=>key _ _ m.2.2.2.2.1)
end Go.Vk
