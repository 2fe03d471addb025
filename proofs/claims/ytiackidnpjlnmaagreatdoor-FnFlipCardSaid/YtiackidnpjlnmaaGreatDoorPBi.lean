/- Subsets by their rank: alike. -/
import Derived.Test.YtiackidnpjlnmaaGreatDoorRX
import Derived.Test.YtiackidnpjlnmaaGreatDoorPTr
import Derived.Test.YtiackidnpjlnmaaGreatDoorVkBr
namespace Go.Vk
def ch:Nat→Nat→Nat
 | _,0=>1
 | 0,_+1=>0
 | n+1,k+1=>ch n k+ch n (k+1)
theorem Gt (n:Nat):ch n 0=1:=by cases n<;>rfl
theorem MM:∀{n k:Nat},n<k→ch n k=0
 | 0,k+1,_=>rfl
 | n+1,k+1,h=>by
  show ch n k+ch n (k+1)=0;rw [MM (by omega),MM (by omega)]
theorem OL:∀n:Nat,ch n n=1
 | 0=>rfl
 | n+1=>by
  show ch n n+ch n (n+1)=1;rw [OL n,MM (by omega)]
theorem Dg:∀n k:Nat,ch n k≤2^n
 | n,0=>by rw [Gt];exact Nat.one_le_two_pow
 | 0,k+1=>by simp [ch]
 | n+1,k+1=>by
  show ch n k+ch n (k+1)≤2^(n+1);have h1:=Dg n k;have a:=Dg n (k+1);rw [Nat.pow_succ];omega
theorem Gs:∀n k:Nat,ch (n+1) (k+1)*(k+1)=(n+1)*ch n k
 | 0,0=>rfl
 | 0,k+1=>by
  show (ch 0 (k+1)+ch 0 (k+2))*_=_;simp [ch]
 | n+1,0=>by
  have h:=Gs n 0;show (ch (n+1) 0+ch (n+1) 1)*1=_;have h:ch (n+1) 1*1=(n+1)*ch n 0:=h;rw [Gt] at h ⊢;omega
 | n+1,j+1=>by
  have h1:=Gs n j;have e:=Gs n (j+1);have f:ch (n+1) (j+1)=ch n j+ch n (j+1):=rfl;show (ch (n+1) (j+1)+ch (n+1) (j+2))*(j+2)=(n+2)*ch (n+1) (j+1);generalize ch (n+1) (j+2)=c at *
  generalize ch n j=a at *
  generalize ch n (j+1)=b at *
  generalize ch (n+1) (j+1)=d at *
  subst f;rw [Nat.add_mul _ _ (j+2)];have g:(a+b)*(j+2)=(a+b)*(j+1)+(a+b):=Nat.mul_succ _ _;have i:c*(j+2)=(n+1)*b:=e;have l:(n+2)*(a+b)=(n+1)*(a+b)+(a+b):=Nat.succ_mul _ _;have m:(n+1)*(a+b)=(n+1)*a+(n+1)*b:=Nat.mul_add _ _ _;omega
theorem TE {n k:Nat} (h:k≤n):ch n (k+1)*(k+1)=ch n k*(n-k):=by
 have h1:=Gs n k;have a:ch (n+1) (k+1)=ch n k+ch n (k+1):=rfl;rw [a,Nat.add_mul] at h1;have c:ch n k*(n-k)+ch n k*(k+1)=ch n k*(n+1):=by rw [←Nat.mul_add];congr 1;omega
 rw [Nat.mul_comm (n+1)] at h1;omega
def Dm (n k:Int):Nat:=if (0≤n∧n≤20)∧0≤k∧k≤n then ch n.toNat k.toNat else 0
theorem HI {n:Nat} (h:n≤20):2^n≤1048576:=by
 have:(2:Nat)^n≤2^20:=Nat.pow_le_pow_right (by omega) h;omega
theorem NR (n k:Int):Dm n k≤1048576:=by
 unfold Dm;split
 ·exact Nat.le_trans (Dg _ _) (HI (by omega))
 omega
theorem OO (n k:Int):ua n k=some (Dm n k:Int):=by
 unfold ua Dm;rcases (eW (x:=n) (a:=0) (b:=20)).cases with ⟨e,c⟩|⟨e,c⟩
 ·rw [e];simp only [sS];rcases (eW (x:=k) (a:=0) (b:=n)).cases with ⟨e,hk⟩|⟨e,hk⟩
  ·rw [e,if_pos ⟨c,hk⟩];simp only [sS];obtain ⟨m,rfl⟩:∃m:Nat,n=m:=⟨n.toNat,by omega⟩;obtain ⟨j,rfl⟩:∃j:Nat,k=j:=⟨k.toNat,by omega⟩;simp only [Int.toNat_natCast]
   have h:=tE (Lp:=fun q i=>iE (j:Int) (m:Int) q (i:Int) ((ch m i:Nat):Int)) (n:=j) (fin:=some ((ch m j:Nat):Int)) (fun q=>by
    show iE (j:Int) (m:Int) (q+1) _ _=_
    rw [iE,if_neg (by simp)]) (fun q i hi=>by
    show iE (j:Int) (m:Int) (q+1) _ _=iE (j:Int) (m:Int) q _ _;have h1:=Nat.le_trans (Dg m i) (HI (by omega));have d:=TE (n:=m) (k:=i) (by omega);have o:ch m i*(m-i)≤1048576*20:=Nat.mul_le_mul h1 (by omega);have f:IntKind.i64.wrap ((m:Int)-(i:Int))=((m-i:Nat):Int):=by rw [aR (by omega) (by omega)];omega
    have l:IntKind.i64.wrap (((ch m i:Nat):Int)*((m-i:Nat):Int))=((ch m i*(m-i):Nat):Int):=by rw [←Int.natCast_mul,gh (by omega)]
    rw [iE,if_pos (by simp;omega),f,l,ax (by omega)];unfold quo;rw [if_neg (by omega),xV,←d,Nat.mul_div_cancel _ (by omega)];have p:=Nat.le_trans (Dg m (i+1)) (HI (by omega));rw [gh (by omega)];rfl) (by omega)
   rw [Gt] at h;exact h
  rw [e,if_neg (fun g=>hk g.2)];rfl
 rw [e,if_neg (fun g=>c g.1)];rfl
theorem Gp (n k:Int):oy n k=some (Dm n k:Int):=by
 unfold oy Dm;rcases (cE (x:=n) (a:=0) (b:=20)).cases with ⟨e,o⟩|⟨e,o⟩
 ·rw [e];simp only [sS];rcases (cE (x:=k) (a:=0) (b:=n)).cases with ⟨e,hk⟩|⟨e,hk⟩
  ·rw [e,if_pos ⟨o,hk⟩];simp only [sS];obtain ⟨m,rfl⟩:∃m:Nat,n=m:=⟨n.toNat,by omega⟩;obtain ⟨j,rfl⟩:∃j:Nat,k=j:=⟨k.toNat,by omega⟩;simp only [Int.toNat_natCast];refine tE (Lp:=fun q i=>ep (m:Int) (j:Int) q ((List.range (i+1)).map fun x=>((ch i x:Nat):Int)) (i:Int)) (n:=m) (fun q=>?_) (fun q i hi=>?_) (by omega)
   ·show ep (m:Int) (j:Int) (q+1) _ _=_;rw [ep,if_neg (by simp),aH (by simp;omega)];simp
   show ep (m:Int) (j:Int) (q+1) _ _=ep (m:Int) (j:Int) q _ _;rw [ep,if_pos (by simp;omega)];generalize f:((List.range (i+1)).map fun x=>((ch i x:Nat):Int))=row;have p:row.length=i+1:=by rw [←f];simp
   have l:∀x (h:x<row.length),row[x]=((ch i x:Nat):Int):=fun x h=>by
    have h':x<i+1:=by omega
    subst f;simp
   have key:∀(d c x:Nat),i+1-x=d→d<c→1≤x→x≤i+1→lE row (ep (m:Int) (j:Int) q) (i:Int) c ((List.range x).map fun y=>((ch (i+1) y:Nat):Int)) (x:Int)=ep (m:Int) (j:Int) q ((List.range (i+2)).map fun x=>((ch (i+1) x:Nat):Int)) ((i+1:Nat):Int):=by
    intro d
    induction d with
    | zero =>
     intro c x r s h1 t;obtain ⟨c,rfl⟩:∃y,c=y+1:=⟨c-1,by omega⟩;obtain rfl:x=i+1:=by omega
     rw [lE,if_neg (by simp;omega),bo (by simp;omega),ax (by omega)];simp only [bS];rw [List.range_succ (n:=i+1),List.map_append];simp [OL]
    | succ d ih =>
     intro c x r s h1 t;obtain ⟨c,rfl⟩:∃y,c=y+1:=⟨c-1,by omega⟩;obtain ⟨z,rfl⟩:∃z,x=z+1:=⟨x-1,by omega⟩;have v:=Nat.le_trans (Dg i z) (HI (by omega));have w:=Nat.le_trans (Dg i (z+1)) (HI (by omega));have u:IntKind.i64.wrap (((z+1:Nat):Int)-1)=(z:Int):=by rw [aR (by omega) (by omega)];omega
     rw [lE,if_pos (by simp;omega),u,aH (by omega:z<row.length),aH (by omega:z+1<row.length),l,l];simp only [bS];rw [bo (by simp;omega),ax (by omega),aR (by omega) (by omega)];simp only [bS];have:=ih c (z+2) (by omega) (by omega) (by omega) (by omega);rw [←this,List.range_succ (n:=z+1),List.map_append];rfl
   have:=key i bb 1 (by omega) (cN (by omega)) (Nat.le_refl _) (by omega);rw [←this];simp [List.range_succ,Gt]
  rw [e,if_neg (fun g=>hk g.2)];rfl
 rw [e,if_neg (fun g=>o g.1)];rfl
def Aw (l:List Int):Prop:=l.length≤20∧∀x∈l,0≤x∧x≤20
theorem Mu {n k:Nat} {r:Int} (L:n≤20) (hk:k≤20) (f:0≤r∧r≤1048576):vQ (oh n k r) (Bj n k r) Aw:=by
 unfold oh Bj;have M:=NR n k;rw [Gp,OO];simp only [bS];rw [aR (by omega) (by omega)];refine Lg cE eW (fun c=>?_) (fun _=>yq ⟨by simp,fun x j=>by cases j⟩);simp only [sS]
 have F:k≤n:=by
  unfold Dm at c;by_cases h:(0≤(n:Int)∧(n:Int)≤20)∧0≤(k:Int)∧(k:Int)≤n
  ·omega
  rw [if_neg h] at c;omega
 have hin':r<(ch n k:Nat):=by
  unfold Dm at c;rw [if_pos ⟨by omega,by omega⟩] at c;simp only [Int.toNat_natCast] at c;omega
 have key:∀(d q q' x:Nat) (r:Int) (l:List Int),n-x=d→d<q→d<q'→x≤n→l.length≤k→0≤r→r<(ch (n-x) (k-l.length):Nat)→(∀y∈l,0≤y∧y≤20)→vQ (jY k n q r l x) (lA k n q' r l x) Aw:=by
  intro d
  induction d with
  | zero =>
   intro q q' x r l m u hq' j o p f e;obtain ⟨q,rfl⟩:∃y,q=y+1:=⟨q-1,by omega⟩;obtain ⟨q',rfl⟩:∃y,q'=y+1:=⟨q'-1,by omega⟩
   have s:l.length=k:=by
    by_cases h:l.length<k
    ·rw [m,MM (by omega)] at f;omega
    omega
   rw [jY,lA,if_neg (by simp;omega),if_neg (by simp;omega)];exact yq ⟨by omega,e⟩
  | succ d ih =>
   intro q q' x r l m u hq' j o p f e;obtain ⟨q,rfl⟩:∃y,q=y+1:=⟨q-1,by omega⟩;obtain ⟨q',rfl⟩:∃y,q'=y+1:=⟨q'-1,by omega⟩;rw [jY,lA];by_cases s:l.length<k
   ·rw [if_pos (by simp;omega),if_pos (by simp;omega),Gp,OO];simp only [bS]
    have v:IntKind.i64.wrap (IntKind.i64.wrap ((n:Int)-(x:Int))-1)=((n-x-1:Nat):Int):=by
     rw [aR (n:=(n:Int)-(x:Int)) (by omega) (by omega),aR (by omega) (by omega)];omega
    have w:IntKind.i64.wrap (IntKind.i64.wrap ((k:Int)-(l.length:Int))-1)=((k-l.length-1:Nat):Int):=by
     rw [aR (n:=(k:Int)-(l.length:Int)) (by omega) (by omega),aR (by omega) (by omega)];omega
    rw [v,w];obtain ⟨a,A⟩:∃a,n-x=a+1:=⟨n-x-1,by omega⟩;obtain ⟨b,i⟩:∃b,k-l.length=b+1:=⟨k-l.length-1,by omega⟩;have ha':n-x-1=a:=by omega
    have hb':k-l.length-1=b:=by omega
    have C:ch (n-x) (k-l.length)=ch a b+ch a (b+1):=by rw [A,i];rfl
    have D:Dm (a:Int) (b:Int)=ch a b:=by
     unfold Dm;by_cases G:b≤a
     ·rw [if_pos ⟨by omega,by omega⟩];simp
     rw [if_neg (by omega),MM (by omega)]
    rw [ha',hb',D];rw [C] at f;have H:=Nat.le_trans (Dg a b) (HI (by omega));have E:=Nat.le_trans (Dg a (b+1)) (HI (by omega));refine Ks Iff.rfl (fun g=>?_) (fun g=>?_)
    ·have g:r<(ch a b:Nat):=by simpa using g
     rw [bo (by simp;omega),ax (by omega)];simp only [bS];refine ih q q' (x+1) r _ (by omega) (by omega) (by omega) (by omega) (by simp;omega) p ?_ (fun y t=>?_)
     ·rw [show n-(x+1)=a by omega,show k-(l++[(x:Int)]).length=b by simp;omega];exact g
     rcases List.mem_append.1 t with h|h
     ·exact e y h
     rw [List.mem_singleton.1 h];omega
    have g:¬r<(ch a b:Nat):=by simpa using g
    rw [ax (by omega),aR (by omega) (by omega)];refine ih q q' (x+1) _ l (by omega) (by omega) (by omega) (by omega) o (by omega) ?_ e;rw [show n-(x+1)=a by omega,i];omega
   rw [if_neg (by simp;omega),if_neg (by simp;omega)];exact yq ⟨by omega,e⟩
 exact key n bb bb 0 r [] (by omega) (cN (by omega)) (cN (by omega)) (by omega) (by simp) c.1 (by simpa using hin') (fun y e=>by cases e)
end Go.Vk
/- A new state: alike. -/
namespace Go.Vk
def Ko (s:ae):aE:=⟨List.replicate s.g_.length 0,s.c_.map fun a=>List.replicate (nb a*s.g_.length) 0⟩
theorem KA {s:ae} (d:bi s) (c:fV s):ls s=some (Ko s):=by
 unfold ls;have o:=c.2.1;rcases (mH (la d)).cases with ⟨e,_⟩|⟨_,g⟩
 ·rw [e];simp only [sS];rw [OT _ (by omega)];simp only [sS];refine pz (p:=s.c_) (fun a=>List.replicate (nb a*s.g_.length) (0:Int)) (lx s (List.replicate s.g_.length 0)) (fun l=>some ⟨List.replicate s.g_.length 0,l⟩) (fun k l=>?_) (fun k l i h hi=>?_) (by have:=c.1;omega)
  ·rw [lx,if_neg (by simp)]
  have f:=d.1.2 _ (List.getElem_mem h);have j:=Co (c.attr h);have q:nb s.c_[i]*s.g_.length≤4*3:=Nat.mul_le_mul (by omega) (by omega);have m:=c.1;rw [lx,if_pos (by simp;omega),aH h,ax (by omega)];simp only [sS];rw [ut f (c.attr h)];simp only [sS];rw [←Int.natCast_mul,gh (by omega),OT _ (by omega)];simp only [sS];rw [bo (by simp;omega)];rfl
 exact absurd c g
theorem MS {α:Type} {f:α→Nat} {b:Nat} {l:List α} (h:∀x∈l,f x≤b):(l.map f).sum≤b*l.length:=by
 induction l with
 | nil=>simp
 | cons x l ih =>
  have h1:=h x (by simp);have c:=ih (fun y a=>h y (by simp [a]));simp only [List.map_cons,List.sum_cons,List.length_cons,Nat.mul_succ];omega
end Go.Vk
/- Examples: tested alike. -/
namespace Go.Vk
def ExP (s:ae) (e:bW):Prop:=fV s∧e.M_.length=s.c_.length∧(-1≤e.S_∧e.S_≤(s.g_.length:Int)-1) ∧
 ∀i,0≤i→i<e.M_.length→∃n:Nat,∃h:i<s.c_.length,lF s.c_[i]=some (n:Int)∧n≤4∧∀a:i<e.M_.length,-1≤e.M_[i]∧e.M_[i]≤(n:Int)-1
theorem Nc {s:ae} {e:bW} (d:OkS s) (l:fV s) (p:e.M_.length=s.c_.length):Dec (pK e s bb 0) (∀i,0≤i→i<e.M_.length→∃n:Nat,∃h:i<s.c_.length,lF s.c_[i]=some (n:Int)∧n≤4∧∀q:i<e.M_.length,-1≤e.M_[i]∧e.M_[i]≤(n:Int)-1):=by
 refine pI (Lp:=pK e s) (n:=e.M_.length) 0 (fun k i hi=>?_) (fun k i _ hi=>?_) (by have:=d.1;omega)
 ·show (if _ then _ else _)=_;rw [if_neg (by simp;omega)]
 have a:i<s.c_.length:=by omega
 obtain ⟨n,m,f,_,o⟩:=Kl (d.2.1 _ (List.getElem_mem a)) (l.2.2.2 i (Nat.zero_le _) a a).1;rw [pK,if_pos (by simp;omega),aH hi,aH a,ax (by have:=d.1;omega)];simp only [bS];rw [m];simp only [bS];rw [aR (by omega) (by omega)];unfold aV;simp only [bS];by_cases c : -1≤e.M_[i]∧e.M_[i]≤(n:Int)-1
 ·rw [qq c];exact .inl ⟨⟨n,a,f,o,fun _=>c⟩,rfl⟩
 rw [ra c];exact .inr ⟨fun ⟨n',_,j,_,g⟩=>c (by rw [f] at j;have:=Option.some.inj j;rw [this];exact g hi),rfl⟩
theorem MP {s:ae} {e:bW} (d:OkS s) (l:fV s) (o:e.M_.length=s.c_.length):Dec (sf e s bb 0) (∀i,0≤i→i<e.M_.length→∃n:Nat,∃h:i<s.c_.length,lF s.c_[i]=some (n:Int)∧n≤4∧∀p:i<e.M_.length,-1≤e.M_[i]∧e.M_[i]≤(n:Int)-1):=by
 refine pI (Lp:=sf e s) (n:=e.M_.length) 0 (fun k i hi=>?_) (fun k i _ hi=>?_) (by have:=d.1;omega)
 ·show (if _ then _ else _)=_;rw [if_neg (by simp;omega)]
 have a:i<s.c_.length:=by omega
 obtain ⟨n,q,f,_,m⟩:=Kl (d.2.1 _ (List.getElem_mem a)) (l.2.2.2 i (Nat.zero_le _) a a).1;rw [sf,if_pos (by simp;omega),aH hi,aH a,ax (by have:=d.1;omega)];simp only [bS];rw [f];simp only [bS];rw [aR (by omega) (by omega)];unfold bf;simp only [bS];by_cases c : -1≤e.M_[i]∧e.M_[i]≤(n:Int)-1
 ·rw [qq c];exact .inl ⟨⟨n,a,f,m,fun _=>c⟩,rfl⟩
 rw [ra c];exact .inr ⟨fun ⟨n',_,j,_,g⟩=>c (by rw [f] at j;have:=Option.some.inj j;rw [this];exact g hi),rfl⟩
theorem Bv {s:ae} {e:bW} (d:OkS s):Dec (ro s e) (ExP s e):=by
 unfold ro ExP;rcases (mH d).cases with ⟨f,h⟩|⟨f,h⟩
 ·rw [f];unfold aV;simp only [Option.bind_some,Bool.not_true,Bool.false_or];by_cases a:e.M_.length=s.c_.length
  ·rw [if_neg (by simp [a])];simp only [bS];rw [aR (by omega) (by have:=d.2.2.1;omega)];by_cases c : -1≤e.S_∧e.S_≤(s.g_.length:Int)-1
   ·rw [qq c];simp only [Bool.not_true,Bool.false_eq_true,if_false];exact (Nc d h a).of_iff ⟨fun g=>⟨h,a,c,g⟩,fun g=>g.2.2.2⟩
   rw [ra c];exact bY fun g=>c g.2.2.1
  rw [if_pos (by simp;omega)];exact bY fun g=>a g.2.1
 rw [f];exact bY fun g=>h g.1
theorem VK {s:ae} {e:bW} (d:OkS s):Dec (EC s e) (ExP s e):=by
 unfold EC ExP;rcases (oV d).cases with ⟨f,h⟩|⟨f,h⟩
 ·rw [f];unfold bf;simp only [Option.bind_some,Bool.not_true,Bool.false_or];by_cases a:e.M_.length=s.c_.length
  ·rw [if_neg (by simp [a])];simp only [bS];rw [aR (by omega) (by have:=d.2.2.1;omega)];by_cases c : -1≤e.S_∧e.S_≤(s.g_.length:Int)-1
   ·rw [qq c];simp only [Bool.not_true,Bool.false_eq_true,if_false];exact (MP d h a).of_iff ⟨fun g=>⟨h,a,c,g⟩,fun g=>g.2.2.2⟩
   rw [ra c];exact bY fun g=>c g.2.2.1
  rw [if_pos (by simp;omega)];exact bY fun g=>a g.2.1
 rw [f];exact bY fun g=>h g.1
end Go.Vk
/- Entries: what the tests say. -/
namespace Go.Vk
end Go.Vk
/- The path of an example: alike. -/
namespace Go.Vk
def GY (t:ao) (i:Nat):aA:=t.a_.getD i default
theorem Dw {t:ao} {i:Nat} (h:i<t.a_.length):GY t i=t.a_[i]:=by unfold GY;simp [h]
def AY (l:List Nat):List Int:=l.map (fun (i:Nat)=>(i:Int))
def JG (s:ae) (n:aA) (e:bW):Int :=
 let b:=e.M_.getD n.n_.p_.toNat 0
 if 0≤b then IM (atr s n.n_) n.n_ b else n.J_
def nxt (s:ae) (t:ao) (e:bW) (i:Nat):Nat:=((GY t i).z_.getD (JG s (GY t i) e).toNat 0).toNat
def rC (s:ae) (t:ao) (e:bW):Nat→Nat→List Nat
 | 0,i=>[i]
 | d+1,i=>if (GY t i).A_=true then [i] else i::rC s t e d (nxt s t e i)
theorem Vb {s:ae} {f:aB} (_:us s f) {b:Int} (a:0≤b∧b≤(nb (atr s f):Int)-1):0≤IM (atr s f) f b∧IM (atr s f) f b≤(brN s f:Int)-1:=by
 unfold IM brN;split
 ·omega
 split<;>split<;>omega
theorem QI {s:ae} {f:aB} {e:bW} (i:bi s) (g:ExP s e) (h:us s f):∃b,idx e.M_ f.p_=some b∧b=e.M_.getD f.p_.toNat 0∧-1≤b∧b≤(nb (atr s f):Int)-1:=by
 obtain ⟨a,j,ea,et⟩:=DU h.2.1;have c:a<e.M_.length:=by have:=g.2.1;omega
 obtain ⟨n,h1,k,_,d⟩:=g.2.2.2 a (Nat.zero_le _) c
 have l:nb s.c_[a]=n:=by
  have:=wx (i.1.2 _ (List.getElem_mem j));rw [k] at this;have:=Option.some.inj this;omega
 have d:=d c;rw [ea,et,l,aH c,Int.toNat_natCast,xa c];exact ⟨_,rfl,rfl,d.1,d.2⟩
theorem Uo {s:ae} {t:ao} {n:aA} {i:Nat} {e:bW} (c:bi s) (d:ExP s e) (h:Nv s t i n):∃k:Nat,JG s n e=k∧k<n.z_.length:=by
 obtain ⟨b,_,f,h1,g⟩:=QI c d h.1;unfold JG;rw [←f];have hk:=h.2.1;have j:=h.2.2.1;by_cases a:0≤b
 ·have:=Vb h.1 ⟨a,g⟩;show ∃k:Nat,(if 0≤b then _ else _)=(k:Int)∧_;rw [if_pos a];exact ⟨(IM (atr s n.n_) n.n_ b).toNat,by omega,by omega⟩
 show ∃k:Nat,(if 0≤b then _ else _)=(k:Int)∧_;rw [if_neg a];exact ⟨n.J_.toNat,by omega,by omega⟩
theorem Tf {s:ae} {t:ao} {e:bW} (d:bi s) (f:wa s t) (g:ExP s e) {i:Nat} (hi:i<t.a_.length) (h:t.a_[i].A_=false):∃(k:Nat) (hk:k<t.a_[i].z_.length) (q:nxt s t e i<t.a_.length),JG s t.a_[i] e=k∧t.a_[i].z_[k]=(nxt s t e i:Int)∧i<nxt s t e i∧t.a_[nxt s t e i].F_=i:=by
 have c:=(f.2.2.2 i hi hi).1.2.2.2.2.2 h;obtain ⟨k,hk,a⟩:=Uo d g c;obtain ⟨m,j,h1,l,o⟩:=c.2.2.2.2.2.2 _ (List.getElem_mem a)
 have p:nxt s t e i=m:=by
  unfold nxt;rw [Dw hi,hk,Int.toNat_natCast,xa a,h1,Int.toNat_natCast]
 rw [p];exact ⟨k,a,j,hk,h1,l,o⟩
theorem Pm {s:ae} {t:ao} {e:bW} (g:bi s) (o:wa s t) (v:ExP s e):∀(d k k' i:Nat) (pre:List Int),t.a_.length-i≤d→d<k→d<k'→i<t.a_.length→pre.length≤i →
  mh t e s k pre (i:Int)=some (pre++AY (rC s t e d i))∧nv t e s k' (pre++[(i:Int)])=some (pre++AY (rC s t e d i),false):=by
 intro d;have D:=o.2.1
 induction d with
 | zero=>intro k k' i pre h1 E F Q;omega
 | succ d ih =>
  intro k k' i pre h1 E F hi R;obtain ⟨k,rfl⟩:=kS k (by omega);obtain ⟨k',rfl⟩:∃q,k'=q+1:=⟨k'-1,by omega⟩
  have h:idx (pre++[(i:Int)]) (IntKind.i64.wrap (((pre++[(i:Int)]).length:Int)-1))=some (i:Int):=by
   rw [show ((pre++[(i:Int)]).length:Int)-1=(pre.length:Int) by simp,aR (by omega) (by omega),aH (by simp)];simp
  rw [mh,nv,h];simp only [bS];rw [aH hi];simp only [sS,rC];rw [Dw hi];cases w:t.a_[i].A_
  ·simp only [sS];obtain ⟨j,p,G,f,hk,M,_⟩:=Tf g o v hi w;have r:=(o.2.2.2 i hi hi).1.2.2.2.2.2 w;obtain ⟨b,H,x,P,m⟩:=QI g v r.1;rw [bo (by simp;omega),H];simp only [sS];have c:JG s t.a_[i] e=if 0≤b then IM (atr s t.a_[i].n_) t.a_[i].n_ b else t.a_[i].J_:=by rw [x];rfl
   obtain ⟨u,A⟩:=ih k k' (nxt s t e i) (pre++[(i:Int)]) (by omega) (by omega) (by omega) G (by simp;omega);have l:pre++[(i:Int)]++AY (rC s t e d (nxt s t e i))=pre++AY (i::rC s t e d (nxt s t e i)):=by simp [AY]
   rw [l] at u A
   have C:∀q:Int,q=JG s t.a_[i] e→rK t.a_[i] (pre++[(i:Int)]) (nv t e s k') q=some (pre++AY (i::rC s t e d (nxt s t e i)),false):=fun q L=>by
    unfold rK;rw [L,f,aH p,hk];simp only [sS];rw [bo (by simp;omega)];exact A
   by_cases a:0≤b
   ·rw [if_pos (by simpa using a),if_pos (by simpa using a),Dc g r.1 ⟨a,m⟩,KP g r.1 ⟨a,m⟩];rw [if_pos a] at c;simp only [sS];rw [←c,f,aH p,hk];simp only [sS];exact ⟨u,by rw [←f];exact C _ rfl⟩
   rw [if_neg (by simpa using a),if_neg (by simpa using a)];rw [if_neg a] at c;rw [←c,f,aH p,hk];simp only [sS];exact ⟨u,by rw [←f];exact C _ rfl⟩
  simp only [sS];rw [bo (by simp;omega)];exact ⟨rfl,rfl⟩
theorem UT {s:ae} {t:ao} {e:bW} (c:bi s) (a:wa s t) (d:ExP s e):yt s t e=some (AY (rC s t e 32 0))∧Lb s t e=some (AY (rC s t e 32 0),false):=by
 have f:=a.2.1;obtain ⟨h1,g⟩:=Pm c a d 32 bb bb 0 [] (by omega) (cN (by omega)) (cN (by omega)) (by omega) (Nat.le_refl _);exact ⟨h1,g⟩
theorem HD {s:ae} {t:ao} {e:bW}:∀d i,(rC s t e d i).length≤d+1
 | 0,i=>by simp [rC]
 | d+1,i=>by
  have:=HD (s:=s) (t:=t) (e:=e) d (nxt s t e i);simp only [rC];split
  ·simp
  simp only [List.length_cons];omega
end Go.Vk
/- An example added: alike. -/
namespace Go.Vk
theorem DY {t:aE} (h:hY t):ux t=some t∧uG t=some t:=by
 have h1:=h.1.1;have c:=h.2.1;unfold ux uG iT zr;rw [bo (by simp;omega)];simp only [sS,List.nil_append];constructor
 ·have g:=pz (p:=t.d_) (fun x=>x) (nr t t.j_) (fun l=>some (aE.mk t.j_ l)) (fun k l=>by rw [nr,if_neg (by simp)]) (fun k l i hi a=>by
   have:=(h.2.2 _ (List.getElem_mem hi)).1;rw [nr,if_pos (by simp;omega),aH hi,ax (by omega)];simp only [sS];rw [bo (by simp;omega)];simp only [sS];rw [bo (by simp;omega)];rfl) (by omega)
  simpa using g
 have g:=pz (p:=t.d_) (fun x=>x) (lR t.d_) some (fun k l=>by rw [lR,if_neg (by simp)]) (fun k l i hi a=>by
  have:=(h.2.2 _ (List.getElem_mem hi)).1;rw [lR,if_pos (by simp;omega),aH hi,ax (by omega)];unfold iT;simp only [sS];rw [bo (by simp;omega)];simp only [sS];rw [bo (by simp;omega)];rfl) (by omega)
 rw [g];simp
def wL (l:List Int) (n:Nat):Prop:=l.length=n∧∀x∈l,0≤x∧x≤2000
theorem Fd {l:List Int} {n i:Nat} {v:Int} (h:wL l n) (c:0≤v∧v≤2000):wL (l.set i v) n:=by
 refine ⟨by simp [h.1],fun x a=>?_⟩;rcases List.mem_or_eq_of_mem_set a with a|rfl
 ·exact h.2 x a
 exact c
theorem EY {l:List Int} {n:Nat} (h:wL l n) (c:n≤1000):pF l:=⟨by rw [h.1];omega,fun x a=>by have:=h.2 x a;omega⟩
def QO (s:ae) (l:List (List Int)):Prop:=(l.length=0∨l.length=s.c_.length)∧∀i (h:i<l.length) (a:i<s.c_.length),wL l[i] (nb s.c_[i]*s.g_.length)
def Hp (s:ae) (t:aE):Prop:=wL t.j_ s.g_.length∧QO s t.d_
theorem nbc {s:ae} (a:fV s) {i:Nat} (h:i<s.c_.length):nb s.c_[i]*s.g_.length≤12:=by
 have h1:=(Co (a.attr h)).2;have c:s.g_.length≤3:=by have:=a.2.1;omega
 calc _≤4*3:=Nat.mul_le_mul h1 c
  _=12:=rfl
theorem Sy {s:ae} {t:aE} (d:bi s) (c:fV s) (h:Hp s t):hY t:=by
 have f:s.g_.length≤3:=by have:=c.2.1;omega
 have j:=d.1.1;refine ⟨EY h.1 (by omega),by rcases h.2.1 with g|g<;>omega,fun x e=>?_⟩;obtain ⟨i,hi,rfl⟩:=List.getElem_of_mem e;have a:i<s.c_.length:=by rcases h.2.1 with g|g<;>omega
 exact EY (h.2.2 i hi a) (by have:=nbc c a;omega)
theorem Sd {s:ae}:Hp s (Ko s):=by
 have a:∀n,wL (List.replicate n 0) n:=fun n=>⟨by simp,fun x c=>by rw [List.eq_of_mem_replicate c];omega⟩;refine ⟨a _,.inr (by simp [Ko]),fun i h d=>?_⟩;simp only [Ko,List.getElem_map];exact a _
theorem Og {b n c k:Nat} (a:b<n) (hk:k<c):b*c+k<n*c:=by
 calc b*c+k<b*c+c:=by omega
  _=(b+1)*c:=by rw [Nat.add_mul,Nat.one_mul]
  _≤n*c:=Nat.mul_le_mul_right c a
theorem Sq {s:ae} {t:aE} {e:bW} {w:Int} (f:bi s) (L:fV s) (p:Hp s t):vQ (mN s t e w) (Bm s t e w) (fun y=>Hp s y.1):=by
 have r:=Sy f L p;obtain ⟨c1,c2⟩:=DY r;unfold mN Bm;rw [c1,c2];simp only [bS];have bad:vQ (some (t,false)) (some (t,false)) (fun y:aE×Bool=>Hp s y.1):=yq p;refine Lg (nE f r) (IV f r) (fun u=>?_) (fun _=>by simp only [sS];exact bad);simp only [sS];rw [←((Bv (e:=e) (la f)).eq (VK (la f)))];rcases (Bv (e:=e) (la f)).cases with ⟨M,P⟩|⟨M,_⟩
 ·rw [M];simp only [sS];obtain ⟨a4,a5⟩:=P.2.2.1;by_cases Z:e.S_<0
  ·rw [show (decide (e.S_<0))=true by simpa using Z,show (e.S_ == -1)=true by simp;omega];simp only [sS];exact bad
  rw [show (decide (e.S_<0))=false by simpa using Z,show (e.S_ == -1)=false by simp;omega];simp only [sS];rw [←((cE (x:=w) (a:=1) (b:=7)).eq eW)];rcases (cE (x:=w) (a:=1) (b:=7)).cases with ⟨Q,hw⟩|⟨Q,_⟩
  ·rw [Q];simp only [sS];have a6:=KD L u.2.1 u.2.2.1;rw [El f r u,Hh (fun x hx=>by have:=u.2.2.1 x hx;omega) r.1.1];simp only [sS];obtain ⟨c,v⟩:∃c:Nat,e.S_=c:=⟨e.S_.toNat,by omega⟩;have D:c<s.g_.length:=by omega
   have E:c<t.j_.length:=by rw [p.1.1];exact D
   refine Ks Iff.rfl (fun _=>bad) (fun _=>?_);rw [v,aH E];simp only [sS];have hx:0≤t.j_[c]∧t.j_[c]≤999:=u.2.2.1 _ (List.getElem_mem E);have hT:wL (t.j_.set c (IntKind.i64.wrap (t.j_[c]+w))) s.g_.length:=Fd p.1 (by rw [aR (by omega) (by omega)];omega);have a8:=r.2.1
   refine QX (fun k l i=>ke t e s w t.j_[c] k l i) (fun k l i=>lB t e s w t.j_[c] k l i) t.d_.length
    (fun i a b=>b=a∧a.length=t.d_.length∧QO s a∧∀j (h:j<a.length) (m:j<t.d_.length),i≤j→a[j]=t.d_[j]) (fun k a b h=>?_) (fun k a b i hi h hk=>?_) (by omega) ⟨rfl,rfl,p.2,fun j h m _=>rfl⟩
   ·obtain ⟨rfl,h1,m,_⟩:=h;rw [ke,lB,if_neg (by simp),if_neg (by simp),v];exact yq ⟨hT,m⟩
   obtain ⟨rfl,h1,m,R⟩:=h;have A:i<b.length:=by omega
   have o:i<s.c_.length:=by have:=p.2.1;omega
   have C:i<e.M_.length:=by rw [P.2.1];exact o
   have d:=m.2 i A o;rw [ke,lB,if_pos (by simp;omega),if_pos (by simp;omega),aH C,aH A,ax (by omega)];simp only [sS];refine Ks Iff.rfl (fun F=>?_) (fun _=>hk _ _ ⟨rfl,h1,m,fun j h h' X=>R j h h' (by omega)⟩);have F:0≤e.M_[i]:=by simpa using F
   obtain ⟨n,a9,a1,b2,G⟩:=P.2.2.2 i (Nat.zero_le _) C
   have hn:nb s.c_[i]=n:=by
    have:=wx (f.1.2 _ (List.getElem_mem o));rw [a1] at this;have:=Option.some.inj this;omega
   have G:=(G C).2;obtain ⟨q,hq⟩:∃q:Nat,e.M_[i]=q:=⟨e.M_[i].toNat,by omega⟩;have H:q*s.g_.length+c<b[i].length:=by rw [d.1,hn];exact Og (by omega) D
   have b3:=nbc L o;have b4:=d.1;have b5:q*s.g_.length≤12:=by omega
   have a2:b[i]=t.d_[i]:=R i A hi (Nat.le_refl _)
   have a3:∀x∈b[i],0≤x∧x≤999:=by
    rw [a2];rcases u.2.2.2.2 with g|⟨_,g⟩
    ·omega
    exact (g i hi o).2.1
   rw [hq,v,←Int.natCast_mul,gh (by omega),←Int.natCast_add,gh (by omega),aH H];simp only [sS];have hv:=a3 _ (List.getElem_mem H);refine hk _ _ ⟨rfl,by simpa using h1,⟨?_,fun j h h'=>?_⟩,fun j h h' X=>?_⟩
   ·simpa using m.1
   ·simp only [List.getElem_set,Int.toNat_natCast];split
    ·rename_i X;subst X;exact Fd d (by rw [aR (by omega) (by omega)];omega)
    exact m.2 j (by simpa using h) h'
   simp only [List.getElem_set,Int.toNat_natCast];rw [if_neg (by omega)];exact R j (by simpa using h) h' (by omega)
  rw [Q];simp only [sS];exact bad
 rw [M];simp only [sS];exact bad
end Go.Vk
/- Natural numbers, fractions: they always answer. -/
namespace Go.Vk
abbrev T {α:Type} (o:Option α):Prop:=Tot o (fun _=>True)
theorem bj {α:Type} (v:α):T (some v):=am trivial
theorem Dec.t {o:Option Bool} {P:Prop} (h:Dec o P):Tot o (fun b=>b=true→P):=by
 obtain ⟨b,h1,a⟩:=h;exact ⟨b,h1,a.1⟩
theorem kj {ρ:Type} {o:Option Bool} {P:Prop} (h:Tot o (fun b=>b=true→P)) {g:Bool→Option ρ} {Q:ρ→Prop} (a:Tot (g false) Q) (c:P→Tot (g true) Q):Tot (o.bind g) Q:=by
 obtain ⟨b,rfl,d⟩:=h;cases b
 ·exact a
 exact c (d rfl)
theorem lO {ρ:Type} {o:Option Bool} {P:Prop} (h:Tot o (fun b=>b=true→P)) {f:Bool→Option ρ} {Q:ρ→Prop} (a:Tot (f true) Q) (c:P→Tot (f false) Q):Tot ((o.bind fun y=>some (!y)).bind f) Q:=by
 obtain ⟨b,rfl,d⟩:=h;cases b
 ·exact a
 exact c (d rfl)
theorem AI (p:List Int):Tot (nN p) (fun b=>b=true→p.length≤16):=by
 unfold nN;refine aD (fun _=>am (by simp)) (fun h=>?_);have h:p.length≤16:=by simp at h;omega
 refine cz (fun k (_:Unit) i=>lm p k i) p.length (fun _ _=>True) (fun k _ _=>?_) (fun k _ i hi _ hk=>?_) (by omega) (s:=()) trivial
 ·show Tot (lm p (k+1) _) _;rw [lm,if_neg (by simp)];refine Tot.bind (P:=fun _=>True) (aD (fun _=>am trivial) (fun a=>?_)) (fun _ _=>am (fun _=>h));have a:p.length≠0:=by simpa using a
  rw [aR (by omega) (by omega)];exact (gb ⟨by omega,by omega⟩).bind fun _ _=>am trivial
 show Tot (lm p (k+1) _) _;rw [lm,if_pos (by simp;omega),aH hi,ax (by omega)];simp only [bS];refine kj cE.t (by simp only [sS];exact am (by simp)) (fun _=>?_);simp only [sS];exact hk () trivial
theorem SR {p:List Int} (d:p.length≤1000):Tot (ug p) (fun l=>l.length≤p.length):=by
 unfold ug
 have key:∀(n k:Nat),n≤p.length→n<k→Tot (nk p k (n:Int)) (fun l=>l.length≤p.length):=by
  intro n
  induction n with
  | zero =>
   intro k c hk;obtain ⟨k,rfl⟩:=kS k (by omega);rw [nk,if_neg (by simp)];simp only [sS];refine (pH ⟨by omega,by omega,by omega⟩).bind fun l a=>?_;subst a;refine (qa (by simp)).bind fun l a=>am ?_;subst a;simp
  | succ n ih =>
   intro k c hk;obtain ⟨k,rfl⟩:=kS k (by omega);rw [nk,if_pos (by simp),aR (by omega) (by omega),show ((n+1:Nat):Int)-1=(n:Int) by omega,aH (show n<p.length by omega)];simp only [sS];refine aD (fun _=>ih k (by omega) (by omega)) (fun _=>?_);refine (pH ⟨by omega,by omega,by omega⟩).bind fun l a=>?_;subst a;refine (qa (by simp;omega)).bind fun l a=>am ?_;subst a;simp;omega
 exact key p.length bb (Nat.le_refl _) (cN (by omega))
theorem Ah (a b:List Int):Tot (nK a b) (fun y=>y.1.length≤16):=by
 unfold nK;have bad:Tot (some (([]:List Int),false)) (fun y=>y.1.length≤16):=am (by simp);refine kj (AI a) (by simp only [sS];exact bad) (fun o=>?_);simp only [sS];refine lO (AI b) (by simp only [sS];exact bad) (fun p=>?_);simp only [sS];rw [aR (n:=(a.length:Int)+b.length) (by omega) (by omega),aR (by omega) (by omega)];refine (KM ⟨by omega,by omega⟩).bind fun l d=>?_;subst d;refine cz (kH a b) a.length (fun _ l=>l.length=a.length+b.length+1) (fun k l d=>?_) (fun k l i hi d hk=>?_) (by omega) (by simp;omega)
 ·rw [kH,if_neg (by simp)];refine (SR (by omega)).bind fun f m=>aD (fun _=>bad) (fun h=>am ?_);simp at h;show f.length≤16;omega
 rw [kH,if_pos (by simp;omega)];refine cz (fun c (σ:List Int×Int) j=>kC b i a (kH a b k) c σ.1 σ.2 j) b.length (fun _ σ=>σ.1.length=a.length+b.length+1) (fun c σ hσ=>?_) (fun c σ j g hσ e=>?_) (by omega) (s:=(l,0)) d
 ·show Tot (kC _ _ _ _ (c+1) _ _ _) _;rw [kC,if_neg (by simp),aR (n:=(i:Int)+b.length) (by omega) (by omega),show (i:Int)+(b.length:Int)=((i+b.length:Nat):Int) by omega,aH (show i+b.length<σ.1.length by omega),ax (by omega)];simp only [bS];exact hk _ (by simpa using hσ)
 show Tot (kC _ _ _ _ (c+1) _ _ _) _;rw [kC,if_pos (by simp;omega),aR (n:=(i:Int)+j) (by omega) (by omega),show (i:Int)+(j:Int)=((i+j:Nat):Int) by omega,aH (show i+j<σ.1.length by omega),aH hi,aH g,ax (i:=j) (by omega)];simp only [bS];exact e (_,_) (by simpa using hσ)
theorem Ng (p:List Int) {i:Int} (h:0≤i):T (ry p i):=by
 unfold ry;exact aD (fun g=>(gb ⟨h,by simpa using g⟩).bind fun _ _=>bj _) (fun _=>bj _)
theorem HJ (a b:List Int):T (rB a b):=by
 unfold rB;refine kj (AI a) (by simp only [sS];exact bj _) (fun e=>?_);simp only [sS];refine lO (AI b) (by simp only [sS];exact bj _) (fun f=>?_);simp only [sS]
 have c:Tot (yI (a.length:Int) b.length) (fun m=>∃n:Nat,m=n∧n≤16):=by
  unfold yI;exact aD (fun _=>am ⟨_,rfl,by omega⟩) (fun _=>am ⟨_,rfl,by omega⟩)
 refine c.bind fun m c=>?_;obtain ⟨n,rfl,d⟩:=c;rw [aR (by omega) (by omega)]
 have key:∀(n k:Nat),n≤16→n<k→T (nz a b k ((n:Int)-1)):=by
  intro n
  induction n with
  | zero =>
   intro k _ hk;obtain ⟨k,rfl⟩:=kS k (by omega);rw [nz,if_neg (by simp)];exact bj _
  | succ n ih =>
   intro k d hk;obtain ⟨k,rfl⟩:=kS k (by omega);rw [show ((n+1:Nat):Int)-1=(n:Int) by omega,nz,if_pos (by simp),aR (by omega) (by omega)];refine (Ng a (by omega)).bind fun _ _=>(Ng b (by omega)).bind fun _ _=>?_;exact aD (fun _=>bj _) (fun _=>aD (fun _=>bj _) (fun _=>ih k (by omega) (by omega)))
 exact key n bb d (cN (by omega))
theorem SH (a b:List Int):T (xr a b):=by
 unfold xr;refine kj (AI a) (by simp only [sS];exact bj _) (fun d=>?_);simp only [sS];refine lO (AI b) (by simp only [sS];exact bj _) (fun e=>?_);simp only [sS];refine Tot.bind (P:=fun _=>True) ((HJ a b).bind fun _ _=>bj _) (fun u _=>aD (fun _=>bj _) (fun _=>?_));refine cz (fun k (σ:List Int×Int) i=>hZ a b k σ.1 σ.2 i) a.length (fun i σ=>σ.1.length=i) (fun k σ h=>?_) (fun k σ i hi h hk=>?_) (by omega) (s:=([],0)) rfl
 ·show Tot (hZ _ _ (k+1) _ _ _) _;rw [hZ,if_neg (by simp)];exact (SR (by omega)).bind fun _ _=>bj _
 show Tot (hZ _ _ (k+1) _ _ _) _;rw [hZ,if_pos (by simp;omega),aH hi];simp only [bS];refine (Ng b (by omega)).bind fun _ _=>?_;unfold ph;rw [ax (by omega)];refine aD (fun _=>?_) (fun _=>?_)
 ·exact (qa (by simp;omega)).bind fun l c=>hk (_,_) (by subst c;simp;omega)
 exact (qa (by simp;omega)).bind fun l c=>hk (_,_) (by subst c;simp;omega)
theorem Ow {n:Int} (h:n≤9223372036854775807):T (wd n):=by
 unfold wd;refine aD (fun _=>bj _) (fun a=>?_);have a:0≤n:=by simpa using a
 have key:∀(d k:Nat) (n:Int) (l:List Int),0≤n→n<(16777216:Int)^d→d≤3→d<k→l.length+d≤100→T (ol k n l):=by
  intro d
  induction d with
  | zero =>
   intro k n l a h1 _ hk j;obtain ⟨k,rfl⟩:=kS k (by omega);rw [Int.pow_zero] at h1;rw [ol,if_neg (by simp;omega)];exact bj _
  | succ d ih =>
   intro k n l a h1 o hk j;obtain ⟨k,rfl⟩:=kS k (by omega);rw [Int.pow_succ] at h1;rw [ol];refine aD (fun _=>(qa (by simp;omega)).bind fun p c=>?_) (fun _=>bj _);subst c
   have e:(16777216:Int)^d≤16777216^2:=by
    rcases (show d=0∨d=1∨d=2 by omega) with rfl|rfl|rfl<;>decide
   have f:(16777216:Int)^2=281474976710656:=by decide
   rw [f] at e;have m:Int.tdiv n 16777216=n / 16777216:=Int.tdiv_eq_ediv_of_nonneg a;have g:0≤n / 16777216:=by omega
   have i:n / 16777216<16777216^d:=by
    generalize (16777216:Int)^d=z at h1 e;omega
   rw [m,aR (by omega) (by omega)];exact ih k _ _ g i (by omega) (by omega) (by simp;omega)
 exact key 3 bb n [] a (by have:(16777216:Int)^3=4722366482869645213696:=(by decide);omega) (by omega) (cN (by omega)) (by simp)
theorem zb {a b:Int} (c:a≤9223372036854775807) (d:b≤9223372036854775807):T (kn a b):=by
 unfold kn;exact (Ow c).bind fun _ _=>(Ow d).bind fun _ _=>(Ah _ _).bind fun _ _=>bj _
def Sb (f:bT):Prop:=(0≤f.G_∧f.G_≤4000000000000000)∧1≤f.X_∧f.X_≤4000000000000000
theorem ye (f:bT):Dec (mD f) (Sb f):=by
 unfold mD Sb;simp only [tP];exact TY cE fun _=>cE
theorem yo (a b:bT):T (mB a b):=by
 unfold mB;refine kj (ye a).t (by simp only [sS];exact bj _) (fun c=>?_);simp only [sS];refine lO (ye b).t (by simp only [sS];exact bj _) (fun d=>?_);simp only [sS];have:=c.1;have:=c.2;have:=d.1;have:=d.2;exact (zb (by omega) (by omega)).bind fun _ _=>(zb (by omega) (by omega)).bind fun _ _=>(HJ _ _).bind fun _ _=>bj _
theorem OZ (a b:bT):T (vx a b):=by
 unfold vx;refine kj (ye a).t (by simp only [sS];exact bj _) (fun c=>?_);simp only [sS];refine lO (ye b).t (by simp only [sS];exact bj _) (fun d=>?_);simp only [sS];have:=c.1;have:=c.2;have:=d.1;have:=d.2;refine Tot.bind (P:=fun _=>True) ((yo a b).bind fun _ _=>bj _) (fun u _=>aD (fun _=>bj _) (fun _=>?_));exact (zb (by omega) (by omega)).bind fun _ _=>(zb (by omega) (by omega)).bind fun _ _=>(SH _ _).bind fun _ _=>(zb (by omega) (by omega)).bind fun _ _=>bj _
theorem Wy {a b:Int} (s:0≤a) (t:1≤b) (m:b≤4000000000000000):Tot (Di a b) (fun g=>1≤g):=by
 unfold Di;rw [if_neg (by simp;omega)]
 have key:∀(d k a b:Nat),1≤a+b→b<2^d→2*d+1<k→Tot (oY k (a:Int) (b:Int)) (fun g=>1≤g):=by
  intro d
  induction d with
  | zero =>
   intro k a b h1 f hk;obtain ⟨k,rfl⟩:=kS k (by omega);rw [oY,if_neg (by simp;omega)];exact am (by omega)
  | succ d ih =>
   intro k a b h1 f hk;obtain ⟨k,rfl⟩:∃q,k=q+2:=⟨k-2,by omega⟩;rw [oY];refine aD (fun c=>?_) (fun c=>am (by simp at c;omega));have c:0<b:=by simp at c;omega
   have h:rem (a:Int) (b:Int)=some ((a%b:Nat):Int):=by
    unfold rem;rw [if_neg (by omega),Int.tmod_eq_emod_of_nonneg (by omega)];rfl
   rw [h];simp only [bS];have i:=Nat.mod_lt a c;generalize a%b=r at i;rw [oY];refine aD (fun e=>?_) (fun _=>am (by omega));have e:0<r:=by simp at e;omega
   have j:rem (b:Int) (r:Int)=some ((b%r:Nat):Int):=by
    unfold rem;rw [if_neg (by omega),Int.tmod_eq_emod_of_nonneg (by omega)];rfl
   rw [j];simp only [bS];have o:=Nat.mod_lt b e;have l:1≤b / r:=Nat.div_pos (by omega) e;have u:=Nat.div_add_mod b r;have p:r≤r*(b / r):=Nat.le_mul_of_pos_right _ l;refine ih k r (b%r) (by omega) ?_ (by omega);rw [Nat.pow_succ] at f;omega
 have:=key 60 bb a.toNat b.toNat (by omega) (by have:(2:Nat)^60=1152921504606846976:=(by decide);omega) (cN (by omega));rw [show ((a.toNat:Nat):Int)=a by omega,show ((b.toNat:Nat):Int)=b by omega] at this;exact this
theorem QY {k:IntKind} {x y:Int} (h:y≠0):T (quo k x y):=by
 unfold quo;rw [if_neg h];exact bj _
theorem PL (f:bT):T (vm f):=by
 unfold vm;refine kj (ye f).t (by simp only [sS];exact bj _) (fun h=>?_);simp only [sS];have:=h.1;have:=h.2;exact (Wy (by omega) (by omega) (by omega)).bind fun g a=>(QY (by omega)).bind fun _ _=>(QY (by omega)).bind fun _ _=>bj _
theorem Oq {l:List Int} (h:l.length≤1048576):T (nH l):=by
 unfold nH;refine cz (nj l) l.length (fun _ _=>True) (fun k s _=>?_) (fun k s i hi _ hk=>?_) (by omega) trivial
 ·rw [nj,if_neg (by simp)];exact bj _
 rw [nj,if_pos (by simp;omega),aH hi,ax (by omega)];exact hk _ trivial
theorem JB (l:List Int):T (su l):=by
 unfold su;refine aD (fun _=>bj _) (fun h=>?_);have h:l.length≤3:=by simp at h;omega
 refine cz (mc l) l.length (fun _ _=>True) (fun k s _=>?_) (fun k s i hi _ hk=>?_) (by omega) trivial
 ·rw [mc,if_neg (by simp)];exact bj _
 rw [mc,if_pos (by simp;omega),aH hi,ax (by omega)];simp only [bS];refine kj cE.t (by simp only [sS];exact bj _) (fun _=>?_);simp only [sS];exact hk _ trivial
end Go.Vk
/- Merits of forks: they always answer. -/
namespace Go.Vk
theorem JI {s:ae} {t:aE} {f:aB} (h:bi s) (E:hY t) (i:Int):Tot (mv s t f i) (fun l=>l.length=0∨l.length=s.g_.length∧fV s):=by
 unfold mv;have bad:Tot (some ([]:List Int)) (fun l=>l.length=0∨l.length=s.g_.length∧fV s):=am (.inl rfl);refine kj (nE h E).t (by simp only [sS];exact bad) (fun u=>?_);simp only [sS];by_cases x:t.d_.length=0
 ·rw [show ((t.d_.length:Int)==0)=true by simpa using x];simp only [sS];exact bad
 rw [show ((t.d_.length:Int)==0)=false by simpa using x];simp only [sS];refine lO (po h).t (by simp only [sS];exact bad) (fun v=>?_);simp only [sS];rw [pU h v];simp only [bS];refine lO cE.t (by simp only [sS];exact bad) (fun _=>?_);simp only [sS];have m:=u.1;have H:=m.2.1;refine (KM ⟨by omega,by omega⟩).bind fun p c=>?_;have c:p.length=s.g_.length:=by rw [c];simp
 obtain ⟨a,d,ea,et⟩:=DU v.2.1;have A:=h.1.2 _ (List.getElem_mem d);have L:=Co (m.attr d);have M:t.d_.length=s.c_.length:=by rcases u.2.2.2.2 with g|g;omega;exact g.1
 have q:Ih s.g_.length (nb s.c_[a]) t.j_ t.d_[a]:=by
  rcases u.2.2.2.2 with g|g
  ·omega
  exact g.2 a (by omega) d
 refine cz (fun k (l:List Int) b=>dJ s f i p t k b l) (nb s.c_[a]) (fun _ l=>l.length=s.g_.length) (fun k l r=>?_) (fun k l b F r hk=>?_) (by omega) c
 ·show Tot (dJ _ _ _ _ _ (k+1) _ _) _;rw [dJ,ea,aH d];simp only [bS];rw [ut A (m.attr d)];simp only [bS];rw [if_neg (by simp)];exact am (.inr ⟨r,m⟩)
 show Tot (dJ _ _ _ _ _ (k+1) _ _) _;rw [dJ,ea,aH d];simp only [bS];rw [ut A (m.attr d)];simp only [bS];rw [if_pos (by simp;omega),Dc h v (b:=(b:Int)) ⟨by omega,by rw [et];omega⟩,ax (by omega)];simp only [bS];refine aD (fun _=>?_) (fun _=>hk _ r);refine cz (fun o (e:List Int) j=>fh p t f b s (dJ s f i p t k) o j e) s.g_.length (fun _ e=>e.length=s.g_.length) (fun o e w=>?_) (fun o e j G w C=>?_) (by omega) r
 ·show Tot (fh _ _ _ _ _ _ (o+1) _ _) _;rw [fh,c,if_neg (by simp),ax (by omega)];exact hk _ w
 show Tot (fh _ _ _ _ _ _ (o+1) _ _) _
 have P:b*s.g_.length≤12:=by
  calc b*s.g_.length≤4*3:=Nat.mul_le_mul (by omega) (by omega)
   _=12:=rfl
 have D:b*s.g_.length+j<t.d_[a].length:=by rw [q.1];exact Og F G
 rw [fh,c,if_pos (by simp;omega),aH (show j<e.length by omega),ea,aH (show a<t.d_.length by omega)];simp only [bS];rw [←Int.natCast_mul,gh (by omega),←Int.natCast_add,gh (by omega),aH D,ax (by omega)];simp only [bS];exact C _ (by simpa using w)
theorem OB {s:ae} {t:aE} {f:aB} (e:bi s) (u:hY t):T (vX s t f):=by
 unfold vX;refine kj (nE e u).t (by simp only [sS];exact bj _) (fun M=>?_);simp only [sS];by_cases w:t.d_.length=0
 ·rw [show ((t.d_.length:Int)==0)=true by simpa using w];simp only [sS];exact bj _
 rw [show ((t.d_.length:Int)==0)=false by simpa using w];simp only [sS];refine lO (po e).t (by simp only [sS];exact bj _) (fun r=>?_);simp only [sS];have a0:=M.1.2.1;refine (KM ⟨by omega,by omega⟩).bind fun A m=>?_;have m:A.length=s.g_.length:=by rw [m];simp
 have a1:=LY r;refine cz (fun k (σ:List Int×List Int×List Int) i=>ja s f t k i σ.1 σ.2.1 σ.2.2) (brN s f) (fun i σ=>σ.1.length=s.g_.length∧σ.2.2.length=σ.2.1.length∧σ.2.1.length≤i∧∀x∈σ.2.1,0<x) (fun k σ h=>?_) (fun k σ i hi h hk=>?_) (by omega) (s:=(A,[],[])) ⟨m,rfl,by simp,fun x hx=>by cases hx⟩
 ·obtain ⟨h1,C,D,p⟩:=h;show T (ja s f t (k+1) _ _ _ _);rw [ja,pU e r];simp only [bS];rw [if_neg (by simp)];refine (Oq (by omega)).bind fun y _=>aD (fun _=>bj _) (fun _=>?_);refine cz (ou σ.2.1 σ.2.2 y σ.1) σ.2.1.length (fun _ _=>True) (fun P z _=>?_) (fun P z j c _ E=>?_) (by omega) trivial
  ·rw [ou,if_neg (by simp)];refine cz (oe σ.2.1 σ.2.2 z y σ.1) σ.2.1.length (fun _ _=>True) (fun Q v _=>?_) (fun Q v j c _ F=>?_) (by omega) trivial
   ·rw [oe,if_neg (by simp)];exact (JB _).bind fun _ _=>(PL _).bind fun _ _=>bj _
   rw [oe,if_pos (by simp;omega),aH (show j<σ.2.2.length by omega),aH c,ax (by omega)];simp only [bS];have:=p _ (List.getElem_mem c);exact (QY (by omega)).bind fun _ _=>F _ trivial
  rw [ou,if_pos (by simp;omega),aH c,ax (by omega)];exact E _ trivial
 obtain ⟨h1,C,D,p⟩:=h;show T (ja s f t (k+1) _ _ _ _);rw [ja,pU e r];simp only [bS];rw [if_pos (by simp;omega)];refine (JI e u _).bind fun y R=>?_;have a2:y.length≤s.g_.length:=by rcases R with g|g<;>omega
 refine cz (fun o (d:List Int) j=>ll y σ.2.1 σ.2.2 (ja s f t k) i o j d) y.length (fun _ d=>d.length=s.g_.length) (fun o d a=>?_) (fun o d j c a G=>?_) (by omega) h1
 ·show T (ll _ _ _ _ _ (o+1) _ _);rw [ll,if_neg (by simp),ax (by omega)];obtain ⟨v,X,_⟩:=Oq (l:=y) (by omega);rw [X];simp only [bS];refine aD (fun Z=>?_) (fun _=>hk (_,_,_) ⟨a,C,Nat.le_succ_of_le D,p⟩);refine (qa (by simp;omega)).bind fun l3 H=>(JB _).bind fun q _=>(qa (by simp;omega)).bind fun l4 L=>?_;subst H L;refine hk (_,_,_) ⟨a,by simp;omega,by simp;omega,fun x hx=>?_⟩;rcases List.mem_append.1 hx with hx|hx
  ·exact p x hx
  rw [List.mem_singleton.1 hx];simpa using Z
 show T (ll _ _ _ _ _ (o+1) _ _);rw [ll,if_pos (by simp;omega),aH (show j<d.length by omega),aH c,ax (by omega)];simp only [bS];exact G _ (by simpa using a)
theorem Qe {s:ae} (c:fV s) {a:Int} (d:0≤a∧a≤(s.c_.length:Int)-1):Af s [a]:=by
 refine ⟨c,by simp,fun i _ hi h=>?_⟩;have:i=0:=by simp at hi;omega
 subst this;exact ⟨d,fun g=>absurd g (by omega)⟩
theorem Um {s:ae} {a:Int} {two:Bool} (r:bi s) (u:fV s) (C:0≤a∧a≤(s.c_.length:Int)-1):Tot (qI s [a] two) (fun l=>1≤l.length∧l.length≤10):=by
 unfold qI;rcases (sW (l:=[a]) r (by simp)).cases with ⟨e,_⟩|⟨_,g⟩
 ·rw [e];simp only [sS];obtain ⟨j,rfl⟩:∃j:Nat,a=j:=⟨a.toNat,by omega⟩;have q:j<s.c_.length:=by omega
  refine cz (fq [(j:Int)] s two) 1 (fun i l=>i≤l.length∧l.length≤5*i) (fun k l h=>?_) (fun k l i hi h hk=>?_) (by omega) ⟨by simp,by simp⟩
  ·rw [fq,if_neg (by simp)];exact am (by omega)
  have:i=0:=by omega
  subst this;have D:l=[]:=List.length_eq_zero_iff.1 (by omega);subst D;have E:idx [(j:Int)] ((0:Nat):Int)=some (j:Int):=by rw [aH (by simp)];rfl
  rw [fq,if_pos (by simp),E];simp only [bS];rw [aH q];simp only [bS];refine aD (fun _=>?_) (fun _=>?_)
  ·rw [bo (by simp),ax (by omega)];simp only [bS];refine hk _ ?_;simp
  have v:us s ⟨(j:Int),0⟩:=by
   have L:=Co (u.attr q);refine ⟨u,by show 0≤(j:Int)∧(j:Int)≤_;omega,?_⟩
   have w:atr s ⟨(j:Int),0⟩=s.c_[j]:=by
    obtain ⟨i,hi,h1,c⟩:=DU (s:=s) (f:=⟨(j:Int),0⟩) (by show 0≤(j:Int)∧(j:Int)≤_;omega);have:j=i:=by have h1:(j:Int)=i:=h1;omega
    subst this;exact c
   show -1≤(0:Int)∧(0:Int)≤zH (atr s ⟨(j:Int),0⟩);rw [w];unfold zH;split<;>omega
  refine cz (fun o d m=>fm [(j:Int)] (0:Nat) s (fq [(j:Int)] s two k) o d m) 4 (fun m d=>d.length≤m∧(1≤m→1≤d.length)) (fun o d c=>?_) (fun o d m H c p=>?_) (by omega) (s:=[]) ⟨by simp,fun h=>absurd h (by omega)⟩
  ·show Tot (fm _ _ _ _ (o+1) _ _) _;rw [fm,if_neg (by simp),ax (by omega)];have:=c.2 (by omega);exact hk _ ⟨by omega,by omega⟩
  show Tot (fm _ _ _ _ (o+1) _ _) _;have F:idx [(j:Int)] ((0:Nat):Int)=some (j:Int):=by rw [aH (by simp)];rfl
  rw [fm,if_pos (by simp;omega),F,ax (by omega)];simp only [bS];by_cases G:m=0
  ·subst G;rcases (po (f:=⟨(j:Int),0⟩) r).cases with ⟨e,_⟩|⟨_,g⟩
   ·have x:=c.1;rw [show ((0:Nat):Int)=(0:Int) from rfl,e];simp only [bS];have A:d=[]:=List.length_eq_zero_iff.1 (by omega);subst A;rw [if_pos trivial,bo (by simp)];simp only [bS];exact p _ ⟨by simp,fun _=>by simp⟩
   exact absurd v g
  have h1:=c.2 (by omega);have x:=c.1;refine (Dec.t (po (f:=⟨(j:Int),(m:Int)⟩) r)).bind fun b _=>aD (fun _=>?_) (fun _=>p _ ⟨by omega,fun _=>h1⟩);rw [bo (by simp;omega)];simp only [bS];exact p _ ⟨by simp;omega,fun _=>by simp⟩
 exact absurd (Qe u C) g
theorem Rf {s:ae} {t:aE} {a:Int} {two:Bool} (f:bi s) (g:hY t):T (wM s t a two):=by
 unfold wM;refine kj (nE f g).t (by simp only [sS];exact bj _) (fun h=>?_);simp only [sS];by_cases j:t.d_.length=0
 ·rw [show ((t.d_.length:Int)==0)=true by simpa using j];simp only [sS];exact bj _
 rw [show ((t.d_.length:Int)==0)=false by simpa using j];simp only [sS];refine lO cE.t (by simp only [sS];exact bj _) (fun o=>?_);simp only [sS];have u:=h.1.1;rw [aR (by omega) (by omega)] at o;refine (Um f h.1 o).bind fun l v=>?_;have p:0<l.length:=by omega
 have q:idx l 0=some l[0]:=aH p;rw [q];simp only [bS];refine (OB f g).bind fun m _=>?_
 have key:∀(d k i:Nat) (a b c e:Int),l.length-i=d→d<k→T (lL l s t k a b c e (i:Int)):=by
  intro d
  induction d with
  | zero =>
   intro k i a b c e r hk;obtain ⟨k,rfl⟩:=kS k (by omega);rw [lL,if_neg (by simp;omega)];exact bj _
  | succ d ih =>
   intro k i a b c e r hk;obtain ⟨k,rfl⟩:=kS k (by omega);have hi:i<l.length:=by omega
   rw [lL,if_pos (by simp;omega),aH hi];simp only [bS];refine (OB f g).bind fun m _=>?_;rw [ax (by omega)];exact (yo _ _).bind fun _ _=>aD (fun _=>ih _ _ _ _ _ _ (by omega) (by omega)) (fun _=>ih _ _ _ _ _ _ (by omega) (by omega))
 exact key (l.length-1) bb 1 _ _ _ _ rfl (cN (by omega))
theorem Vs {s:ae} {t:aE} {l:List Int} {two:Bool} (c:bi s) (p:hY t) (D:l.length≤1048576):T (AL s t l two):=by
 unfold AL;refine kj (nE c p).t (by simp only [sS];exact bj _) (fun M=>?_);simp only [sS];by_cases v:t.d_.length=0
 ·rw [show ((t.d_.length:Int)==0)=true by simpa using v];simp only [sS];exact bj _
 rw [show ((t.d_.length:Int)==0)=false by simpa using v];simp only [sS];refine lO (sW c D).t (by simp only [sS];exact bj _) (fun Q=>?_);simp only [sS];refine cz (fun k (r:List cg) i=>jl l s t two k i r) l.length (fun i r=>r.length=i) (fun k r h=>?_) (fun k r i hi h hk=>?_) (by omega) rfl
 ·show T (jl _ _ _ _ (k+1) _ _);rw [jl,if_neg (by simp)];exact bj _
 show T (jl _ _ _ _ (k+1) _ _);rw [jl,if_pos (by simp;omega),aH hi];simp only [bS];refine (Rf c p).bind fun b _=>?_
 have key:∀(j a:Nat),j≤r.length→j<a→T (pP r b (jl l s t two k) i a (j:Int)):=by
  have fin:∀j:Nat,j≤r.length→T ((sub r 0 (j:Int)).bind fun d=>(app ([]:List cg) d).bind fun e=>(app e ([(cg.mk b.1 b.2)]:List cg)).bind fun f=>(sub r (j:Int) (r.length:Int)).bind fun g=>(app f g).bind fun m=>(jl l s t two k) (IntKind.i64.wrap ((i:Int)+1)) m):=by
   intro j w;refine (pH ⟨by omega,by omega,by omega⟩).bind fun E h1=>?_;have h1:E.length=j:=by rw [h1];simp;omega
   refine (qa (by simp;omega)).bind fun F o=>?_;have o:F.length=j:=by rw [o];simp [h1]
   refine (qa (by simp;omega)).bind fun G x=>?_;have x:G.length=j+1:=by rw [x];simp [o]
   refine (pH ⟨by omega,by omega,by omega⟩).bind fun H A=>?_;have A:H.length=r.length-j:=by rw [A];simp
   refine (qa (by omega)).bind fun R L=>?_;rw [ax (by omega)];exact hk _ (by rw [L];simp;omega)
  intro j
  induction j with
  | zero =>
   intro a _ C;obtain ⟨a,rfl⟩:∃q,a=q+1:=⟨a-1,by omega⟩;rw [pP,if_neg (by simp)];simp only [sS];exact fin 0 (by omega)
  | succ j ih =>
   intro a w C;obtain ⟨a,rfl⟩:∃q,a=q+1:=⟨a-1,by omega⟩;rw [pP,if_pos (by simp),aR (by omega) (by omega),show ((j+1:Nat):Int)-1=(j:Int) by omega,aH (show j<r.length by omega)];simp only [bS];unfold BC;refine Tot.bind (P:=fun _=>True) (((yo _ _).bind fun _ _=>bj _).bind fun _ _=>bj _) (fun u _=>aD (fun _=>ih a (by omega) (by omega)) (fun _=>fin (j+1) w))
 exact key r.length bb (Nat.le_refl _) (cN (by omega))
theorem MN {s:ae} {t:aE} {l:List Int} {two:Bool} (a:bi s) (c:hY t) (d:l.length≤1048576):T (tT s t l two):=by
 unfold tT;refine (Vs a c d).bind fun r _=>aD (fun _=>bj _) (fun h=>?_);have h:r.length≠0:=by simpa using h
 unfold nu;refine aD (fun h1=>?_) (fun _=>(gb ⟨by omega,by omega⟩).bind fun _ _=>bj _);have h1:(r.length:Int)>1:=by simpa using h1
 exact (gb ⟨by omega,by omega⟩).bind fun _ _=>(gb ⟨by omega,by omega⟩).bind fun _ _=>bj _
end Go.Vk
/- Verdicts, places, copies: they always answer. -/
namespace Go.Vk
def V (x:Int):Prop:=-9223372036854775808≤x∧x≤9223372036854775807
theorem nS (n:Int):V (IntKind.i64.wrap n):=by
 unfold V;rw [IntKind.wrap_i64];omega
theorem dK {x:Int} (h : -1000000000000≤x∧x≤1000000000000):V x:=⟨by omega,by omega⟩
theorem Gm (a:bT):Tot (mF a) (fun b=>b=true→Sb a):=by
 unfold mF;exact (ye a).t.bind fun b c=>am fun h=>c (by simp at h;exact h.1)
theorem MY (p:Int):Tot (vL p) (fun v=>v≤9223372036854775807):=by
 unfold vL;exact cE.t.bind fun b _=>aD (fun _=>am (by omega)) (fun _=>am (nS _).2)
theorem Sn (a b:bT) (n k:Int):T (xt a b n k):=by
 unfold xt;refine kj (Gm a) (by simp only [sS];exact bj _) (fun _=>?_);simp only [sS];refine lO (Gm b) (by simp only [sS];exact bj _) (fun _=>?_);simp only [sS];refine Tot.bind (P:=fun _=>True) ((yo a b).bind fun _ _=>bj _) (fun u _=>?_);cases u
 ·simp only [sS];refine lO cE.t (by simp only [sS];exact bj _) (fun d=>?_);simp only [sS];refine lO cE.t (by simp only [sS];exact bj _) (fun _=>?_);simp only [sS];exact (OZ a b).bind fun _ _=>(Ah _ _).bind fun _ _=>(zb (by omega) (by omega)).bind fun _ _=>(Ah _ _).bind fun _ _=>(Ah _ _).bind fun _ _=>(MY k).bind fun v c=>(zb c (by omega)).bind fun _ _=>(Ah _ _).bind fun _ _=>(HJ _ _).bind fun _ _=>bj _
 simp only [sS];exact bj _
theorem VR (r:bZ) (n:Int):T (AP r n):=by
 unfold AP;refine (zQ r).t.bind fun a _=>?_;refine Tot.bind (P:=fun _=>True) (aD (fun _=>cE.t.bind fun _ _=>bj _) (fun _=>bj _)) (fun b _=>?_);exact Tot.bind (P:=fun _=>True) (aD (fun _=>(MY _).bind fun _ _=>bj _) (fun _=>bj _)) (fun _ _=>bj _)
theorem PH (r:bZ) (a b:bT) (n:Int):T (vd r a b n):=by
 unfold vd;refine kj (zQ r).t (by simp only [sS];exact bj _) (fun _=>?_);simp only [sS];refine lO cE.t (by simp only [sS];exact bj _) (fun _=>?_);simp only [sS];refine lO (Gm a) (by simp only [sS];exact bj _) (fun _=>?_);simp only [sS];refine lO (Gm b) (by simp only [sS];exact bj _) (fun _=>?_);simp only [sS];refine Tot.bind (P:=fun _=>True) ((yo a b).bind fun _ _=>bj _) (fun u _=>?_);exact aD (fun _=>bj _) (fun _=>aD (fun _=>bj _) (fun _=>(Sn ..).bind fun _ _=>aD (fun _=>bj _) (fun _=>(VR ..).bind fun _ _=>aD (fun _=>bj _) (fun _=>bj _))))
theorem Kg {l:List Int} (h:l.length≤1048576):Tot (tf l) (fun v => -1≤v∧v<l.length∧(0<l.length→0≤v)):=by
 unfold tf;refine cz (mJ l) l.length (fun i s => -1≤s∧s<i∧(0<i→0≤s)) (fun k s h1=>?_) (fun k s i hi h1 hk=>?_) (by omega) ⟨by omega,by omega,fun g=>absurd g (by omega)⟩
 ·rw [mJ,if_neg (by simp)];exact am h1
 obtain ⟨h1,c,d⟩:=h1;rw [mJ,if_pos (by simp;omega),aH hi,ax (by omega)];simp only [bS];refine Tot.bind (P:=fun u=>u=false→0≤s) (aD (fun _=>am (fun h=>by cases h)) (fun g=>?_)) (fun u a=>aD (fun _=>hk _ ⟨by omega,by omega,fun _=>by omega⟩) (fun g=>?_))
 ·have g:0≤s:=by simpa using g
  exact (gb ⟨g,by omega⟩).bind fun _ _=>am fun _=>g
 have:=a (by simpa using g);exact hk _ ⟨by omega,by omega,fun _=>by omega⟩
theorem Gr {s:ae} {t:aE} (a:bi s) (c:hY t):T (fu s t):=by
 rcases (nE a c).cases with ⟨e,h⟩|⟨e,h⟩
 ·rw [El a c h];exact bj _
 unfold fu;rw [e];simp only [sS];exact bj _
theorem JF {s:ae} {t:aE} (a:bi s) (c:hY t):T (sP s t):=by
 unfold sP;rcases (nE a c).cases with ⟨e,h⟩|⟨e,h⟩
 ·rw [e];simp only [sS];have h1:=h.1.2.1;have f:=h.2.1;exact (Gr a c).bind fun _ _=>(Kg (by omega)).bind fun v d=>(gb ⟨d.2.2 (by omega),d.2.1⟩).bind fun _ _=>bj _
 rw [e];simp only [sS];exact bj _
theorem SD {s:ae} (a:bi s) (f:aB):∃n:Nat,fH s f=some (n:Int)∧n≤4:=by
 rcases (po (f:=f) a).cases with ⟨_,h⟩|⟨_,h⟩
 ·exact ⟨_,pU a h,(LY h).2⟩
 exact ⟨0,IQ a h,by omega⟩
theorem Nn {s:ae} {t:aE} {f:aB} (a:bi s) (d:hY t):Tot (tU s t f) V:=by
 unfold tU;obtain ⟨n,eB,m⟩:=SD a f;refine cz (fun k (l:List Int) i=>iz s f t k l i) n (fun i l=>l.length=i) (fun k l h=>?_) (fun k l i hi h hk=>?_) (by omega) (s:=[]) rfl
 ·show Tot (iz s f t (k+1) _ _) _;rw [iz,eB];simp only [bS];rw [if_neg (by simp)];exact (Kg (by omega)).bind fun v o=>am (dK ⟨by omega,by omega⟩)
 show Tot (iz s f t (k+1) _ _) _;rw [iz,eB];simp only [bS];rw [if_pos (by simp;omega)];have j:=a.2.1;refine (JI a d _).bind fun y e=>aD (fun _=>am (dK ⟨by omega,by omega⟩)) (fun _=>(Oq (by rcases e with g|g<;>omega)).bind fun v _=>(qa (by simp;omega)).bind fun p c=>?_);subst c;rw [ax (by omega)];exact hk _ (by simp;omega)
theorem KG {t:aE} (h:t.j_.length≤1048576):vM t=some ⟨t.j_,[]⟩:=by
 unfold vM;rw [bo (by simp;omega)];rfl
theorem Tu {s:ae} {r:bZ} {n:aA} (a:bi s) (c:qx n):T (zf s r n):=by
 unfold zf;have d:=c.2.2.2.2.1;have e:=c.2.2.2.2.2.2.1.1;exact (MN a d e).bind fun _ _=>aD (fun _=>bj _) (fun _=>(Gr a d).bind fun _ _=>(PH ..).bind fun _ _=>aD (fun _=>bj _) (fun _=>bj _))
theorem Fn {n:aA} (h:qx n):nx n=some n:=by
 have h1:=h.2.2.1.1;have a:=h.2.2.2.2.2.2.1.1;unfold nx;rw [bo (by simp;omega),bo (by simp;omega),(DY h.2.2.2.2.1).1];rfl
theorem rm {t:ao} (h:iN t):jf t=some t:=by
 have a:=h.1.1;unfold jf
 rw [pz (p:=t.a_) id (me t) (fun l=>some ⟨l,t.m_⟩) (fun k l=>by rw [me,if_neg (by simp)]) (fun k l i hi c=>by
  rw [me,if_pos (by simp;omega),aH hi,ax (by omega)];simp only [bS];rw [Fn (h.1.2 _ (List.getElem_mem hi))];simp only [bS];rw [bo (by simp;omega)];rfl) (by omega),List.map_id]
theorem gW {t:bn} (h:t.v_.length≤1048576):cT t=some t:=by
 unfold cT;rw [bo (by simp;omega)];rfl
theorem Cu (t:bn):Dec (pg t) (t.v_.length≤600∧0≤t.f_∧t.f_≤t.v_.length):=by
 unfold pg;by_cases h:t.v_.length≤600
 ·rw [if_pos (by simp;omega)];refine Dec.of_iff ?_ (show ((0:Int)≤t.f_∧t.f_≤(t.v_.length:Int))↔_ from ⟨fun g=>⟨h,g⟩,fun g=>g.2⟩);simp only [tP];exact cE
 rw [if_neg (by simp;omega)];exact bY fun g=>h g.1
theorem Sh {t:bn} (h:t.v_.length≤1048576):Tot (xU t) (fun y=>y.1.v_.length≤1048576):=by
 unfold xU xO;rw [gW h];simp only [bS];rcases (Cu t).cases with ⟨e,g⟩|⟨e,_⟩
 ·rw [e];simp only [sS];refine aD (fun _=>am h) (fun a=>?_);have a:¬IntKind.i64.wrap ((t.v_.length:Int)-t.f_)<2:=by simpa using a
  rw [aR (by omega) (by omega)] at a;rw [aR (n:=t.f_+1) (by omega) (by omega)];exact (gb ⟨by omega,by omega⟩).bind fun _ _=>(gb ⟨by omega,by omega⟩).bind fun _ _=>am h
 rw [e];simp only [sS];rw [if_pos (by simp)];exact am h
theorem Rt {n k:Nat} (a:n≤20) (hk:k≤20) (r:Int):Tot (oh n k r) Aw:=by
 by_cases h:0≤r∧r≤1048576
 ·obtain ⟨v,e,_,g⟩:=Mu a hk h;exact ⟨v,e,g⟩
 unfold oh;have d:=NR n k;rw [Gp];simp only [bS];rw [aR (by omega) (by omega)]
 have:aV r 0 ((Dm n k:Int)-1)=some false:=by
  unfold aV;have:¬(r≥0∧r≤(Dm n k:Int)-1):=by omega
  simp;omega
 rw [this];simp only [sS];exact am ⟨by simp,fun x c=>by cases c⟩
theorem JJ {t:bn} {n k:Nat} (h:t.v_.length≤1048576) (a:n≤20) (hk:k≤20):Tot (nY t n k) (fun y=>y.1.v_.length≤1048576∧Aw y.2.1):=by
 have bad:Aw []:=⟨by simp,fun x c=>by cases c⟩;unfold nY wA;rw [Gp];simp only [bS];obtain ⟨⟨y1,y2,y3⟩,e,d⟩:=Sh h;rw [e,gW h];simp only [bS]
 have key:Tot (if (!y3)=true then some true else (aV (Dm n k:Int) 1 65536).bind fun y=>some (!y)) (fun u=>u=false→(Dm n k:Int)≠0):=by
  refine aD (fun _=>am (fun h=>by cases h)) (fun _=>cE.t.bind fun b f=>am fun g=>?_);have:b=true:=by simpa using g
  have:=f this;omega
 obtain ⟨u,eu,i⟩:=key;rw [eu];simp only [bS];cases u
 ·simp only [sS];have j:=i rfl;unfold rem;rw [if_neg j];simp only [bS];simp only [sS];exact (Rt a hk _).bind fun l m=>am ⟨d,m⟩
 simp only [sS];exact am ⟨h,bad⟩
end Go.Vk
/- Splits, memory, learning: they always answer, and trees stay CJ. -/
namespace Go.Vk
def smI (n:Nat) (l:List Int):Prop:=l.length≤n∧∀y∈l,V y
def sB (d:Nat) (t:aE):Prop:=smI (8+d) t.j_∧t.d_.length≤8+d∧∀c∈t.d_,smI (16+d) c
def xS (d:Nat) (n:aA):Prop:=(V n.n_.p_∧V n.n_.f_)∧smI (8+d) n.z_∧V n.J_∧sB d n.o_∧V n.I_∧smI (24+d) n.c_∧V n.r_∧V n.F_∧V n.E_
def gc (d:Nat) (t:ao):Prop:=(t.a_.length≤40∧∀n∈t.a_,xS d n)∧V t.m_
theorem smI.mono {n m:Nat} (h:n≤m) {l:List Int} (g:smI n l):smI m l:=⟨Nat.le_trans g.1 h,g.2⟩
theorem smI.sml {n:Nat} {l:List Int} (g:smI n l) (h:n≤1000):pF l:=⟨by have:=g.1;omega,g.2⟩
theorem smI.app {n m:Nat} {l:List Int} {x:Int} (g:smI n l) (a:V x) (h:n+1≤m):smI m (l++[x]):=⟨by have:=g.1;simp;omega,fun y hy=>by
 rcases List.mem_append.1 hy with hy|hy
 ·exact g.2 y hy
 rw [List.mem_singleton.1 hy];exact a⟩
theorem smI.set {n:Nat} {l:List Int} {x:Int} (g:smI n l) (c:V x) (i:Nat):smI n (l.set i x):=⟨by rw [List.length_set];exact g.1,fun y a=>by
 rcases List.mem_or_eq_of_mem_set a with a|rfl
 ·exact g.2 y a
 exact c⟩
theorem smI.nil (n:Nat):smI n []:=⟨by simp,fun x a=>by cases a⟩
theorem smI.small {n:Nat} {l:List Int} (h:Aw l) (a:20≤n):smI n l:=⟨Nat.le_trans h.1 a,fun y c=>by have:=h.2 y c;exact dK ⟨by omega,by omega⟩⟩
theorem sB.mono {d d':Nat} (h:d≤d') {t:aE} (g:sB d t):sB d' t:=⟨g.1.mono (by omega),by have:=g.2.1;omega,fun c a=>(g.2.2 c a).mono (by omega)⟩
theorem xS.mono {d d':Nat} (h:d≤d') {t:aA} (g:xS d t):xS d' t:=by
 obtain ⟨a,c,e,f,i,j,k,l,m⟩:=g;exact ⟨a,c.mono (by omega),e,f.mono h,i,j.mono (by omega),k,l,m⟩
theorem sB.sml {d:Nat} (e:d≤10) {t:aE} (g:sB d t):hY t:=⟨g.1.sml (by omega),by have:=g.2.1;omega,fun c a=>(g.2.2 c a).sml (by omega)⟩
theorem xS.sml {d:Nat} (a:d≤10) {t:aA} (g:xS d t):qx t:=by
 obtain ⟨c,e,f,h,i,j,k,l,m⟩:=g;exact ⟨trivial,c,e.sml (by omega),f,h.sml a,i,j.sml (by omega),k,l,m⟩
theorem gc.sml {d:Nat} (a:d≤10) {t:ao} (g:gc d t):iN t:=⟨⟨by have:=g.1.1;omega,fun n c=>(g.1.2 n c).sml a⟩,g.2⟩
theorem gc.mono {d d':Nat} (h:d≤d') {t:ao} (g:gc d t):gc d' t:=⟨⟨g.1.1,fun n a=>(g.1.2 n a).mono h⟩,g.2⟩
theorem gc.setN {d:Nat} {l:List aA} {x:Int} {n:aA} (g:l.length≤40∧∀n∈l,xS d n) (c:xS d n) (e:V x) (i:Nat):gc d ⟨l.set i n,x⟩:=⟨⟨by rw [List.length_set];exact g.1,fun y a=>by
 rcases List.mem_or_eq_of_mem_set a with a|rfl
 ·exact g.2 y a
 exact c⟩,e⟩
theorem EL {l:List Int} {n m:Nat} (h:wL l n) (a:n≤m):smI m l:=⟨by rw [h.1];exact a,fun y c=>by have:=h.2 y c;exact dK ⟨by omega,by omega⟩⟩
theorem Ss {s:ae} {t:aE} (d:fV s) (h:Hp s t):sB 0 t:=by
 obtain ⟨h1,g,f⟩:=h;have j:=d.1;have e:=d.2.1;refine ⟨EL h1 (by omega),by omega,fun c e=>?_⟩;obtain ⟨i,hi,rfl⟩:=List.getElem_of_mem e;have a:i<s.c_.length:=by omega
 exact EL (f i hi a) (by have:=nbc d a;omega)
theorem VW {s:ae} {t:aE} (h:xF s t):Hp s t:=by
 obtain ⟨_,e,f,_,c⟩:=h;refine ⟨⟨e,fun x a=>by have:=f x a;omega⟩,by rcases c with g|g;exact .inl g;exact .inr g.1,fun i hi d=>?_⟩;rcases c with g|g
 ·omega
 obtain ⟨c1,c2,_⟩:=g.2 i hi d;exact ⟨c1,fun x a=>by have:=c2 x a;omega⟩
theorem yX {s:ae} (a:bi s):Tot (ls s) (sB 0):=by
 rcases (mH (la a)).cases with ⟨_,h⟩|⟨e,_⟩
 ·rw [KA a h];exact am (Ss h Sd)
 unfold ls;rw [e];simp only [sS];exact am ⟨.nil _,by simp,fun x c=>by cases c⟩
theorem GA {s:ae} {t:aE} {e:bW} {w:Int} (a:bi s) (c:sB 0 t):Tot (mN s t e w) (fun y=>sB 0 y.1):=by
 have d:=c.sml (by omega);rcases (nE a d).cases with ⟨_,h⟩|⟨eP,_⟩
 ·obtain ⟨v,h1,_,f⟩:=Sq (e:=e) (w:=w) a h.1 (VW h);exact ⟨v,h1,Ss h.1 f⟩
 unfold mN;rw [(DY d).1,eP];simp only [sS];exact am c
theorem TJ {s:ae} {t:ao} {i:Int} {f:aB} {sets:List (List Int)} (e:bi s) (a:gc 0 t) (X:sets.length≤4) (l:∀x∈sets,Aw x):Tot (vE s t i f sets) (fun y=>gc 0 y.1):=by
 have A:=a.sml (by omega);unfold vE;rw [rm A];simp only [bS];refine kj (wj e A).t (by simp only [sS];exact am a) (fun F=>?_);simp only [sS];refine lO cE.t (by simp only [sS];exact am a) (fun hi=>?_);simp only [sS];have G:=F.2.1;rw [aR (by omega) (by omega)] at hi;obtain ⟨j,rfl⟩:∃j:Nat,i=j:=⟨i.toNat,by omega⟩;have r:j<t.a_.length:=by omega
 have hn:=a.1.2 _ (List.getElem_mem r);rw [aH r];simp only [bS]
 cases t.a_[j].A_ with
 | false=>simp only [sS];exact am a
 | true =>
 simp only [sS]
 cases ((t.a_[j].o_.d_.length:Int)==0) with
 | true=>simp only [sS];exact am a
 | false =>
 simp only [sS];refine lO (po e).t (by simp only [sS];exact am a) (fun o=>?_);simp only [sS];rw [pU e o];simp only [bS];refine aD (fun _=>am a) (fun _=>?_);refine cz (fun k (_:Unit) x=>jz sets s t t (j:Int) f k x) sets.length (fun _ _=>True) (fun k _ _=>?_) (fun k _ x c _ hk=>?_) (by omega) (s:=()) trivial
 ·show Tot (jz _ _ _ _ _ _ (k+1) _) _;rw [jz,if_neg (by simp),aH r];simp only [bS];refine aD (fun _=>am a) (fun g=>?_);have g:¬(IntKind.i64.wrap ((t.a_.length:Int)+(sets.length:Int))>31):=by simp at g;omega
  rw [aR (by omega) (by omega)] at g;obtain ⟨Z,g2,g3,u,g5,C,H,L,M⟩:=hn;refine (Nn e (u.sml (by omega))).bind fun m q=>?_;rw [KG (by have:=u.1.1;omega)];simp only [bS];rw [bo (by have:=C.1;simp;omega)];simp only [Option.bind_some,List.nil_append];refine cz (fun p (σ:List aA×List Int) x=>js sets s t.a_[j] (j:Int) t f m ⟨t.a_[j].o_.j_,[]⟩ t.a_[j].c_ t.a_[j] t.a_[j] t p σ.1 σ.2 x) sets.length (fun x σ=>σ.1.length=t.a_.length+x∧σ.2.length=x∧(∀n∈σ.1,xS 0 n)∧∀y∈σ.2,V y) (fun p σ h=>?_) (fun p σ x c h D=>?_) (by omega) (s:=(t.a_,[])) ⟨rfl,rfl,a.1.2,fun x c=>by cases c⟩
  ·obtain ⟨h1,P,v,w⟩:=h;show Tot (js _ _ _ _ _ _ _ _ _ _ _ _ (p+1) _ _ _) _;rw [js,if_neg (by simp),aH (show j<σ.1.length by omega)];simp only [bS];have R:=o.2
   have E:zH (atr s f)≤4:=by
    have:=Co (Bq o.1 o.2.1);unfold zH;split<;>omega
   have ha:=o.1.1;have vA:V f.p_:=dK ⟨by omega,by omega⟩;have vB:V f.f_:=dK ⟨by omega,by omega⟩;have z:V 0:=dK ⟨by omega,by omega⟩
   have Q:xS 0 ⟨false,f,σ.2,m,⟨t.a_[j].o_.j_,[]⟩,0,t.a_[j].c_,t.a_[j].r_,t.a_[j].F_,t.a_[j].E_⟩ :=
    ⟨⟨vA,vB⟩,⟨by show σ.2.length≤_;omega,w⟩,q,⟨u.1,by simp,fun x c=>by cases c⟩,z,C,H,L,M⟩
   exact am (gc.setN ⟨by omega,v⟩ Q a.2 _)
  obtain ⟨h1,P,v,w⟩:=h;show Tot (js _ _ _ _ _ _ _ _ _ _ _ _ (p+1) _ _ _) _;rw [js,if_pos (by simp;omega),bo (by simp;omega)];simp only [bS];rw [aH c];simp only [bS];obtain ⟨y,ey,hy⟩:=yX e;rw [ey];simp only [bS];have d:=l _ (List.getElem_mem c);rw [bo (by have:=d.1;simp;omega)];simp only [Option.bind_some,List.nil_append];rw [bo (by simp;omega),ax (by omega)];simp only [bS];refine D (_,_) ⟨by simp;omega,by simp;omega,fun n hn=>?_,fun y hy=>?_⟩
  ·rcases List.mem_append.1 hn with hn|hn
   ·exact v n hn
   rw [List.mem_singleton.1 hn];have z:V 0:=dK ⟨by omega,by omega⟩;have vj:V (j:Int):=dK ⟨by omega,by omega⟩;exact ⟨⟨z,z⟩,.nil _,z,hy,z,.small d (by omega),nS _,vj,a.2⟩
  rcases List.mem_append.1 hy with hy|hy
  ·exact w y hy
  rw [List.mem_singleton.1 hy];exact dK ⟨by omega,by omega⟩
 show Tot (jz _ _ _ _ _ _ (k+1) _) _;rw [jz,if_pos (by simp;omega),aH c,ax (by omega)];simp only [bS];have d:=l _ (List.getElem_mem c);refine (sW e (by have:=d.1;omega)).t.bind fun b _=>aD (fun _=>am a) (fun _=>hk () trivial)
end Go.Vk
/- Memory and learning: they always answer, and trees stay CJ. -/
namespace Go.Vk
theorem Pn {n:aA} (h:qx n):T (pX n):=by
 have h1:=h.2.2.2.2.1.2.1;unfold pX;refine aD (fun _=>bj _) (fun _=>?_);refine cz (ju n) n.o_.d_.length (fun _ _=>True) (fun k s _=>?_) (fun k s i hi _ hk=>?_) (by omega) trivial
 ·rw [ju,if_neg (by simp)];exact bj _
 rw [ju,if_pos (by simp;omega),aH hi,ax (by omega)];exact hk _ trivial
theorem ES {t:ao} (h:iN t):T (lH t):=by
 have h1:=h.1.1;unfold lH;refine cz (gR t) t.a_.length (fun _ _=>True) (fun k s _=>?_) (fun k s i hi _ hk=>?_) (by omega) trivial
 ·rw [gR,if_neg (by simp)];exact bj _
 rw [gR,if_pos (by simp;omega),aH hi,ax (by omega)];exact (Pn (h.1.2 _ (List.getElem_mem hi))).bind fun _ _=>hk _ trivial
theorem Pj {t:ao} (h:iN t):T (qe t):=by
 have h1:=h.1.1;unfold qe;refine cz (ew t) t.a_.length (fun _ _=>True) (fun k s _=>?_) (fun k s i hi _ hk=>?_) (by omega) trivial
 ·rw [ew,if_neg (by simp)];exact bj _
 rw [ew,if_pos (by simp;omega),aH hi,ax (by omega)];exact Tot.bind (P:=fun _=>True) (aD (fun _=>bj _) (fun _=>bj _)) (fun _ _=>aD (fun _=>hk _ trivial) (fun _=>hk _ trivial))
theorem UZ {s:ae} {r:bZ} {t:ao} (a:bi s) (h:iN t):Tot (rj s r t) (fun b=>b=true→wa s t):=by
 unfold rj;rcases (wj a h).cases with ⟨e,g⟩|⟨e,_⟩
 ·rw [e];simp only [sS];exact Tot.bind (P:=fun _=>True) ((zQ r).t.bind fun _ _=>bj _) (fun _ _=>Tot.bind (P:=fun _=>True) (aD (fun _=>(Pj h).bind fun _ _=>bj _) (fun _=>bj _)) (fun _ _=>Tot.bind (P:=fun _=>True) (aD (fun _=>(ES h).bind fun _ _=>bj _) (fun _=>bj _)) (fun _ _=>am fun _=>g)))
 rw [e];simp only [sS];exact am fun h=>by cases h
def Act (t:ao) (x:Int):Prop:=∃j:Nat,∃h:j<t.a_.length,x=j∧0<t.a_[j].o_.d_.length
theorem Rp {t:ao} (h:iN t):Tot (oH t) (fun l=>l.length≤t.a_.length∧∀x∈l,Act t x):=by
 have h1:=h.1.1;unfold oH;refine cz (gq t) t.a_.length (fun i l=>l.length≤i∧∀x∈l,Act t x) (fun k l a=>?_) (fun k l i hi a hk=>?_) (by omega) ⟨by simp,fun x hx=>by cases hx⟩
 ·rw [gq,if_neg (by simp)];exact am a
 obtain ⟨f,c⟩:=a;rw [gq,if_pos (by simp;omega),aH hi,ax (by omega)];simp only [bS];refine Tot.bind (P:=fun u=>u=true→0<t.a_[i].o_.d_.length) (aD (fun _=>am (fun h=>by simpa using h)) (fun _=>am (fun h=>by cases h))) (fun u e=>aD (fun g=>?_) (fun _=>hk _ ⟨by omega,c⟩));refine (qa (by simp;omega)).bind fun j d=>?_;subst d;refine hk _ ⟨by simp;omega,fun x hx=>?_⟩;rcases List.mem_append.1 hx with hx|hx
 ·exact c x hx
 exact ⟨i,hi,List.mem_singleton.1 hx,e g⟩
theorem Po {s:ae} {t:ao} (d:bi s) (h:iN t):Tot (rL s t) (fun v=>v=-1∨Act t v):=by
 have h1:=h.1.1;unfold rL;rcases (wj d h).cases with ⟨e,_⟩|⟨e,_⟩
 ·rw [e];simp only [sS];refine (Rp h).bind fun l m=>?_;refine cz (kM l t s) l.length (fun _ v=>v=-1∨Act t v) (fun k v a=>?_) (fun k v i hi a hk=>?_) (by omega) (.inl rfl)
  ·rw [kM,if_neg (by simp)];exact am a
  obtain ⟨j,f,ej,o⟩:=m.2 _ (List.getElem_mem hi);rw [kM,if_pos (by simp;omega),aH hi,ax (by omega)];simp only [bS];refine Tot.bind (P:=fun _=>True) (aD (fun _=>bj _) (fun g=>?_)) (fun u _=>aD (fun _=>hk _ (.inr ⟨j,f,ej,o⟩)) (fun _=>hk _ a));rcases a with rfl|⟨p,c,rfl,_⟩
  ·exact absurd (by simp) g
  rw [ej,aH f,aH c];simp only [bS];exact (JF d (h.1.2 _ (List.getElem_mem f)).2.2.2.2.1).bind fun _ _=>(JF d (h.1.2 _ (List.getElem_mem c)).2.2.2.2.1).bind fun _ _=>bj _
 rw [e];simp only [sS];exact am (.inl rfl)
def JT (n:aA):Nat:=if 0<n.o_.d_.length then 1 else 0
theorem Tw:∀(l:List aA) (i:Nat) (h:i<l.length) (v:aA),JT l[i]=1→JT v=0→((l.set i v).map JT).sum+1=(l.map JT).sum:=by
 intro l
 induction l with
 | nil=>intro i h;exact absurd h (by simp)
 | cons x l ih =>
  intro i h v h1 a
  cases i with
  | zero =>
   have h1:JT x=1:=h1;simp only [List.set_cons_zero,List.map_cons,List.sum_cons,a,h1];omega
  | succ i =>
   have:=ih i (by simpa using h) v h1 a;simp only [List.set_cons_succ,List.map_cons,List.sum_cons];omega
theorem Pf {s:ae} {t:ao} (q:bi s) (a:gc 0 t) (b:Int):Tot (vh s t b) (fun y=>gc 0 y.1):=by
 have r:=a.sml (by omega);unfold vh;rw [rm r];simp only [bS];rcases (wj q r).cases with ⟨e,_⟩|⟨e,_⟩
 ·rw [e];simp only [sS]
  have key:∀(d k:Nat) (l:List aA) (g:List Int),(l.map JT).sum<d→d≤k→l.length≤40→(∀n∈l,xS 0 n)→g.length+d≤1000→Tot (oa t b s k l g) (fun y=>gc 0 y.1):=by
   intro d
   induction d with
   | zero=>intro k l g h;exact absurd h (by omega)
   | succ d ih =>
    intro k l g h hk i m hg;obtain ⟨k,rfl⟩:=kS k (by omega);have w:gc 0 ⟨l,t.m_⟩:=⟨⟨i,m⟩,a.2⟩;have A:=w.sml (by omega);rw [oa];refine (ES A).bind fun u _=>?_;obtain ⟨v,ev,D⟩:=Po q A;rw [ev];simp only [bS];refine Tot.bind (P:=fun u=>u=true→0≤v) (aD (fun _=>am (fun h=>by simpa using h)) (fun _=>am (fun h=>by cases h))) (fun u E=>aD (fun gu=>?_) (fun _=>am w));have h0:=E gu;rcases D with rfl|⟨j,c,rfl,o⟩
    ·omega
    have c:j<l.length:=c;have o:0<l[j].o_.d_.length:=o;have F:=m _ (List.getElem_mem c);rw [aH c];simp only [bS];obtain ⟨G,H,L,C,g5,M,Q,R,X⟩:=F;rw [KG (by have:=C.1.1;omega)];simp only [bS];rw [bo (by simp;omega)];simp only [bS];have z:V 0:=dK ⟨by omega,by omega⟩;have hN':xS 0 {l[j] with o_:=⟨l[j].o_.j_,[]⟩,I_:=0}:=⟨G,H,L,⟨C.1,by simp,fun x Z=>by cases Z⟩,z,M,Q,R,X⟩;have p:=Tw l j c {l[j] with o_:=⟨l[j].o_.j_,[]⟩,I_:=0} (by unfold JT;rw [if_pos o]) rfl;refine ih k _ _ ?_ (by omega) (by rw [List.length_set];exact i) (gc.setN ⟨i,m⟩ hN' z _).1.2 (by simp;omega);exact Nat.le_trans (Nat.le_of_eq p) (by omega)
  have a0:=MS (f:=JT) (b:=1) (l:=t.a_) (fun x _=>by unfold JT;split<;>omega);have:=a.1.1;exact key 41 bb t.a_ [] (by omega) (Nat.le_of_lt (cN (by omega))) a.1.1 a.1.2 (by simp)
 rw [e];simp only [sS];exact am a
theorem Oz {s:ae} {t:ao} {e:bW} (c:bi s) (f:wa s t) (g:ExP s e):∀(d i:Nat),i<t.a_.length→rC s t e d i≠[]∧∀x∈rC s t e d i,x<t.a_.length:=by
 intro d
 induction d with
 | zero =>
  intro i hi;exact ⟨by simp [rC],fun x hx=>by rw [List.mem_singleton.1 hx];exact hi⟩
 | succ d ih =>
  intro i hi;unfold rC;split
  ·exact ⟨by simp,fun x hx=>by rw [List.mem_singleton.1 hx];exact hi⟩
  rename_i a;rw [Dw hi] at a;obtain ⟨_,_,h,_⟩:=Tf c f g hi (by simpa using a);refine ⟨by simp,fun x hx=>?_⟩;rcases List.mem_cons.1 hx with rfl|hx
  ·exact hi
  exact (ih _ h).2 x hx
theorem TM {s:ae} {t:ao} {e:bW} (a:bi s) (f:iN t) (c:wa s t) (d:ExP s e):Tot (vF s t e) (fun v=>∃j:Nat,v=j∧j<t.a_.length):=by
 unfold vF ui;rcases (wj a f).cases with ⟨i,_⟩|⟨_,g⟩
 ·rcases (Bv (la a)).cases with ⟨k,_⟩|⟨_,g⟩
  ·rw [i,k,(UT a c d).1];simp only [sS];have l:=c.2.1;obtain ⟨p1,p2⟩:=Oz a c d 32 0 (by omega);have p:=HD (s:=s) (t:=t) (e:=e) 32 0;have q:(AY (rC s t e 32 0)).length=(rC s t e 32 0).length:=by simp [AY]
   have r:(rC s t e 32 0).length≠0:=fun h=>p1 (List.length_eq_zero_iff.1 h);rw [if_neg (by rw [beq_iff_eq];omega),aR (by omega) (by omega)];refine (gb ⟨by omega,by omega⟩).bind fun v m=>am ?_;obtain ⟨x,o,rfl⟩:=List.mem_map.1 m.1;exact ⟨x,rfl,p2 x o⟩
  exact absurd d g
 exact absurd c g
theorem JZ {s:ae} {r:bZ} {t:ao} {e:bW} {w k:Int} {tape:bn} (d:bi s) (l:gc 0 t) (a:tape.v_.length≤1048576):Tot (nD s r t e w tape k) (fun y=>gc 0 y.1∧y.2.1.v_.length≤1048576):=by
 have A:=l.sml (by omega);unfold nD;rw [rm A,gW a];refine kj (UZ d A) (by simp only [sS];exact am ⟨l,a⟩) (fun G=>?_);simp only [sS];refine lO (Bv (la d)).t (by simp only [sS];exact am ⟨l,a⟩) (fun Q=>?_);simp only [sS];refine Tot.bind (P:=fun _=>True) (aD (fun _=>bj _) (fun _=>cE.t.bind fun _ _=>bj _)) (fun u _=>?_);refine Tot.bind (P:=fun _=>True) (aD (fun _=>bj _) (fun _=>(Cu _).t.bind fun _ _=>bj _)) (fun u2 _=>?_);refine Tot.bind (P:=fun u=>u=false→1≤k∧k≤s.c_.length) (aD (fun _=>am (fun h=>by cases h)) (fun _=>cE.t.bind fun b a=>am (fun g=>a (by simpa using g)))) (fun u3 hk=>aD (fun _=>am ⟨l,a⟩) (fun g=>?_));have hk:=hk (by simpa using g);obtain ⟨k,rfl⟩:∃q:Nat,k=q:=⟨k.toNat,by omega⟩;refine (TM d A G Q).bind fun v R=>?_;obtain ⟨j,rfl,D⟩:=R;have m:=l.1.2 _ (List.getElem_mem D);rw [aH D];simp only [bS];refine Tot.bind (P:=fun _=>True) (aD (fun _=>bj _) (fun _=>(Gr d (m.2.2.2.1.sml (by omega))).bind fun _ _=>bj _)) (fun u _=>aD (fun _=>am ⟨l,a⟩) (fun _=>?_));rw [Fn (m.sml (by omega))];simp only [bS];refine (GA d m.2.2.2.1).bind fun y X=>?_
 have key:∀(c:Int) (q:Bool),V c→Tot (jc t (j:Int) tape t.a_[j] y t s r (k:Int) c q) (fun y=>gc 0 y.1∧y.2.1.v_.length≤1048576):=by
  intro c q Z;obtain ⟨g1,g2,g3,g4,g5,g6,g7,g8,g9⟩:=m;have H:xS 0 {t.a_[j] with o_:=y.1,I_:=c}:=⟨g1,g2,g3,X,Z,g6,g7,g8,g9⟩;have E:gc 0 ⟨t.a_.set (j:Int).toNat {t.a_[j] with o_:=y.1,I_:=c},IntKind.i64.wrap (t.m_+1)⟩:=gc.setN l.1 H (nS _) _;unfold jc;rw [aH D,gW a];simp only [bS];refine aD (fun _=>am ⟨E,a⟩) (fun _=>(Tu d (H.sml (by omega))).bind fun f _=>?_);obtain ⟨n,eB,a8⟩:=SD d f.1;rw [eB];simp only [bS];refine Tot.bind (P:=fun _=>True) (aD (fun _=>bj _) (fun _=>bj _)) (fun u _=>aD (fun _=>am ⟨E,a⟩) (fun _=>?_));refine cz (fun o (σ:List (List Int)×List Int×Int) i=>gU s f (k:Int) t tape t (j:Int) t.a_[j] y c r o σ.1 σ.2.1 σ.2.2 i) n (fun i σ=>σ.1.length=i∧(∀x∈σ.1,Aw x)∧σ.2.1.length≤1048576) (fun o σ h=>?_) (fun o σ i hi h L=>?_) (by omega) (s:=([],tape.v_,tape.f_)) ⟨rfl,(fun x hx=>by cases hx),a⟩
  ·obtain ⟨h1,p,F⟩:=h;show Tot (gU _ _ _ _ _ _ _ _ _ _ _ (o+1) _ _ _ _) _;rw [gU,eB];simp only [bS];rw [if_neg (by simp)];exact (TJ d E (by omega) p).bind fun y2 p=>(Pf d p _).bind fun y3 h4=>am ⟨h4,F⟩
  obtain ⟨h1,p,F⟩:=h;show Tot (gU _ _ _ _ _ _ _ _ _ _ _ (o+1) _ _ _ _) _;rw [gU,eB];simp only [bS];rw [if_pos (by simp;omega),rm A,gW a];have hS:=G.1.1;refine (JJ (t:=⟨σ.2.1,σ.2.2⟩) (n:=s.c_.length) (k:=k) F (by omega) (by omega)).bind fun y4 C=>aD (fun _=>am ⟨l,a⟩) (fun _=>?_);refine (qa (by simp;omega)).bind fun l3 M=>?_;subst M;rw [ax (by omega)];refine L (_,_,_) ⟨by simp;omega,fun x hx=>?_,C.1⟩;rcases List.mem_append.1 hx with hx|hx
  ·exact p x hx
  rw [List.mem_singleton.1 hx];exact C.2
 exact aD (fun _=>aD (fun _=>key _ _ (dK ⟨by omega,by omega⟩)) (fun _=>key _ _ (nS _))) (fun _=>key _ _ m.2.2.2.2.1)
end Go.Vk
