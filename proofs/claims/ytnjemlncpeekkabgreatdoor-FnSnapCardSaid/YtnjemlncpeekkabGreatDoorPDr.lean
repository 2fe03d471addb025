/- Draws: they always answer. -/
import Derived.Test.YtnjemlncpeekkabGreatDoorPBi
import Derived.Test.YtnjemlncpeekkabGreatDoorPTr
import Derived.Test.YtnjemlncpeekkabGreatDoorRX
import Derived.Test.YtnjemlncpeekkabGreatDoorVkBr
import Derived.Test.YtnjemlncpeekkabGreatDoorVkG
import Derived.Lib.ItoaLen
namespace Go.Vk
def Cur (p:List Int)(c:ak):Prop:=0≤c.i_∧c.i_≤p.length
abbrev TD {α:Type}(p:List Int)(o:Option (α×ak))(Q:α→Prop):Prop:=Tot o (λy=>Cur p y.2∧Q y.1)
theorem Zu {p:List Int}(hp:p.length≤1048576):Tot (AP p) (Cur p):=by
 unfold AP
 have key:∀(d k i:Nat)(h:Int),p.length-i=d→d<k→i≤p.length→Tot (pJ p k h (i:Int)) (Cur p):=by
  intro d
  induction d with
  | zero =>
   intro k i h a hk c;obtain ⟨k,rfl⟩:=kS k (by omega);rw [pJ,Q4];exact ap ⟨by show (0:Int)≤0;omega,by show (0:Int)≤p.length;omega⟩
  | succ d ih =>
   intro k i h a hk c;obtain ⟨k,rfl⟩:=kS k (by omega);rw [pJ];refine aP (λ_=>?_) (λ_=>ap ⟨by show (0:Int)≤0;omega,by show (0:Int)≤p.length;omega⟩);rw [aH (show i<p.length by omega),ax];exact ih k (i+1) _ (by omega) (by omega) (by omega)
 exact key p.length bc 0 _ rfl cN (Nat.zero_le _)
section
variable {p:List Int} (hp:p.length≤1048576)
include hp
theorem Gj {c:ak}(d:Cur p c):TD p (nt p c) (λv=>0≤v∧v≤255):=by
 obtain ⟨a,h1⟩:=d;unfold nt;refine aP (λh=>?_) (λ_=>ap ⟨⟨a,h1⟩,UC _⟩);have h:c.i_<p.length:=by simpa using h
 refine (kD ⟨a,h⟩).bind λv _=>ap ⟨⟨?_,?_⟩,UC _⟩
 ·show 0≤IntKind.i64.wrap (c.i_+1);rw [aV];omega
 show IntKind.i64.wrap (c.i_+1)≤_;rw [aV];omega
theorem dY {c:ak}(d:Cur p c)(n:Int):TD p (bJ p c n) (λv=>0≤v∧(v<n∨v=0)):=by
 unfold bJ;refine aP (λ_=>ap ⟨d,by omega,.inr rfl⟩) (λh=>?_);have h:0<n:=by simpa using h
 refine aP (λ_=>(Gj hp d).bind λy e=>(Ru e.2.1 h).bind λx a=>ap ⟨e.1,a.1,.inl a.2⟩) (λ_=>?_);refine (Gj hp d).bind λy1 h1=>(Gj hp h1.1).bind λy2 f=>(Gj hp f.1).bind λy3 g=>(Gj hp g.1).bind λy4 i=>?_;obtain ⟨_,k,l⟩:=h1;obtain ⟨_,m,o⟩:=f;obtain ⟨_,q,r⟩:=g;obtain ⟨c4,s,t⟩:=i;have j:0≤y1.1*16777216+y2.1*65536+y3.1*256+y4.1:=by omega
 rw [aV (n:=y1.1*16777216) (by omega) (by omega),aV (n:=y2.1*65536) (by omega) (by omega),aV (n:=y1.1*16777216+y2.1*65536) (by omega) (by omega),aV (n:=y3.1*256) (by omega) (by omega),aV (n:=y1.1*16777216+y2.1*65536+y3.1*256) (by omega) (by omega),aV (n:=y1.1*16777216+y2.1*65536+y3.1*256+y4.1) (by omega) (by omega)];exact (Ru j h).bind λx a=>ap ⟨c4,a.1,.inl a.2⟩
theorem rL {c:ak}(a:Cur p c)(n:Int):TD p (fM p c n) (λ_=>True):=by
 unfold fM;exact (dY hp a n).bind λy d=>ap ⟨d.1,trivial⟩
theorem gh {c:ak}(d:Cur p c){l:List Int}(f:0<l.length):TD p (bh p c l) (λv=>v∈l):=by
 unfold bh;refine (dY hp d (l.length:Int)).bind λy a=>?_;have:y.1<(l.length:Int):=by rcases a.2.2 with g|g<;>omega
 exact (kD ⟨a.2.1,this⟩).bind λv e=>ap ⟨a.1,e.1⟩
theorem Nw {c:ak}(A:Cur p c){n:Nat}(_:n≤1000):TD p (kV p c (n:Int)) nx:=by
 unfold kV
 have q:0≤Int.tmod (n:Int) 5∧Int.tmod (n:Int) 5<5:=by
  rw [Int.tmod_eq_emod_of_nonneg (by omega)];omega
 refine (kD ⟨q.1,by simpa using q.2⟩).bind λe f=>?_
 have f:e.length≤1048576:=by
  have h:=f.1;simp only [List.mem_cons,List.not_mem_nil,or_false] at h;rcases h with rfl|rfl|rfl|rfl|rfl<;>simp
 refine (rL hp A 2).bind λy r=>aP (λ_=>?_) (λ_=>?_)
 ·refine (dY hp r.1 3).bind λy2 a=>(gh hp a.1 (by simp)).bind λy3 t=>?_;obtain ⟨m,d⟩:∃m:Nat,y2.1=m:=⟨y2.1.toNat,by have:=a.2.1;omega⟩;have u:m≤2:=by rcases a.2.2 with g|g<;>omega
  refine dh (λk (σ:Int×Int×List Int×Int) i=>dR y2 p e k σ.1 σ.2.1 σ.2.2.1 σ.2.2.2 i) (1+m) (λi σ=>Cur p ⟨σ.1,σ.2.1⟩∧σ.2.2.1.length=i∧(∀x∈σ.2.2.1,V x)∧V σ.2.2.2) (λk σ h=>?_) (λk σ i C h hk=>?_) (by omega) (s:=(y3.2.i_,y3.2.h_,[],y3.1)) ⟨t.1,rfl,(λx hx=>by cases hx),?_⟩
  ·obtain ⟨j,D,o,w⟩:=h;show Tot (dR _ _ _ (k+1) _ _ _ _ _) _;rw [dR,d,aV,Q5];exact ap ⟨j,f,⟨by show σ.2.2.1.length≤_;omega,o⟩,by simp,λx hx=>by cases hx⟩
  ·obtain ⟨j,D,o,w⟩:=h;show Tot (dR _ _ _ (k+1) _ _ _ _ _) _;rw [dR,d,aV (n:=1+(m:Int)) (by omega) (by omega),Q0,bA];simp only [bS];refine (dY hp j 6).bind λy4 E=>?_;rw [ax];refine hk (_,_,_,_) ⟨E.1,by simp;omega,λx hx=>?_,pn _⟩;rcases List.mem_append.1 hx with hx|hx
   ·exact o x hx
   rw [List.mem_singleton.1 hx];exact w
  have h:=t.2;simp only [List.mem_cons,List.not_mem_nil,or_false] at h;exact eg (by show -1000000000000≤y3.1∧y3.1≤_;omega)
 refine (dY hp r.1 3).bind λy2 a=>?_;obtain ⟨m,d⟩:∃m:Nat,y2.1=m:=⟨y2.1.toNat,by have:=a.2.1;omega⟩;have u:m≤2:=by rcases a.2.2 with g|g<;>omega
 refine dh (λk (l:List (List UInt8)) i=>dS y2 e k i l) (2+m) (λi l=>l.length=i∧∀x∈l,x.length≤1048576) (λk l h=>?_) (λk l i C h hk=>?_) (by omega) (s:=[]) ⟨rfl,λx hx=>by cases hx⟩
 ·show Tot (dS _ _ (k+1) _ _) _;rw [dS,d,aV,Q5];exact ap ⟨a.1,f,⟨by simp,λx hx=>by cases hx⟩,by show l.length≤_;omega,h.2⟩
 show Tot (dS _ _ (k+1) _ _) _;rw [dS,d,aV (n:=2+(m:Int)) (by omega) (by omega),Q0];refine (kD ⟨by omega,by simp;omega⟩).bind λv F=>?_;rw [bA,ax];refine hk _ ⟨by simp;omega,λx hx=>?_⟩;rcases List.mem_append.1 hx with hx|hx
 ·exact h.2 x hx
 rw [List.mem_singleton.1 hx];have h:=F.1;simp only [List.mem_cons,List.not_mem_nil,or_false] at h;rcases h with rfl|rfl|rfl|rfl<;>simp
omit hp in
def Ep (s:ae):Prop:=bn s∧s.c_.length≤8∧s.g_.length≤8
theorem NA {c:ak}(a:Cur p c):TD p (tR p c) (λs=>Ep s∧1≤s.c_.length∧s.c_.length≤5∧2≤s.g_.length∧s.g_.length≤3):=by
 unfold tR
 have key:∀(c:ak)(l:List (List UInt8)),Cur p c→2≤l.length→l.length≤3→(∀x∈l,x.length≤1048576)→TD p (nj p c.i_ c.h_ l) (λs=>Ep s∧1≤s.c_.length∧s.c_.length≤5∧2≤s.g_.length∧s.g_.length≤3):=by
  intro c l a j t hx;unfold nj;refine (dY hp (c:=⟨c.i_,c.h_⟩) a 5).bind λy2 d=>?_;obtain ⟨m,o⟩:∃m:Nat,y2.1=m:=⟨y2.1.toNat,by have:=d.2.1;omega⟩;have v:m≤4:=by rcases d.2.2 with g|g<;>omega
  refine dh (λk (σ:Int×Int×List aK) i=>ky y2 p l k σ.1 σ.2.1 σ.2.2 i) (1+m) (λi σ=>Cur p ⟨σ.1,σ.2.1⟩∧σ.2.2.length=i∧∀x∈σ.2.2,nx x) (λk σ h=>?_) (λk σ i w h hk=>?_) (by omega) (s:=(y2.2.i_,y2.2.h_,[])) ⟨d.1,rfl,λx hx=>by cases hx⟩
  ·obtain ⟨e,u,f⟩:=h;show Tot (ky _ _ _ (k+1) _ _ _ _) _;rw [ky,o,aV,Q5];exact ap ⟨e,⟨⟨⟨by show σ.2.2.length≤_;omega,f⟩,by show l.length≤_;omega,hx⟩,by show σ.2.2.length≤_;omega,by show l.length≤_;omega⟩,by show _≤σ.2.2.length;omega,by show σ.2.2.length≤_;omega,j,t⟩
  obtain ⟨e,u,f⟩:=h;show Tot (ky _ _ _ (k+1) _ _ _ _) _;rw [ky,o,aV (n:=1+(m:Int)) (by omega) (by omega),Q0];refine (Nw hp e (by omega)).bind λy3 q=>?_;rw [bA,ax];refine hk (_,_,_) ⟨q.1,by simp;omega,λx hx=>?_⟩;rcases List.mem_append.1 hx with hx|hx
  ·exact f x hx
  rw [List.mem_singleton.1 hx];exact q.2
 refine (rL hp a 3).bind λy r=>aP (λ_=>?_) (λ_=>key y.2 _ r.1 (by simp) (by simp) (λx hx=>?_))
 ·rw [bA (by simp)];refine key y.2 _ r.1 (by simp) (by simp) (λx hx=>?_);simp only [List.cons_append,List.nil_append,List.mem_cons,List.not_mem_nil,or_false] at hx;rcases hx with rfl|rfl|rfl<;>simp
 simp only [List.mem_cons,List.not_mem_nil,or_false] at hx;rcases hx with rfl|rfl<;>simp
theorem Ya {c:ak}(a:Cur p c):TD p (me p c) (λ_=>True):=by
 unfold me;exact (gh hp a (by simp)).bind λ_ h1=>(gh hp h1.1 (by simp)).bind λ_ d=>(gh hp d.1 (by simp)).bind λ_ e=>(gh hp e.1 (by simp)).bind λ_ f=>(gh hp f.1 (by simp)).bind λ_ g=>(gh hp g.1 (by simp)).bind λ_ h=>(rL hp h.1 2).bind λ_ i=>ap ⟨i.1,trivial⟩
theorem ES {c:ak}(f:Cur p c){s:ae}(g:Ep s):TD p (ny p c s) (smI 8):=by
 have j:=g.2.1;unfold ny;refine dh (λk (σ:Int×Int×List Int) i=>eZ s p k σ.1 σ.2.1 σ.2.2 i) s.c_.length (λi σ=>Cur p ⟨σ.1,σ.2.1⟩∧smI i σ.2.2) (λk σ h=>?_) (λk σ i m h hk=>?_) (by omega) (s:=(c.i_,c.h_,[])) ⟨f,.nil _⟩
 ·obtain ⟨d,a⟩:=h;show Tot (eZ _ _ (k+1) _ _ _ _) _;rw [eZ,Q5];exact aP (λ_=>ap ⟨d,by simp,λx l=>by rw [List.mem_singleton.1 l];exact eg ⟨by omega,by omega⟩⟩) (λ_=>ap ⟨d,a.mono j⟩)
 obtain ⟨d,a⟩:=h;have o:=a.1;show Tot (eZ _ _ (k+1) _ _ _ _) _;rw [eZ,Q0];refine (rL hp d 4).bind λy e=>aP (λ_=>?_) (λ_=>?_)
 ·rw [bA,ax];exact hk (_,_,_) ⟨e.1,a.app (eg ⟨by omega,by omega⟩) (Nat.le_refl _)⟩
 rw [ax];exact hk (_,_,_) ⟨e.1,a.mono (Nat.le_succ _)⟩
omit hp in
def RG (f:aC):Prop:=V f.k_∧V f.j_
theorem UT {c:ak}(o:Cur p c){s:ae}(q:Ep s):TD p (xB p c s) RG:=by
 have A:=q.2.1;have z:V 0:=eg ⟨by omega,by omega⟩;unfold xB;refine dh (λk (l:List aC) i=>gd s c p k l i) s.c_.length (λi l=>l.length≤5*i∧∀f∈l,RG f) (λk l h=>?_) (λk l i C h hk=>?_) (by omega) (s:=[]) ⟨by simp,λx r=>by cases r⟩
 ·show Tot (gd _ _ _ (k+1) _ _) _;rw [gd,Q5];refine aP (λ_=>ap ⟨o,z,z⟩) (λu=>(dY hp o _).bind λy m=>?_);have u:l.length≠0:=by simpa using u
  have:y.1<(l.length:Int):=by rcases m.2.2 with g|g<;>omega
  exact (kD ⟨m.2.1,this⟩).bind λv w=>ap ⟨m.1,h.2 v w.1⟩
 show Tot (gd _ _ _ (k+1) _ _) _;rw [gd,Q0];show Tot (ii s (i:Int) (gd s c p k) bc l ((0:Int)-1)) _;refine dh (λd (a:List aC) x=>ii s (i:Int) (gd s c p k) d a (x-1)) 5 (λx a=>a.length≤5*i+x∧∀f∈a,RG f) (λd a e=>?_) (λd a x r e j=>?_) (by omega) ⟨by omega,h.2⟩
 ·show Tot (ii _ _ _ (d+1) _ _) _;rw [ii,Q5,ax];exact hk _ ⟨by omega,e.2⟩
 show Tot (ii _ _ _ (d+1) _ _) _;rw [ii,Q0,aV (n:=(x:Int)-1+1) (by omega) (by omega),show (x:Int)-1+1=((x+1:Nat):Int)-1 by omega];refine (Dec.t (qM (f:=⟨(i:Int),(x:Int)-1⟩) q.1)).bind λb _=>aP (λ_=>?_) (λ_=>j _ ⟨by omega,e.2⟩);rw [bA];refine j _ ⟨by simp;omega,λf hf=>?_⟩;rcases List.mem_append.1 hf with hf|hf
 ·exact e.2 f hf
 rw [List.mem_singleton.1 hf];exact ⟨(eg ⟨by omega,by omega⟩:V (i:Int)),(eg ⟨by omega,by omega⟩:V ((x:Int)-1))⟩
omit hp in
theorem yi {l:List Int}{x:Int}(a:∀y∈l,V y)(h:x∈l):V x:=a x h
theorem VF {c:ak}(g:Cur p c){s:ae}(h:Ep s):TD p (zf p c s) RG:=by
 unfold zf;refine (UT hp g h).bind λf e=>(dY hp e.1 10).bind λy a=>aP (λ_=>(gh hp a.1 (by simp)).bind λz d=>ap ⟨d.1,e.2.1,yi (λy a=>?_) d.2⟩) (λ_=>aP (λ_=>(gh hp a.1 (by simp)).bind λz d=>ap ⟨d.1,yi (λy a=>?_) d.2,e.2.2⟩) (λ_=>ap ⟨a.1,e.2⟩))
 ·simp only [List.mem_cons,List.not_mem_nil,or_false] at a;unfold V;omega
 simp only [List.mem_cons,List.not_mem_nil,or_false] at a;unfold V;omega
theorem Vu {c:ak}(g:Cur p c){s:ae}(i:Ep s):TD p (xN p c s) (smI 9):=by
 unfold xN;refine (ES hp g i).bind λf d=>(dY hp d.1 10).bind λy a=>aP (λ_=>(gh hp a.1 (by simp)).bind λz e=>?_) (λ_=>aP (λ_=>ap ⟨a.1,.nil _⟩) (λ_=>ap ⟨a.1,d.2.mono (by omega)⟩));have h:=d.2.1;rw [bA];refine ap ⟨e.1,d.2.app (yi (λy a=>?_) e.2) (Nat.le_refl _)⟩;simp only [List.mem_cons,List.not_mem_nil,or_false] at a;unfold V;omega
end
end Go.Vk
/- Trees drawn: they are there, and Fk. -/
namespace Go.Vk
theorem Yh {a:aK}(h:nx a):T (kQ a):=by
 rcases (AB (Bc h)).cases with ⟨_,g⟩|⟨e,_⟩
 ·rw [vZ h g];exact bu _
 unfold kQ;rw [e];simp only [sS];exact bu _
section
variable {p:List Int} (hp:p.length≤1048576)
include hp
theorem IW {c:ak}(q:Cur p c){s:ae}(m:Ep s):TD p (rz p c s) (λe=>e.R_.length≤8):=by
 have t:=m.2.1;unfold rz;refine dh (λk (σ:Int×Int×List Int) i=>gj s p k σ.1 σ.2.1 σ.2.2 i) s.c_.length (λi σ=>Cur p ⟨σ.1,σ.2.1⟩∧σ.2.2.length=i) (λk σ h=>?_) (λk σ i o h hk=>?_) (by omega) (s:=(c.i_,c.h_,[])) ⟨q,rfl⟩
 ·obtain ⟨f,r⟩:=h;show Tot (gj _ _ (k+1) _ _ _ _) _;have d:σ.2.2.length≤8:=by omega
  rw [gj,Q5];refine (dY hp f _).bind λy a=>?_;refine Tot.bind (P:=λu=>Cur p ⟨u.2.1,u.2.2⟩∧(u.1=true→0<σ.2.2.length)) (aP (λg=>(rL hp a.1 5).bind λy2 j=>ap ⟨j.1,λ_=>by simpa using g⟩) (λ_=>ap ⟨a.1,λh=>by cases h⟩)) (λu l=>aP (λg=>?_) (λ_=>ap ⟨l.1,d⟩));simp only [Bool.and_eq_true,decide_eq_true_eq] at g;have w:=l.2 g.1;refine (kD ⟨by omega,by omega⟩).bind λe _=>?_;unfold rem;rw [Q6];exact ap ⟨l.1,d⟩
 obtain ⟨f,r⟩:=h;show Tot (gj _ _ (k+1) _ _ _ _) _;rw [gj,Q0,aH o];refine (Yh (m.1.1.2 _ (List.getElem_mem o))).bind λb _=>(dY hp f b).bind λy a=>(rL hp a.1 9).bind λy2 j=>?_
 have key:∀v:Int,Tot (mU σ.2.2 (gj s p k) (i:Int) y2.2.i_ y2.2.h_ v) (λy=>Cur p y.2∧y.1.R_.length≤8):=by
  intro v;unfold mU;rw [bA,ax];exact hk (_,_,_) ⟨j.1,by simp;omega⟩
 exact aP (λ_=>key _) (λ_=>key _)
theorem AH {c:ak}(d:Cur p c){n:Nat}(g:n≤1000):TD p (lY p c (n:Int)) (λl=>l.length=n∧∀x∈l,0≤x∧x≤255):=by
 unfold lY;refine dh (λk (σ:Int×Int×List Int) i=>jF (n:Int) p k σ.1 σ.2.1 σ.2.2 i) n (λi σ=>Cur p ⟨σ.1,σ.2.1⟩∧σ.2.2.length=i∧∀x∈σ.2.2,0≤x∧x≤255) (λk σ h=>?_) (λk σ i j h hk=>?_) (by omega) (s:=(c.i_,c.h_,[])) ⟨d,rfl,λx hx=>by cases hx⟩
 ·show Tot (jF _ _ (k+1) _ _ _ _) _;rw [jF,Q5];exact ap ⟨h.1,h.2⟩
 obtain ⟨e,m,f⟩:=h;show Tot (jF _ _ (k+1) _ _ _ _) _;rw [jF,Q0];refine (Gj hp e).bind λy a=>?_;rw [bA,ax];refine hk (_,_,_) ⟨a.1,by simp;omega,λx hx=>?_⟩;rcases List.mem_append.1 hx with hx|hx
 ·exact f x hx
 rw [List.mem_singleton.1 hx,IntWalk.u8_in _ a.2];exact a.2
theorem Wx {c:ak}(q:Cur p c){s:ae}(a:Ep s)(r:bO){n:Nat}(G:n≤60):Tot (vQ p c s r (n:Int)) (λy=>Cur p y.2.2∧ib 0 y.1):=by
 unfold vQ;have z:V 0:=eg ⟨by omega,by omega⟩;have u:Tot (some (am.mk [] 0)) (ib 0):=ap ⟨⟨by simp,λx f=>by cases f⟩,z⟩;refine (ES hp q a).bind λy d=>?_
 have v:Tot (ph s y.1) (ib 0):=by
  unfold ph;refine (uW a.1 (by have:=d.2.1;omega)).t.bind λb _=>aP (λ_=>u) (λ_=>(Bv a.1).bind λst l=>?_);rw [bA (by have:=d.2.1;simp;omega)];refine ap ⟨⟨by simp,λx f=>?_⟩,z⟩;rw [List.mem_singleton.1 f];exact ⟨⟨z,z⟩,.nil _,z,l,z,d.2.mono (by omega),z,eg (x:=-1) ⟨by omega,by omega⟩,z⟩
 refine v.bind λt A=>(dY hp d.1 _).bind λy2 C=>?_;refine dh (λk (σ:Int×Int×List az×Int×List cq) i=>jC (n:Int) p s r y2 k σ.1 σ.2.1 σ.2.2.1 σ.2.2.2.1 σ.2.2.2.2 i) n (λi σ=>Cur p ⟨σ.1,σ.2.1⟩∧ib 0 ⟨σ.2.2.1,σ.2.2.2.1⟩∧σ.2.2.2.2.length=i) (λk σ h=>?_) (λk σ i H h hk=>?_) (by omega) (s:=(y2.2.i_,y2.2.h_,t.a_,t.o_,[])) ⟨C.1,A,rfl⟩
 ·obtain ⟨g,j,D⟩:=h;show Tot (jC _ _ _ _ _ (k+1) _ _ _ _ _ _) _;rw [jC,Q5];exact ap ⟨g,j⟩
 obtain ⟨g,j,D⟩:=h;show Tot (jC _ _ _ _ _ (k+1) _ _ _ _ _ _) _;rw [jC,Q0];refine (IW hp g a).bind λe E=>(AH hp E.1 (n:=8) (by omega)).bind λb m=>(gh hp m.1 (by simp)).bind λw F=>(Nq a.1 j (tape:=⟨b.1,0⟩) (by show b.1.length≤_;have:=m.2.1;omega)).bind λL o=>?_;rw [bA,ax];exact hk (_,_,_,_,_) ⟨F.1,o.1,by simp;omega⟩
theorem Tb {c:ak}(a:Cur p c){s:ae}(g:Ep s):TD p (vG p c s) (ib 0):=by
 unfold vG;refine (Ya hp a).bind λr i=>(rL hp i.1 3).bind λo d=>?_
 have key:∀(c:ak)(u:Int),Cur p c→TD p (mw p s r c.i_ c.h_ u) (ib 0):=by
  intro c u a;unfold mw;refine (gh hp (c:=⟨c.i_,c.h_⟩) a (by simp)).bind λn e=>?_
  obtain ⟨m,j,f⟩:∃m:Nat,n.1=m∧m≤60:=by
   have h:=e.2;simp only [List.mem_cons,List.not_mem_nil,or_false] at h;exact ⟨n.1.toNat,by omega,by omega⟩
  rw [j];exact (Wx hp e.1 g _ f).bind λy k=>ap k
 exact aP (λ_=>(gh hp d.1 (by simp)).bind λu l=>key u.2 _ l.1) (λ_=>key o.2 _ d.1)
theorem UU {c:ak}(r:Cur p c){s:ae}(d:Ep s):TD p (xK p c s) (uG 0):=by
 unfold xK;refine (Bv d.1).bind λst g=>(gh hp r (by simp)).bind λn j=>?_
 obtain ⟨m,l,C⟩:∃m:Nat,n.1=m∧m≤60:=by
  have h:=j.2;simp only [List.mem_cons,List.not_mem_nil,or_false] at h;exact ⟨n.1.toNat,by omega,by omega⟩
 refine dh (λk (σ:Int×Int×List Int×List (List Int)) i=>kv n p s k σ.1 σ.2.1 σ.2.2.1 σ.2.2.2 i) m (λi σ=>Cur p ⟨σ.1,σ.2.1⟩∧uG 0 ⟨σ.2.2.1,σ.2.2.2⟩) (λk σ h=>?_) (λk σ i D h hk=>?_) (by omega) (s:=(n.2.i_,n.2.h_,st.l_,st.e_)) ⟨j.1,g⟩
 ·obtain ⟨f,a⟩:=h;show Tot (kv _ _ _ (k+1) _ _ _ _ _) _;rw [kv,l,Q5];refine (rL hp f 8).bind λo q=>aP (λ_=>?_) (λ_=>ap ⟨q.1,a⟩);rw [MR (by have:=a.1.1;omega)];exact ap ⟨q.1,a.1,by simp,λx t=>by cases t⟩
 obtain ⟨f,a⟩:=h;show Tot (kv _ _ _ (k+1) _ _ _ _ _) _;rw [kv,l,Q0,ax];exact (IW hp f d).bind λe u=>(gh hp u.1 (by simp)).bind λw v=>(Jz d.1 a).bind λy A=>hk (_,_,_,_) ⟨v.1,A⟩
theorem Wa {c:ak}(o:Cur p c){s:ae}(q:Ep s):TD p (zg p c s) (uG 1):=by
 unfold zg;refine (UU hp o q).bind λst i=>(dY hp i.1 14).bind λy a=>?_;obtain ⟨l,A,m⟩:=i.2;have d:=i.2.mono (d':=1) (by omega);have keep:TD p (some (st.1,y.2)) (uG 1):=ap ⟨a.1,d⟩;refine aP (λ_=>aP (λh=>(gh hp a.1 (by simp)).bind λv j=>(kD ⟨by omega,by simpa using h⟩).bind λ_ _=>ap ⟨j.1,(l.mono (by omega)).set (yi (λy a=>?_) j.2) _,d.2⟩) (λ_=>keep)) (λ_=>aP (λ_=>?_) (λ_=>aP (λ_=>?_) (λ_=>aP (λ_=>aP (λh=>?_) (λ_=>keep)) (λ_=>keep))))
 ·simp only [List.mem_cons,List.not_mem_nil,or_false] at a;unfold V;omega
 ·have h:=l.1;rw [bA];exact ap ⟨a.1,l.app (eg ⟨by omega,by omega⟩) (by omega),d.2⟩
 ·refine Tot.bind (P:=λu=>u=true→∃h:0<st.1.e_.length,0<(st.1.e_[0]).length) (aP (λh=>?_) (λ_=>ap λh=>by cases h)) (λu r=>aP (λg=>?_) (λ_=>keep))
  ·have h:0<st.1.e_.length:=by simpa using h
   have k:idx st.1.e_ 0=some st.1.e_[0]:=aH h;rw [k];exact ap λg=>⟨h,by simpa using g⟩
  obtain ⟨h,t⟩:=r g;have k:idx st.1.e_ 0=some st.1.e_[0]:=aH h;have w:idx st.1.e_[0] 0=some st.1.e_[0][0]:=aH t;have f:=m _ (List.getElem_mem h);rw [k];simp only [bS];refine (gh hp a.1 (by simp)).bind λv j=>?_;rw [w];refine ap ⟨j.1,d.1,by show (st.1.e_.set _ _).length≤_;rw [List.length_set];omega,λx e=>?_⟩;rcases List.mem_or_eq_of_mem_set e with e|rfl
  ·exact d.2.2 x e
  refine (f.mono (by omega)).set (yi (λy a=>?_) j.2) _;simp only [List.mem_cons,List.not_mem_nil,or_false] at a;unfold V;omega
 have h:0<st.1.e_.length:=by simpa using h
 have k:idx st.1.e_ 0=some st.1.e_[0]:=aH h;have f:=m _ (List.getElem_mem h);have C:=f.1;rw [k];simp only [bS];rw [bA];refine ap ⟨a.1,d.1,by show (st.1.e_.set _ _).length≤_;rw [List.length_set];omega,λx e=>?_⟩;rcases List.mem_or_eq_of_mem_set e with e|rfl
 ·exact d.2.2 x e
 exact f.app (eg ⟨by omega,by omega⟩) (by omega)
theorem NV {c:ak}(Q:Cur p c){s:ae}(F:Ep s):TD p (tL p c s) (ib 1):=by
 unfold tL;refine (Tb hp Q F).bind λy f=>?_;have R:=f.2.mono (d':=1) (by omega);obtain ⟨e,h⟩:=R;refine aP (λ_=>ap ⟨f.1,e,h⟩) (λM=>?_);have M:y.1.a_.length≠0:=by simpa using M
 refine (dY hp f.1 _).bind λa L=>?_;obtain ⟨j,X⟩:∃j:Nat,a.1=j:=⟨a.1.toNat,by have:=L.2.1;omega⟩;have E:j<y.1.a_.length:=by rcases L.2.2 with g|g<;>omega
 have Z:=e.1;rw [X,aH E];have G:=f.2.1.2 _ (List.getElem_mem E);have D:=e.2 _ (List.getElem_mem E);obtain ⟨k,m,q,r,t,u,w,A,C⟩:=D;refine (dY hp L.1 22).bind λo i=>?_;simp only [bS];refine aP (λ_=>(gh hp i.1 (by simp)).bind λv d=>ap ⟨d.1,e,yi (λy f=>?_) d.2⟩) (λ_=>?_)
 ·simp only [List.mem_cons,List.not_mem_nil,or_false] at f;unfold V;omega
 refine aP (λ_=>(dY hp i.1 8).bind λv d=>ap ⟨d.1,ib.setN e (n:={y.1.a_[j] with r_:=v.1}) ⟨k,m,q,r,t,u,eg (x:=v.1) ⟨by have:=d.2;omega,by have:=d.2;omega⟩,A,C⟩ h _⟩) (λ_=>?_);refine aP (λ_=>(gh hp i.1 (by simp)).bind λv d=>ap ⟨d.1,ib.setN e (n:={y.1.a_[j] with G_:=v.1}) ⟨k,m,q,r,t,u,w,yi (λy f=>?_) d.2,C⟩ h _⟩) (λ_=>?_)
 ·simp only [List.mem_cons,List.not_mem_nil,or_false] at f;unfold V;omega
 refine aP (λ_=>(gh hp i.1 (by simp)).bind λv d=>?_) (λ_=>?_)
 ·have hk:=G.2.1.1;rw [bA];refine ap ⟨d.1,ib.setN e (n:={y.1.a_[j] with C_:=y.1.a_[j].C_++[v.1]}) ⟨k,G.2.1.app (yi (λy f=>?_) d.2) (by omega),q,r,t,u,w,A,C⟩ h _⟩;simp only [List.mem_cons,List.not_mem_nil,or_false] at f;rcases f with rfl|rfl|rfl|rfl
  ·exact eg ⟨by omega,by omega⟩
  ·exact eg ⟨by omega,by omega⟩
  ·exact pn _
  exact eg ⟨by omega,by omega⟩
 refine aP (λ_=>(gh hp i.1 (by simp)).bind λv d=>ap ⟨d.1,ib.setN e (n:={y.1.a_[j] with J_:=v.1}) ⟨k,m,yi (λy f=>?_) d.2,r,t,u,w,A,C⟩ h _⟩) (λ_=>?_)
 ·simp only [List.mem_cons,List.not_mem_nil,or_false] at f;unfold V;omega
 refine aP (λ_=>(gh hp i.1 (by simp)).bind λv d=>ap ⟨d.1,ib.setN e (n:={y.1.a_[j] with K_:=v.1}) ⟨k,m,q,r,yi (λy f=>?_) d.2,u,w,A,C⟩ h _⟩) (λ_=>?_)
 ·simp only [List.mem_cons,List.not_mem_nil,or_false] at f;unfold V;omega
 refine aP (λ_=>(gh hp i.1 (by simp)).bind λv d=>ap ⟨d.1,ib.setN e (n:={y.1.a_[j] with E_:=v.1}) ⟨k,m,q,r,t,u,w,A,yi (λz P=>?_) d.2⟩ h _⟩) (λ_=>?_)
 ·simp only [List.mem_cons,List.not_mem_nil,or_false] at P;rcases P with rfl|rfl|rfl|rfl|rfl
  ·exact eg ⟨by omega,by omega⟩
  ·exact eg ⟨by omega,by omega⟩
  ·exact eg ⟨by omega,by omega⟩
  ·exact h
  exact pn _
 refine aP (λ_=>ap ⟨i.1,ib.setN e (n:={y.1.a_[j] with D_:=(!y.1.a_[j].D_)}) ⟨k,m,q,r,t,u,w,A,C⟩ h _⟩) (λ_=>?_);refine aP (λ_=>(VF hp i.1 F).bind λv d=>ap ⟨d.1,ib.setN e (n:={y.1.a_[j] with n_:=v.1}) ⟨d.2,m,q,r,t,u,w,A,C⟩ h _⟩) (λ_=>?_);refine aP (λ_=>(Vu hp i.1 F).bind λv d=>ap ⟨d.1,ib.setN e (n:={y.1.a_[j] with c_:=v.1}) ⟨k,m,q,r,t,d.2.mono (by omega),w,A,C⟩ h _⟩) (λ_=>?_);refine aP (λ_=>(Wa hp i.1 F).bind λv d=>ap ⟨d.1,ib.setN e (n:={y.1.a_[j] with q_:=v.1}) ⟨k,m,q,d.2,t,u,w,A,C⟩ h _⟩) (λ_=>?_);refine aP (λ_=>?_) (λ_=>ap ⟨i.1,e,h⟩);rw [aV];refine (sJ ⟨by omega,by omega,by omega⟩).bind λl H=>ap ⟨i.1,⟨?_,λn D=>?_⟩,h⟩
 ·show l.length≤40;rw [H];simp only [List.length_take,List.length_drop];omega
 have D:n∈l:=D;rw [H] at D;exact e.2 n (List.mem_of_mem_drop (List.mem_of_mem_take D))
end
end Go.Vk
/- Windows drawn: they are there, and Fk. -/
namespace Go.Vk
def gv (a b:Nat)(l:List (List Int)):Prop:=l.length≤a∧∀r∈l,smI b r
theorem gv.mono {a b a' b':Nat}(e:a≤a')(c:b≤b'){l:List (List Int)}(h:gv a b l):gv a' b' l:=⟨by have:=h.1;omega,λr d=>(h.2 r d).mono c⟩
theorem gv.app {a b:Nat}{l:List (List Int)}{r:List Int}(h:gv a b l)(c:smI b r):gv (a+1) b (l++[r]):=⟨by have:=h.1;simp;omega,λx hx=>by
 rcases List.mem_append.1 hx with hx|hx
 ·exact h.2 x hx
 rw [List.mem_singleton.1 hx];exact c⟩
theorem gv.set {a b:Nat}{l:List (List Int)}{r:List Int}(h:gv a b l)(d:smI b r)(i:Nat):gv a b (l.set i r):=⟨by rw [List.length_set];exact h.1,λx c=>by
 rcases List.mem_or_eq_of_mem_set c with c|rfl
 ·exact h.2 x c
 exact d⟩
theorem vd {w:au}(h:gv 100 1000 w.f_):lQ w=some w:=by
 have c:=h.1;unfold lQ
 rw [qH (p:=w.f_) id (ni w) (λl=>some ⟨l⟩) (λk l=>by rw [ni,Q5]) (λk l i a d=>by
  have e:=(h.2 _ (List.getElem_mem a)).1;rw [ni,Q0,aH a,ax];simp only [bS];rw [bA];simp only [Option.bind_some,List.nil_append];rw [bA];rfl) (by omega),List.map_id]
theorem Pc {w:au}{b:Int}(h:gv 8 12 w.f_):Tot (qo w b) (λy=>gv 8 12 y.1.f_):=by
 unfold qo;rw [vd (h.mono (by omega) (by omega))];simp only [bS];refine la (EZ w).t (by simp only [sS];exact ap h) (λD=>?_);simp only [sS];refine mM cW.t (by simp only [sS];exact ap h) (λL=>?_);simp only [sS]
 have s:gv 8 3 w.f_:=⟨D.1,λr A=>by
  obtain ⟨i,C,rfl⟩:=List.getElem_of_mem A;exact ⟨(D.2 i C C).1.2,(h.2 _ A).2⟩⟩
 have vb:V b:=eg ⟨by omega,by omega⟩
 have key:∀l:List (List Int),0<l.length→gv 8 3 l→Tot (lx b l) (λy=>gv 8 12 y.1.f_):=by
  intro l c s;have v:=s.2 _ (List.getElem_mem c);have A:=v.1;have M:idx l 0=some l[0]:=aH c;unfold lx;rw [M];simp only [bS];rw [bA];simp only [bS];have P:gv 8 4 (l.set (0:Int).toNat (l[0]++[b])):=(s.mono (Nat.le_refl _) (by omega)).set (v.app vb (by omega)) _;refine dh (λk (l:List (List Int)) i=>fb k l i) 8 (λi l=>gv 8 (4+i) l) (λk l c=>?_) (λk l i C c hk=>?_) (by omega) (P.mono (Nat.le_refl _) (by omega))
  ·show Tot (fb (k+1) _ _) _;rw [fb,Q5];exact ap (c.mono (Nat.le_refl _) (by omega))
  show Tot (fb (k+1) _ _) _;have fin:gv 8 12 l:=c.mono (Nat.le_refl _) (by omega);have Z:=c.1;rw [fb,Q0];by_cases E:i<l.length
  ·have e:=c.2 _ (List.getElem_mem E);have a0:=e.1;rw [Q4,aH E];simp only [bS];refine aP (λ_=>ap fin) (λg=>?_);have g:3<l[i].length:=by simp at g;omega
   refine aP (λ_=>(sJ ⟨by omega,by omega,by omega⟩).bind λu a=>?_) (λF=>(kD ⟨by omega,by omega⟩).bind λQ _=>(kD ⟨by omega,by omega⟩).bind λR _=>(sJ ⟨by omega,by omega,by omega⟩).bind λu a=>?_)
   ·have d:smI 12 u:=⟨by rw [a];simp only [List.length_take,List.length_drop];omega,λx f=>e.2 x (by rw [a] at f;exact List.mem_of_mem_drop (List.mem_of_mem_take f))⟩;have a:=d.1;rw [bA];exact ap (fin.set d _)
   have F:i≠7:=λh=>F (by subst h;rfl);have d:smI (4+i) u:=⟨by rw [a];simp only [List.length_take,List.length_drop];omega,λx f=>e.2 x (by rw [a] at f;exact List.mem_of_mem_drop (List.mem_of_mem_take f))⟩;have a:=d.1;rw [bA,ax];simp only [Option.bind_some,List.nil_append]
   have j:∀q:List (List Int),i+1<q.length→gv 8 (4+i) q→Tot (lw (i:Int) Q R (fb k) q) (λy=>gv 8 12 y.1.f_):=by
    intro q G H;have m:=H.2 _ (List.getElem_mem G);have a1:=m.1;unfold lw;rw [ax,aH G];simp only [bS];rw [bA];exact hk _ ((H.mono (b':=4+(i+1)) (Nat.le_refl _) (by omega)).set (m.app (pn _) (by omega)) _)
   have o:gv 8 (4+i) (l.set (i:Int).toNat u):=c.set d _;refine aP (λge=>?_) (λge=>j _ ?_ o)
   ·have ge:i+1=l.length:=by simp at ge;omega
    rw [bA];refine j _ (by simp;omega) ⟨by simp;omega,(gv.app (r:=[]) o (.nil _)).2⟩
   have ge:i+1≠l.length:=by simp at ge;omega
   rw [List.length_set];omega
  rw [Q0];simp only [sS];exact ap fin
 refine aP (λp=>?_) (λp=>key _ (by have:w.f_.length≠0:=(by simpa using p);omega) s);have p:w.f_.length=0:=by simpa using p
 have X:w.f_=[]:=List.length_eq_zero_iff.1 p;rw [X,bA (by simp)];exact key [[]] (by simp) ⟨by simp,λx f=>by rw [List.mem_singleton.1 f];exact .nil _⟩
theorem Zq {i:Nat}(h:i≤8):V ((2^i:Nat):Int):=by
 have:(2:Nat)^i≤2^8:=Nat.pow_le_pow_right (by omega) h;generalize (2:Nat)^i=q at *
 exact eg ⟨by omega,by omega⟩
section
variable {p:List Int} (hp:p.length≤1048576)
include hp
theorem Ty {c:ak}(a:Cur p c){n:Nat}(u:n≤90):TD p (uf p c (n:Int)) (λl=>l.length≤90):=by
 unfold uf;rw [ax];refine (dY hp a _).bind λy1 h1=>(dY hp h1.1 _).bind λy2 j=>(gh hp j.1 (by simp)).bind λy3 r=>?_;obtain ⟨m,e⟩:∃m:Nat,y1.1=m:=⟨y1.1.toNat,by have:=h1.2.1;omega⟩;have t:m≤90:=by rcases h1.2.2 with g|g<;>omega
 refine dh (λk (σ:Int×Int×List Int) i=>ik y1 y2 p y3 k σ.1 σ.2.1 σ.2.2 i) m (λi σ=>Cur p ⟨σ.1,σ.2.1⟩∧σ.2.2.length=i) (λk σ h=>?_) (λk σ i w h hk=>?_) (by omega) (s:=(y3.2.i_,y3.2.h_,[])) ⟨r.1,rfl⟩
 ·show Tot (ik _ _ _ _ (k+1) _ _ _ _) _;rw [ik,e,Q5];exact ap ⟨h.1,by show σ.2.2.length≤90;have:=h.2;omega⟩
 obtain ⟨f,x⟩:=h;show Tot (ik _ _ _ _ (k+1) _ _ _ _) _;rw [ik,e,Q0]
 have key:∀(c:ak)(q:Bool),Cur p c→Tot ((iE q).bind λy=>(app σ.2.2 [y]).bind λl=>ik y1 y2 p y3 k c.i_ c.h_ l (IntKind.i64.wrap ((i:Int)+1))) (λy=>Cur p y.2∧y.1.length≤90):=by
  intro c q a;have:T (iE q):=by unfold iE;exact aP (λ_=>bu _) (λ_=>bu _)
  refine this.bind λv _=>?_;rw [bA,ax];exact hk (_,_,_) ⟨a,by simp;omega⟩
 exact aP (λ_=>(rL hp f _).bind λo d=>key o.2 _ d.1) (λ_=>(rL hp f _).bind λo d=>key o.2 _ d.1)
theorem SK {c:ak}(M:Cur p c):TD p (vW p c) (λw=>gv 8 12 w.f_):=by
 unfold vW;refine (rL hp M 5).bind λo C=>aP (λ_=>(gh hp C.1 (by simp)).bind λy a=>?_) (λ_=>(gh hp C.1 (by simp)).bind λy a=>?_)
 ·obtain ⟨m,hm,d⟩:∃m:Nat,y.1=m∧m≤8:=by
   have h:=a.2;simp only [List.mem_cons,List.not_mem_nil,or_false] at h;exact ⟨y.1.toNat,by omega,by omega⟩
  refine dh (λk (σ:Int×Int×List (List Int)) i=>gn y p k σ.1 σ.2.1 σ.2.2 i) m (λi σ=>Cur p ⟨σ.1,σ.2.1⟩∧gv i 12 σ.2.2) (λk σ h=>?_) (λk σ i D h hk=>?_) (by omega) (s:=(y.2.i_,y.2.h_,[])) ⟨a.1,by simp,λx r=>by cases r⟩
  ·show Tot (gn _ _ (k+1) _ _ _ _) _;rw [gn,hm,Q5];exact ap ⟨h.1,h.2.mono d (Nat.le_refl _)⟩
  obtain ⟨P,E⟩:=h;show Tot (gn _ _ (k+1) _ _ _ _) _;rw [gn,hm,Q0];refine (dY hp P 3).bind λy2 t=>?_;obtain ⟨q,F⟩:∃q:Nat,y2.1=q:=⟨y2.1.toNat,by have:=t.2.1;omega⟩;have X:q≤2:=by rcases t.2.2 with g|g<;>omega
  refine dh (λe (τ:Int×Int×List Int) j=>js y2 (i:Int) p σ.2.2 (gn y p k) e τ.1 τ.2.1 τ.2.2 j) (1+q) (λj τ=>Cur p ⟨τ.1,τ.2.1⟩∧smI j τ.2.2) (λe τ u=>?_) (λe τ j Z u G=>?_) (by omega) (s:=(y2.2.i_,y2.2.h_,[])) ⟨t.1,.nil _⟩
  ·obtain ⟨v,f⟩:=u;show Tot (js _ _ _ _ _ (e+1) _ _ _ _) _;have gl:=E.1;rw [js,F,aV (n:=1+(q:Int)) (by omega) (by omega),Q5,bA,ax];exact hk (_,_,_) ⟨v,E.app (f.mono (by omega))⟩
  obtain ⟨v,f⟩:=u;show Tot (js _ _ _ _ _ (e+1) _ _ _ _) _;rw [js,F,aV (n:=1+(q:Int)) (by omega) (by omega),Q0,Mx (by omega)];simp only [bS];refine (dY hp v _).bind λy4 H=>(gh hp H.1 (by simp)).bind λy5 L=>?_;have t3:=f.1;rw [bA,ax (i:=j) (by omega)];refine G (_,_,_) ⟨L.1,f.app ?_ (Nat.le_refl _)⟩;have Q:=Zq (i:=i) (by omega);have hm:=L.2;simp only [List.mem_cons,List.not_mem_nil,or_false] at hm;rcases hm with hm|hm|hm
  ·rw [hm];exact eg ⟨by omega,by omega⟩
  ·rw [hm];exact Q
  rw [hm];have p8:(2:Nat)^i≤2^8:=Nat.pow_le_pow_right (by omega) (by omega);have:=H.2;generalize (2:Nat)^i=z at *
  rw [aV] at this;exact eg ⟨by omega,by omega⟩
 obtain ⟨m,hm,d⟩:∃m:Nat,y.1=m∧m≤90:=by
  have h:=a.2;simp only [List.mem_cons,List.not_mem_nil,or_false] at h;exact ⟨y.1.toNat,by omega,by omega⟩
 rw [hm];refine (Ty hp a.1 d).bind λz A=>?_;refine dh (λk (l:List (List Int)) i=>jt z k i l) z.1.length (λ_ l=>gv 8 12 l) (λk l h=>?_) (λk l i D h hk=>?_) (by have:=A.2;omega) (s:=[]) ⟨by simp,λx r=>by cases r⟩
 ·show Tot (jt _ (k+1) _ _) _;rw [jt,Q5];exact ap ⟨A.1,h⟩
 show Tot (jt _ (k+1) _ _) _;have:=A.2;rw [jt,Q0,aH D,ax];exact (Pc (w:=⟨l⟩) h).bind λw R=>hk _ R
theorem OB {c:ak}(o:Cur p c):TD p (tP p c) (λw=>gv 9 13 w.f_):=by
 unfold tP;refine (SK hp o).bind λw e=>(dY hp e.1 12).bind λy a=>?_;have s:=e.2.1;have i:=e.2.mono (a':=9) (b':=13) (by omega) (by omega);have keep:TD p (some (w.1,y.2)) (λw=>gv 9 13 w.f_):=ap ⟨a.1,i⟩;refine aP (λ_=>?_) (λ_=>aP (λ_=>aP (λg=>?_) (λ_=>keep)) (λ_=>aP (λ_=>?_) (λ_=>aP (λ_=>(gh hp a.1 (by simp)).bind λv f=>?_) (λ_=>keep))))
 ·rw [bA];exact ap ⟨a.1,((e.2.mono (Nat.le_refl _) (by omega)).app (.nil _):gv (8+1) 13 _)⟩
 ·have g:0<w.1.f_.length:=by simpa using g
  have q:idx w.1.f_ 0=some w.1.f_[0]:=aH g;have h:=e.2.2 _ (List.getElem_mem g);have t:=h.1;rw [q];simp only [bS];refine (gh hp a.1 (by simp)).bind λv f=>?_;rw [bA];refine ap ⟨f.1,i.set (h.app (yi (λy a=>?_) f.2) (by omega)) _⟩;simp only [List.mem_cons,List.not_mem_nil,or_false] at a;unfold V;omega
 ·have key:∀(d k:Nat)(l:List (List Int)),9-l.length=d→d<k→gv 9 13 l→Tot (ng y k l) (λz=>Cur p z.2∧gv 9 13 z.1.f_):=by
   intro d
   induction d with
   | zero =>
    intro k l r hk j;obtain ⟨k,rfl⟩:=kS k (by omega);rw [ng,Q4];exact ap ⟨a.1,j⟩
   | succ d ih =>
    intro k l r hk j;obtain ⟨k,rfl⟩:=kS k (by omega);rw [ng,Q0,bA];exact ih k _ (by simp;omega) (by omega) ⟨by simp;omega,(j.app ⟨by simp,λx m=>by rw [List.mem_singleton.1 m];exact eg ⟨by omega,by omega⟩⟩).2⟩
  exact key _ bc _ rfl cN i
 rw [bA];refine ap ⟨f.1,((e.2.mono (Nat.le_refl _) (by omega)).app ⟨by simp,λx m=>?_⟩:gv (8+1) 13 _)⟩;rw [List.mem_singleton.1 m];refine yi (λy a=>?_) f.2;simp only [List.mem_cons,List.not_mem_nil,or_false] at a;unfold V;omega
end
end Go.Vk
/- The buckets of a window: alike. -/
namespace Go.Vk
def bk (p:au):Nat→List dl
 | 0=>[]
 | c+1=>((p.f_[c]?).getD []).map (dl.mk ((2^c:Nat):Int))++bk p c
theorem Ui {p:au}(h:HN p):∀c,c≤p.f_.length→(bk p c).length≤3*c
 | 0,_=>by simp [bk]
 | c+1,a=>by
  have:=Ui h c (by omega);have:=((h.2 c (by omega)) (by omega)).1;have h':c<p.f_.length:=by omega
  simp [bk,h'];omega
theorem UX {α β ρ:Type}{p:List α}(g:α→β)(l:List β)(Lp:Nat→List β→Int→Option ρ)(fin:List β→Option ρ)(c:∀k v,Lp (k+1) v (p.length:Int)=fin v)(d:∀k v (i:Nat) (h:i<p.length),v.length=l.length+i→Lp (k+1) v (i:Int)=Lp k (v++[g p[i]]) ((i+1:Nat):Int))(e:p.length<1000000000000):Lp bc l 0=fin (l++p.map g):=by
 have:=jg (Lp:=λk i=>Lp k (l++(p.take i).map g) (i:Int)) (n:=p.length) (fin:=fin (l++p.map g)) (λk=>by
  show Lp _ _ _=_
  rw [c,List.take_length]) (λk i a=>by
  show Lp _ _ _=Lp _ _ _;rw [d _ _ _ a (by simp;omega),List.take_succ_eq_append_getElem a,List.map_append,List.append_assoc];rfl) e
 simpa using this
theorem YL {p:au}(h:HN p):∀c k l,c≤p.f_.length→c<k→l.length+3*c≤1000→jk p k l ((c:Int)-1)=some (l++bk p c):=by
 intro c
 induction c with
 | zero =>
  intro k l _ hk a;obtain ⟨k,rfl⟩:=kS k (by omega);rw [jk,Q5,bk,List.append_nil]
 | succ c ih =>
  intro k l g hk a;obtain ⟨k,rfl⟩:=kS k (by omega);have i:=h.1;have hc':c<p.f_.length:=by omega
  have m:=(h.2 c hc' hc').1;have e:((c+1:Nat):Int)-1=c:=by omega
  rw [e,jk,Q2,UX (p:=p.f_[c]) (dl.mk ((2^c:Nat):Int)) l (mW p c (jk p k)) (λl=>jk p k l ((c:Int)-1)) (λd v=>by
   rw [mW,aH hc'];simp only [bS]
   rw [Q5,aV]) (λd v j f o=>by
   rw [mW,aH hc'];simp only [bS];rw [Q0,aH f,Mx (by omega),ax];unfold app;simp only [bS];rw [Q0];rfl) (by omega),ih k _ (by omega) (by omega) (by simp;omega)]
  simp [bk,hc']
end Go.Vk
/- Lists of words and of numbers: copied, compared, marked. -/
namespace Go.Vk
theorem Ut {α:Type}(p:List α):(p.map λ_=>1).sum=p.length:=by induction p with|nil=>rfl|cons x p ih=>simp [ih];omega
end Go.Vk
/- Numbers and lists put into bytes. -/
namespace Go.Vk
def uH (n:Nat):List Int:=if h:n<128 then [(n:Int)] else ((n%128+128:Nat):Int)::uH (n / 128)
termination_by n
decreasing_by omega
theorem Ev {n:Nat}(h:n<128):uH n=[(n:Int)]:=by unfold uH;rw [dif_pos h]
theorem Iv {n:Nat}(h:¬n<128):uH n=((n%128+128:Nat):Int)::uH (n / 128):=by rw [uH,dif_neg h]
theorem TY {n:Nat}(h:n<256):IntKind.u8.wrap (n:Int)=n:=by
 unfold IntKind.wrap;simp [IntKind.bits,IntKind.signed];omega
theorem Us:∀(d k n:Nat)(l:List Int),n<128^(d+1)→n<9223372036854775808→d<k→l.length+d≤1000000 →
  qr k (n:Int) l=some (l++uH n)∧oo k (n:Int) l=some (l++uH n,false)∧(uH n).length≤d+1:=by
 intro d
 induction d with
 | zero =>
  intro k n l a c hk f;obtain ⟨k,rfl⟩:=kS k (by omega);unfold qr oo;simp at a;rw [Q4,Q4,TY (by omega),Ev a,bA];exact ⟨rfl,rfl,by simp⟩
 | succ d ih =>
  intro k n l a c hk f;obtain ⟨k,rfl⟩:=kS k (by omega);unfold qr oo;by_cases e:n<128
  ·rw [Q4,Q4,TY (by omega),Ev e,bA];exact ⟨rfl,rfl,by simp⟩
  rw [Q0,Q0,Tl n c,Zy _ (by omega),ZP]
  have g:IntKind.i64.wrap (Int.tdiv (n:Int) 128)=((n / 128:Nat):Int):=by
   rw [show (128:Int)=((128:Nat):Int) from rfl,yH,fQ]
  have h:Int.tmod (n:Int) 128=((n%128:Nat):Int):=qm n 128;have i:IntKind.i64.wrap (((n%128:Nat):Int)+128)=((n%128+128:Nat):Int):=by rw [aV];simp
  rw [g,h,i,TY (by omega),bA];simp only [bS]
  obtain ⟨h1,j,m⟩:=ih k (n / 128) (l++[((n%128+128:Nat):Int)]) (by
   rw [Nat.div_lt_iff_lt_mul (by omega),←Nat.pow_succ];exact a) (by omega) (by omega) (by simp;omega)
  rw [h1,j,Iv e];exact ⟨by simp,by simp,by simp;omega⟩
def zig (x:Int):Nat:=if x<0 then (-2*x-1).toNat else (2*x).toNat
def InR (x:Int):Prop:=-1000000000≤x∧x≤1000000000
instance:DecidablePred InR:=λ_=>inferInstanceAs (Decidable (_∧_))
theorem Un {x:Int}(h:InR x):zig x≤2000000000:=by obtain ⟨a,h1⟩:=h;unfold zig;split<;>omega
def ez (x:Int):List Int:=if InR x then uH (zig x) else []
theorem LF {n:Nat}(h:n≤2147483647):wv (n:Int)=some (uH n)∧sZ (n:Int)=some (uH n,false)∧(uH n).length≤5:=by
 unfold wv sZ aU bm;simp only [bS];rw [qj (by omega)];simp only [Bool.not_true,Bool.false_eq_true,if_false];obtain ⟨h1,a,c⟩:=Us 4 bc n [] (by omega) (by omega) cN (by simp);exact ⟨by simpa using h1,by simpa using a,by simpa using c⟩
theorem gR {x:Int}:er x=some (ez x)∧zh x=some (ez x,decide ¬InR x)∧(ez x).length≤5:=by
 unfold er zh aU bm ez;simp only [bS];by_cases a:InR x
 ·obtain ⟨h1,f,g⟩:=LF (n:=zig x) (by have:=Un a;omega);rw [if_pos a];have d:(decide ¬InR x)=false:=by simp [a]
  rw [d];obtain ⟨c1,c2⟩:=a;rw [qj ⟨c1,c2⟩];simp only [Bool.not_true,Bool.false_eq_true,if_false];by_cases c:x<0
  ·rw [if_pos (by simpa using c),if_pos (by simpa using c)]
   have e:IntKind.i64.wrap ((IntKind.i64.wrap (0-(IntKind.i64.wrap (2*x))))-1)=(zig x:Nat):=by
    rw [aV (n:=2*x) (by omega) (by omega),aV (n:=0-2*x) (by omega) (by omega),aV];unfold zig;rw [if_pos c];omega
   have e':IntKind.i64.wrap ((IntKind.i64.wrap ((-2)*x))-1)=(zig x:Nat):=by
    rw [aV (n:=-2*x) (by omega) (by omega),aV];unfold zig;rw [if_pos c];omega
   rw [e,e',h1,f];exact ⟨rfl,rfl,g⟩
  rw [if_neg (by simpa using c),if_neg (by simpa using c)]
  have e:IntKind.i64.wrap (2*x)=(zig x:Nat):=by
   rw [aV (n:=2*x) (by omega) (by omega)];unfold zig;rw [if_neg c];omega
  rw [e,h1,f];exact ⟨rfl,rfl,g⟩
 rw [if_neg a,rY (by exact a)];have d:(decide ¬InR x)=true:=by simp [a]
 rw [d];exact ⟨rfl,rfl,by simp⟩
def mR (xs:List Int):List Int:=xs.flatMap ez
theorem pL (xs:List Int):(mR xs).length≤5*xs.length:=by
 induction xs with
 | nil=>simp [mR]
 | cons x xs ih => 
  have:=(gR (x:=x)).2.2;simp only [mR,List.flatMap_cons,List.length_append,List.length_cons] at ih ⊢;omega
theorem Ec {p:List Int}(c:p.length<1000000000000):jW p=some (decide (∀x∈p,InR x)):=by
 unfold jW;refine NB (P:=InR) (wB p) (λk=>?_) (λk i h=>?_) c
 ·show (if _ then _ else _)=_;rw [Q5]
 show (if _ then _ else _)=_;rw [Q0,aH h,ax];unfold aU;simp only [bS];by_cases a:InR p[i]
 ·rw [qj a,if_pos a];rfl
 rw [rY a,if_neg a];rfl
theorem Kz {p:List Int}(a:p.length≤1048576)(l:List Int)(c:l.length≤1000000000):sy p bc l 0=some (l++mR p):=by
 rw [EO (p:=p) (λk s i=>sy p k s i) (λs x=>.inr (s++ez x)) (λs=>some s) (λi s=>s.length≤l.length+5*i)
  (λk s _=>by show (if _ then _ else _)=_;rw [Q5])
  (λk s i h d=>⟨by
   show (if _ then _ else _)=_;rw [Q0,aH h,ax];simp only [bS];rw [gR.1];simp only [bS];rw [bA (by have:=(gR (x:=p[i])).2.2;omega)]
   rfl,λs' e=>by
   have:=(gR (x:=p[i])).2.2;obtain rfl:=Sum.inr.inj e;rw [List.length_append];omega⟩) (by omega) l (by omega)]
 clear a c
 induction p generalizing l with
 | nil=>simp [run,mR]
 | cons x p ih=>show run _ _ (l++ez x) p=_;rw [ih];simp [mR]
theorem kx {p:List Int}(a:p.length≤1048576)(l:List Int)(q:Bool)(c:l.length≤1000000000):cM ⟨l,q⟩ p=some ⟨l++mR p,q||decide (¬ ∀x∈p,InR x)⟩:=by
 unfold cM;show ki p bc l q 0=_
 rw [show ki p bc l q 0=_ from EO (p:=p) (λk (s:List Int×Bool) i=>ki p k s.1 s.2 i) (λs x=>.inr (s.1++ez x,s.2||decide ¬InR x)) (λs=>some ⟨s.1,s.2⟩) (λi s=>s.1.length≤l.length+5*i)
  (λk s _=>by show (if _ then _ else _)=_;rw [Q5])
  (λk s i h d=>⟨by
   show (if _ then _ else _)=_;rw [Q0,aH h,ax];simp only [bS];rw [gR.2.1];simp only [bS];rw [bA (by have:=(gR (x:=p[i])).2.2;omega)]
   rfl,λs' e=>by
   have:=(gR (x:=p[i])).2.2;obtain rfl:=Sum.inr.inj e;show (s.1++_).length≤_;rw [List.length_append];omega⟩) (by omega) (l,q) (Nat.le_add_right _ _)]
 clear a c
 induction p generalizing l q with
 | nil=>simp [run,mR]
 | cons x p ih =>
  show run _ _ (l++ez x,q||decide ¬InR x) p=_;rw [ih];congr 2
  ·simp [mR]
  by_cases h:InR x<;>simp [h]
theorem Oi {p:List Int}(a:p.length≤1048576)(l:List Int)(q:Bool)(d:l.length≤900000000):fA ⟨l,q⟩ p=some ⟨l++ez p.length++mR p,q||decide (¬ ∀x∈p,InR x)⟩:=by
 unfold fA;rw [kx (by simp) l q (by omega)];have h1:InR (p.length:Int):=⟨by omega,by omega⟩;have c:mR [(p.length:Int)]=ez p.length:=by simp [mR]
 rw [c];simp only [bS];have:=(gR (x:=(p.length:Int))).2.2;rw [kx a _ _ (by rw [List.length_append];omega)];simp [h1]
theorem Jy {p:List Int}(a:p.length≤1048576):nu p=some (if ∀x∈p,InR x then ez p.length++mR p else []):=by
 unfold nu;rw [Ec (by omega)];simp only [bS];by_cases h:∀x∈p,InR x
 ·rw [if_pos h,decide_eq_true h];simp only [Bool.not_true,Bool.false_eq_true,if_false];rw [gR.1];simp only [bS];exact Kz a _ (by have:=(gR (x:=(p.length:Int))).2.2;omega)
 rw [if_neg h,decide_eq_false h];rfl
end Go.Vk
/- Windows: weighed, copied, put. -/
namespace Go.Vk
def Fk (n:Nat):Prop:=n<9223372036854775808
def CF (x:List (List Int)):Nat:=x.length+(x.map List.length).sum
def rR (p:List Int):Prop:=∀x∈p,InR x
instance:DecidablePred rR:=λp=>inferInstanceAs (Decidable (∀x∈p,InR x))
def ly (p:List Int):List Int:=ez p.length++mR p
theorem ew (x:Int):(ez x).length≤5:=gR.2.2
theorem om (p:List Int):(ly p).length≤5*(1+p.length):=by
 have:=ew p.length;have:=pL p;unfold ly;rw [List.length_append];omega
theorem vg (p:List (List Int)):(p.flatMap ly).length≤5*CF p:=by
 unfold CF
 induction p with
 | nil=>simp
 | cons x p ih =>
  have:=om x;simp only [List.flatMap_cons,List.length_append,List.map_cons,List.sum_cons,List.length_cons];omega
theorem xl {p:List (List Int)}:p.length≤CF p:=by unfold CF;omega
theorem Ac {p:List (List Int)}{x:List Int}(h:x∈p):x.length≤CF p:=by
 have:=RI (f:=List.length) h;unfold CF;omega
theorem wy {p:List Int}(a:p.length≤1048576)(c:rR p):nu p=some (ly p):=by
 rw [Jy a,if_pos (show ∀x∈p,InR x from c)];rfl
theorem Cc {p:List (List Int)}(d:CF p≤1048576)(c:∀x∈p,rR x):oy p=some (ez p.length++p.flatMap ly):=by
 unfold oy;rw [gR.1];simp only [bS];have h1:=vg p;have e:=ew p.length;have f:=@xl p
 exact NQ (p:=p) (σ:=Unit) (ρ:=List Int) ly (λ_ _=>()) (λk l _ i=>rH p k l i) (λl _=>some l)
  (λk l q=>by show (if _ then _ else _)=_;rw [Q5])
  (λk l q i h g=>by
   show (if _ then _ else _)=_;have a:=List.getElem_mem h;rw [Q0,aH h,ax];simp only [bS];rw [wy (by have:=Ac a;omega) (c _ a)];simp only [bS];rw [bA (by omega)];rfl) (by omega) _ () (by omega)
theorem uB {p:List Int}(a:p.length≤1048576)(l:List Int)(q:Bool)(c:l.length≤900000000):fA ⟨l,q⟩ p=some ⟨l++ly p,q||decide (¬rR p)⟩:=by
 rw [Oi a l q c,List.append_assoc];rfl
theorem Fg {ρ:Type}{p:List (List Int)}(d:CF p≤1048576)(Lp:Nat→List Int→Bool→Int→Option ρ)(fin:List Int→Bool→Option ρ)(step:∀k l q i,Lp (k+1) l q i=if decide (i<(p.length:Int)) then (idx p i).bind λe=>(fA ⟨l,q⟩ e).bind λy=>Lp k y.ad_ y.P_ (IntKind.i64.wrap (i+1)) else fin l q)(l:List Int)(q:Bool)(a:l.length≤700000000):Lp bc l q 0=fin (l++p.flatMap ly) (q||decide (¬ ∀x∈p,rR x)):=by
 have h1:=vg p;have f:=@xl p;rw [←LB]
 exact NQ (p:=p) (σ:=Bool) ly (λq x=>q||decide (¬rR x)) Lp fin
  (λk l q=>by rw [step,Q5])
  (λk l q i h a=>by
   have c:=List.getElem_mem h;rw [step,Q0,aH h,ax];simp only [bS];rw [uB (by have:=Ac c;omega) l q (by omega)];rfl) (by omega) _ q (by omega)
theorem KC {x:au}(c:CF x.f_≤1048576):qK x=some (if ∀r∈x.f_,rR r then ez x.f_.length++x.f_.flatMap ly else []):=by
 unfold qK;have e:=@xl x.f_
 rw [Me (p:=x.f_) (P:=rR) (fin:=(oy x.f_).bind λy=>some y) (bad:=some []) (us x) (λk=>by
  show (if _ then _ else _)=_
  rw [Q5]) (λk i h=>by
  have d:=List.getElem_mem h;show (if _ then _ else _)=_;rw [Q0,aH h,ax];simp only [bS];rw [Ec (by have:=Ac d;omega)];simp only [bS];by_cases a:rR x.f_[i]
  ·rw [if_pos a,show (decide (∀y∈x.f_[i],InR y))=true from decide_eq_true a];rfl
  rw [if_neg a,show (decide (∀y∈x.f_[i],InR y))=false from decide_eq_false a];rfl) (by omega)]
 split
 ·rename_i a;rw [Cc c a];rfl
 rfl
theorem CK {n:Nat}(h:n≤1000000000):InR (n:Int):=⟨by omega,by omega⟩
theorem AL {x:Int}(a:InR x)(l:List Int)(q:Bool)(c:l.length≤1000000000):cM ⟨l,q⟩ [x]=some ⟨l++ez x,q⟩:=by
 rw [kx (by simp) l q c];simp [mR,a]
theorem Ua {p:List (List Int)}:(p.map λv=>1+v.length).sum=CF p:=by
 unfold CF
 induction p with
 | nil=>rfl
 | cons x p ih=>simp only [List.map_cons,List.sum_cons,List.length_cons];omega
end Go.Vk
/- Trees: weighed, copied, put, compared, marked. -/
namespace Go.Vk
def szM (x:az):Nat:=x.C_.length+(x.q_.l_.length+CF x.q_.e_)+x.c_.length
def szU (x:am):Nat:=x.a_.length+(x.a_.map szM).sum
theorem MW {x:am}{y:az}(a:y∈x.a_):szM y≤szU x:=by
 have:=RI (f:=szM) a;unfold szU;omega
end Go.Vk
/- Trees, put. -/
namespace Go.Vk
def yy (b:Bool):Int:=if b then 1 else 0
def wr (x:az):List Int:=ez (yy x.D_)++ez x.n_.k_++ez x.n_.j_++ly x.C_++ez x.J_++ly x.q_.l_++(ez x.q_.e_.length++x.q_.e_.flatMap ly)++ez x.K_++ly x.c_++ez x.r_++ez x.G_++ez x.E_
def AA (x:az):Prop:=rR [x.n_.k_,x.n_.j_,x.J_,x.K_,x.r_,x.G_,x.E_]∧rR x.C_∧rR x.c_∧rR x.q_.l_∧∀y∈x.q_.e_,rR y
instance:DecidablePred AA:=λ_=>inferInstanceAs (Decidable (_∧_∧_∧_∧_))
theorem Ll (x:az):(wr x).length≤5*(12+szM x):=by
 have a:=ew (yy x.D_);have c:=ew x.n_.k_;have d:=ew x.n_.j_;have e:=om x.C_;have f:=ew x.J_;have g:=om x.q_.l_;have h:=ew x.q_.e_.length;have i:=vg x.q_.e_;have j:=ew x.K_;have k:=om x.c_;have l:=ew x.r_;have m:=ew x.G_;have o:=ew x.E_;unfold wr szM;simp only [List.length_append];omega
theorem GK (b:Bool):iE b=some (yy b)∧Aa b=some (yy b):=by cases b<;>exact ⟨rfl,rfl⟩
theorem EQ (b:Bool):InR (yy b):=by cases b<;>decide
theorem Dc {p:List Int}(h:p.length<1000000000000):jW p=some (decide (rR p)):=Ec h
theorem YX {A B C D E:Prop}[Decidable A][Decidable B][Decidable C][Decidable D][Decidable E]:((if (!decide A)=true then some true else some !decide B).bind λa=>(if a=true then some true else some !decide C).bind λc=>(if c=true then some true else some !decide D).bind λd=>if d=true then some false else some (decide E))=some (decide (A∧B∧C∧D∧E)):=by
 by_cases A<;>by_cases B<;>by_cases C<;>by_cases D<;>by_cases E<;>simp [*]
theorem NC {x:az}(h:szM x≤1048576):uP x=some (decide (AA x)):=by
 unfold szM at h;have e:=@xl x.q_.e_
 have c:nY x bc 0=some (decide (∀y∈x.q_.e_,rR y)):=NB (P:=rR) (p:=x.q_.e_) (nY x) (λk=>by
   show (if _ then _ else _)=_
   rw [Q5]) (λk i h=>by
   have d:=List.getElem_mem h;show (if _ then _ else _)=_;rw [Q0,aH h,ax];simp only [bS];rw [Dc (by have:=Ac d;omega)];simp only [bS];by_cases a:rR x.q_.e_[i]
   ·rw [if_pos a,decide_eq_true a];rfl
   rw [if_neg a,decide_eq_false a];rfl) (by omega)
 unfold uP;rw [Dc (by simp),Dc (p:=x.C_) (by omega),Dc (p:=x.c_) (by omega),Dc (p:=x.q_.l_) (by omega),c];simp only [bS];exact YX
theorem PV {x:az}(h:szM x≤1048576)(a:AA x):wF x=some (wr x):=by
 have g:=Ll x;unfold szM at h;have i:=@xl x.q_.e_;obtain ⟨j,c,d,e,f⟩:=a;have k:=ew (yy x.D_);have l:=ew x.n_.k_;have m:=ew x.n_.j_;have o:=om x.C_;have p:=ew x.J_;have q:=om x.q_.l_;have r:=ew x.q_.e_.length;have s:=vg x.q_.e_;have t:=ew x.K_;have u:=om x.c_;have v:=ew x.r_;have w:=ew x.G_;have A:=ew x.E_;unfold wF;rw [(GK _).1];simp only [Option.bind_some,gR.1];rw [bA (by omega)];simp only [bS];rw [bA (by simp only [List.length_append];omega)];simp only [bS];rw [wy (by omega) c];simp only [bS];rw [bA (by simp only [List.length_append];omega)];simp only [bS];rw [bA (by simp only [List.length_append];omega)];simp only [bS];rw [wy (by omega) e];simp only [bS];rw [bA (by simp only [List.length_append];omega)];simp only [bS];rw [Cc (by omega) f];simp only [bS];rw [bA (by simp only [List.length_append];omega)];simp only [bS];rw [bA (by simp only [List.length_append];omega)];simp only [bS];rw [wy (by omega) d];simp only [bS];rw [bA (by simp only [List.length_append];omega)];simp only [bS];rw [bA (by simp only [List.length_append];omega)];simp only [bS];rw [bA (by simp only [List.length_append];omega)];simp only [bS];rw [bA (by simp only [List.length_append];omega)];rfl
theorem JL (p:List az):(p.flatMap wr).length≤60*p.length+5*(p.map szM).sum:=by
 induction p with
 | nil=>simp
 | cons x p ih =>
  have:=Ll x;simp only [List.flatMap_cons,List.length_append,List.map_cons,List.sum_cons,List.length_cons];omega
theorem Oe {x:am}(h:szU x≤1048576):uD x=some (if InR x.o_∧∀y∈x.a_,AA y then ez x.o_++ez x.a_.length++x.a_.flatMap wr else []):=by
 have q:x.a_.length≤1048576:=by unfold szU at h;omega
 have r:=JL x.a_;have s:(x.a_.map szM).sum≤1048576:=by unfold szU at h;omega
 unfold uD;rw [Dc (by simp)];simp only [bS];by_cases h1:InR x.o_
 ·have g:rR [x.o_]:=by intro y j;rw [List.mem_singleton.1 j];exact h1
  rw [decide_eq_true g];simp only [Bool.not_true,Bool.false_eq_true,if_false];rw [gR.1,gR.1];have t:=ew x.o_;have u:=ew x.a_.length;simp only [bS];rw [bA (by omega)];simp only [Option.bind_some,h1,true_and]
  have key:∀(d k i:Nat)(l:List Int),x.a_.length-i=d→d<k→i≤x.a_.length→l.length+((x.a_.drop i).flatMap wr).length≤800000000 →
    wX x k l (i:Int)=some (if ∀y∈x.a_.drop i,AA y then l++(x.a_.drop i).flatMap wr else []):=by
   intro d
   induction d with
   | zero =>
    intro k i l m hk o a;obtain ⟨k,rfl⟩:=kS k (by omega);have:i=x.a_.length:=by omega
    subst this;show (if _ then _ else _)=_;rw [Q5,List.drop_length];simp
   | succ d ih =>
    intro k i l m hk o a;obtain ⟨k,rfl⟩:=kS k (by omega);have c:i<x.a_.length:=by omega
    have p:=List.getElem_mem c;have f:szM x.a_[i]≤1048576:=by have:=MW p;omega
    rw [List.drop_eq_getElem_cons c] at a ⊢;simp only [List.flatMap_cons,List.length_append] at a ⊢;show (if _ then _ else _)=_;rw [Q0,aH c];simp only [bS];rw [NC f];simp only [bS];by_cases e:AA x.a_[i]
    ·rw [decide_eq_true e];simp only [Bool.not_true,Bool.false_eq_true,if_false];rw [PV f e];simp only [bS];rw [bA (by omega)];simp only [bS];rw [ax,ih k (i+1) _ (by omega) (by omega) (by omega) (by simp only [List.length_append];omega)];generalize List.drop (i+1) x.a_=D;simp [e]
    rw [decide_eq_false e];generalize List.drop (i+1) x.a_=D;simp [e]
  have:=key x.a_.length bc 0 (ez x.o_++ez x.a_.length) (by omega) cN (by omega) (by simp only [List.length_append,List.drop_zero];omega);simpa using this
 have g:¬rR [x.o_]:=λn=>h1 (n _ (List.mem_singleton.2 rfl));rw [decide_eq_false g];simp [h1]
theorem GO:mR []=[]:=rfl
theorem Eh (x:Int)(xs:List Int):mR (x::xs)=ez x++mR xs:=List.flatMap_cons ..
theorem tf {M:Nat}{α σ ρ:Type}{p:List α}(B:α→List Int)(u:σ→α→σ)(Lp:Nat→List Int→σ→Int→Option ρ)(fin:List Int→σ→Option ρ)(e:∀k l q,Lp (k+1) l q (p.length:Int)=fin l q)(f:∀k l q (i:Nat) (h:i<p.length),l.length+(B p[i]).length≤M→Lp (k+1) l q (i:Int)=Lp k (l++B p[i]) (u q p[i]) ((i+1:Nat):Int))(m:p.length<1000000000000)(l:List Int)(q:σ)(a:l.length+(p.flatMap B).length≤M):Lp bc l q 0=fin (l++p.flatMap B) (p.foldl u q):=by
 have key:∀(d k i:Nat)(l:List Int)(q:σ),p.length-i=d→d<k→i≤p.length→l.length+((p.drop i).flatMap B).length≤M→Lp k l q (i:Int)=fin (l++(p.drop i).flatMap B) ((p.drop i).foldl u q):=by
  intro d
  induction d with
  | zero =>
   intro k i l q g hk j a;obtain ⟨k,rfl⟩:=kS k (by omega);have:i=p.length:=by omega
   subst this;rw [e,List.drop_length];simp
  | succ d ih =>
   intro k i l q g hk j a;obtain ⟨k,rfl⟩:=kS k (by omega);have c:i<p.length:=by omega
   rw [List.drop_eq_getElem_cons c] at a ⊢;simp only [List.flatMap_cons,List.length_append,List.foldl_cons] at a ⊢;rw [f k l q i c (by omega),ih k (i+1) _ _ (by omega) (by omega) (by omega) (by simp only [List.length_append];omega),List.append_assoc]
 have:=key p.length bc 0 l q (by omega) cN (by omega) (by simpa using a);simpa using this
theorem Ci {q:Bool}{A B:Prop}[Decidable A][Decidable B]:((q||decide (¬A))||decide (¬B))=(q||decide (¬(A∧B))):=by
 by_cases A<;>by_cases B<;>simp [*]
theorem KR {x:am}{k i:Nat}{l:List Int}{q:Bool}(h:i<x.a_.length)(u:x.a_.length≤1048576)(d:szM x.a_[i]≤1048576)(f:l.length+(wr x.a_[i]).length≤400000000):gx x (k+1) l q (i:Int)=gx x k (l++wr x.a_[i]) (q||decide (¬AA x.a_[i])) ((i+1:Nat):Int):=by
 show (if _ then _ else _)=_;rw [Q0,aH h];generalize x.a_[i]=e at d f;have hz':=d;unfold szM at hz';have v:=@xl e.q_.e_;simp only [bS];rw [(GK _).2];simp only [bS];have g:=pL [yy e.D_,e.n_.k_,e.n_.j_];have w:=om e.C_;have j:=pL [e.J_];have A:=om e.q_.l_;have m:=pL [(e.q_.e_.length:Int)];have C:=vg e.q_.e_;have o:=pL [e.K_];have D:=om e.c_;have r:=pL [e.r_,e.G_,e.E_];simp only [List.length_cons,List.length_nil] at g j m o r;rw [kx (by simp) _ _ (by omega)];simp only [bS];rw [uB (by omega) _ _ (by simp only [List.length_append];omega)];simp only [bS];rw [kx (by simp) _ _ (by simp only [List.length_append];omega)];simp only [bS];rw [uB (by omega) _ _ (by simp only [List.length_append];omega)];simp only [bS];rw [kx (by simp) _ _ (by simp only [List.length_append];omega)];simp only [bS];rw [Fg (p:=e.q_.e_) (by omega) (oa e (gx x k) i) _ (λ_ _ _ _=>rfl) _ _ (by simp only [List.length_append];omega),kx (by simp) _ _ (by simp only [List.length_append];omega)];simp only [bS];rw [uB (by omega) _ _ (by simp only [List.length_append];omega)];simp only [bS];rw [kx (by simp) _ _ (by simp only [List.length_append];omega)];simp only [bS];rw [ax];congr 1
 ·simp only [wr,Eh,GO,List.append_nil,List.append_assoc]
 rw [Ci,Ci,Ci,Ci,Ci,Ci,Ci,Ci];congr 1;refine decide_eq_decide.2 (not_congr ?_);have s:=EQ e.D_;have t:InR (e.q_.e_.length:Int):=CK (by omega);unfold AA rR;simp only [List.forall_mem_cons,s,t,true_and];constructor
 ·rintro ⟨⟨c1,c2,_⟩,c3,⟨c4,_⟩,c5,_,c6,⟨c7,_⟩,c8,c9,a,c,_⟩;exact ⟨⟨c1,c2,c4,c7,c9,a,c,by simp⟩,c3,c8,c5,c6⟩
 rintro ⟨⟨c1,c2,c4,c7,c9,a,c,_⟩,c3,c8,c5,c6⟩;exact ⟨⟨c1,c2,by simp⟩,c3,⟨c4,by simp⟩,c5,by simp,c6,⟨c7,by simp⟩,c8,c9,a,c,by simp⟩
end Go.Vk
/- Checks: alike. -/
namespace Go.Vk
def DC (x:Nat):Nat:=if x%2=1 then (x / 2) ^^^ 3988292384 else x / 2
theorem RV {x:Nat}(h:x<9223372036854775808):DC x<9223372036854775808:=by
 unfold DC;split
 ·have:(x / 2) ^^^ 3988292384<2^63:=Nat.xor_lt_two_pow (by omega) (by omega);omega
 omega
def xL:Nat→Nat→Nat
 | 0,x=>x
 | n+1,x=>xL n (DC x)
theorem Pp {n:Nat}:∀{x:Nat},x<9223372036854775808→xL n x<9223372036854775808:=by
 induction n with
 | zero=>exact λh=>h
 | succ n ih=>exact λh=>ih (RV h)
theorem Qb (R:Int→Int→Option Int)(i:Int):∀(d k x j:Nat),8-j=d→j≤8→d<k→x<9223372036854775808→tn R i k (x:Int) (j:Int)=R (xL d x:Nat) (IntKind.i64.wrap (i+1)):=by
 intro d
 induction d with
 | zero =>
  intro k x j e f hk g
  cases k with
  | zero=>omega
  | succ k =>
   unfold tn;rw [Q4];rfl
 | succ d ih =>
  intro k x j e f hk g
  cases k with
  | zero=>omega
  | succ k =>
   unfold tn;rw [Q0]
   have h:IntKind.i64.wrap (Int.tdiv (x:Int) 2)=((x / 2:Nat):Int):=by
    rw [show Int.tdiv (x:Int) 2=((x / 2:Nat):Int) from by rw [Int.tdiv_eq_ediv_of_nonneg (by omega)];simp];exact fQ
   have c:IntKind.i64.wrap ((j:Int)+1)=((j+1:Nat):Int):=by rw [aV];simp
   rw [h,c];have l:Int.tmod (x:Int) 2=((x%2:Nat):Int):=by rw [Int.tmod_eq_emod_of_nonneg (by omega)];simp
   rw [l];by_cases a:x%2=1
   ·rw [if_pos (by simp [a]),show (3988292384:Int)=((3988292384:Nat):Int) from rfl,(CX (x / 2) 3988292384 (by omega) (by omega)).1];have:=ih k ((x / 2) ^^^ 3988292384) (j+1) (by omega) (by omega) (by omega) (CX (x / 2) 3988292384 (by omega) (by omega)).2;rw [this];simp [xL,DC,a]
   rw [Q4];have:=ih k (x / 2) (j+1) (by omega) (by omega) (by omega) (by omega);rw [this];simp [xL,DC,a]
theorem PD (R:Int→Int→Option Int)(i:Int):∀(d k x j:Nat),8-j=d→j≤8→d<k→x<9223372036854775808→qI R i k (j:Int) (x:Int)=R (xL d x:Nat) (IntKind.i64.wrap (i+1)):=by
 intro d
 induction d with
 | zero =>
  intro k x j f g hk c
  cases k with
  | zero=>omega
  | succ k =>
   unfold qI;rw [Q4];rfl
 | succ d ih =>
  intro k x j f g hk c
  cases k with
  | zero=>omega
  | succ k =>
   unfold qI;rw [Q0];have e:IntKind.i64.wrap ((j:Int)+1)=((j+1:Nat):Int):=by rw [aV];simp
   rw [Tu,e]
   have h:gS .and .i64 (x:Int) 1=((x%2:Nat):Int):=by
    rw [show (1:Int)=((1:Nat):Int) from rfl,Rt x 1 c (by omega),Nat.and_one_is_mod]
   rw [h];by_cases a:x%2=1
   ·rw [if_pos (by simp [a]),show (3988292384:Int)=((3988292384:Nat):Int) from rfl,(CX (x / 2) 3988292384 (by omega) (by omega)).1];have:=ih k ((x / 2) ^^^ 3988292384) (j+1) (by omega) (by omega) (by omega) (CX (x / 2) 3988292384 (by omega) (by omega)).2;rw [this];simp [xL,DC,a]
   rw [Q4];have:=ih k (x / 2) (j+1) (by omega) (by omega) (by omega) (by omega);rw [this];simp [xL,DC,a]
def gi (p:List Int):Prop:=∀x∈p,0≤x∧x≤255
theorem GH {p:List Int}(a:gi p){i:Nat}(h:i<p.length):∃n:Nat,p[i]=(n:Int)∧n≤255:=by
 obtain ⟨c,h1⟩:=a p[i] (List.getElem_mem h);exact ⟨p[i].toNat,by omega,by omega⟩
theorem YI {p:List Int}(h:gi p)(q:p.length≤1048576):∀(d k x i:Nat),p.length-i=d→i≤p.length→d<k→x<9223372036854775808→∃r:Nat,ta p k (x:Int) (i:Int)=some (r:Int)∧oV p k (x:Int) (i:Int)=some (r:Int)∧r<9223372036854775808:=by
 intro d
 induction d with
 | zero =>
  intro k x i j l hk e
  cases k with
  | zero=>omega
  | succ k =>
   unfold ta oV;rw [Q4,Q4];obtain ⟨h1,a⟩:=CX x 4294967295 e (by omega);exact ⟨x ^^^ 4294967295,congrArg some h1,congrArg some h1,a⟩
 | succ d ih =>
  intro k x i j l hk e
  cases k with
  | zero=>omega
  | succ k =>
   unfold ta oV;have c:i<p.length:=by omega
   rw [Q0,Q0,aH c];simp only [bS];obtain ⟨n,m,o⟩:=GH h c;rw [m,fQ (n:=n) (by omega)];obtain ⟨h1,a⟩:=CX x n e (by omega);rw [h1];have f:=Qb (ta p k) i 8 bc (x ^^^ n) 0 (by omega) (by omega) cN a;have g:=PD (oV p k) i 8 bc (x ^^^ n) 0 (by omega) (by omega) cN a;rw [show ((0:Nat):Int)=0 from rfl] at f g;rw [f,g,show IntKind.i64.wrap ((i:Int)+1)=((i+1:Nat):Int) from by rw [aV];simp];exact ih k (xL 8 (x ^^^ n)) (i+1) (by omega) (by omega) (by omega) (Pp a)
theorem Vm {p:List Int}(a:gi p)(c:p.length≤1048576):∃r:Nat,On p=some (r:Int)∧JT p=some (r:Int)∧r<9223372036854775808:=YI a c p.length bc 4294967295 0 (by omega) (by omega) cN (by omega)
theorem Nr (x:Nat){k:Nat}(h:k≤63):wW .i64 (x:Int) k=((x / 2^k:Nat):Int):=by
 unfold wW;have e:min ((k:Int).toNat) IntKind.i64.bits=k:=by show min k 64=k;omega
 rw [e,Int.fdiv_eq_ediv_of_nonneg _ (Int.le_of_lt (Int.pow_pos (by decide)))];simp
theorem DV (n:Nat):IntKind.u8.wrap (n:Int)=((n%256:Nat):Int):=by
 unfold IntKind.wrap;simp [IntKind.bits,IntKind.signed]
def ZV (r:Nat):List Int:=[((r / 16777216%256:Nat):Int),((r / 65536%256:Nat):Int),((r / 256%256:Nat):Int),((r%256:Nat):Int)]
theorem ZH {r:Nat}(h:r<9223372036854775808)(d:Nat):IntKind.u8.wrap (IntKind.i64.wrap (Int.tdiv (r:Int) (d:Int)))=((r / d%256:Nat):Int):=by
 rw [yH,fQ (by have:=Nat.div_le_self r d;omega),DV]
theorem Zv {r:Nat}(h:r<9223372036854775808)(d:Nat):IntKind.u8.wrap (Int.tmod (IntKind.i64.wrap (Int.tdiv (r:Int) (d:Int))) 256)=((r / d%256:Nat):Int):=by
 rw [yH,fQ (by have:=Nat.div_le_self r d;omega),show (256:Int)=((256:Nat):Int) from rfl,qm,DV,Nat.mod_mod]
theorem SO {p:List Int}(f:gi p)(g:p.length≤1048576):∃s,pd p=some s∧jc p=some s∧s.length=4:=by
 obtain ⟨r,h1,h,e⟩:=Vm f g;refine ⟨ZV r,?_,?_,rfl⟩
 ·unfold pd;rw [h1];simp only [bS];have a:=ZH e 16777216;have c:=Zv e 65536;have d:=Zv e 256;have i:IntKind.u8.wrap (Int.tmod (r:Int) 256)=((r%256:Nat):Int):=by rw [show (256:Int)=((256:Nat):Int) from rfl,qm,DV,Nat.mod_mod]
  simp only [Int.cast_ofNat_Int] at a c d;rw [a,c,d,i];rfl
 unfold jc;rw [h];simp only [bS];have a:=Nr r (k:=24) (by omega);have c:=Nr r (k:=16) (by omega);have d:=Nr r (k:=8) (by omega);simp only [Int.cast_ofNat_Int] at a c d;rw [a,c,d,DV,DV,DV,DV];rfl
end Go.Vk
/- Numbers in decimal, texts joined: alike. -/
namespace Go.Vk
open Go.Proofs
def I64 (x:Int):Prop:=-9223372036854775808≤x∧x≤9223372036854775807
theorem ON {d:Nat}(h:d<10):oc ([IntKind.u8.wrap (IntKind.i64.wrap (48+(d:Int)))]:List Int)=[UInt8.ofNat (48+d)]:=by
 rw [aV,IntWalk.u8_in _ (by omega)];have:((48:Int)+(d:Int)).toNat=48+d:=by omega
 simp [oc,this]
theorem OS {u:Nat}(a:0<u)(s:List UInt8):(if u / 10=0 then UInt8.ofNat (48+u%10)::s else Lib.decDigits (u / 10)++(UInt8.ofNat (48+u%10)::s))=Lib.decDigits u++s:=by
 by_cases h:u<10
 ·rw [Q3,Lib.decDigits_one h,Nat.mod_eq_of_lt h];rfl
 rw [Q6,Lib.decDigits.eq_def u,dif_neg h];simp
def Po (p:Int)(s:List UInt8):Option (List UInt8):=if p<0 then some (45::s) else some s
theorem ID {p:Int}{k:Nat}{s:List UInt8}(a:s.length≤1000):iW p (k+1) 0 s=Po p s:=by
 rw [iW,Q5];unfold Po sg;by_cases h:p<0
 ·rw [if_pos (by simpa using h),if_pos h,Q0];rfl
 rw [if_neg (by simpa using h),if_neg h]
theorem VV (p:Int):∀(d u k:Nat)(s:List UInt8),u<10^d→u≤9223372036854775808→d<k→s.length+d≤1000→iW p k (u:Int) s=Po p (if u=0 then s else Lib.decDigits u++s):=by
 intro d
 induction d with
 | zero =>
  intro u k s a _ hk g;obtain ⟨k,rfl⟩:=kS k (by omega);have:u=0:=by simpa using a
  subst this;rw [if_pos rfl];exact ID (by omega)
 | succ d ih =>
  intro u k s a h hk g;obtain ⟨k,rfl⟩:=kS k (by omega);by_cases e:u=0
  ·subst e;rw [if_pos rfl];exact ID (by omega)
  have c:=qm u 10;have f:=yH u 10;simp only [Int.cast_ofNat_Int] at c f;rw [iW,Q0,if_neg (by rw [c];simp;omega),c];unfold qB;rw [ON (Nat.mod_lt _ (by omega)),f,aV];unfold sg;rw [Q0];simp only [Option.bind_some,List.cons_append,List.nil_append];rw [ih (u / 10) k _ (by rw [Nat.pow_succ] at a;omega) (by omega) (by omega) (by simp;omega),if_neg e,OS (by omega)]
theorem VG (p:Int):∀(d u k:Nat)(s:List UInt8),u<10^d→u≤9223372036854775808→d<k→s.length+d≤1000→iW p k (-(u:Int)) s=Po p (if u=0 then s else Lib.decDigits u++s):=by
 intro d
 induction d with
 | zero =>
  intro u k s a _ hk i;obtain ⟨k,rfl⟩:=kS k (by omega);have:u=0:=by simpa using a
  subst this;rw [if_pos rfl];exact ID (by omega)
 | succ d ih =>
  intro u k s a j hk i;obtain ⟨k,rfl⟩:=kS k (by omega);by_cases f:u=0
  ·subst f;rw [if_pos rfl];exact ID (by omega)
  have g:=qm u 10;have h:=yH u 10;simp only [Int.cast_ofNat_Int] at g h;have hr':Int.tmod (-(u:Int)) 10=-((u%10:Nat):Int):=by rw [Int.neg_tmod,g]
  have hd':Int.tdiv (-(u:Int)) 10=-((u / 10:Nat):Int):=by rw [Int.neg_tdiv,h]
  have c:qB s (iW p k) (-(u:Int)) ((u%10:Nat):Int)=Po p (Lib.decDigits u++s):=by
   unfold qB;rw [ON (Nat.mod_lt _ (by omega)),hd',aV];unfold sg;rw [Q0];simp only [Option.bind_some,List.cons_append,List.nil_append];rw [ih (u / 10) k _ (by rw [Nat.pow_succ] at a;omega) (by omega) (by omega) (by simp;omega),OS (by omega)]
  rw [iW,Q0,hr',if_neg f];by_cases e:u%10=0
  ·rw [if_neg (by rw [e];simp),e];rw [e] at c;exact c
  rw [Q0,aV,show (0:Int) - -((u%10:Nat):Int)=((u%10:Nat):Int) by omega];exact c
theorem IT {n:Int}(h:I64 n):zF n=some (Lib.itoa n):=by
 obtain ⟨d,h1⟩:=h;unfold zF;by_cases c:n=0
 ·subst c;rw [Q2];unfold Lib.itoa;rw [Q6,show (0:Int).toNat=0 from rfl,Lib.decDigits_one (by omega)];rfl
 rw [if_neg (by simpa using c)];by_cases a:n<0
 ·obtain ⟨u,rfl⟩:∃u:Nat,n=-(u:Int):=⟨n.natAbs,by omega⟩;rw [VG _ 20 u bc [] (by have:(10:Nat)^20=100000000000000000000:=(by decide);omega) (by omega) cN (by simp),Q6];unfold Po Lib.itoa;rw [if_pos a,if_pos a,show (-(u:Int)).natAbs=u by omega,List.append_nil]
 obtain ⟨u,rfl⟩:∃u:Nat,n=(u:Int):=⟨n.toNat,by omega⟩;rw [VV _ 20 u bc [] (by have:(10:Nat)^20=100000000000000000000:=(by decide);omega) (by omega) cN (by simp),Q6];unfold Po Lib.itoa;rw [if_neg a,if_neg a,Int.toNat_natCast,List.append_nil]
theorem JI {n:Int}(h:I64 n):wm n=some (Lib.itoa n):=by
 unfold wm Rn;rw [if_pos ⟨h.1,h.2⟩];rfl
theorem NM {n:Int}(h:I64 n):(Lib.itoa n).length≤21:=Lib.itoa_length_le n h.1 h.2
theorem xG {a b:List UInt8}(h:a.length+b.length≤68719476736):sg a b=some (a++b):=if_pos h
theorem RM (xs:List (List UInt8))(x sep:List UInt8):Lib.join (xs++[x]) sep=if xs=[] then x else Lib.join xs sep++sep++x:=by
 cases xs with
 | nil=>simp [Lib.join_one]
 | cons y r =>
  rw [List.cons_append,Lib.join_cons,Lib.join_cons,Q5];simp [Lib.joinTail]
theorem MK (xs:List (List UInt8))(sep:List UInt8):∀n,(Lib.join (xs.take n) sep).length≤(Lib.join xs sep).length:=by
 intro n
 cases xs with
 | nil=>simp
 | cons x r =>
  cases n with
  | zero=>simp [Lib.join_nil]
  | succ n =>
   rw [List.take_succ_cons,Lib.join_cons,Lib.join_cons];simp only [List.length_append,Lib.joinTail]
   have:((r.take n).map (sep ++ ·)).flatten.length≤(r.map (sep ++ ·)).flatten.length:=by
    rw [List.map_take];conv=>rhs;rw [←List.take_append_drop n (r.map (sep ++ ·)),List.flatten_append,List.length_append]
    omega
   omega
theorem Fs {xs:List (List UInt8)}{sep:List UInt8}(j:xs.length≤1000000000)(l:(Lib.join xs sep).length≤1000000000)(_:sep.length≤1000):nB xs sep=some (Lib.join xs sep):=by
 unfold nB;refine jg (Lp:=λk i=>iZ xs sep k (Lib.join (xs.take i) sep) (i:Int)) (n:=xs.length) (λk=>?_) (λk i c=>?_) (by omega)
 ·show iZ xs sep (k+1) _ _=_;rw [iZ,Q5,List.take_length]
 show iZ xs sep (k+1) _ _=iZ xs sep k _ _;have h:xs.take (i+1)=xs.take i++[xs[i]]:=List.take_succ_eq_append_getElem c;have h1:=MK xs sep (i+1);have a:=RM (xs.take i) xs[i] sep;rw [←h] at a;by_cases d:i=0
 ·subst d;rw [Q2] at a;rw [a] at h1 ⊢;rw [iZ,Q0,Q5];unfold ux;rw [aH c,ax];simp only [Option.bind_some,List.take_zero,Lib.join_nil];rw [xG (by simp;omega)];rfl
 have f:¬xs.take i=[]:=by
  intro e;have g:(xs.take i).length=i:=by rw [List.length_take];omega
  rw [e] at g;exact d g.symm
 rw [if_neg f] at a;rw [a] at h1 ⊢;simp only [List.length_append] at h1;rw [iZ,Q0,Q0,xG (by omega)];unfold ux;simp only [bS];rw [aH c,ax];simp only [bS];rw [xG (by simp only [List.length_append];omega)];rfl
theorem Fw {xs:List (List UInt8)}{sep:List UInt8}(a:xs.length≤1000000000)(c:(Lib.join xs sep).length≤1000000000):Cs xs sep=some (Lib.join xs sep):=by
 unfold Cs;rw [if_pos ⟨by omega,by omega⟩]
theorem El {xs:List (List UInt8)}{sep:List UInt8}{b:Nat}(h:∀x∈xs,x.length≤b):(Lib.join xs sep).length≤(sep.length+b)*xs.length:=by
 cases xs with
 | nil=>simp [Lib.join_nil]
 | cons x r =>
  rw [Lib.join_cons,List.length_append];have c:=h x (by simp)
  have:(Lib.joinTail sep r).length≤(sep.length+b)*r.length:=by
   unfold Lib.joinTail;have a:∀y∈r,y.length≤b:=λy d=>h y (by simp [d]);clear h c
   induction r with
   | nil=>simp
   | cons y r ih =>
    have h1:=a y (by simp);have f:=ih (λz e=>a z (by simp [e]));simp only [List.map_cons,List.flatten_cons,List.length_append,List.length_cons,Nat.mul_succ];omega
  simp only [List.length_cons,Nat.mul_succ];omega
theorem Mz {p:List Int}{sep:List UInt8}(a:qk p)(f:sep.length≤100):rc p sep=some (Lib.join (p.map Lib.itoa) sep)∧(Lib.join (p.map Lib.itoa) sep).length≤121*p.length:=by
 have g:=a.1
 have c:(Lib.join (p.map Lib.itoa) sep).length≤121*p.length:=by
  have:=El (xs:=p.map Lib.itoa) (sep:=sep) (b:=21) (λx d=>by
   obtain ⟨n,e,rfl⟩:=List.mem_map.1 d;exact NM (a.2 n e))
  rw [List.length_map] at this;exact Nat.le_trans this (Nat.mul_le_mul_right _ (by omega))
 refine ⟨?_,c⟩;unfold rc;refine qH (p:=p) Lib.itoa (λk l i=>gz p sep k i l) (λl=>(Cs l sep).bind λs=>some s) (λk l=>?_) (λk l i h j=>?_) (by omega) |>.trans ?_
 ·show gz p sep (k+1) _ l=_;rw [gz,Q5]
 ·show gz p sep (k+1) _ l=_;rw [gz,Q0,aH h,ax];simp only [bS];rw [JI (a.2 _ (List.getElem_mem h))];simp only [bS];rw [bA];rfl
 rw [Fw (by simp;omega) (by omega)];rfl
end Go.Vk
