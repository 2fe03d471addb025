/- Schemas drawn: they are there, and Fk. -/
import Derived.Test.YtnjemlncpeekkabGreatDoorPDr
import Derived.Test.YtnjemlncpeekkabGreatDoorPTp
import Derived.Test.YtnjemlncpeekkabGreatDoorRX
import Derived.Test.YtnjemlncpeekkabGreatDoorVkBr
namespace Go.Vk
theorem UL {l:List Int}{x:Int}(h:qk l)(c:l.length≤1000)(a:V x):qk (l++[x]):=⟨by simp;omega,λy hy=>by
 rcases List.mem_append.1 hy with hy|hy
 ·exact h.2 y hy
 rw [List.mem_singleton.1 hy];exact a⟩
theorem OI {l:List (List UInt8)}{x:List UInt8}(h:yY l)(c:l.length≤1000)(a:x.length≤1048576):yY (l++[x]):=⟨by simp;omega,λy hy=>by
 rcases List.mem_append.1 hy with hy|hy
 ·exact h.2 y hy
 rw [List.mem_singleton.1 hy];exact a⟩
section
variable {p:List Int} (hp:p.length≤1048576)
include hp
theorem Mm {c:ak}(d:Cur p c){l:List (List UInt8)}(h:0<l.length)(e:∀x∈l,x.length≤1000):TD p (tt p c l) (λv=>v.length≤1048576):=by
 unfold tt;refine (dY hp d (l.length:Int)).bind λy a=>?_;have:y.1<(l.length:Int):=by rcases a.2.2 with g|g<;>omega
 exact (kD ⟨a.2.1,this⟩).bind λv f=>ap ⟨a.1,by have:=e v f.1;show v.length≤_;omega⟩
theorem Mq {c:ak}(C:Cur p c){n:Nat}(_:n≤1000):TD p (kV p c (n:Int)) (λa=>nx a∧a.B_.length≤4∧a.M_.length≤4):=by
 unfold kV
 have r:0≤Int.tmod (n:Int) 5∧Int.tmod (n:Int) 5<5:=by
  rw [Int.tmod_eq_emod_of_nonneg (by omega)];omega
 refine (kD ⟨r.1,by simpa using r.2⟩).bind λe j=>?_
 have j:e.length≤1048576:=by
  have h:=j.1;simp only [List.mem_cons,List.not_mem_nil,or_false] at h;rcases h with rfl|rfl|rfl|rfl|rfl<;>simp
 refine (rL hp C 2).bind λy t=>aP (λ_=>?_) (λ_=>?_)
 ·refine (dY hp t.1 3).bind λy2 d=>(gh hp d.1 (by simp)).bind λy3 u=>?_;obtain ⟨m,f⟩:∃m:Nat,y2.1=m:=⟨y2.1.toNat,by have:=d.2.1;omega⟩;have w:m≤2:=by rcases d.2.2 with g|g<;>omega
  refine dh (λk (σ:Int×Int×List Int×Int) i=>dR y2 p e k σ.1 σ.2.1 σ.2.2.1 σ.2.2.2 i) (1+m) (λi σ=>Cur p ⟨σ.1,σ.2.1⟩∧σ.2.2.1.length=i∧(∀x∈σ.2.2.1,V x)∧V σ.2.2.2) (λk σ h=>?_) (λk σ i D h hk=>?_) (by omega) (s:=(y3.2.i_,y3.2.h_,[],y3.1)) ⟨u.1,rfl,(λx hx=>by cases hx),?_⟩
  ·obtain ⟨o,E,q,A⟩:=h;show Tot (dR _ _ _ (k+1) _ _ _ _ _) _;rw [dR,f,aV,Q5];exact ap ⟨o,⟨j,⟨by show σ.2.2.1.length≤_;omega,q⟩,by simp,λx hx=>by cases hx⟩,by show σ.2.2.1.length≤4;omega,by simp⟩
  ·obtain ⟨o,E,q,A⟩:=h;show Tot (dR _ _ _ (k+1) _ _ _ _ _) _;rw [dR,f,aV (n:=1+(m:Int)) (by omega) (by omega),Q0,bA];simp only [bS];refine (dY hp o 6).bind λy4 F=>?_;rw [ax];refine hk (_,_,_,_) ⟨F.1,by simp;omega,λx hx=>?_,pn _⟩;rcases List.mem_append.1 hx with hx|hx
   ·exact q x hx
   rw [List.mem_singleton.1 hx];exact A
  have h:=u.2;simp only [List.mem_cons,List.not_mem_nil,or_false] at h;exact eg (by show -1000000000000≤y3.1∧y3.1≤_;omega)
 refine (dY hp t.1 3).bind λy2 d=>?_;obtain ⟨m,f⟩:∃m:Nat,y2.1=m:=⟨y2.1.toNat,by have:=d.2.1;omega⟩;have w:m≤2:=by rcases d.2.2 with g|g<;>omega
 refine dh (λk (l:List (List UInt8)) i=>dS y2 e k i l) (2+m) (λi l=>l.length=i∧∀x∈l,x.length≤1048576) (λk l h=>?_) (λk l i D h hk=>?_) (by omega) (s:=[]) ⟨rfl,λx hx=>by cases hx⟩
 ·show Tot (dS _ _ (k+1) _ _) _;rw [dS,f,aV,Q5];exact ap ⟨d.1,⟨j,⟨by simp,λx hx=>by cases hx⟩,by show l.length≤_;omega,h.2⟩,by simp,by show l.length≤4;omega⟩
 show Tot (dS _ _ (k+1) _ _) _;rw [dS,f,aV (n:=2+(m:Int)) (by omega) (by omega),Q0];refine (kD ⟨by omega,by simp;omega⟩).bind λv G=>?_;rw [bA,ax];refine hk _ ⟨by simp;omega,λx hx=>?_⟩;rcases List.mem_append.1 hx with hx|hx
 ·exact h.2 x hx
 rw [List.mem_singleton.1 hx];have h:=G.1;simp only [List.mem_cons,List.not_mem_nil,or_false] at h;rcases h with rfl|rfl|rfl|rfl<;>simp
theorem PY {c:ak}(q:Cur p c):TD p (sn p c) nx:=by
 unfold sn;refine (dY hp q 5).bind λy h=>?_;obtain ⟨n,r⟩:∃n:Nat,y.1=n:=⟨y.1.toNat,by have:=h.2.1;omega⟩;have l:n≤1000:=by rcases h.2.2 with g|g<;>omega
 rw [r];refine (Mq hp h.1 l).bind λa m=>(dY hp m.1 14).bind λo f=>?_;obtain ⟨⟨i,k,j⟩,s,t⟩:=m.2;refine aP (λ_=>(Mm hp f.1 (by simp) (λx d=>?_)).bind λv e=>ap ⟨e.1,e.2,k,j⟩) (λ_=>?_)
 ·simp only [List.mem_cons,List.not_mem_nil,or_false] at d;rcases d with rfl|rfl|rfl|rfl<;>simp
 refine aP (λ_=>(gh hp f.1 (by simp)).bind λv e=>?_) (λ_=>?_)
 ·rw [bA];refine ap ⟨e.1,i,UL k (by omega) (yi (λy h=>?_) e.2),j⟩;simp only [List.mem_cons,List.not_mem_nil,or_false] at h;unfold V;omega
 refine aP (λ_=>(Mm hp f.1 (by simp) (λx d=>?_)).bind λv e=>?_) (λ_=>?_)
 ·simp only [List.mem_cons,List.not_mem_nil,or_false] at d;rcases d with rfl|rfl|rfl<;>simp
 ·rw [bA];exact ap ⟨e.1,i,k,OI j (by omega) e.2⟩
 refine aP (λ_=>ap ⟨f.1,i,⟨by simp,λx d=>by cases d⟩,j⟩) (λ_=>?_);refine aP (λ_=>ap ⟨f.1,i,⟨by simp,λx d=>?_⟩,by simp,λx d=>by cases d⟩) (λ_=>ap ⟨f.1,i,k,j⟩);rw [List.mem_singleton.1 d];omega
theorem VJ {c:ak}(q:Cur p c):TD p (zq p c) Ep:=by
 unfold zq;refine (NA hp q).bind λs j=>(dY hp j.1 12).bind λo d=>?_;obtain ⟨⟨⟨f,e⟩,g,h⟩,h1,r,t,u⟩:=j.2;refine aP (λ_=>(PY hp d.1).bind λa k=>?_) (λ_=>?_)
 ·rw [bA];refine ap ⟨k.1,⟨⟨by simp;omega,λx hx=>?_⟩,e⟩,by simp;omega,h⟩;have hx:x∈s.1.c_++[a.1]:=hx;rcases List.mem_append.1 hx with hx|hx
  ·exact f.2 x hx
  rw [List.mem_singleton.1 hx];exact k.2
 refine aP (λ_=>(Mm hp d.1 (by simp) (λx hx=>?_)).bind λv m=>?_) (λ_=>?_)
 ·simp only [List.mem_cons,List.not_mem_nil,or_false] at hx;rcases hx with rfl|rfl|rfl<;>simp
 ·rw [bA];exact ap ⟨m.1,⟨f,OI e (by omega) m.2⟩,g,by simp;omega⟩
 refine aP (λ_=>ap ⟨d.1,⟨⟨by simp,λx hx=>by cases hx⟩,e⟩,by simp,h⟩) (λ_=>?_);refine aP (λ_=>(sJ ⟨by omega,by omega,by omega⟩).bind λl i=>?_) (λ_=>ap ⟨d.1,⟨f,e⟩,g,h⟩);refine ap ⟨d.1,⟨f,?_,λx hx=>?_⟩,g,?_⟩
 ·show l.length≤_;rw [i];simp only [List.length_take,List.length_drop];omega
 ·have hx:x∈l:=hx;rw [i] at hx;exact e.2 x (List.mem_of_mem_drop (List.mem_of_mem_take hx))
 show l.length≤_;rw [i];simp only [List.length_take,List.length_drop];omega
end
end Go.Vk
/- Members, forests, states drawn: they are there, and Fk. -/
namespace Go.Vk
theorem Dec.yes {o:Option Bool}{P:Prop}(h:Dec o P)(hp:P):o=some true:=by
 rcases h.cases with ⟨e,_⟩|⟨_,g⟩
 ·exact e
 exact absurd hp g
theorem Yb {s:ae}{t:am}{e:cq}(a:bn s)(h:iB t)(c:yN s t)(f:ExP s e):T (vt s t e):=by
 unfold vt zO wh;rw [(yd a h).yes c,(Dw (lT a)).yes f,(XK a c f).1];simp only [sS];have j:=c.2.1;have p:=a.2.1;obtain ⟨_,p2⟩:=RH a c f 32 0 (by omega);have hp:=JY (s:=s) (t:=t) (e:=e) 32 0;generalize th s t e 32 0=l at *
 have m:(Di l).length=l.length:=by simp [Di]
 refine Tot.bind (P:=λv=>v.length≤1048576) ?_ (λv g=>(Nt g).bind λ_ _=>bu _);refine aP (λ_=>ap (by simp)) (λ_=>?_)
 have key:∀(n k:Nat),n≤l.length→n<k→Tot (mx (Di l) t s k ((n:Int)-1)) (λv=>v.length≤1048576):=by
  intro n
  induction n with
  | zero =>
   intro k _ hk;obtain ⟨k,rfl⟩:=kS k (by omega);rw [mx,Q5];exact (MU ⟨by omega,by omega⟩).bind λv g=>ap (by rw [g];simp;omega)
  | succ n ih =>
   intro k q hk;obtain ⟨k,rfl⟩:=kS k (by omega);have hn':n<(Di l).length:=by omega
   have o:((n+1:Nat):Int)-1=(n:Int):=by omega
   have i:=p2 _ (List.getElem_mem (show n<l.length by omega));have ej:(Di l)[n]=((l[n]:Nat):Int):=by simp [Di]
   rw [o,mx,Q2,aH hn'];simp only [bS];rw [ej,aH i];simp only [bS];have d:=(h.1.2 _ (List.getElem_mem i)).2.2.2.2.1;refine (Iz a d).bind λv _=>aP (λ_=>?_) (λ_=>?_)
   ·have h1:=d.1.1;rw [bA];exact ap (by simpa using h1)
   rw [aV];exact ih k (by omega) (by omega)
 rw [m,aV];exact key l.length bc (Nat.le_refl _) cN
theorem ZB (x:Int):Tot (lz x) (λl=>l.length≤7):=by
 unfold lz;exact aP (λ_=>ap (by simp)) (λ_=>aP (λ_=>ap (by simp)) (λ_=>ap (by simp)))
theorem UJ (x d:Int):T (vr x d):=by
 unfold vr;refine (ZB x).bind λl c=>Tot.bind (P:=λ_=>True) (aP (λ_=>bu _) (λ_=>cW.t.bind λ_ _=>bu _)) (λ_ _=>aP (λ_=>bu _) (λ_=>?_));refine dh (λk (n:Int) i=>iw l d k n i) l.length (λ_ _=>True) (λk s _=>?_) (λk s i a _ hk=>?_) (by omega) trivial
 ·show Tot (iw _ _ (k+1) _ _) _;rw [iw,Q5];exact bu _
 show Tot (iw _ _ (k+1) _ _) _;rw [iw,Q0,aH a,ax];exact aP (λ_=>hk _ trivial) (λ_=>hk _ trivial)
def Kr (t:bB):Prop:=t.x_.length≤1048576
def BS (m:aA):Prop:=ib 0 m.A_∧ib 0 m.s_∧Ta m.z_
theorem vc (d:Nat):ib d ⟨[],0⟩:=⟨⟨by simp,λx a=>by cases a⟩,v0⟩
theorem NZ:Ta ⟨⟨[]⟩,⟨[]⟩⟩:=⟨xR _ _,xR _ _⟩
theorem OD (b:Bool):BS ⟨⟨[],0⟩,b,⟨[],0⟩,⟨⟨[]⟩,⟨[]⟩⟩⟩:=⟨vc _,vc _,NZ⟩
theorem Om {l:List (List Int)}(h:gv 9 13 l):xU l:=⟨by have:=h.1;omega,λr a=>(h.2 r a).sml (by omega)⟩
def WL (m:aA):Prop:=ib 1 m.A_∧ib 1 m.s_∧gv 9 13 m.z_.v_.f_∧gv 9 13 m.z_.w_.f_
theorem BS.d {m:aA}(h:BS m):WL m:=⟨h.1.mono (by omega),h.2.1.mono (by omega),h.2.2.1.mono (by omega) (by omega),h.2.2.2.mono (by omega) (by omega)⟩
theorem WL.sml {m:aA}(h:WL m):qL m:=⟨h.1.sml (by omega),trivial,h.2.1.sml (by omega),Om h.2.2.1,Om h.2.2.2⟩
theorem AS {m:aA}(h:BS m):kc m=some m:=by
 unfold kc;rw [tv (h.1.sml (by omega)),tv (h.2.1.sml (by omega)),JG h.2.2];rfl
theorem RS {s:ae}{l:List Int}(a:bn s)(c:smI 24 l):Tot (ph s l) (ib 0):=by
 unfold ph;have h1:=c.1;refine (uW a (by omega)).t.bind λb _=>aP (λ_=>ap (vc _)) (λ_=>(Bv a).bind λst d=>?_);rw [bA];refine ap ⟨⟨by simp,λx e=>?_⟩,v0⟩;rw [List.mem_singleton.1 e];exact ⟨⟨v0,v0⟩,.nil _,v0,d,v0,c,v0,eg (x:=-1) ⟨by omega,by omega⟩,v0⟩
theorem Qc {c:aZ}{tape:bB}(f:bn c.y_)(d:yM c)(a:Kr tape):Tot (rr c tape) (λy=>ib 0 y.1∧Kr y.2.1):=by
 unfold rr;have h1:=d.1.1;have h:=d.2.2.2.1;obtain ⟨k,hk⟩:∃k:Nat,c.X_=k:=⟨c.X_.toNat,by omega⟩;rw [hk,iO a];exact (LS a (by omega) (by omega)).bind λy e=>aP (λ_=>ap ⟨vc _,a⟩) (λ_=>(RS f (.small e.2 (by omega))).bind λt g=>ap ⟨g,e.1⟩)
theorem NL {c:aZ}{tape:bB}(d:bn c.y_)(a:Kr tape):Tot (qw c tape) (λy=>BS y.1∧Kr y.2.1):=by
 unfold qw;rw [iO a];refine la (Cx d).t (by simp only [sS];exact ap ⟨OD _,a⟩) (λf=>?_);simp only [sS];exact (Qc d f a).bind λy e=>aP (λ_=>ap ⟨OD _,a⟩) (λ_=>ap ⟨⟨e.1,vc _,NZ⟩,e.2⟩)
theorem YY (q:Bool):T (iE q):=by
 unfold iE;exact aP (λ_=>bu _) (λ_=>bu _)
theorem Lo {c:aZ}{m:aA}{e:cq}{tape:bB}(i:bn c.y_)(f:BS m)(h:Kr tape):Tot (pD c m e tape) (λy=>BS y.1∧Kr y.2.1):=by
 have r:=f.d.sml;unfold pD;rw [AS f,iO h];refine la (JQ i r).t (by simp only [sS];exact ap ⟨f,h⟩) (λD=>?_);simp only [sS];refine mM (Dw (lT i)).t (by simp only [sS];exact ap ⟨f,h⟩) (λH=>?_);simp only [sS];refine Tot.bind (P:=λ_=>True) (aP (λ_=>bu _) (λ_=>(EH _).t.bind λ_ _=>bu _)) (λu _=>aP (λ_=>ap ⟨f,h⟩) (λ_=>?_));have E:=D.1;have bad:∀x:dW,Tot (some (m,tape,x,false)) (λy:aA×bB×dW×Bool=>BS y.1∧Kr y.2.1):=λx=>ap ⟨f,h⟩;refine (Yb i r.1 D.2.1.1 H).bind λv _=>(YY _).bind λb _=>(TK h).bind λy F=>aP (λ_=>bad _) (λ_=>(UJ _ _).bind λw _=>?_)
 have key:∀(l:List az)(x:Int)(j:List az)(x2 a A:Int)(tp:List Int)(b_:Int),ib 0 ⟨l,x⟩→ib 0 ⟨j,x2⟩→tp.length≤1048576→Tot (jo m b c m tape v w l x j x2 a A tp b_) (λy=>BS y.1∧Kr y.2.1):=by
  intro l x j x2 a A tp b_ h1 p k;unfold jo;rw [AS f,iO h];refine (Mb f.2.2).bind λd C=>?_
  have o:∀(q:Bool)(j:List az)(x2:Int)(G:Bool)(tp:List Int)(b_:Int),ib 0 ⟨j,x2⟩→tp.length≤1048576→Tot (kH d v b w a A c m tape l x q j x2 G tp b_) (λy=>BS y.1∧Kr y.2.1):=by
   intro q j x2 G tp b_ p k;unfold kH kP;rw [AS f,iO h];refine aP (λ_=>aP (λ_=>ap ⟨⟨p,vc _,C⟩,k⟩) (λ_=>(Qc i E (tape:=⟨tp,b_⟩) k).bind λz g=>aP (λ_=>bad _) (λ_=>ap ⟨⟨g.1,vc _,C⟩,g.2⟩))) (λ_=>ap ⟨⟨h1,p,C⟩,k⟩)
  exact aP (λ_=>(Qc i E (tape:=⟨tp,b_⟩) k).bind λz g=>aP (λ_=>bad _) (λ_=>o _ _ _ _ _ _ g.1 g.2)) (λ_=>o _ _ _ _ _ _ p k)
 refine aP (λ_=>?_) (λ_=>key _ _ _ _ _ _ _ _ f.1 f.2.1 F);refine (Nq i f.1 F).bind λz g=>aP (λ_=>bad _) (λ_=>aP (λ_=>?_) (λ_=>key _ _ _ _ _ _ _ _ g.1 f.2.1 g.2));exact (Nq i f.2.1 g.2).bind λL s=>aP (λ_=>bad _) (λ_=>key _ _ _ _ _ _ _ _ g.1 s.1 s.2)
def Ky (f:bj):Prop:=f.u_.length≤8∧∀m∈f.u_,BS m
theorem Ky.sml {f:bj}(h:Ky f):qz f:=⟨by have:=h.1;omega,λm a=>(h.2 m a).d.sml⟩
theorem OE:Ky ⟨[]⟩:=⟨by simp,λx a=>by cases a⟩
theorem LK {l:List aA}{m:aA}(h:∀x∈l,BS x)(a:BS m):∀x∈l++[m],BS x:=λx hx=>by
 rcases List.mem_append.1 hx with hx|hx
 ·exact h x hx
 rw [List.mem_singleton.1 hx];exact a
theorem Jo {f:bj}(h:Ky f):tX f=some f:=by
 have c:=h.1;unfold tX
 rw [qH (p:=f.u_) id (na f) (λl=>some ⟨l⟩) (λk l=>by rw [na,Q5]) (λk l i a d=>by
  rw [na,Q0,aH a,ax];simp only [bS];rw [AS (h.2 _ (List.getElem_mem a))];simp only [bS];rw [bA];rfl) (by omega),List.map_id]
theorem UP {c:aZ}{tape:bB}(e:bn c.y_)(d:Kr tape):Tot (tI c tape) (λy=>Ky y.1):=by
 unfold tI;rw [iO d];simp only [bS];refine la (Cx e).t (by simp only [sS];exact ap OE) (λg=>?_);simp only [sS];have p:=g.2.2.1;obtain ⟨n,a⟩:∃n:Nat,c.u_=n:=⟨c.u_.toNat,by omega⟩;refine dh (λk (σ:List aA×List Int×Int) i=>iL c tape k σ.1 σ.2.1 σ.2.2 i) n (λi σ=>σ.1.length=i∧(∀m∈σ.1,BS m)∧σ.2.1.length≤1048576) (λk σ h=>?_) (λk σ i q h hk=>?_) (by omega) (s:=([],tape.x_,tape.j_)) ⟨rfl,(λx j=>by cases j),d⟩
 ·show Tot (iL _ _ (k+1) _ _ _ _) _;rw [iL,a,Q5];exact ap ⟨by show σ.1.length≤8;omega,h.2.1⟩
 obtain ⟨h1,l,o⟩:=h;show Tot (iL _ _ (k+1) _ _ _ _) _;rw [iL,a,Q0,iO d,ax];refine (NL e (tape:=⟨σ.2.1,σ.2.2⟩) o).bind λy f=>aP (λ_=>ap OE) (λ_=>?_);rw [bA];exact hk (_,_,_) ⟨by simp;omega,LK l f.1,f.2⟩
theorem RU {c:aZ}{f:bj}{e:cq}{tape:bB}(d:bn c.y_)(a:Ky f)(g:Kr tape):Tot (sx c f e tape) (λy=>Ky y.1):=by
 have r:=a.1;unfold sx;rw [Jo a,iO g];refine (Kj d a.sml).t.bind λu _=>Tot.bind (P:=λ_=>True) (aP (λ_=>bu _) (λ_=>(Dw (lT d)).t.bind λ_ _=>bu _)) (λu _=>Tot.bind (P:=λ_=>True) (aP (λ_=>bu _) (λ_=>(EH _).t.bind λ_ _=>bu _)) (λu _=>aP (λ_=>ap a) (λ_=>?_)));refine dh (λk (σ:List aA×List Int×Int×List dW) i=>gX f c e tape k σ.1 σ.2.1 σ.2.2.1 σ.2.2.2 i) f.u_.length (λi σ=>σ.1.length=i∧(∀m∈σ.1,BS m)∧σ.2.1.length≤1048576∧σ.2.2.2.length=i) (λk σ h=>?_) (λk σ i j h hk=>?_) (by omega) (s:=([],tape.x_,tape.j_,[])) ⟨rfl,(λx o=>by cases o),g,rfl⟩
 ·show Tot (gX _ _ _ _ (k+1) _ _ _ _ _) _;rw [gX,Q5];exact ap ⟨by show σ.1.length≤8;omega,h.2.1⟩
 obtain ⟨h1,p,q,v⟩:=h;show Tot (gX _ _ _ _ (k+1) _ _ _ _ _) _;rw [gX,Q0,aH j,Jo a,iO g,ax];simp only [bS];refine (Lo d (a.2 _ (List.getElem_mem j)) (tape:=⟨σ.2.1,σ.2.2.1⟩) q).bind λy l=>aP (λ_=>ap a) (λ_=>?_);rw [bA];simp only [bS];rw [bA];exact hk (_,_,_,_) ⟨by simp;omega,LK p l.1,l.2,by simp;omega⟩
section
variable {p:List Int} (hp:p.length≤1048576)
include hp
theorem lS {c:ak}(d:Cur p c){l:List Int}(e:0<l.length)(f:l.all (λx=>decide (-9223372036854775808≤x∧x≤9223372036854775807))=true):TD p (bh p c l) V:=(gh hp d e).mono λy a=>⟨a.1,by have:=List.all_eq_true.1 f _ a.2;simp only [decide_eq_true_eq] at this;exact this⟩
theorem Lm {c:ak}(h:Cur p c):TD p (me p c) JB:=by
 unfold me;exact (lS hp h (by simp) rfl).bind λ_ h1=>(lS hp h1.1 (by simp) rfl).bind λ_ a=>(lS hp a.1 (by simp) rfl).bind λ_ d=>(lS hp d.1 (by simp) rfl).bind λ_ e=>(lS hp e.1 (by simp) rfl).bind λ_ f=>(lS hp f.1 (by simp) rfl).bind λ_ g=>(rL hp g.1 2).bind λ_ i=>ap ⟨i.1,h1.2,a.2,d.2,e.2,f.2,g.2,trivial⟩
theorem Um {c:ak}(m:Cur p c):TD p (xQ p c) JB:=by
 unfold xQ;refine (Lm hp m).bind λr l=>(dY hp l.1 18).bind λy d=>?_;obtain ⟨f,g,h,i,j,k,e⟩:=l.2;exact aP (λ_=>(lS hp d.1 (by simp) rfl).bind λv a=>ap ⟨a.1,a.2,g,h,i,j,k,e⟩) (λ_=>aP (λ_=>(lS hp d.1 (by simp) rfl).bind λv a=>ap ⟨a.1,f,a.2,h,i,j,k,e⟩) (λ_=>aP (λ_=>(lS hp d.1 (by simp) rfl).bind λv a=>ap ⟨a.1,f,g,a.2,i,j,k,e⟩) (λ_=>aP (λ_=>(lS hp d.1 (by simp) rfl).bind λv a=>ap ⟨a.1,f,g,h,a.2,j,k,e⟩) (λ_=>aP (λ_=>(lS hp d.1 (by simp) rfl).bind λv a=>ap ⟨a.1,f,g,h,i,a.2,k,e⟩) (λ_=>aP (λ_=>(lS hp d.1 (by simp) rfl).bind λv a=>ap ⟨a.1,f,g,h,i,j,a.2,e⟩) (λ_=>ap ⟨d.1,f,g,h,i,j,k,e⟩))))))
def Hn (c:aZ):Prop:=Ep c.y_∧CJ c∧2≤c.y_.g_.length∧c.y_.g_.length≤3
theorem Tv {c:ak}(a:Cur p c):TD p (uC p c) Hn:=by
 unfold uC;refine (NA hp a).bind λs e=>(Lm hp e.1).bind λr f=>(rL hp f.1 2).bind λo g=>?_;obtain ⟨h,H,L,c1,c2⟩:=e.2;obtain ⟨k,l,m,q,t,u,v⟩:=f.2
 have key:∀(c:ak)(x1 x2 d x4:Int),Cur p c→V x1→V x2→V d→V x4→TD p (nk p s r c.i_ c.h_ x1 x2 d x4) Hn:=by
  intro c x1 x2 d x4 a h1 w x A;unfold nk;exact (dY hp (c:=⟨c.i_,c.h_⟩) a _).bind λy1 C=>(dY hp C.1 _).bind λy2 D=>(lS hp D.1 (by simp) rfl).bind λy3 i=>(dY hp i.1 _).bind λy4 E=>(dY hp E.1 _).bind λy5 F=>ap ⟨F.1,h,⟨h.1,⟨h1,l,w,x,A,u,v⟩,pn _,pn _,i.2,pn _,pn _⟩,c1,c2⟩
 have G:V 1:=eg ⟨by omega,by omega⟩;exact aP (λ_=>(lS hp g.1 (by simp) rfl).bind λy j=>key y.2 _ _ _ _ j.1 G j.2 (eg ⟨by omega,by omega⟩) (eg ⟨by omega,by omega⟩)) (λ_=>key o.2 _ _ _ _ g.1 k m q t)
theorem YK {c:ak}(m:Cur p c):TD p (xz p c) CJ:=by
 unfold xz;refine (Tv hp m).bind λr l=>(dY hp l.1 16).bind λy d=>?_;obtain ⟨e,f,g,h,i,j,k⟩:=l.2.2.1;exact aP (λ_=>(lS hp d.1 (by simp) rfl).bind λv a=>ap ⟨a.1,e,f,a.2,h,i,j,k⟩) (λ_=>aP (λ_=>(lS hp d.1 (by simp) rfl).bind λv a=>ap ⟨a.1,e,f,g,a.2,i,j,k⟩) (λ_=>aP (λ_=>(lS hp d.1 (by simp) rfl).bind λv a=>ap ⟨a.1,e,f,g,h,a.2,j,k⟩) (λ_=>aP (λ_=>(lS hp d.1 (by simp) rfl).bind λv a=>ap ⟨a.1,e,f,g,h,i,a.2,k⟩) (λ_=>aP (λ_=>(lS hp d.1 (by simp) rfl).bind λv a=>ap ⟨a.1,e,f,g,h,i,j,a.2⟩) (λ_=>aP (λ_=>(Um hp d.1).bind λv a=>ap ⟨a.1,e,a.2,g,h,i,j,k⟩) (λ_=>aP (λ_=>(VJ hp d.1).bind λv a=>ap ⟨a.1,a.2.1,f,g,h,i,j,k⟩) (λ_=>ap ⟨d.1,e,f,g,h,i,j,k⟩)))))))
theorem Ov {c:ak}(g:Cur p c){f:aZ}(a:Hn f)(i n:Int):TD p (qN p c f i n) (λ_=>True):=by
 unfold qN;refine (IW hp g a.1).bind λe d=>aP (λ_=>?_) (λ_=>ap ⟨d.1,trivial⟩);have:=a.2.2.1;unfold rem;rw [Q6];exact ap ⟨d.1,trivial⟩
theorem LJ {c:ak}(g:Cur p c){f:aZ}(d:Hn f){n:Nat}(q:n≤36):TD p (rU p c f n) Ky:=by
 unfold rU;refine (AH hp g (n:=8) (by omega)).bind λb a=>(UP d.1.1 (tape:=⟨b.1,0⟩) (by show b.1.length≤_;have:=a.2.1;omega)).bind λw j=>(dY hp a.1 _).bind λy l=>?_;refine dh (λk (σ:Int×Int×List aA) i=>jH n p f y k σ.1 σ.2.1 i σ.2.2) n (λ_ σ=>Cur p ⟨σ.1,σ.2.1⟩∧Ky ⟨σ.2.2⟩) (λk σ h=>?_) (λk σ i r h hk=>?_) (by omega) (s:=(y.2.i_,y.2.h_,w.1.u_)) ⟨l.1,j⟩
 ·show Tot (jH _ _ _ _ (k+1) _ _ _ _) _;rw [jH,Q5];exact ap h
 show Tot (jH _ _ _ _ (k+1) _ _ _ _) _;rw [jH,Q0,ax];exact (Ov hp h.1 d _ _).bind λe m=>(AH hp m.1 (n:=80) (by omega)).bind λb a=>(RU d.1.1 h.2 (tape:=⟨b.1,0⟩) (by show b.1.length≤_;have:=a.2.1;omega)).bind λz o=>hk (_,_,_) ⟨a.1,o⟩
theorem RY {c:ak}(j:Cur p c):TD p (vN p c) (λst=>Hn st.m_∧Ky st.aa_∧nh st):=by
 unfold vN;refine (Tv hp j).bind λf a=>(gh hp a.1 (by simp)).bind λy e=>?_
 obtain ⟨n,k,g⟩:∃n:Nat,y.1=n∧n≤36:=by
  have h:=e.2;simp only [List.mem_cons,List.not_mem_nil,or_false] at h;exact ⟨y.1.toNat,by omega,by omega⟩
 rw [k];refine (LJ hp e.1 a.2 g).bind λw d=>(Ls hp d.1 a.2.2.2).bind λs i=>ap ⟨i.1,a.2,d.2,a.2.2.1,d.2.sml,i.2.sml a.2.2.2.2⟩
end
end Go.Vk
/- States drawn, also wrong ones: they are there, and Fk. -/
namespace Go.Vk
section
variable {p:List Int} (hp:p.length≤1048576)
include hp
theorem ST {c:ak}(g:Cur p c){f:aZ}(d:Hn f){n:Nat}(q:n≤40):TD p (vX p c f n) BS:=by
 unfold vX;refine (AH hp g (n:=4) (by omega)).bind λb a=>(NL d.1.1 (tape:=⟨b.1,0⟩) (by show b.1.length≤_;have:=a.2.1;omega)).bind λw j=>(dY hp a.1 _).bind λy l=>?_;refine dh (λk (σ:Int×Int×aA) i=>jx n p f y k σ.1 σ.2.1 i σ.2.2.A_.a_ σ.2.2.A_.o_ σ.2.2.N_ σ.2.2.s_.a_ σ.2.2.s_.o_ σ.2.2.z_.v_.f_ σ.2.2.z_.w_.f_) n (λ_ σ=>Cur p ⟨σ.1,σ.2.1⟩∧BS σ.2.2) (λk σ h=>?_) (λk σ i r h hk=>?_) (by omega) (s:=(y.2.i_,y.2.h_,w.1)) ⟨l.1,j.1⟩
 ·show Tot (jx _ _ _ _ (k+1) _ _ _ _ _ _ _ _ _ _) _;rw [jx,Q5];exact ap h
 show Tot (jx _ _ _ _ (k+1) _ _ _ _ _ _ _ _ _ _) _;rw [jx,Q0,ax];exact (Ov hp h.1 d _ _).bind λe m=>(AH hp m.1 (n:=24) (by omega)).bind λb a=>(Lo d.1.1 h.2 (tape:=⟨b.1,0⟩) (by show b.1.length≤_;have:=a.2.1;omega)).bind λz o=>hk (_,_,z.1) ⟨a.1,o.1⟩
theorem NE {c:ak}(u:Cur p c){f:aZ}(l:Hn f):TD p (uA p c f) WL:=by
 unfold uA;refine (gh hp u (by simp)).bind λy q=>?_
 obtain ⟨n,v,r⟩:∃n:Nat,y.1=n∧n≤40:=by
  have h:=q.2;simp only [List.mem_cons,List.not_mem_nil,or_false] at h;exact ⟨y.1.toNat,by omega,by omega⟩
 rw [v];refine (ST hp q.1 l r).bind λm s=>(dY hp s.1 14).bind λo e=>?_;obtain ⟨g,i,j,k⟩:=s.2.d;exact aP (λ_=>ap ⟨e.1,g,i,j,k⟩) (λ_=>aP (λ_=>(NV hp e.1 l.1).bind λt a=>ap ⟨a.1,a.2,i,j,k⟩) (λ_=>aP (λ_=>(NV hp e.1 l.1).bind λt a=>ap ⟨a.1,g,a.2,j,k⟩) (λ_=>aP (λ_=>(Vr hp e.1).bind λt a=>ap ⟨a.1,g,i,a.2.1,a.2.2⟩) (λ_=>ap ⟨e.1,g,i,j,k⟩))))
theorem VB {c:ak}(s:Cur p c){f:aZ}(j:Hn f):TD p (xx p c f) qz:=by
 unfold xx;refine (gh hp s (by simp)).bind λy q=>?_
 obtain ⟨n,t,r⟩:∃n:Nat,y.1=n∧n≤36:=by
  have h:=q.2;simp only [List.mem_cons,List.not_mem_nil,or_false] at h;exact ⟨y.1.toNat,by omega,by omega⟩
 rw [t];refine (LJ hp q.1 j r).bind λw k=>(dY hp k.1 14).bind λo e=>?_;have v:=k.2.1;have g:=k.2.sml;have keep:TD p (some (w.1,o.2)) qz:=ap ⟨e.1,g⟩;refine aP (λ_=>(NE hp e.1 j).bind λm d=>?_) (λ_=>aP (λ_=>aP (λa=>?_) (λ_=>keep)) (λ_=>aP (λ_=>aP (λa=>(NE hp e.1 j).bind λm d=>?_) (λ_=>keep)) (λ_=>keep)))
 ·rw [bA];refine ap ⟨d.1,by show (w.1.u_++_).length≤_;simp;omega,λx hx=>?_⟩;rcases List.mem_append.1 hx with hx|hx
  ·exact g.2 x hx
  rw [List.mem_singleton.1 hx];exact d.2.sml
 ·have a:0<w.1.u_.length:=by simpa using a
  rw [aV];refine (sJ ⟨by omega,by omega,by omega⟩).bind λl i=>ap ⟨e.1,?_,λx hx=>?_⟩
  ·show l.length≤_;rw [i];simp only [List.length_take,List.length_drop];omega
  have hx:x∈l:=hx;rw [i] at hx;exact g.2 x (List.mem_of_mem_drop (List.mem_of_mem_take hx))
 have a:0<w.1.u_.length:=by simpa using a
 have u:idx w.1.u_ 0=some w.1.u_[0]:=aH a;rw [u];refine ap ⟨d.1,by show (w.1.u_.set _ _).length≤_;rw [List.length_set];omega,λx hx=>?_⟩;rcases List.mem_or_eq_of_mem_set hx with hx|rfl
 ·exact g.2 x hx
 exact d.2.sml
theorem Ve {c:ak}(i:Cur p c):TD p (xi p c) nh:=by
 unfold xi;refine (RY hp i).bind λs h=>(dY hp h.1 14).bind λy d=>?_;obtain ⟨j,k,e,f,g⟩:=h.2;exact aP (λ_=>(YK hp d.1).bind λv a=>ap ⟨a.1,a.2,f,g⟩) (λ_=>aP (λ_=>(VB hp d.1 j).bind λv a=>ap ⟨a.1,e,a.2,g⟩) (λ_=>aP (λ_=>(Tt hp d.1).bind λv a=>ap ⟨a.1,e,f,a.2⟩) (λ_=>ap ⟨d.1,e,f,g⟩)))
theorem NX:Tot (od p) nh:=by
 unfold od;exact (Zu hp).bind λc a=>(Ve hp a).bind λs d=>ap d.2
end
end Go.Vk
/- Alike with itself. -/
namespace Go.Vk
theorem Bn {l:List Int}(h:l.length≤1048576):io l l=some true:=by
 have c:l.length≤1048576:=h;unfold io;rw [Q5];refine jg (Lp:=λk i=>fT l l k (i:Int)) (n:=l.length) (λk=>?_) (λk i a=>?_) (by omega)
 ·show fT l l (k+1) _=_;rw [fT,Q5]
 show fT l l (k+1) _=fT l l k _;rw [fT,Q0,aH a,ax];simp only [bS];simp
theorem QR {l:List (List UInt8)}(h:l.length≤1048576):ov l l=some true:=by
 have c:l.length≤1048576:=h;unfold ov;rw [Q5];refine jg (Lp:=λk i=>fu l l k (i:Int)) (n:=l.length) (λk=>?_) (λk i a=>?_) (by omega)
 ·show fu l l (k+1) _=_;rw [fu,Q5]
 show fu l l (k+1) _=fu l l k _;rw [fu,Q0,aH a,ax];simp only [bS];simp
theorem Er {l:List Int}(h:l.length≤1048576):dZ l l=some true:=by
 have c:l.length≤1048576:=h;unfold dZ;rw [Q5];refine jg (Lp:=λk i=>dk l l k (i:Int)) (n:=l.length) (λk=>?_) (λk i a=>?_) (by omega)
 ·show dk l l (k+1) _=_;rw [dk,Q5]
 show dk l l (k+1) _=dk l l k _;rw [dk,Q0,aH a,ax];simp only [bS];simp
theorem QJ {l:List (List UInt8)}(h:l.length≤1048576):eL l l=some true:=by
 have c:l.length≤1048576:=h;unfold eL;rw [Q5];refine jg (Lp:=λk i=>cB l l k (i:Int)) (n:=l.length) (λk=>?_) (λk i a=>?_) (by omega)
 ·show cB l l (k+1) _=_;rw [cB,Q5]
 show cB l l (k+1) _=cB l l k _;rw [cB,Q0,aH a,ax];simp only [bS];simp
theorem Wr {l:List aG}(h:l.length≤1048576):eM l l=some true:=by
 have c:l.length≤1048576:=h;unfold eM;rw [Q5];refine jg (Lp:=λk i=>bX l l k (i:Int)) (n:=l.length) (λk=>?_) (λk i a=>?_) (by omega)
 ·show bX l l (k+1) _=_;rw [bX,Q5]
 show bX l l (k+1) _=bX l l k _;rw [bX,Q0,aH a,ax];simp only [bS];simp
theorem WZ {l:List Int}(h:l.length≤1048576):rq l l=some true:=by
 unfold rq;rw [Er h];rfl
theorem Xm {l:List (List Int)}(h:xU l):cF l l=some true:=by
 have d:l.length≤1048576:=h.1;unfold cF;rw [Q5];refine jg (Lp:=λk i=>be l l k (i:Int)) (n:=l.length) (λk=>?_) (λk i a=>?_) (by omega)
 ·show be l l (k+1) _=_;rw [be,Q5]
 show be l l (k+1) _=be l l k _;have c:=h.2 _ (List.getElem_mem a);rw [be,Q0,aH a,ax];simp only [bS];rw [WZ c.1];simp
theorem MI {l:List (List Int)}(h:xU l):oO l l=some true:=by
 unfold oO;rw [Xm h];rfl
theorem Wv {a:aK}(h:nx a):qf a a=some true:=by
 unfold qf;rw [Er h.2.1.1,QJ h.2.2.1];simp
theorem Wq {l:List aK}(h:Ma l):bU l l=some true:=by
 have d:l.length≤1048576:=h.1;unfold bU;rw [Q5];refine jg (Lp:=λk i=>aN l l k (i:Int)) (n:=l.length) (λk=>?_) (λk i a=>?_) (by omega)
 ·show aN l l (k+1) _=_;rw [aN,Q5]
 show aN l l (k+1) _=aN l l k _;have c:=h.2 _ (List.getElem_mem a);rw [aN,Q0,aH a,ax];simp only [bS];rw [Wv c];simp
theorem VM {s:ae}(h:bn s):sA s s=some true:=by
 unfold sA;rw [QJ h.2.1,Wq h.1];simp
theorem Xz {s:ae}(h:bn s):sh s s=some true:=by
 have d:s.c_.length≤1048576:=h.1.1;unfold sh;rw [QR h.2.1];simp only [Option.bind_some,bne_self_eq_false,Bool.false_eq_true,if_false,Bool.not_true];refine jg (Lp:=λk i=>fS s s k (i:Int)) (n:=s.c_.length) (λk=>?_) (λk i a=>?_) (by omega)
 ·show fS s s (k+1) _=_;rw [fS,Q5]
 show fS s s (k+1) _=fS s s k _;have c:=h.1.2 _ (List.getElem_mem a);rw [fS,Q0,aH a,ax];simp only [bS];rw [Bn c.2.1.1,QR c.2.2.1];simp
theorem WV {c:aZ}(h:CJ c):vT c c=some true:=by
 unfold vT;rw [VM h.1];simp
theorem XC {c:aZ}(h:CJ c):vM c c=some true:=by
 unfold vM;rw [Xz h.1];simp
theorem Ws {t:aD}(h:gQ t):tV t t=some true:=by
 unfold tV;rw [Er h.1.1,MI h.2];simp
theorem Xx {t:aD}(h:gQ t):uc t t=some true:=by
 have d:t.e_.length≤1048576:=h.2.1;unfold uc;rw [Bn h.1.1];simp only [Option.bind_some,Bool.not_true,Bool.false_or];rw [Q5];refine jg (Lp:=λk i=>gJ t t k (i:Int)) (n:=t.e_.length) (λk=>?_) (λk i a=>?_) (by omega)
 ·show gJ t t (k+1) _=_;rw [gJ,Q5]
 show gJ t t (k+1) _=gJ t t k _;have c:=h.2.2 _ (List.getElem_mem a);rw [gJ,Q0,aH a,ax];simp only [bS];rw [Bn c.1];simp
theorem VZ {n:az}(h:pr n):vE n n=some true:=by
 unfold vE;rw [Bn h.2.2.1.1,Xx h.2.2.2.2.1,Bn h.2.2.2.2.2.2.1.1];simp
theorem Wk {n:az}(h:pr n):vv n n=some true:=by
 unfold vv;rw [Er h.2.2.1.1,Ws h.2.2.2.2.1,Er h.2.2.2.2.2.2.1.1];simp
theorem QZ {t:am}(h:iB t):sf t t=some true:=by
 have d:t.a_.length≤1048576:=h.1.1;unfold sf;rw [Q5];refine jg (Lp:=λk i=>ix t t k (i:Int)) (n:=t.a_.length) (λk=>?_) (λk i a=>?_) (by omega)
 ·show ix t t (k+1) _=_;rw [ix,Q5]
 show ix t t (k+1) _=ix t t k _;have c:=h.1.2 _ (List.getElem_mem a);rw [ix,Q0,aH a,ax];simp only [bS];rw [VZ c];simp
theorem Wh {l:List az}(h:Lk l):bF l l=some true:=by
 have d:l.length≤1048576:=h.1;unfold bF;rw [Q5];refine jg (Lp:=λk i=>aL l l k (i:Int)) (n:=l.length) (λk=>?_) (λk i a=>?_) (by omega)
 ·show aL l l (k+1) _=_;rw [aL,Q5]
 show aL l l (k+1) _=aL l l k _;have c:=h.2 _ (List.getElem_mem a);rw [aL,Q0,aH a,ax];simp only [bS];rw [Wk c];simp
theorem Qw {t:am}(h:iB t):mh t t=some true:=by
 unfold mh;rw [Wh h.1];simp
theorem Rz {t:au}(h:uZ t):pq t t=some true:=by
 unfold pq;rw [MI h];rfl
theorem Rv {t:au}(h:uZ t):pt t t=some true:=by
 have d:t.f_.length≤1048576:=h.1;unfold pt;rw [Q5];refine jg (Lp:=λk i=>fY t t k (i:Int)) (n:=t.f_.length) (λk=>?_) (λk i a=>?_) (by omega)
 ·show fY t t (k+1) _=_;rw [fY,Q5]
 show fY t t (k+1) _=fY t t k _;have c:=h.2 _ (List.getElem_mem a);rw [fY,Q0,aH a,ax];simp only [bS];rw [Bn c.1];simp
theorem WE {d:cx}(h:IE d):xA d d=some true:=by
 unfold xA;rw [Rv h.1,Rv h.2];simp
theorem Wg {m:aA}(h:qL m):sF m m=some true:=by
 unfold sF;rw [QZ h.1,QZ h.2.2.1,WE h.2.2.2];simp
theorem Xp {d:cx}(h:IE d):xn d d=some true:=by
 unfold xn;rw [Rz h.1,Rz h.2];simp
theorem VD {m:aA}(h:qL m):sk m m=some true:=by
 unfold sk;rw [Qw h.1,Qw h.2.2.1,Xp h.2.2.2];simp
theorem WF {l:List aA}(h:Hx l):bP l l=some true:=by
 have d:l.length≤1048576:=h.1;unfold bP;rw [Q5];refine jg (Lp:=λk i=>aJ l l k (i:Int)) (n:=l.length) (λk=>?_) (λk i a=>?_) (by omega)
 ·show aJ l l (k+1) _=_;rw [aJ,Q5]
 show aJ l l (k+1) _=aJ l l k _;have c:=h.2 _ (List.getElem_mem a);rw [aJ,Q0,aH a,ax];simp only [bS];rw [VD c];simp
theorem Wj {f:bj}(h:qz f):so f f=some true:=by
 unfold so;rw [WF h];rfl
theorem Xn {f:bj}(h:qz f):sM f f=some true:=by
 have d:f.u_.length≤1048576:=h.1;unfold sM;rw [Q5];refine jg (Lp:=λk i=>fX f f k (i:Int)) (n:=f.u_.length) (λk=>?_) (λk i a=>?_) (by omega)
 ·show fX f f (k+1) _=_;rw [fX,Q5]
 show fX f f (k+1) _=fX f f k _;have c:=h.2 _ (List.getElem_mem a);rw [fX,Q0,aH a,ax];simp only [bS];rw [Wg c];simp
theorem VT {s:aW}(h:vl s):uu s s=some true:=by
 unfold uu;rw [MI h.1,Wr h.2.1];simp
theorem WJ {s:aW}(h:vl s):ut s s=some true:=by
 have d:s.p_.length≤1048576:=h.1.1;have h1:s.t_.length≤1048576:=h.2.1;unfold ut;rw [Q5];refine jg (Lp:=λk i=>gE s s k (i:Int)) (n:=s.p_.length) (λk=>?_) (λk i a=>?_) (by omega)
 ·show gE s s (k+1) _=_;rw [gE,Q5];refine jg (Lp:=λk i=>gG s s k (i:Int)) (n:=s.t_.length) (λk=>?_) (λk i a=>?_) (by omega)
  ·show gG s s (k+1) _=_;rw [gG,Q5]
  show gG s s (k+1) _=gG s s k _;rw [gG,Q0,aH a,ax];simp
 show gE s s (k+1) _=gE s s k _;have c:=h.1.2 _ (List.getElem_mem a);rw [gE,Q0,aH a,ax];simp only [bS];rw [Bn c.1];simp
theorem Xo {s:aF}(h:nh s):tW s s=some true:=by
 unfold tW;rw [XC h.1,Xn h.2.1,WJ h.2.2];simp
theorem VK {s:aF}(h:nh s):uE s s=some true:=by
 unfold uE;rw [WV h.1,Wj h.2.1,VT h.2.2];simp
end Go.Vk
/- FnSnap answers true. -/
namespace Go.Vk
theorem YF {st:aF}(c:nh st)(d:wP st){s:List Int}(g:jc (nU st)=some s)(h:s.length=4)(j:kn st=some (nU st++s)):um (nU st++s)=some (st,0):=by
 have r:=JZ (stG c d);have a:nU st=83::80::78::1::(nU st).drop 4:=by unfold nU Af;simp
 have k:=(Px c d).2;generalize nU st=b at *
 obtain ⟨X,a⟩:∃X,b=83::80::78::1::X:=⟨_,a⟩;have t:b.length=X.length+4:=by rw [a];simp
 have e:(b++s).length=b.length+4:=by rw [List.length_append,h]
 have l:IntKind.i64.wrap (((b++s).length:Int)-4)=(b.length:Int):=by rw [e,aV];omega
 have m:sub (b++s) 0 (b.length:Int)=some b:=by
  have:=AQ (xs:=b++s) (f:=0) (i:=b.length) (by omega) (by omega);simpa using this
 have o:sub (b++s) (b.length:Int) ((b++s).length:Int)=some s:=by
  rw [AQ (by omega) (Nat.le_refl _),List.drop_left,List.take_of_length_le (by omega)]
 have p:sub (b++s) 0 3=some [83,80,78]:=by
  have:=AQ (xs:=b++s) (f:=0) (i:=3) (by omega) (by omega);rw [a] at this ⊢;simpa using this
 have q:idx (b++s) 3=some 1:=by
  have:=aH (xs:=b++s) (i:=3) (by omega);simp only [a] at this ⊢;simpa using this
 unfold um;rw [if_neg (by rw [e];simp;omega),l,m,o,p,q];simp only [bS];rw [if_neg (by decide),if_neg (by decide),g,k];simp only [Option.bind_some,sG,beq_self_eq_true,Bool.not_true,Bool.false_eq_true,if_false];rw [j];simp
theorem Xt:um []=some (zT,1):=rfl
theorem PC {p:List Int}(_hb:gi p):CC p=some true:=by
 unfold CC Kl;simp only [bS];by_cases f:1048576<p.length
 ·rw [Q0]
 have f:p.length≤1048576:=by omega
 rw [Q4];obtain ⟨st,e,a⟩:=NX f;rw [e];simp only [bS];rcases (CU a).cases with ⟨d,c⟩|⟨d,c⟩
 ·obtain ⟨s,_,h,i,_,g⟩:=Tn a c;rw [g];simp only [bS];rw [YF a c h i g,d];simp only [Option.bind_some,Bool.not_true,Bool.false_eq_true,if_false,beq_self_eq_true,if_true];rw [Xo a];simp only [Option.bind_some,if_true];rw [VK a];rfl
 rw [(Sx a c).2];simp only [bS];rw [Xt,d];rfl
end Go.Vk
