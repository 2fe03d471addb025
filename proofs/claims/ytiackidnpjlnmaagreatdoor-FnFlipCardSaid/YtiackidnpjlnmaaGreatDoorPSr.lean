/- States, read: what is read, and that it answers. -/
import Derived.Test.YtiackidnpjlnmaaGreatDoorPTx
import Derived.Test.YtiackidnpjlnmaaGreatDoorPBi
import Derived.Test.YtiackidnpjlnmaaGreatDoorPDr
import Derived.Test.YtiackidnpjlnmaaGreatDoorPTr
import Derived.Test.YtiackidnpjlnmaaGreatDoorVkBr
namespace Go.Vk
abbrev zT:aM:=⟨⟨⟨[],[]⟩,⟨0,0,0,0,0,0,false⟩,0,0,0,0,0⟩,⟨[]⟩,⟨[],[]⟩⟩
def Np {α:Type} (p:List Int) (P:Pz α):Prop:=∀(a:Int) v (b:Int),0≤a→a≤p.length→P a=some (v,b)→a≤b∧b≤p.length
theorem yP.mono {α:Type} {p:List Int} (hp:p.length≤1048576) {P:Pz α} {sz:α→Nat} (h:yP p P sz):Np p P:=fun a v b d h1 e=>by
 obtain ⟨f,g,c,i⟩:=h a v b ⟨by omega,by omega⟩ e;exact ⟨by omega,c⟩
theorem Qk {α:Type} {p:List Int} (x:α):Np p (fun a=>some (x,a)):=fun a v b c h1 e=>by
 obtain ⟨rfl,rfl⟩:=Prod.mk.inj (Option.some.inj e);exact ⟨Int.le_refl _,h1⟩
theorem Pt {α β:Type} {p:List Int} {P:Pz α} {Q:α→Pz β} (h:Np p P) (k:∀v,Np p (Q v)):Np p (Pz.bind P Q):=fun a v b c h1 e=>by
 unfold Pz.bind at e;obtain ⟨y,d,f⟩:=dd e;obtain ⟨j,g⟩:=h a y.1 y.2 c h1 d;obtain ⟨l,i⟩:=k y.1 y.2 v b (by omega) g f;exact ⟨by omega,i⟩
theorem PV {α β:Type} {p:List Int} {P:Pz α} {Q:α→Pz β} {sz:α→Nat} (h:yP p P sz) (k:∀v,Np p (Q v)):yP p (Pz.bind P Q) (fun _=>1):=fun a v b c e=>by
 unfold Pz.bind at e;obtain ⟨y,d,f⟩:=dd e;obtain ⟨g,l,i,m⟩:=h a y.1 y.2 c d;obtain ⟨o,j⟩:=k y.1 y.2 v b (by omega) i f;exact ⟨g,by show a+((1:Nat):Int)≤b;omega,j,Nat.le_refl _⟩
noncomputable abbrev VV (p:List Int):Pz aw:=Pz.map aw.mk (fc p (fc p (gI p)))
noncomputable def Oc (p:List Int):Pz aF:=Pz.bind (LR p) fun t=>Pz.bind (Bn p) fun h=>Pz.bind (LR p) fun y=>Pz.bind (VV p) fun w=>Pz.bind (VV p) fun d=>fun a=>some (⟨t,h,y,⟨w,d⟩⟩,a)
noncomputable def CB (p:List Int):Pz aS:=Pz.bind (gI p) fun t=>Pz.bind (gI p) fun s=>fun a=>some (⟨t,s⟩,a)
theorem qf {x:Int} (h:InR x) : -9223372036854775808≤x∧x≤9223372036854775807:=by
 unfold InR at h;exact ⟨by omega,by omega⟩
theorem GD {x:List Int} (h:x.length≤1048576∧∀y∈x,InR y):pF x:=⟨h.1,fun y a=>qf (h.2 y a)⟩
section
variable {p:List Int} (hb:dU p) (hp:p.length≤1048576)
include hb hp
theorem UK:Np p (gI p):=(mx hb hp).mono hp
theorem Im:yP p (CB p) (fun _=>1):=PV (mx hb hp) fun _=>Pt (UK hb hp) fun _=>Qk _
theorem As:Sat (Bn p) (fun _=>True):=fun a v b d e=>by
 unfold Bn at e;obtain ⟨y,f,c⟩:=dd e;split at c
 ·cases c
 obtain ⟨rfl,rfl⟩:=Prod.mk.inj (Option.some.inj c);exact ⟨(Av hb hp a y.1 y.2 d f).1,trivial⟩
theorem Cw:Sat (VV p) yJ:=Oo (Qr hb hp) fun v h=>⟨h.1,fun y a=>GD (h.2 y a)⟩
theorem RU:Sat (GK p) qx:=by
 have i:=Av hb hp;have l:=Cj hb hp
 exact iD (As hb hp) fun v0 _=>iD i fun r h1=>iD i fun s d=>iD l fun t e=>iD i fun u f=>iD l fun v g=>iD (Cw hb hp) fun w h=>iD i fun x j=>iD l fun A k=>iD i fun C m=>iD i fun o a=>iD i fun q c =>
  Cz ⟨trivial,⟨qf h1,qf d⟩,GD e,qf f,⟨GD g,h⟩,qf j,GD k,qf m,qf a,qf c⟩
theorem Ch:Sat (LR p) iN:=iD (Q:=InR) (R:=fun v=>Pz.map (fun ns=>ao.mk ns v) (fc p (GK p))) (Av hb hp) fun v a=>Oo (CZ hb hp (Hl hb hp) (RU hb hp)) fun ns h=>⟨h,qf a⟩
theorem Mv:Sat (Oc p) sY:=iD (Ch hb hp) fun _ h1=>iD (As hb hp) fun _ _=>iD (Ch hb hp) fun _ a=>iD (Cw hb hp) fun _ c=>iD (Cw hb hp) fun _ d=>Cz ⟨h1,trivial,a,c,d⟩
theorem Tb:Sat (CB p) Mf:=iD (Av hb hp) fun _ h1=>iD (Av hb hp) fun _ a=>Cz ⟨qf h1,qf a⟩
omit hb hp in
theorem Sat.i64 {α:Type} {P:Pz α} {Q:α→Prop} (h:Sat P Q):∀a v b,I64 a→P a=some (v,b)→I64 b:=fun a v b c e=>(h a v b c e).1
noncomputable def US (p:List Int):aq→Option (aF×aq):=rb (iB p) fun t=>rb (gG p) fun h=>rb (iB p) fun y=>rb (fp p) fun w=>rb (fp p) fun d=>fun s=>some (⟨t,h,y,⟨w,d⟩⟩,s)
theorem Vq:wJ (US p) (Oc p):=sO (Ov hb hp) (Ch hb hp).i64 fun _=>sO (KF hb hp) (As hb hp).i64 fun _=>sO (Ov hb hp) (Ch hb hp).i64 fun _=>sO (BB hb hp) (Cw hb hp).i64 fun _=>sO (BB hb hp) (Cw hb hp).i64 fun _=>Ky _
noncomputable def Sk (p:List Int):aq→Option (aS×aq):=rb (aW p) fun t=>rb (aW p) fun u=>fun s=>some (⟨t,u⟩,s)
theorem Ux:wJ (Sk p) (CB p):=sO (EZ hb hp) (Av hb hp).i64 fun _=>sO (EZ hb hp) (Av hb hp).i64 fun _=>Ky _
end
def Con (K:aq→Option (aM×Bool)) (G:Int→Option aM):Prop :=
 (∀a,∃v,K ⟨a,true⟩=some (v,false))∧∀a,I64 a→(∀st,G a=some st→K ⟨a,false⟩=some (st,true))∧(G a=none→∃v,K ⟨a,false⟩=some (v,false))
theorem Rx {α:Type} {op:aq→Option (α×aq)} {P:Pz α} {K:aq→α×aq→Option (aM×Bool)} {G:α→Int→Option aM} (h:wJ op P) (hi:∀a v b,I64 a→P a=some (v,b)→I64 b)
  (k:∀f v,Con (fun s=>K f (v,s)) (G v)):Con (fun s=>(op s).bind (K s)) (fun a=>(P a).bind fun y=>G y.1 y.2):=by
 refine ⟨fun a=>?_,fun a c=>?_⟩
 ·obtain ⟨v,a',e⟩:=h.1 a;show ∃v,(op ⟨a,true⟩).bind _=_;rw [e];exact (k _ v).1 a'
 show (∀st,((P a).bind fun y=>G y.1 y.2)=some st→(op ⟨a,false⟩).bind (K ⟨a,false⟩)=some (st,true))∧(((P a).bind fun y=>G y.1 y.2)=none→∃v,(op ⟨a,false⟩).bind (K ⟨a,false⟩)=some (v,false))
 cases d:P a with
 | none =>
  obtain ⟨v,a',e⟩:=(h.2 a c).2 d;rw [e];exact ⟨fun st e=>(by cases e),fun _=>(k _ v).1 a'⟩
 | some y =>
  obtain ⟨v,b⟩:=y;rw [(h.2 a c).1 v b d];exact (k _ v).2 b (hi a v b c d)
theorem Uq (st:aM):Con (fun s=>some (st,!s.L_)) (fun _=>some st):=⟨fun a=>⟨_,rfl⟩,fun a _=>⟨fun st' e=>by cases e;rfl,fun e=>by cases e⟩⟩
theorem Jc {α:Type} {op:aq→Option (α×aq)} {P:Pz α} (g:wJ op P) (f:∀a v b,I64 a→P a=some (v,b)→I64 b) {N:Int} (h:N≤1000000)
  (Lp:Nat→Int→Bool→List α→Int→Option (aM×Bool)) (fin:List α→aq→Option (aM×Bool)) {G:List α→Int→Option aM}
  (step:∀k a q l i,Lp (k+1) a q l i=if decide (i<N) then (op ⟨a,q⟩).bind fun y=>(app l [y.1]).bind fun l'=>Lp k y.2.b_ y.2.L_ l' (IntKind.i64.wrap (i+1)) else fin l ⟨a,q⟩)
  (k:∀l,Con (fin l) (G l)):Con (fun s=>Lp bb s.b_ s.L_ [] 0) (fun a=>(P.many N.toNat a).bind fun y=>G y.1 y.2):=by
 have H:=fun a=>SI g f N Lp fin step N.toNat bb 0 a [] (by simp) (cN (by omega)) (by omega) h rfl;have j:∀(n:Nat) a v b,I64 a→P.many n a=some (v,b)→I64 b:=fun n a v b c e=>(Ao (P:=P) (Q:=fun _=>True) (fun a v b c e=>⟨f a v b c e,trivial⟩) n a v b c e).1;refine ⟨fun a=>?_,fun a c=>?_⟩
 ·obtain ⟨l',a',e⟩:=(H a).1;show ∃v,Lp bb a true [] 0=_;rw [e];exact (k l').1 a'
 show (∀st,((P.many N.toNat a).bind fun y=>G y.1 y.2)=some st→Lp bb a false [] 0=some (st,true))∧(((P.many N.toNat a).bind fun y=>G y.1 y.2)=none→∃v,Lp bb a false [] 0=some (v,false))
 cases d:P.many N.toNat a with
 | none =>
  obtain ⟨l',a',e⟩:=((H a).2 c).2 d;rw [e];exact ⟨fun st e=>(by cases e),fun _=>(k l').1 a'⟩
 | some y =>
  obtain ⟨v,b⟩:=y;rw [((H a).2 c).1 v b d];exact (k v).2 b (j _ a v b c d)
theorem Rw {α:Type} {p:List Int} (hb:dU p) (hp:p.length≤1048576) {op:aq→Option (α×aq)} {P:Pz α} {sz:α→Nat} (m:wJ op P) (f:yP p P sz)
  (Lp:Nat→Int→Bool→List α→Int→Option (aM×Bool)) (fin:List α→aq→Option (aM×Bool)) {G:List α→Int→Option aM}
  (step:∀k a q l n,Lp (k+1) a q l n=if (decide (n>0)) && !q then (op ⟨a,q⟩).bind fun y=>(app l [y.1]).bind fun l'=>Lp k y.2.b_ y.2.L_ l' (IntKind.i64.wrap (n-1)) else fin l ⟨a,q⟩)
  (k:∀l,Con (fin l) (G l)):Con (fun s=>(cU p s).bind fun y=>Lp bb y.2.b_ y.2.L_ [] y.1) (fun a=>(fc p P a).bind fun y=>G y.1 y.2):=by
 refine ⟨fun a=>?_,fun a d=>?_⟩
 ·obtain ⟨v,a',e⟩:=(Cd hb hp).1 a;show ∃v,(cU p ⟨a,true⟩).bind _=_;rw [e];simp only [bS];rw [Dh (Lp:=Lp) (fin:=fin) step (cN (by omega))];exact (k []).1 a'
 show (∀st,((fc p P a).bind fun y=>G y.1 y.2)=some st→((cU p ⟨a,false⟩).bind fun y=>Lp bb y.2.b_ y.2.L_ [] y.1)=some (st,true))∧(((fc p P a).bind fun y=>G y.1 y.2)=none→∃v,((cU p ⟨a,false⟩).bind fun y=>Lp bb y.2.b_ y.2.L_ [] y.1)=some (v,false));have i:=(Cd hb hp).2 a d;rw [OK hb hp f d]
 cases h:cIr p a with
 | none =>
  obtain ⟨v,a',e⟩:=i.2 h;rw [e];simp only [Option.bind_some,Option.bind_none];rw [Dh (Lp:=Lp) (fin:=fin) step (cN (by omega))];exact ⟨fun st e=>(by cases e),fun _=>(k []).1 a'⟩
 | some y =>
  obtain ⟨n,b⟩:=y;rw [i.1 n b h];simp only [bS];obtain ⟨h1,o,u⟩:=LN h;obtain ⟨w,x,r,_⟩:=mx hb hp a n b d h1;have j:=(mx hb hp).i64 hp d h1;obtain ⟨r1,t⟩:=OJ m f hp Lp fin step n.toNat bb n b [] rfl (cN (by omega)) (by omega) o (by simp;omega) j
  cases g:P.many n.toNat b with
  | none =>
   obtain ⟨l',a',e⟩:=t g;rw [e];exact ⟨fun st e=>(by cases e),fun _=>(k l').1 a'⟩
  | some z =>
   obtain ⟨vs,c⟩:=z;rw [r1 vs c g];obtain ⟨A,C,D,E⟩:=AC f hp _ _ vs c (by omega) r g;exact (k ([]++vs)).2 c ⟨by omega,by omega⟩
end Go.Vk
/- States, read by the program: alike what is read. -/
namespace Go.Vk
open Classical in
theorem VB {c:bh} {K:aq→Option (aM×Bool)} {G:Int→Option aM} {X:Option Bool} (d:Dec X (va c)) (k:va c→Con K G) :
  Con (fun s=>(if s.L_ then some true else X.bind fun y=>some (!y)).bind fun u=>if u then some (zT,false) else K s) (fun a=>if va c then G a else none):=by
 refine ⟨fun a=>⟨_,rfl⟩,fun a f=>?_⟩;rcases d.cases with ⟨e,h⟩|⟨e,h⟩
 ·have hk:=(k h).2 a f;rw [e];refine ⟨fun st e=>hk.1 st ?_,fun e=>hk.2 ?_⟩
  ·have e:(if va c then G a else none)=some st:=e;rwa [if_pos h] at e
  have e:(if va c then G a else none)=none:=e;rwa [if_pos h] at e
 rw [e];refine ⟨fun st e=>?_,fun _=>⟨_,rfl⟩⟩;have e:(if va c then G a else none)=some st:=e;rw [if_neg h] at e;cases e
theorem mf {α:Type} {op:aq→Option (α×aq)} {P:Pz α} {K:aq→α×aq→Option (aM×Bool)} {G:α×Int→Option aM} (h:wJ op P) (hi:∀a v b,I64 a→P a=some (v,b)→I64 b)
  (k:∀c v,Con (fun s=>K c (v,s)) (fun b=>G (v,b))):Con (fun s=>(op s).bind (K s)) (fun a=>(P a).bind G):=Rx (G:=fun v b=>G (v,b)) h hi k
theorem Ur {F:aq→aq→Option (aM×Bool)} {G:Int→Option aM} (h:∀c,Con (F c) G):Con (fun s=>F s s) G:=⟨fun a=>(h ⟨a,true⟩).1 a,fun a d=>(h ⟨a,false⟩).2 a d⟩
noncomputable def NQ (p:List Int) (M:Pz aF) (L:Pz (List aS)) (c:bh):Int→Option aM:=fun a =>
 (M.many c.u_.toNat a).bind fun y1=>((fc p (gI p)).many (((c.y_.g_.length:Nat):Int)).toNat y1.2).bind fun y2=>(L y2.2).bind fun y3=>some ⟨c,⟨y1.1⟩,⟨y2.1,y3.1⟩⟩
open Classical in
noncomputable def Nu (c:bh) (G:Int→Option aM):Int→Option aM:=fun a=>if va c then G a else none
noncomputable def Nh (p:List Int) (s:ae):Int→Option aM:=fun a =>
 (gI p a).bind fun y0=>(gI p y0.2).bind fun y1=>(gI p y1.2).bind fun y2=>(gI p y2.2).bind fun y3=>(gI p y3.2).bind fun y4=>(gI p y4.2).bind fun y5=>(Bn p y5.2).bind fun e=>(gI p e.2).bind fun f=>(gI p f.2).bind fun g=>(gI p g.2).bind fun h=>(gI p h.2).bind fun c=>(gI p c.2).bind fun d =>
  Nu ⟨s,⟨y0.1,y1.1,y2.1,y3.1,y4.1,y5.1,e.1⟩,f.1,g.1,h.1,c.1,d.1⟩ (NQ p (Oc p) (fc p (CB p)) ⟨s,⟨y0.1,y1.1,y2.1,y3.1,y4.1,y5.1,e.1⟩,f.1,g.1,h.1,c.1,d.1⟩) d.2
section
variable {p:List Int} (hb:dU p) (hp:p.length≤1048576)
include hb hp
theorem Vu (c:ae×Bool) (d e f g h i:Int×aq) (j:Bool×aq) (m o r t u:Int×aq) (ms:List aF) (rows:List (List Int)) :
  Con (fun s=>(cU p s).bind fun y=>gX p c d e f g h i j m o r t u ms rows bb y.1 [] y.2.b_ y.2.L_)
   (fun a=>(fc p (CB p) a).bind fun y3=>some ⟨⟨c.1,⟨d.1,e.1,f.1,g.1,h.1,i.1,j.1⟩,m.1,o.1,r.1,t.1,u.1⟩,⟨ms⟩,⟨rows,y3.1⟩⟩) :=
 Rw hb hp (Ux hb hp) (Im hb hp) (fun k a q l n=>gX p c d e f g h i j m o r t u ms rows k n l a q) (fun l s=>some (⟨⟨c.1,⟨d.1,e.1,f.1,g.1,h.1,i.1,j.1⟩,m.1,o.1,r.1,t.1,u.1⟩,⟨ms⟩,⟨rows,l⟩⟩,!s.L_))
  (fun k a q l n=>by
   show gX p c d e f g h i j m o r t u ms rows (k+1) n l a q=_;rw [gX];unfold Sk rb;simp only [Option.bind_assoc,Option.bind_some]) (fun l=>Uq _)
theorem Wa (c:ae×Bool) (w:c.1.g_.length≤1000000) (d e f g h j:Int×aq) (m:Bool×aq) (o r t u v:Int×aq) (ms:List aF) :
  Con (fun s=>gS c p d e f g h j m o r t u v ms bb 0 [] s.b_ s.L_)
   (fun a=>((fc p (gI p)).many (((c.1.g_.length:Nat):Int)).toNat a).bind fun y2=>(fc p (CB p) y2.2).bind fun y3=>some ⟨⟨c.1,⟨d.1,e.1,f.1,g.1,h.1,j.1,m.1⟩,o.1,r.1,t.1,u.1,v.1⟩,⟨ms⟩,⟨y2.1,y3.1⟩⟩) :=
 Jc (GI hb hp) (Cj hb hp).i64 (by omega) (fun k a q l i=>gS c p d e f g h j m o r t u v ms k i l a q) (fun l s=>(cU p s).bind fun y=>gX p c d e f g h j m o r t u v ms l bb y.1 [] y.2.b_ y.2.L_)
  (G:=fun rows a=>(fc p (CB p) a).bind fun y3=>some ⟨⟨c.1,⟨d.1,e.1,f.1,g.1,h.1,j.1,m.1⟩,o.1,r.1,t.1,u.1,v.1⟩,⟨ms⟩,⟨rows,y3.1⟩⟩)
  (fun k a q l i=>by
   show gS c p d e f g h j m o r t u v ms (k+1) i l a q=_;rw [gS]) (fun l=>Vu hb hp c d e f g h j m o r t u v ms l)
theorem Vm (c:ae×Bool) (w:c.1.g_.length≤1000000) (e f g h j m:Int×aq) (o:Bool×aq) (d r t u v:Int×aq) (x:d.1≤1000000) :
  Con (fun s=>fX d p c e f g h j m o r t u v bb 0 [] s.b_ s.L_)
   (NQ p (Oc p) (fc p (CB p)) ⟨c.1,⟨e.1,f.1,g.1,h.1,j.1,m.1,o.1⟩,d.1,r.1,t.1,u.1,v.1⟩) :=
 Jc (Vq hb hp) (Mv hb hp).i64 x (fun k a q l i=>fX d p c e f g h j m o r t u v k i l a q) (fun l s=>gS c p e f g h j m o d r t u v l bb 0 [] s.b_ s.L_)
  (G:=fun ms a=>((fc p (gI p)).many (((c.1.g_.length:Nat):Int)).toNat a).bind fun y2=>(fc p (CB p) y2.2).bind fun y3=>some ⟨⟨c.1,⟨e.1,f.1,g.1,h.1,j.1,m.1,o.1⟩,d.1,r.1,t.1,u.1,v.1⟩,⟨ms⟩,⟨y2.1,y3.1⟩⟩)
  (fun k a q l i=>by
   show fX d p c e f g h j m o r t u v (k+1) i l a q=_;rw [fX];unfold US rb;simp only [Option.bind_assoc,Option.bind_some]) (fun l=>Wa hb hp c w e f g h j m o d r t u v l)
noncomputable def SY (p:List Int) (o:ae×Bool):aq→Option (aM×Bool):=fun s =>
 (aW p s).bind fun c=>(aW p c.2).bind fun d=>(aW p d.2).bind fun e=>(aW p e.2).bind fun f=>(aW p f.2).bind fun g=>(aW p g.2).bind fun h=>(gG p h.2).bind fun i=>(aW p i.2).bind fun j=>(aW p j.2).bind fun k=>(aW p k.2).bind fun l=>(aW p l.2).bind fun m=>(aW p m.2).bind fun a =>
  (if a.2.L_ then some true else (oW (bh.mk o.1 (bZ.mk c.1 d.1 e.1 f.1 g.1 h.1 i.1) j.1 k.1 l.1 m.1 a.1)).bind fun q=>some (!q)).bind fun r=>if r then some (zT,false) else fX j p o c d e f g h i k l m a bb 0 [] a.2.b_ a.2.L_
theorem SK (a:ae×Bool) (L:bi a.1):Con (SY p a) (Nh p a.1):=by
 have ri:=EZ hb hp;have si:=(Av hb hp).i64;unfold SY Nh;refine mf ri si fun P v0=>?_;dsimp only;refine mf ri si fun u i=>?_;dsimp only;refine mf ri si fun v j=>?_;dsimp only;refine mf ri si fun w k=>?_;dsimp only;refine mf ri si fun x l=>?_;dsimp only;refine mf ri si fun A m=>?_;dsimp only;refine mf (KF hb hp) (As hb hp).i64 fun C o=>?_;dsimp only;refine mf ri si fun D d=>?_;dsimp only;refine mf ri si fun E q=>?_;dsimp only;refine mf ri si fun G t=>?_;dsimp only;refine mf ri si fun g e=>?_;dsimp only;refine mf ri si fun h f=>?_;dsimp only;refine VB (c:=⟨a.1,⟨v0,i,j,k,l,m,o⟩,d,q,t,e,f⟩) (Hj L) fun H=>?_;have h1:a.1.g_.length≤1000000:=by have:(a.1.g_.length:Int)≤3:=H.1.2.1.2;omega
 have M:d≤1000000:=by have:d≤4:=H.2.2.1.2;omega
 exact Ur (F:=fun r s=>fX (d,E) p a (v0,u) (i,v) (j,w) (k,x) (l,A) (m,C) (o,D) (q,G) (t,g) (e,h) (f,r) bb 0 [] s.b_ s.L_) fun r=>Vm hb hp a h1 (v0,u) (i,v) (j,w) (k,x) (l,A) (m,C) (o,D) (d,E) (q,G) (t,g) (e,h) (f,r) M
end
end Go.Vk
/- States, read by the reference: what is read. -/
namespace Go.Vk
def out (o:Option aM):aM×Bool:=match o with|some st=>(st,true)|none=>(zT,false)
section
variable {p:List Int} (hb:dU p) (hp:p.length≤1048576)
include hb hp
end
end Go.Vk
/- States are read as they were written. -/
namespace Go.Vk
theorem PQ {p:List Int} {a:Int} (hb:dU p) (hp:p.length≤1048576) (s:0≤a) (h1:a≤1000000000):∀(d k i u:Nat),5-i=d→d<k→i≤5→u<128^i→∀r,jd a p k (u:Int) (i:Int)=some r→0≤r.1:=by
 intro d
 induction d with
 | zero =>
  intro k i u g hk hi c r e;obtain ⟨k,rfl⟩:=kS k (by omega);rw [jd,if_neg (by simp;omega)] at e;obtain rfl:=Option.some.inj e;exact Int.le_refl 0
 | succ d ih =>
  intro k i u g hk hi c r e;obtain ⟨k,rfl⟩:=kS k (by omega);have h:IntKind.i64.wrap ((p.length:Int)-(i:Int))=(p.length:Int)-i:=aR (by omega) (by omega);rw [jd,if_pos (by simp;omega),h] at e;by_cases t:a+i<p.length
  ·have l:IntKind.i64.wrap (a+(i:Int))=a+i:=aR (by omega) (by omega);obtain ⟨j,m⟩:∃j:Nat,a+(i:Int)=(j:Int):=⟨(a+i).toNat,by omega⟩;rw [l,if_neg (by simp;omega),m,aH (show j<p.length by omega)] at e;simp only [bS] at e;obtain ⟨n,o,q⟩:=DE hb (show j<p.length by omega);rw [o,gh (n:=n) (by omega),show Int.tmod (n:Int) 128=((n%128:Nat):Int) from pD n 128,Li _ (show 0≤IntKind.i64.wrap (7*(i:Int)) by rw [aR (by omega) (by omega)];omega)] at e;simp only [bS] at e;have f:n%128<128:=Nat.mod_lt _ (by omega);rw [Nr f (by omega),Vz c f (by omega)] at e;split at e
   ·split at e
    ·obtain rfl:=Option.some.inj e;exact Int.le_refl 0
    obtain rfl:=Option.some.inj e;exact Int.natCast_nonneg _
   rw [ax (by omega)] at e;refine ih k (i+1) _ (by omega) (by omega) (by omega) ?_ r e;have:n%128*128^i≤127*128^i:=Nat.mul_le_mul_right _ (by omega);rw [Nat.pow_succ];omega
  rw [if_pos (by simp;omega)] at e;obtain rfl:=Option.some.inj e;exact Int.le_refl 0
theorem Mc (l:List Int):(kl l).length=l.length:=by simp [kl]
theorem RR {a b:Int} (c:0≤a∧a≤255) (hb:0≤b∧b≤255) (h:UInt8.ofNat a.toNat=UInt8.ofNat b.toNat):a=b:=by
 have:=congrArg UInt8.toNat h;simp only [UInt8.toNat_ofNat'] at this;omega
theorem EN:∀{a b:List Int},dU a→dU b→kl a=kl b→a=b
 | [],[],_,_,_=>rfl
 | [],y::b,_,_,h=>by simp [kl] at h
 | x::a,[],_,_,h=>by simp [kl] at h
 | x::a,y::b,d,hb,h=>by
  simp only [kl,List.map_cons,List.cons.injEq] at h;rw [RR (d x (by simp)) (hb y (by simp)) h.1,EN (fun z c=>d z (by simp [c])) (fun z c=>hb z (by simp [c])) h.2]
theorem Fe {a b:List Int} (c:dU a) (hb:dU b):(kl a==kl b)=decide (a=b):=by
 rw [Bool.eq_iff_iff,beq_iff_eq,decide_eq_true_iff];exact ⟨EN c hb,fun h=>by rw [h]⟩
section
variable {p:List Int} (hb:dU p) (hp:p.length≤1048576)
include hb hp
theorem Kx:∃r,Do p 4=some r∧rH p 4=some r∧(r.2.2=true→r.1.length≤1048575∧I64 r.2.1):=by
 obtain ⟨y,c,d,h⟩:=ET hb hp (a:=4) ⟨by omega,by omega⟩;unfold Do rH;rw [c,d];simp only [bS];rcases h with ⟨h1,g,i,j⟩|rfl
 ·have k:0≤y.1:=PQ hb hp (a:=4) (by omega) (by omega) 5 bb 0 0 (by omega) (cN (by omega)) (by omega) (by simp) y c;rw [h1,aR (n:=(p.length:Int)-y.2.1) (by omega) (by omega)];by_cases f:y.1>(p.length:Int)-y.2.1
  ·rw [if_pos (by simp [f])];exact ⟨_,rfl,rfl,fun h=>by cases h⟩
  rw [if_neg (by simp;omega),aR (n:=y.2.1+y.1) (by omega) (by omega)];have e:sub p y.2.1 (y.2.1+y.1)=some ((p.drop y.2.1.toNat).take ((y.2.1+y.1).toNat-y.2.1.toNat)):=if_pos ⟨by omega,by omega,by omega⟩;rw [e];refine ⟨_,rfl,rfl,fun _=>⟨?_,?_,?_⟩⟩
  ·show (kl _).length≤_;rw [Mc,List.length_take,List.length_drop];omega
  ·show -9223372036854775808≤y.2.1+y.1;omega
  show y.2.1+y.1≤_;omega
 exact ⟨_,rfl,rfl,fun h=>by cases h⟩
omit hb in
end
section
variable {l:List Int} (hp:l.length≤1048576)
include hp
end
end Go.Vk
/- States out of their bytes: alike. -/
namespace Go.Vk
def Pp (G:Int→Option aM):Prop:=∀a st,I64 a→G a=some st→kK st
theorem jM {α:Type} {P:Pz α} {Q:α→Prop} {G:α×Int→Option aM} (h:Sat P Q) (k:∀v,Q v→Pp (fun b=>G (v,b))):Pp (fun a=>(P a).bind G):=fun a st c e=>by
 obtain ⟨y,d,f⟩:=dd e;obtain ⟨i,q⟩:=h a y.1 y.2 c d;exact k y.1 q y.2 st i f
theorem Qg {c:bh} {G:Int→Option aM} (h:va c→Pp G):Pp (Nu c G):=fun a st d e=>by
 unfold Nu at e;split at e
 ·rename_i f;exact h f a st d e
 cases e
theorem PI {p:List Int} (hb:dU p) (hp:p.length≤1048576) {M:Pz aF} {L:Pz (List aS)} {c:bh} (g:CC c) (d:va c) (h:Sat M sY) (i:Sat L Jg):Pp (NQ p M L c):=by
 unfold NQ;refine jM (Ao h _) fun ms h1=>?_;dsimp only;refine jM (Ao (Cj hb hp) _) fun rows f=>?_;dsimp only;refine jM i fun last j=>fun a st l e=>?_;obtain rfl:=Option.some.inj e;have m:c.u_≤4:=d.2.2.1.2;have o:(c.y_.g_.length:Int)≤3:=d.1.2.1.2;exact ⟨g,⟨by show ms.length≤_;have:=h1.1;omega,h1.2⟩,⟨by show rows.length≤_;have:=f.1;omega,fun y k=>GD (f.2 y k)⟩,j⟩
section
variable {p:List Int} (hb:dU p) (hp:p.length≤1048576)
include hb hp
theorem RS {s:ae} (d:bi s):Pp (Nh p s):=by
 have i:=Av hb hp;unfold Nh;refine jM i fun v0 e=>?_;dsimp only;refine jM i fun t h1=>?_;dsimp only;refine jM i fun u f=>?_;dsimp only;refine jM i fun v g=>?_;dsimp only;refine jM i fun w h=>?_;dsimp only;refine jM i fun x j=>?_;dsimp only;refine jM (As hb hp) fun A _=>?_;dsimp only;refine jM i fun C k=>?_;dsimp only;refine jM i fun D l=>?_;dsimp only;refine jM i fun E m=>?_;dsimp only;refine jM i fun q a=>?_;dsimp only;refine jM i fun r c=>?_;dsimp only;exact Qg fun o=>PI hb hp ⟨d,⟨qf e,qf h1,qf f,qf g,qf h,qf j,trivial⟩,qf k,qf l,qf m,qf a,qf c⟩ o (Mv hb hp) (CZ hb hp (Im hb hp) (Tb hb hp))
theorem Wz {w:List UInt8} {a:Int} {s:ae} (h1:rH p 4=some (w,a,true)) (c:qt w=some (s,true)) (d:bi s) (f:I64 a) :
  (∀st,Nh p s a=some st→jh p=some (st,true))∧(Nh p s a=none→∃v,jh p=some (v,false)):=by
 have hk:=(SK hb hp (s,true) d).2 a f
 have e:jh p=SY p (s,true) ⟨a,false⟩:=by
  unfold jh;rw [h1];simp only [cS];rw [c];simp only [cS];rfl
 rw [e];exact hk
theorem Pe:Tot (jh p) (fun r=>r.2=true→kK r.1):=by
 obtain ⟨⟨w,a,q⟩,_,d,h⟩:=Kx hb hp
 cases q with
 | false =>
  unfold jh;rw [d];exact am fun h=>by cases h
 | true =>
  obtain ⟨i,f⟩:=h rfl;obtain ⟨⟨s,q⟩,g,c⟩:=(KX i).2
  cases q with
  | true =>
   have c:=(c rfl).2;obtain ⟨j,k⟩:=Wz hb hp d g c f
   cases h:Nh p s a with
   | none =>
    obtain ⟨v,e⟩:=k h;rw [e];exact am fun h=>by cases h
   | some st =>
    rw [j st h];exact am fun _=>RS hb hp c a st f h
  | false =>
   unfold jh;rw [d];simp only [cS];rw [g];exact am fun h=>by cases h
end
end Go.Vk
/- Windows that step, detectors: they are there, and CJ. -/
namespace Go.Vk
theorem Ea (w:aw):Tot (pT w) (fun l=>l.length≤24∧(0<l.length→Gc w∧w.e_≠[])):=by
 unfold pT;rcases (Ce w).cases with ⟨e,h⟩|⟨e,h⟩
 ·rw [e];simp only [sS];have c:=h.1;have d:=Ro h _ (Nat.le_refl _);rw [aR (by omega) (by omega),VT h _ _ _ (Nat.le_refl _) (cN (by omega)) (by simp;omega),List.nil_append];refine am ⟨by omega,fun a=>⟨h,fun h1=>?_⟩⟩;rw [h1] at a;simp [bk] at a
 rw [e];simp only [sS];exact am ⟨by simp,by simp⟩
theorem Pu (n u m v k:Int):T (vD n u m v k):=by
 unfold vD;exact cE.t.bind fun _ _=>Tot.bind (P:=fun _=>True) (aD (fun _=>bj _) (fun _=>cE.t.bind fun _ _=>bj _)) fun _ _=>Tot.bind (P:=fun _=>True) (aD (fun _=>bj _) (fun _=>cE.t.bind fun _ _=>bj _)) fun _ _=>Tot.bind (P:=fun _=>True) (aD (fun _=>bj _) (fun _=>cE.t.bind fun _ _=>bj _)) fun _ _=>Tot.bind (P:=fun _=>True) (aD (fun _=>bj _) (fun _=>cE.t.bind fun _ _=>bj _)) fun _ _=>aD (fun _=>bj _) (fun _=>(MY _).bind fun _ _=>bj _)
theorem BL (w:aw):T (lw w):=by
 unfold lw;refine (Ea w).bind fun l a=>cz (fun k (n:Int) i=>fQ l k n i) l.length (fun _ _=>True) (fun k s _=>?_) (fun k s i hi _ hk=>?_) (by have:=a.1;omega) trivial
 ·show Tot (fQ _ (k+1) _ _) _;rw [fQ,if_neg (by simp)];exact bj _
 show Tot (fQ _ (k+1) _ _) _;have:=a.1;rw [fQ,if_pos (by simp;omega),aH hi,ax (by omega)];exact hk _ trivial
theorem Em (w:aw):T (mg w):=by
 unfold mg;refine (Ea w).bind fun l a=>cz (fun k (n:Int) i=>gi l k n i) l.length (fun _ _=>True) (fun k s _=>?_) (fun k s i hi _ hk=>?_) (by have:=a.1;omega) trivial
 ·show Tot (gi _ (k+1) _ _) _;rw [gi,if_neg (by simp)];exact bj _
 show Tot (gi _ (k+1) _ _) _;have:=a.1;rw [gi,if_pos (by simp;omega),aH hi,ax (by omega)];exact hk _ trivial
theorem UB (w:aw) (k:Int):Tot (yL w k) (fun v=>0<v→Gc w∧w.e_≠[]):=by
 unfold yL;refine (Ea w).bind fun l d=>(BL w).bind fun a _=>(Em w).bind fun o _=>?_;have e:=d.1;refine cz (fun c (σ:Int×Int) i=>lq l a o k c i σ.1 σ.2) (l.length-1) (fun _ _=>True) (fun c σ _=>?_) (fun c σ i hi _ hk=>?_) (by omega) (s:=(0,0)) trivial
 ·show Tot (lq _ _ _ _ (c+1) _ _ _) _;rw [lq,if_neg (by rw [aR (by omega) (by omega)];simp;omega)];exact am (fun h=>by omega)
 show Tot (lq _ _ _ _ (c+1) _ _ _) _;rw [lq,if_pos (by rw [aR (by omega) (by omega)];simp;omega),aH (by omega:i<l.length)];simp only [bS];refine (Pu _ _ _ _ _).bind fun b _=>aD (fun _=>am fun _=>d.2 (by omega)) (fun _=>?_);rw [ax (by omega)];exact hk (_,_) trivial
def AW (l:List (List Int)):Nat:=(l.map List.length).sum
theorem Gw {l:List (List Int)} {r:List Int}:AW (l++[r])=AW l+r.length:=by simp [AW]
theorem Vp {w:aw} (c:fO 8 12 w.e_) (k:Gc w) (m:w.e_≠[]):Tot (qK w) (fun y=>fO 8 12 y.1.e_∧AW y.1.e_<AW w.e_):=by
 obtain ⟨l⟩:=w;obtain ⟨l,r,rfl⟩:∃l' r,l=l'++[r]:=⟨l.dropLast,l.getLast m,(List.dropLast_concat_getLast m).symm⟩;have o:=c.2 r (by simp);have j:=c.1;simp only [List.length_append,List.length_cons,List.length_nil] at j
 have A:1≤r.length:=by
  have:=(k.2 l.length (by show l.length<(l++[r]).length;simp) (by show l.length<(l++[r]).length;simp)).1.1;simpa using this
 unfold qK;rw [tC (c.mono (by omega) (by omega))];simp only [bS];rcases (Ce ⟨l++[r]⟩).cases with ⟨e,_⟩|⟨_,g⟩
 ·rw [e];simp only [bS];rw [if_neg (by simp;omega)];have s:((l++[r]).length:Int)=l.length+1:=by simp
  have t:IntKind.i64.wrap (((l++[r]).length:Int)-1)=(l.length:Int):=by rw [s,aR (by omega) (by omega)];omega
  rw [t,aH (show l.length<(l++[r]).length by simp)];simp only [Option.bind_some,List.getElem_append_right (Nat.le_refl _),Nat.sub_self,List.getElem_cons_zero];refine (pH ⟨by omega,by omega,by omega⟩).bind fun a d=>?_;have i:smI 12 a:=⟨by rw [d];simp only [List.length_take,List.length_drop];have:=o.1;omega,fun x f=>o.2 x (by rw [d] at f;exact List.mem_of_mem_drop (List.mem_of_mem_take f))⟩;have C:a.length<r.length:=by rw [d];simp only [List.length_take,List.length_drop];simp;omega
  rw [bo (by have:=i.1;simp;omega)];simp only [Option.bind_some,List.nil_append];have es:(l++[r]).set (l.length:Int).toNat a=l++[a]:=by simp
  rw [es];have u:AW (l++[a])<AW (l++[r]):=by rw [Gw,Gw];omega
  have p:fO 8 12 (l++[a]):=by rw [←es];exact c.set i _
  refine aD (fun _=>?_) (fun _=>am ⟨p,u⟩);refine (pH ⟨by omega,by omega,by simp;omega⟩).bind fun h q=>am ?_;have v:h=l:=by rw [q];simp
  subst v;refine ⟨⟨by show h.length≤8;omega,fun x f=>c.2 x (by simp [show x∈h from f])⟩,?_⟩;show AW h<_;rw [Gw];omega
 exact absurd k g
theorem ST:∀{l:List (List Int)},(∀r∈l,smI 12 r)→AW l≤12*l.length
 | [],_=>by simp [AW]
 | r::l,h=>by
  have h1:=(h r (by simp)).1;have c:=ST (l:=l) (fun x a=>h x (List.mem_cons_of_mem _ a));simp only [AW,List.map_cons,List.sum_cons,List.length_cons] at *
  omega
theorem Su {w:aw} {c:Int} (h:fO 8 12 w.e_):Tot (xf w c) (fun y=>fO 8 12 y.1.e_):=by
 unfold xf;rw [tC (h.mono (by omega) (by omega))];simp only [sS]
 have key:∀(d k:Nat) (l:List (List Int)) (n:Int),AW l<d→d≤k→fO 8 12 l→Tot (oM c k l n) (fun y=>fO 8 12 y.1.e_):=by
  intro d
  induction d with
  | zero=>intro k l n h1;omega
  | succ d ih =>
   intro k l n h1 i e;obtain ⟨k,rfl⟩:=kS k (by omega);rw [oM];refine (UB ⟨l⟩ c).bind fun v a=>aD (fun g=>?_) (fun _=>am e);have a:=a (by simpa using g);refine (Vp (w:=⟨l⟩) e a.1 a.2).bind fun y f=>ih _ _ _ ?_ (by omega) f.1;have:=f.2;have h1:AW l<d+1:=h1;have:AW y.1.e_<AW l:=this;omega
 have j:=ST h.2;have e:=h.1;exact key (AW w.e_+1) bb w.e_ 0 (by omega) (Nat.le_of_lt (cN (by omega))) h
theorem JC {w:aw} {b k:Int} (h:fO 8 12 w.e_):Tot (oc w b k) (fun y=>fO 8 12 y.1.e_):=by
 unfold oc;rw [tC (h.mono (by omega) (by omega))];refine (Mz h).bind fun y a=>Tot.bind (P:=fun _=>True) (aD (fun _=>bj _) (fun _=>cE.t.bind fun _ _=>bj _)) fun u _=>aD (fun _=>am h) (fun _=>(Su a).bind fun z c=>Tot.bind (P:=fun _=>True) (aD (fun _=>(Em _).bind fun _ _=>(BL _).bind fun _ _=>(Em _).bind fun _ _=>(BL _).bind fun _ _=>bj _) (fun _=>bj _)) fun _ _=>am c)
def Qo (d:cW):Prop:=fO 8 12 d.w_.e_∧fO 8 12 d.x_.e_
theorem vJ (a b:Nat):fO a b []:=⟨by simp,fun x c=>by cases c⟩
theorem HC {d:cW} (h:Qo d):sI d=some d:=by
 unfold sI;rw [tC (h.1.mono (by omega) (by omega)),tC (h.2.mono (by omega) (by omega))];rfl
theorem Jp {d:cW} {b w k:Int} (h:Qo d):Tot (rW d b w k) (fun y=>Qo y.1):=by
 unfold rW;rw [HC h];exact (JC h.1).bind fun y a=>(JC h.2).bind fun z c=>aD (fun _=>am h) (fun _=>aD (fun _=>am ⟨vJ _ _,vJ _ _⟩) (fun _=>aD (fun _=>am ⟨a,c⟩) (fun _=>am ⟨a,c⟩)))
theorem Se {l:List Int} {w k:Int} (e:l.length≤1000):Tot (wK l w k) (fun y=>Qo y.1):=by
 unfold wK;refine cz (fun a (σ:List (List Int)×List (List Int)×List Int) i=>kF l w k a i σ.1 σ.2.1 σ.2.2) l.length (fun i σ=>fO 8 12 σ.1∧fO 8 12 σ.2.1∧σ.2.2.length=i) (fun a σ h=>?_) (fun a σ i hi h hk=>?_) (by omega) (s:=([],[],[])) ⟨vJ _ _,vJ _ _,rfl⟩
 ·show Tot (kF _ _ _ (a+1) _ _ _ _) _;rw [kF,if_neg (by simp)];exact am ⟨h.1,h.2.1⟩
 show Tot (kF _ _ _ (a+1) _ _ _ _) _;have f:=h.2.2;rw [kF,if_pos (by simp;omega),aH hi,ax (by omega)];simp only [bS];refine (Jp (d:=⟨⟨σ.1⟩,⟨σ.2.1⟩⟩) ⟨h.1,h.2.1⟩).bind fun y c=>?_;rw [bo (by simp;omega)];exact hk (_,_,_) ⟨c.1,c.2,by simp;omega⟩
section
variable {p:List Int} (hp:p.length≤1048576)
include hp
theorem RA {c:ak} (i:Cur p c):TD p (vv p c) (fun d=>fO 9 13 d.w_.e_∧fO 9 13 d.x_.e_):=by
 unfold vv;refine (qj hp i 2).bind fun y g=>aD (fun _=>?_) (fun _=>(LF hp g.1).bind fun a e=>(LF hp e.1).bind fun b f=>am ⟨f.1,e.2,f.2⟩);exact (Rm hp g.1 (n:=60) (by omega)).bind fun a e=>(fC hp e.1 (by simp)).bind fun b f=>(Se (by have:=e.2;omega)).bind fun d h=>am ⟨f.1,h.1.mono (by omega) (by omega),h.2.mono (by omega) (by omega)⟩
end
end Go.Vk
/- Scores drawn: they are there, and CJ. -/
namespace Go.Vk
structure Shp (N:Nat) (s:bc):Prop where
 len:s.q_.length=N
 row:∀r∈s.q_,r.length=N∧∀x∈r,V x
 few:s.s_.length≤30
 last:∀q∈s.s_,V q.Z_∧V q.aa_
theorem Shp.sml {N:Nat} {s:bc} (h:Shp N s) (d:N≤3):yn s :=
 ⟨⟨by rw [h.len];omega,fun r a=>⟨by rw [(h.row r a).1];omega,(h.row r a).2⟩⟩,by have:=h.few;show s.s_.length≤_;omega,fun q c=>h.last q c⟩
theorem v0:V 0:=dK ⟨by omega,by omega⟩
theorem TW {N:Nat} (c:2≤N∧N≤3):Tot (tJ N) (fun s=>Shp N s∧s.s_=[]):=by
 unfold tJ aV;simp only [bS];rw [qq (by omega)];simp only [Bool.not_true,Bool.false_eq_true,if_false];refine cz (Lp:=fun k l i=>iS N k l i) N (fun i l=>l.length=i∧∀r∈l,r.length=N∧∀x∈r,V x) (fun k l h=>?_) (fun k l i hi h rec=>?_) (by omega) ⟨rfl,by simp⟩
 ·show Tot (iS N (k+1) l _) _;rw [iS,if_neg (by simp)];exact am ⟨⟨h.1,h.2,by simp,by simp⟩,rfl⟩
 show Tot (iS N (k+1) l _) _;rw [iS,if_pos (by simp;omega),OT _ (by omega)];simp only [bS];rw [bo (by simp;omega),ax (by omega)];refine rec _ ⟨by simp [h.1],fun r hr=>?_⟩;rcases List.mem_append.1 hr with hr|hr
 ·exact h.2 r hr
 rw [List.mem_singleton.1 hr];exact ⟨by simp,fun x a=>by rw [(List.mem_replicate.1 a).2];exact v0⟩
theorem Cs {N:Nat} {s:bc} {i j:Nat} {x:Int} {l:List aS} (h:Shp N s) (hi:i<s.q_.length) (d:V x) (e:l.length≤30) (f:∀q∈l,V q.Z_∧V q.aa_):Shp N ⟨s.q_.set i (s.q_[i].set j x),l⟩:=by
 refine ⟨by simp [h.len],fun r a=>?_,e,f⟩;rcases List.mem_or_eq_of_mem_set a with a|rfl
 ·exact h.row r a
 have:=h.row _ (List.getElem_mem hi);refine ⟨by simp [this.1],fun y c=>?_⟩;rcases List.mem_or_eq_of_mem_set c with c|rfl
 ·exact this.2 y c
 exact d
theorem JR {N:Nat} {s:bc} (a:N≤3) (h:Shp N s):vi s=some s:=by
 have h1:=h.len;have c:=h.few;unfold vi;rw [bo (by simp;omega)];simp only [Option.bind_some,List.nil_append]
 have:=pz (p:=s.q_) id (fun k l i=>jt s s.s_ k l i) (fun l=>some ⟨l,s.s_⟩) (fun k l=>by
  show jt s s.s_ (k+1) l _=_
  rw [jt,if_neg (by simp)]) (fun k l i hi d=>by
  show jt s s.s_ (k+1) l _=_;have e:=(h.row _ (List.getElem_mem hi)).1;rw [jt,if_pos (by simp;omega),aH hi,ax (by omega)];simp only [bS];rw [bo (by simp;omega)];simp only [bS];rw [bo (by simp;omega)];rfl) (by omega)
 rwa [List.map_id] at this
theorem Tm {N:Nat} {s:bc} (a:N≤3) (h:Shp N s):T (yS N s):=by
 unfold yS;have c:=h.len;refine (DD (h.sml a)).t.bind fun b _=>aD (fun _=>bj _) (fun _=>?_);refine cz (fun k (v:Int) i=>lk N s k v i) N (fun _ _=>True) (fun k v _=>?_) (fun k v i hi _ hk=>?_) (by omega) trivial
 ·show Tot (lk N s (k+1) _ _) _;rw [lk,if_neg (by simp)];exact bj _
 show Tot (lk N s (k+1) _ _) _;rw [lk,if_pos (by simp;omega),aH (show i<s.q_.length by omega),ax (by omega)];simp only [bS];exact (Oq (by rw [(h.row _ (List.getElem_mem _)).1];omega)).bind fun _ _=>hk _ trivial
theorem TK {N:Nat} (c:2≤N∧N≤3) {s:bc} (h:Shp N s) {a b:Int}:Tot (tH N s a b) (fun m=>Shp N m.1):=by
 unfold tH;rw [JR c.2 h];simp only [bS];refine kj (DD (h.sml c.2)).t (by simp only [sS];exact am h) (fun hp=>?_);simp only [sS];rw [aR (n:=(N:Int)-1) (by omega) (by omega)];refine lO cE.t (by simp only [sS];exact am h) (fun f=>?_);simp only [sS];refine lO cE.t (by simp only [sS];exact am h) (fun g=>?_);simp only [sS];refine Tot.bind (P:=fun _=>True) ((Tm c.2 h).bind fun _ _=>bj _) (fun u _=>aD (fun _=>am h) (fun _=>?_))
 have k:s.s_.length≤20:=by
  obtain ⟨_,_,_,_,d,_⟩:=hp;split at d<;>omega
 obtain ⟨i,rfl⟩:∃x:Nat,a=x:=⟨a.toNat,by omega⟩;obtain ⟨j,rfl⟩:∃x:Nat,b=x:=⟨b.toNat,by omega⟩;have h1:i<s.q_.length:=by rw [h.len];omega
 have d:j<s.q_[i].length:=by rw [(h.row _ (List.getElem_mem h1)).1];omega
 rw [aH h1];simp only [bS];rw [aH d];simp only [bS];rw [bo (by simp;omega)];simp only [bS]
 have hq:∀q∈s.s_++[(⟨(i:Int),(j:Int)⟩:aS)],V q.Z_∧V q.aa_:=fun q hq=>by
  rcases List.mem_append.1 hq with hq|hq
  ·exact h.last q hq
  rw [List.mem_singleton.1 hq];exact ⟨dK (x:=(i:Int)) ⟨by omega,by omega⟩,dK (x:=(j:Int)) ⟨by omega,by omega⟩⟩
 refine aD (fun e=>?_) (fun _=>am (Cs h h1 (nS _) (by simp;omega) hq));refine (pH ⟨by omega,by simp;omega,by omega⟩).bind fun l e=>?_;subst e;rw [bo (by simp;omega)];refine am (Cs h h1 (nS _) (by simp;omega) fun q hq'=>hq q ?_);rw [List.nil_append] at hq';exact List.mem_of_mem_drop (List.mem_of_mem_take hq')
section
variable {p:List Int} (hp:p.length≤1048576)
include hp
theorem Jf {c:ak} (w:Cur p c) {N:Nat} (g:2≤N∧N≤3):TD p (qE p c N) (Shp N):=by
 unfold qE;refine (TW g).bind fun s e=>(qj hp w 6).bind fun o j=>?_;obtain ⟨e,r⟩:=e;refine aD (fun _=>?_) (fun _=>?_)
 ·have h1:0<s.q_.length:=by rw [e.len];omega
  have x:0<s.q_[0].length:=by rw [(e.row _ (List.getElem_mem h1)).1];omega
  have A:idx s.q_ 0=some s.q_[0]:=aH h1;have C:idx s.q_[0] 0=some s.q_[0][0]:=aH x;rw [A];simp only [bS];refine (dC hp j.1 2).bind fun d D=>?_;rw [C];simp only [bS];refine cz (Lp:=fun k l i=>iC s s.q_[0] d k l i) 20 (fun i l=>l.length=i∧∀q∈l,V q.Z_∧V q.aa_) (fun k l h=>?_) (fun k l i hi h rec=>?_) (by omega) ⟨by rw [r];rfl,by rw [r];simp⟩
  ·show Tot (iC s _ d (k+1) l _) _;rw [iC,if_neg (by simp)];exact am ⟨D.1,Cs e h1 (nS _) (by omega) h.2⟩
  show Tot (iC s _ d (k+1) l _) _;rw [iC,if_pos (by simp;omega),bo (by simp;omega),ax (by omega)];refine rec _ ⟨by simp [h.1],fun q hq=>?_⟩;rcases List.mem_append.1 hq with hq|hq
  ·exact h.2 q hq
  rw [List.mem_singleton.1 hq];exact ⟨v0,v0⟩
 refine (fC hp j.1 (by simp)).bind fun m f=>?_;obtain ⟨u,f⟩:=f
 obtain ⟨n,v,H⟩:∃n:Nat,m.1=n∧n≤30:=by
  simp only [List.mem_cons,List.not_mem_nil,or_false] at f;exact ⟨m.1.toNat,by omega,by omega⟩
 refine cz (σ:=Int×Int×bc) (Lp:=fun k s i=>iK m p N k s.1 s.2.1 s.2.2.q_ s.2.2.s_ i) (s:=(m.2.i_,m.2.h_,s)) n (fun i s=>Cur p ⟨s.1,s.2.1⟩∧Shp N s.2.2) (fun k s h=>?_) (fun k s i hi h rec=>?_) (by omega) ⟨u,e⟩
 ·show Tot (iK m p N (k+1) s.1 s.2.1 _ _ _) _;rw [iK,if_neg (by rw [v];simp)];exact am ⟨h.1,h.2⟩
 show Tot (iK m p N (k+1) s.1 s.2.1 _ _ _) _;rw [iK,if_pos (by rw [v];simp;omega),ax (by omega)];refine (dC hp h.1 N).bind fun a E=>(dC hp E.1 N).bind fun b F=>(TK g h.2).bind fun t G=>?_;exact rec (b.2.i_,b.2.h_,t.1) ⟨F.1,G⟩
theorem Sm {c:ak} (j:Cur p c):TD p (vI p c 2) yn:=by
 unfold vI;refine (Jf hp j (N:=2) (by omega)).bind fun v i=>(dC hp i.1 12).bind fun d e=>?_;obtain ⟨s,c1⟩:=v;have a:Shp 2 s:=i.2;have g:=a.len;have D:=a.few;have h:1<s.q_.length:=by omega
 have h1:0<s.q_.length:=by omega
 have k:0<s.q_[0].length:=by rw [(a.row _ (List.getElem_mem h1)).1];omega
 have l:0<s.q_[1].length:=by rw [(a.row _ (List.getElem_mem h)).1];omega
 have m:idx s.q_ 0=some s.q_[0]:=aH h1;have o:idx s.q_[0] 0=some s.q_[0][0]:=aH k;have t:idx s.q_ 1=some s.q_[1]:=aH h;have u:idx s.q_[1] 0=some s.q_[1][0]:=aH l;have sm:=a.sml (by omega);dsimp only;refine aD (fun _=>?_) (fun _=>?_)
 ·rw [m];simp only [bS];rw [o];exact am ⟨e.1,(Cs a h1 (nS _) a.few a.last).sml (by omega)⟩
 refine aD (fun _=>?_) (fun _=>?_)
 ·rw [t];simp only [bS];refine (fC hp e.1 (by simp)).bind fun y f=>?_;rw [u];refine am ⟨f.1,(Cs a h (wu (fun z w=>?_) f.2) a.few a.last).sml (by omega)⟩;simp only [List.mem_cons,List.not_mem_nil,or_false] at w;unfold V;omega
 refine aD (fun _=>?_) (fun _=>?_)
 ·refine (dC hp e.1 4).bind fun y f=>?_;rw [bo (by simp;omega)];refine am ⟨f.1,sm.1,by show (s.s_++_).length≤_;simp;omega,fun q hq=>?_⟩;rcases List.mem_append.1 hq with hq|hq
  ·exact a.last q hq
  rw [List.mem_singleton.1 hq];exact ⟨nS _,v0⟩
 refine aD (fun _=>?_) (fun _=>?_)
 ·rw [bo (by simp;omega)];refine am ⟨e.1,⟨by show (s.q_++_).length≤_;simp;omega,fun r hr=>?_⟩,sm.2⟩;rcases List.mem_append.1 hr with hr|hr
  ·exact sm.1.2 r hr
  rw [List.mem_singleton.1 hr];exact ⟨by simp,fun x A=>by rw [List.mem_singleton.1 A];exact v0⟩
 refine aD (fun _=>?_) (fun _=>am ⟨e.1,sm⟩);refine aD (fun g=>?_) (fun _=>am ⟨e.1,sm⟩);refine (dC hp e.1 5).bind fun y f=>?_;have g:0<s.s_.length:=by simpa using g
 have C:idx s.s_ 0=some s.s_[0]:=aH g;rw [C];refine am ⟨f.1,sm.1,by show (s.s_.set _ _).length≤_;rw [List.length_set];omega,fun q hq=>?_⟩;rcases List.mem_or_eq_of_mem_set hq with hq|rfl
 ·exact a.last q hq
 exact ⟨(a.last _ (List.getElem_mem g)).1,nS _⟩
end
end Go.Vk
/- Schemas drawn: they are there, and CJ. -/
namespace Go.Vk
theorem Rj {l:List Int} {x:Int} (h:pF l) (c:l.length≤1000) (a:V x):pF (l++[x]):=⟨by simp;omega,fun y hy=>by
 rcases List.mem_append.1 hy with hy|hy
 ·exact h.2 y hy
 rw [List.mem_singleton.1 hy];exact a⟩
theorem Lj {l:List (List UInt8)} {x:List UInt8} (h:nI l) (c:l.length≤1000) (a:x.length≤1048576):nI (l++[x]):=⟨by simp;omega,fun y hy=>by
 rcases List.mem_append.1 hy with hy|hy
 ·exact h.2 y hy
 rw [List.mem_singleton.1 hy];exact a⟩
section
variable {p:List Int} (hp:p.length≤1048576)
include hp
theorem Ku {c:ak} (d:Cur p c) {l:List (List UInt8)} (h:0<l.length) (e:∀x∈l,x.length≤1000):TD p (rt p c l) (fun v=>v.length≤1048576):=by
 unfold rt;refine (dC hp d (l.length:Int)).bind fun y a=>?_;have:y.1<(l.length:Int):=by rcases a.2.2 with g|g<;>omega
 exact (gb ⟨a.2.1,this⟩).bind fun v f=>am ⟨a.1,by have:=e v f.1;show v.length≤_;omega⟩
theorem KN {c:ak} (C:Cur p c) {n:Nat} (_:n≤1000):TD p (jS p c (n:Int)) (fun a=>jF a∧a.B_.length≤4∧a.O_.length≤4):=by
 unfold jS
 have r:0≤Int.tmod (n:Int) 5∧Int.tmod (n:Int) 5<5:=by
  rw [Int.tmod_eq_emod_of_nonneg (by omega)];omega
 refine (gb ⟨r.1,by simpa using r.2⟩).bind fun e j=>?_
 have j:e.length≤1048576:=by
  have h:=j.1;simp only [List.mem_cons,List.not_mem_nil,or_false] at h;rcases h with rfl|rfl|rfl|rfl|rfl<;>simp
 refine (qj hp C 2).bind fun y t=>aD (fun _=>?_) (fun _=>?_)
 ·refine (dC hp t.1 3).bind fun y2 d=>(fC hp d.1 (by simp)).bind fun y3 u=>?_;obtain ⟨m,f⟩:∃m:Nat,y2.1=m:=⟨y2.1.toNat,by have:=d.2.1;omega⟩;have w:m≤2:=by rcases d.2.2 with g|g<;>omega
  refine cz (fun k (σ:Int×Int×List Int×Int) i=>du y2 p e k σ.1 σ.2.1 σ.2.2.1 σ.2.2.2 i) (1+m) (fun i σ=>Cur p ⟨σ.1,σ.2.1⟩∧σ.2.2.1.length=i∧(∀x∈σ.2.2.1,V x)∧V σ.2.2.2) (fun k σ h=>?_) (fun k σ i hi h hk=>?_) (by omega) (s:=(y3.2.i_,y3.2.h_,[],y3.1)) ⟨u.1,rfl,(fun x hx=>by cases hx),?_⟩
  ·obtain ⟨o,D,q,A⟩:=h;show Tot (du _ _ _ (k+1) _ _ _ _ _) _;rw [du,f,aR (by omega) (by omega),if_neg (by simp)];exact am ⟨o,⟨j,⟨by show σ.2.2.1.length≤_;omega,q⟩,by simp,fun x hx=>by cases hx⟩,by show σ.2.2.1.length≤4;omega,by simp⟩
  ·obtain ⟨o,D,q,A⟩:=h;show Tot (du _ _ _ (k+1) _ _ _ _ _) _;rw [du,f,aR (n:=1+(m:Int)) (by omega) (by omega),if_pos (by simp;omega),bo (by simp;omega)];simp only [bS];refine (dC hp o 6).bind fun y4 E=>?_;rw [ax (by omega)];refine hk (_,_,_,_) ⟨E.1,by simp;omega,fun x hx=>?_,nS _⟩;rcases List.mem_append.1 hx with hx|hx
   ·exact q x hx
   rw [List.mem_singleton.1 hx];exact A
  have h:=u.2;simp only [List.mem_cons,List.not_mem_nil,or_false] at h;exact dK (by show -1000000000000≤y3.1∧y3.1≤_;omega)
 refine (dC hp t.1 3).bind fun y2 d=>?_;obtain ⟨m,f⟩:∃m:Nat,y2.1=m:=⟨y2.1.toNat,by have:=d.2.1;omega⟩;have w:m≤2:=by rcases d.2.2 with g|g<;>omega
 refine cz (fun k (l:List (List UInt8)) i=>dw y2 e k i l) (2+m) (fun i l=>l.length=i∧∀x∈l,x.length≤1048576) (fun k l h=>?_) (fun k l i hi h hk=>?_) (by omega) (s:=[]) ⟨rfl,fun x hx=>by cases hx⟩
 ·show Tot (dw _ _ (k+1) _ _) _;rw [dw,f,aR (by omega) (by omega),if_neg (by simp)];exact am ⟨d.1,⟨j,⟨by simp,fun x hx=>by cases hx⟩,by show l.length≤_;omega,h.2⟩,by simp,by show l.length≤4;omega⟩
 show Tot (dw _ _ (k+1) _ _) _;rw [dw,f,aR (n:=2+(m:Int)) (by omega) (by omega),if_pos (by simp;omega)];refine (gb ⟨by omega,by simp;omega⟩).bind fun v F=>?_;rw [bo (by simp;omega),ax (by omega)];refine hk _ ⟨by simp;omega,fun x hx=>?_⟩;rcases List.mem_append.1 hx with hx|hx
 ·exact h.2 x hx
 rw [List.mem_singleton.1 hx];have h:=F.1;simp only [List.mem_cons,List.not_mem_nil,or_false] at h;rcases h with rfl|rfl|rfl|rfl<;>simp
theorem MT {c:ak} (q:Cur p c):TD p (qJ p c) jF:=by
 unfold qJ;refine (dC hp q 5).bind fun y h=>?_;obtain ⟨n,r⟩:∃n:Nat,y.1=n:=⟨y.1.toNat,by have:=h.2.1;omega⟩;have l:n≤1000:=by rcases h.2.2 with g|g<;>omega
 rw [r];refine (KN hp h.1 l).bind fun a m=>(dC hp m.1 14).bind fun o f=>?_;obtain ⟨⟨i,k,j⟩,s,t⟩:=m.2;refine aD (fun _=>(Ku hp f.1 (by simp) (fun x d=>?_)).bind fun v e=>am ⟨e.1,e.2,k,j⟩) (fun _=>?_)
 ·simp only [List.mem_cons,List.not_mem_nil,or_false] at d;rcases d with rfl|rfl|rfl|rfl<;>simp
 refine aD (fun _=>(fC hp f.1 (by simp)).bind fun v e=>?_) (fun _=>?_)
 ·rw [bo (by simp;omega)];refine am ⟨e.1,i,Rj k (by omega) (wu (fun y h=>?_) e.2),j⟩;simp only [List.mem_cons,List.not_mem_nil,or_false] at h;unfold V;omega
 refine aD (fun _=>(Ku hp f.1 (by simp) (fun x d=>?_)).bind fun v e=>?_) (fun _=>?_)
 ·simp only [List.mem_cons,List.not_mem_nil,or_false] at d;rcases d with rfl|rfl|rfl<;>simp
 ·rw [bo (by simp;omega)];exact am ⟨e.1,i,k,Lj j (by omega) e.2⟩
 refine aD (fun _=>am ⟨f.1,i,⟨by simp,fun x d=>by cases d⟩,j⟩) (fun _=>?_);refine aD (fun _=>am ⟨f.1,i,⟨by simp,fun x d=>?_⟩,by simp,fun x d=>by cases d⟩) (fun _=>am ⟨f.1,i,k,j⟩);rw [List.mem_singleton.1 d];omega
theorem TV {c:ak} (q:Cur p c):TD p (wS p c) CD:=by
 unfold wS;refine (LP hp q).bind fun s j=>(dC hp j.1 12).bind fun o d=>?_;obtain ⟨⟨⟨f,e⟩,g,h⟩,h1,r,t,u⟩:=j.2;refine aD (fun _=>(MT hp d.1).bind fun a k=>?_) (fun _=>?_)
 ·rw [bo (by simp;omega)];refine am ⟨k.1,⟨⟨by simp;omega,fun x hx=>?_⟩,e⟩,by simp;omega,h⟩;have hx:x∈s.1.c_++[a.1]:=hx;rcases List.mem_append.1 hx with hx|hx
  ·exact f.2 x hx
  rw [List.mem_singleton.1 hx];exact k.2
 refine aD (fun _=>(Ku hp d.1 (by simp) (fun x hx=>?_)).bind fun v m=>?_) (fun _=>?_)
 ·simp only [List.mem_cons,List.not_mem_nil,or_false] at hx;rcases hx with rfl|rfl|rfl<;>simp
 ·rw [bo (by simp;omega)];exact am ⟨m.1,⟨f,Lj e (by omega) m.2⟩,g,by simp;omega⟩
 refine aD (fun _=>am ⟨d.1,⟨⟨by simp,fun x hx=>by cases hx⟩,e⟩,by simp,h⟩) (fun _=>?_);refine aD (fun _=>(pH ⟨by omega,by omega,by omega⟩).bind fun l i=>?_) (fun _=>am ⟨d.1,⟨f,e⟩,g,h⟩);refine am ⟨d.1,⟨f,?_,fun x hx=>?_⟩,g,?_⟩
 ·show l.length≤_;rw [i];simp only [List.length_take,List.length_drop];omega
 ·have hx:x∈l:=hx;rw [i] at hx;exact e.2 x (List.mem_of_mem_drop (List.mem_of_mem_take hx))
 show l.length≤_;rw [i];simp only [List.length_take,List.length_drop];omega
end
end Go.Vk
/- Members, forests, states drawn: they are there, and CJ. -/
namespace Go.Vk
theorem Dec.yes {o:Option Bool} {P:Prop} (h:Dec o P) (hp:P):o=some true:=by
 rcases h.cases with ⟨e,_⟩|⟨_,g⟩
 ·exact e
 exact absurd hp g
theorem Vr {s:ae} {t:ao} {e:bW} (a:bi s) (h:iN t) (c:wa s t) (f:ExP s e):T (tL s t e):=by
 unfold tL xD ui;rw [(wj a h).yes c,(Bv (la a)).yes f,(UT a c f).1];simp only [sS];have j:=c.2.1;have p:=a.2.1;obtain ⟨_,p2⟩:=Oz a c f 32 0 (by omega);have hp:=HD (s:=s) (t:=t) (e:=e) 32 0;generalize rC s t e 32 0=l at *
 have m:(AY l).length=l.length:=by simp [AY]
 refine Tot.bind (P:=fun v=>v.length≤1048576) ?_ (fun v g=>(Kg g).bind fun _ _=>bj _);refine aD (fun _=>am (by simp)) (fun _=>?_)
 have key:∀(n k:Nat),n≤l.length→n<k→Tot (lv (AY l) t s k ((n:Int)-1)) (fun v=>v.length≤1048576):=by
  intro n
  induction n with
  | zero =>
   intro k _ hk;obtain ⟨k,rfl⟩:=kS k (by omega);rw [lv,if_neg (by simp)];exact (KM ⟨by omega,by omega⟩).bind fun v g=>am (by rw [g];simp;omega)
  | succ n ih =>
   intro k q hk;obtain ⟨k,rfl⟩:=kS k (by omega);have hn':n<(AY l).length:=by omega
   have o:((n+1:Nat):Int)-1=(n:Int):=by omega
   have i:=p2 _ (List.getElem_mem (show n<l.length by omega));have ej:(AY l)[n]=((l[n]:Nat):Int):=by simp [AY]
   rw [o,lv,if_pos (by simp),aH hn'];simp only [bS];rw [ej,aH i];simp only [bS];have d:=(h.1.2 _ (List.getElem_mem i)).2.2.2.2.1;refine (Gr a d).bind fun v _=>aD (fun _=>?_) (fun _=>?_)
   ·have h1:=d.1.1;rw [bo (by simp;omega)];exact am (by simpa using h1)
   rw [aR (by omega) (by omega)];exact ih k (by omega) (by omega)
 rw [m,aR (by omega) (by omega)];exact key l.length bb (Nat.le_refl _) (cN (by omega))
theorem Ws (x:Int):Tot (kN x) (fun l=>l.length≤7):=by
 unfold kN;exact aD (fun _=>am (by simp)) (fun _=>aD (fun _=>am (by simp)) (fun _=>am (by simp)))
theorem QV (x d:Int):T (tG x d):=by
 unfold tG;refine (Ws x).bind fun l a=>Tot.bind (P:=fun _=>True) (aD (fun _=>bj _) (fun _=>cE.t.bind fun _ _=>bj _)) (fun _ _=>aD (fun _=>bj _) (fun _=>?_));refine cz (fun k (n:Int) i=>gE l d k n i) l.length (fun _ _=>True) (fun k s _=>?_) (fun k s i hi _ hk=>?_) (by omega) trivial
 ·show Tot (gE _ _ (k+1) _ _) _;rw [gE,if_neg (by simp)];exact bj _
 show Tot (gE _ _ (k+1) _ _) _;rw [gE,if_pos (by simp;omega),aH hi,ax (by omega)];exact aD (fun _=>hk _ trivial) (fun _=>hk _ trivial)
def HW (t:bn):Prop:=t.v_.length≤1048576
def zG (m:aF):Prop:=gc 0 m.D_∧gc 0 m.t_∧Qo m.C_
theorem th (d:Nat):gc d ⟨[],0⟩:=⟨⟨by simp,fun x a=>by cases a⟩,v0⟩
theorem MD:Qo ⟨⟨[]⟩,⟨[]⟩⟩:=⟨vJ _ _,vJ _ _⟩
theorem LK (b:Bool):zG ⟨⟨[],0⟩,b,⟨[],0⟩,⟨⟨[]⟩,⟨[]⟩⟩⟩:=⟨th _,th _,MD⟩
theorem MI {l:List (List Int)} (h:fO 9 13 l):AF l:=⟨by have:=h.1;omega,fun r a=>(h.2 r a).sml (by omega)⟩
def Tk (m:aF):Prop:=gc 1 m.D_∧gc 1 m.t_∧fO 9 13 m.C_.w_.e_∧fO 9 13 m.C_.x_.e_
theorem zG.d {m:aF} (h:zG m):Tk m:=⟨h.1.mono (by omega),h.2.1.mono (by omega),h.2.2.1.mono (by omega) (by omega),h.2.2.2.mono (by omega) (by omega)⟩
theorem Tk.sml {m:aF} (h:Tk m):sY m:=⟨h.1.sml (by omega),trivial,h.2.1.sml (by omega),MI h.2.2.1,MI h.2.2.2⟩
theorem yD {m:aF} (h:zG m):jk m=some m:=by
 unfold jk;rw [rm (h.1.sml (by omega)),rm (h.2.1.sml (by omega)),HC h.2.2];rfl
theorem Qc {s:ae} {l:List Int} (a:bi s) (c:smI 24 l):Tot (nP s l) (gc 0):=by
 unfold nP;have h1:=c.1;refine (sW a (by omega)).t.bind fun b _=>aD (fun _=>am (th _)) (fun _=>(yX a).bind fun st d=>?_);rw [bo (by simp;omega)];refine am ⟨⟨by simp,fun x e=>?_⟩,v0⟩;rw [List.mem_singleton.1 e];exact ⟨⟨v0,v0⟩,.nil _,v0,d,v0,c,v0,dK (x:=-1) ⟨by omega,by omega⟩,v0⟩
theorem Nt {c:bh} {tape:bn} (f:bi c.y_) (d:va c) (a:HW tape):Tot (pO c tape) (fun y=>gc 0 y.1∧HW y.2.1):=by
 unfold pO;have h1:=d.1.1;have h:=d.2.2.2.1;obtain ⟨k,hk⟩:∃k:Nat,c.W_=k:=⟨c.W_.toNat,by omega⟩;rw [hk,gW a];exact (JJ a (by omega) (by omega)).bind fun y e=>aD (fun _=>am ⟨th _,a⟩) (fun _=>(Qc f (.small e.2 (by omega))).bind fun t g=>am ⟨g,e.1⟩)
theorem Mx {c:bh} {tape:bn} (d:bi c.y_) (a:HW tape):Tot (pk c tape) (fun y=>zG y.1∧HW y.2.1):=by
 unfold pk;rw [gW a];refine kj (Dd d).t (by simp only [sS];exact am ⟨LK _,a⟩) (fun f=>?_);simp only [sS];exact (Nt d f a).bind fun y e=>aD (fun _=>am ⟨LK _,a⟩) (fun _=>am ⟨⟨e.1,th _,MD⟩,e.2⟩)
theorem Wk (q:Bool):T (gQ q):=by
 unfold gQ;exact aD (fun _=>bj _) (fun _=>bj _)
theorem JO {c:bh} {m:aF} {e:bW} {tape:bn} (i:bi c.y_) (f:zG m) (h:HW tape):Tot (nZ c m e tape) (fun y=>zG y.1∧HW y.2.1):=by
 have r:=f.d.sml;unfold nZ;rw [yD f,gW h];refine kj (Ie i r).t (by simp only [sS];exact am ⟨f,h⟩) (fun D=>?_);simp only [sS];refine lO (Bv (la i)).t (by simp only [sS];exact am ⟨f,h⟩) (fun H=>?_);simp only [sS];refine Tot.bind (P:=fun _=>True) (aD (fun _=>bj _) (fun _=>(Cu _).t.bind fun _ _=>bj _)) (fun u _=>aD (fun _=>am ⟨f,h⟩) (fun _=>?_));have E:=D.1;have bad:∀x:dB,Tot (some (m,tape,x,false)) (fun y:aF×bn×dB×Bool=>zG y.1∧HW y.2.1):=fun x=>am ⟨f,h⟩;refine (Vr i r.1 D.2.1.1 H).bind fun v _=>(Wk _).bind fun b _=>(Sh h).bind fun y F=>aD (fun _=>bad _) (fun _=>(QV _ _).bind fun w _=>?_)
 have key:∀(l:List aA) (x:Int) (j:List aA) (x2 a A:Int) (tp:List Int) (b_:Int),gc 0 ⟨l,x⟩→gc 0 ⟨j,x2⟩→tp.length≤1048576→Tot (iw m b c m tape v w l x j x2 a A tp b_) (fun y=>zG y.1∧HW y.2.1):=by
  intro l x j x2 a A tp b_ h1 p k;unfold iw;rw [yD f,gW h];refine (Jp f.2.2).bind fun d C=>?_
  have o:∀(q:Bool) (j:List aA) (x2:Int) (G:Bool) (tp:List Int) (b_:Int),gc 0 ⟨j,x2⟩→tp.length≤1048576→Tot (jW d v b w a A c m tape l x q j x2 G tp b_) (fun y=>zG y.1∧HW y.2.1):=by
   intro q j x2 G tp b_ p k;unfold jW jT;rw [yD f,gW h];refine aD (fun _=>aD (fun _=>am ⟨⟨p,th _,C⟩,k⟩) (fun _=>(Nt i E (tape:=⟨tp,b_⟩) k).bind fun z g=>aD (fun _=>bad _) (fun _=>am ⟨⟨g.1,th _,C⟩,g.2⟩))) (fun _=>am ⟨⟨h1,p,C⟩,k⟩)
  exact aD (fun _=>(Nt i E (tape:=⟨tp,b_⟩) k).bind fun z g=>aD (fun _=>bad _) (fun _=>o _ _ _ _ _ _ g.1 g.2)) (fun _=>o _ _ _ _ _ _ p k)
 refine aD (fun _=>?_) (fun _=>key _ _ _ _ _ _ _ _ f.1 f.2.1 F);refine (JZ i f.1 F).bind fun z g=>aD (fun _=>bad _) (fun _=>aD (fun _=>?_) (fun _=>key _ _ _ _ _ _ _ _ g.1 f.2.1 g.2));exact (JZ i f.2.1 g.2).bind fun L s=>aD (fun _=>bad _) (fun _=>key _ _ _ _ _ _ _ _ g.1 s.1 s.2)
def II (f:bA):Prop:=f.u_.length≤8∧∀m∈f.u_,zG m
theorem II.sml {f:bA} (h:II f):tx f:=⟨by have:=h.1;omega,fun m a=>(h.2 m a).d.sml⟩
theorem Lh:II ⟨[]⟩:=⟨by simp,fun x a=>by cases a⟩
theorem JA {l:List aF} {m:aF} (h:∀x∈l,zG x) (a:zG m):∀x∈l++[m],zG x:=fun x hx=>by
 rcases List.mem_append.1 hx with hx|hx
 ·exact h x hx
 rw [List.mem_singleton.1 hx];exact a
theorem HB {f:bA} (h:II f):sn f=some f:=by
 have a:=h.1;unfold sn
 rw [pz (p:=f.u_) id (mr f) (fun l=>some ⟨l⟩) (fun k l=>by rw [mr,if_neg (by simp)]) (fun k l i hi c=>by
  rw [mr,if_pos (by simp;omega),aH hi,ax (by omega)];simp only [bS];rw [yD (h.2 _ (List.getElem_mem hi))];simp only [bS];rw [bo (by simp;omega)];rfl) (by omega),List.map_id]
theorem RJ {c:bh} {tape:bn} (e:bi c.y_) (d:HW tape):Tot (sF c tape) (fun y=>II y.1):=by
 unfold sF;rw [gW d];simp only [bS];refine kj (Dd e).t (by simp only [sS];exact am Lh) (fun g=>?_);simp only [sS];have p:=g.2.2.1;obtain ⟨n,a⟩:∃n:Nat,c.u_=n:=⟨c.u_.toNat,by omega⟩;refine cz (fun k (σ:List aF×List Int×Int) i=>gV c tape k σ.1 σ.2.1 σ.2.2 i) n (fun i σ=>σ.1.length=i∧(∀m∈σ.1,zG m)∧σ.2.1.length≤1048576) (fun k σ h=>?_) (fun k σ i hi h hk=>?_) (by omega) (s:=([],tape.v_,tape.f_)) ⟨rfl,(fun x j=>by cases j),d⟩
 ·show Tot (gV _ _ (k+1) _ _ _ _) _;rw [gV,a,if_neg (by simp)];exact am ⟨by show σ.1.length≤8;omega,h.2.1⟩
 obtain ⟨h1,l,o⟩:=h;show Tot (gV _ _ (k+1) _ _ _ _) _;rw [gV,a,if_pos (by simp;omega),gW d,ax (by omega)];refine (Mx e (tape:=⟨σ.2.1,σ.2.2⟩) o).bind fun y f=>aD (fun _=>am Lh) (fun _=>?_);rw [bo (by simp;omega)];exact hk (_,_,_) ⟨by simp;omega,JA l f.1,f.2⟩
theorem PE {c:bh} {f:bA} {e:bW} {tape:bn} (d:bi c.y_) (a:II f) (g:HW tape):Tot (qN c f e tape) (fun y=>II y.1):=by
 have q:=a.1;unfold qN;rw [HB a,gW g];refine (Gy d a.sml).t.bind fun u _=>Tot.bind (P:=fun _=>True) (aD (fun _=>bj _) (fun _=>(Bv (la d)).t.bind fun _ _=>bj _)) (fun u _=>Tot.bind (P:=fun _=>True) (aD (fun _=>bj _) (fun _=>(Cu _).t.bind fun _ _=>bj _)) (fun u _=>aD (fun _=>am a) (fun _=>?_)));refine cz (fun k (σ:List aF×List Int×Int×List dB) i=>gp f c e tape k σ.1 σ.2.1 σ.2.2.1 σ.2.2.2 i) f.u_.length (fun i σ=>σ.1.length=i∧(∀m∈σ.1,zG m)∧σ.2.1.length≤1048576∧σ.2.2.2.length=i) (fun k σ h=>?_) (fun k σ i hi h hk=>?_) (by omega) (s:=([],tape.v_,tape.f_,[])) ⟨rfl,(fun x l=>by cases l),g,rfl⟩
 ·show Tot (gp _ _ _ _ (k+1) _ _ _ _ _) _;rw [gp,if_neg (by simp)];exact am ⟨by show σ.1.length≤8;omega,h.2.1⟩
 obtain ⟨h1,o,p,r⟩:=h;show Tot (gp _ _ _ _ (k+1) _ _ _ _ _) _;rw [gp,if_pos (by simp;omega),aH hi,HB a,gW g,ax (by omega)];simp only [bS];refine (JO d (a.2 _ (List.getElem_mem hi)) (tape:=⟨σ.2.1,σ.2.2.1⟩) p).bind fun y j=>aD (fun _=>am a) (fun _=>?_);rw [bo (by simp;omega)];simp only [bS];rw [bo (by simp;omega)];exact hk (_,_,_,_) ⟨by simp;omega,JA o j.1,j.2,by simp;omega⟩
section
variable {p:List Int} (hp:p.length≤1048576)
include hp
theorem lc {c:ak} (d:Cur p c) {l:List Int} (e:0<l.length) (f:l.all (fun x=>decide (-9223372036854775808≤x∧x≤9223372036854775807))=true):TD p (aZ p c l) V :=
 (fC hp d e).mono fun y a=>⟨a.1,by have:=List.all_eq_true.1 f _ a.2;simp only [decide_eq_true_eq] at this;exact this⟩
theorem Ju {c:ak} (h:Cur p c):TD p (li p c) GC:=by
 unfold li;exact (lc hp h (by simp) rfl).bind fun _ h1=>(lc hp h1.1 (by simp) rfl).bind fun _ a=>(lc hp a.1 (by simp) rfl).bind fun _ d=>(lc hp d.1 (by simp) rfl).bind fun _ e=>(lc hp e.1 (by simp) rfl).bind fun _ f=>(lc hp f.1 (by simp) rfl).bind fun _ g=>(qj hp g.1 2).bind fun _ i=>am ⟨i.1,h1.2,a.2,d.2,e.2,f.2,g.2,trivial⟩
theorem RI {c:ak} (m:Cur p c):TD p (vo p c) GC:=by
 unfold vo;refine (Ju hp m).bind fun r l=>(dC hp l.1 18).bind fun y d=>?_;obtain ⟨f,g,h,i,j,k,e⟩:=l.2;exact aD (fun _=>(lc hp d.1 (by simp) rfl).bind fun v a=>am ⟨a.1,a.2,g,h,i,j,k,e⟩) (fun _=>aD (fun _=>(lc hp d.1 (by simp) rfl).bind fun v a=>am ⟨a.1,f,a.2,h,i,j,k,e⟩) (fun _=>aD (fun _=>(lc hp d.1 (by simp) rfl).bind fun v a=>am ⟨a.1,f,g,a.2,i,j,k,e⟩) (fun _=>aD (fun _=>(lc hp d.1 (by simp) rfl).bind fun v a=>am ⟨a.1,f,g,h,a.2,j,k,e⟩) (fun _=>aD (fun _=>(lc hp d.1 (by simp) rfl).bind fun v a=>am ⟨a.1,f,g,h,i,a.2,k,e⟩) (fun _=>aD (fun _=>(lc hp d.1 (by simp) rfl).bind fun v a=>am ⟨a.1,f,g,h,i,j,a.2,e⟩) (fun _=>am ⟨d.1,f,g,h,i,j,k,e⟩))))))
def EK (c:bh):Prop:=CD c.y_∧CC c∧2≤c.y_.g_.length∧c.y_.g_.length≤3
theorem Rc {c:ak} (a:Cur p c):TD p (rT p c) EK:=by
 unfold rT;refine (LP hp a).bind fun s e=>(Ju hp e.1).bind fun r f=>(qj hp f.1 2).bind fun o g=>?_;obtain ⟨h,H,L,c1,c2⟩:=e.2;obtain ⟨k,l,m,q,t,u,v⟩:=f.2
 have key:∀(c:ak) (x1 x2 d x4:Int),Cur p c→V x1→V x2→V d→V x4→TD p (mb p s r c.i_ c.h_ x1 x2 d x4) EK:=by
  intro c x1 x2 d x4 a h1 w x A;unfold mb;exact (dC hp (c:=⟨c.i_,c.h_⟩) a _).bind fun y1 C=>(dC hp C.1 _).bind fun y2 D=>(lc hp D.1 (by simp) rfl).bind fun y3 i=>(dC hp i.1 _).bind fun y4 E=>(dC hp E.1 _).bind fun y5 F=>am ⟨F.1,h,⟨h.1,⟨h1,l,w,x,A,u,v⟩,nS _,nS _,i.2,nS _,nS _⟩,c1,c2⟩
 have G:V 1:=dK ⟨by omega,by omega⟩;exact aD (fun _=>(lc hp g.1 (by simp) rfl).bind fun y j=>key y.2 _ _ _ _ j.1 G j.2 (dK ⟨by omega,by omega⟩) (dK ⟨by omega,by omega⟩)) (fun _=>key o.2 _ _ _ _ g.1 k m q t)
theorem Wb {c:ak} (m:Cur p c):TD p (vz p c) CC:=by
 unfold vz;refine (Rc hp m).bind fun r l=>(dC hp l.1 16).bind fun y d=>?_;obtain ⟨e,f,g,h,i,j,k⟩:=l.2.2.1;exact aD (fun _=>(lc hp d.1 (by simp) rfl).bind fun v a=>am ⟨a.1,e,f,a.2,h,i,j,k⟩) (fun _=>aD (fun _=>(lc hp d.1 (by simp) rfl).bind fun v a=>am ⟨a.1,e,f,g,a.2,i,j,k⟩) (fun _=>aD (fun _=>(lc hp d.1 (by simp) rfl).bind fun v a=>am ⟨a.1,e,f,g,h,a.2,j,k⟩) (fun _=>aD (fun _=>(lc hp d.1 (by simp) rfl).bind fun v a=>am ⟨a.1,e,f,g,h,i,a.2,k⟩) (fun _=>aD (fun _=>(lc hp d.1 (by simp) rfl).bind fun v a=>am ⟨a.1,e,f,g,h,i,j,a.2⟩) (fun _=>aD (fun _=>(RI hp d.1).bind fun v a=>am ⟨a.1,e,a.2,g,h,i,j,k⟩) (fun _=>aD (fun _=>(TV hp d.1).bind fun v a=>am ⟨a.1,a.2.1,f,g,h,i,j,k⟩) (fun _=>am ⟨d.1,e,f,g,h,i,j,k⟩)))))))
theorem LI {c:ak} (g:Cur p c) {f:bh} (a:EK f) (i n:Int):TD p (oZ p c f i n) (fun _=>True):=by
 unfold oZ;refine (Hf hp g a.1).bind fun e d=>aD (fun _=>?_) (fun _=>am ⟨d.1,trivial⟩);have:=a.2.2.1;unfold rem;rw [if_neg (by omega)];exact am ⟨d.1,trivial⟩
theorem IU {c:ak} (g:Cur p c) {f:bh} (d:EK f) {n:Nat} (q:n≤36):TD p (qr p c f n) II:=by
 unfold qr;refine (ya hp g (n:=8) (by omega)).bind fun b a=>(RJ d.1.1 (tape:=⟨b.1,0⟩) (by show b.1.length≤_;have:=a.2.1;omega)).bind fun w j=>(dC hp a.1 _).bind fun y l=>?_;refine cz (fun k (σ:Int×Int×List aF) i=>iM n p f y k σ.1 σ.2.1 i σ.2.2) n (fun _ σ=>Cur p ⟨σ.1,σ.2.1⟩∧II ⟨σ.2.2⟩) (fun k σ h=>?_) (fun k σ i hi h hk=>?_) (by omega) (s:=(y.2.i_,y.2.h_,w.1.u_)) ⟨l.1,j⟩
 ·show Tot (iM _ _ _ _ (k+1) _ _ _ _) _;rw [iM,if_neg (by simp)];exact am h
 show Tot (iM _ _ _ _ (k+1) _ _ _ _) _;rw [iM,if_pos (by simp;omega),ax (by omega)];exact (LI hp h.1 d _ _).bind fun e m=>(ya hp m.1 (n:=80) (by omega)).bind fun b a=>(PE d.1.1 h.2 (tape:=⟨b.1,0⟩) (by show b.1.length≤_;have:=a.2.1;omega)).bind fun z o=>hk (_,_,_) ⟨a.1,o⟩
theorem Pg {c:ak} (j:Cur p c):TD p (ub p c) (fun st=>EK st.l_∧II st.ab_∧kK st):=by
 unfold ub;refine (Rc hp j).bind fun f a=>(fC hp a.1 (by simp)).bind fun y e=>?_
 obtain ⟨n,k,g⟩:∃n:Nat,y.1=n∧n≤36:=by
  have h:=e.2;simp only [List.mem_cons,List.not_mem_nil,or_false] at h;exact ⟨y.1.toNat,by omega,by omega⟩
 rw [k];refine (IU hp e.1 a.2 g).bind fun w d=>(Jf hp d.1 a.2.2.2).bind fun s i=>am ⟨i.1,a.2,d.2,a.2.2.1,d.2.sml,i.2.sml a.2.2.2.2⟩
end
end Go.Vk
/- States drawn, also wrong ones: they are there, and CJ. -/
namespace Go.Vk
section
variable {p:List Int} (hp:p.length≤1048576)
include hp
theorem Pw {c:ak} (g:Cur p c) {f:bh} (d:EK f) {n:Nat} (q:n≤40):TD p (tX p c f n) zG:=by
 unfold tX;refine (ya hp g (n:=4) (by omega)).bind fun b a=>(Mx d.1.1 (tape:=⟨b.1,0⟩) (by show b.1.length≤_;have:=a.2.1;omega)).bind fun w j=>(dC hp a.1 _).bind fun y l=>?_;refine cz (fun k (σ:Int×Int×aF) i=>iG n p f y k σ.1 σ.2.1 i σ.2.2.D_.a_ σ.2.2.D_.m_ σ.2.2.Q_ σ.2.2.t_.a_ σ.2.2.t_.m_ σ.2.2.C_.w_.e_ σ.2.2.C_.x_.e_) n (fun _ σ=>Cur p ⟨σ.1,σ.2.1⟩∧zG σ.2.2) (fun k σ h=>?_) (fun k σ i hi h hk=>?_) (by omega) (s:=(y.2.i_,y.2.h_,w.1)) ⟨l.1,j.1⟩
 ·show Tot (iG _ _ _ _ (k+1) _ _ _ _ _ _ _ _ _ _) _;rw [iG,if_neg (by simp)];exact am h
 show Tot (iG _ _ _ _ (k+1) _ _ _ _ _ _ _ _ _ _) _;rw [iG,if_pos (by simp;omega),ax (by omega)];exact (LI hp h.1 d _ _).bind fun e m=>(ya hp m.1 (n:=24) (by omega)).bind fun b a=>(JO d.1.1 h.2 (tape:=⟨b.1,0⟩) (by show b.1.length≤_;have:=a.2.1;omega)).bind fun z o=>hk (_,_,z.1) ⟨a.1,o.1⟩
theorem MH {c:ak} (u:Cur p c) {f:bh} (l:EK f):TD p (sq p c f) Tk:=by
 unfold sq;refine (fC hp u (by simp)).bind fun y q=>?_
 obtain ⟨n,v,r⟩:∃n:Nat,y.1=n∧n≤40:=by
  have h:=q.2;simp only [List.mem_cons,List.not_mem_nil,or_false] at h;exact ⟨y.1.toNat,by omega,by omega⟩
 rw [v];refine (Pw hp q.1 l r).bind fun m s=>(dC hp s.1 14).bind fun o e=>?_;obtain ⟨g,i,j,k⟩:=s.2.d;exact aD (fun _=>am ⟨e.1,g,i,j,k⟩) (fun _=>aD (fun _=>(MF hp e.1 l.1).bind fun t a=>am ⟨a.1,a.2,i,j,k⟩) (fun _=>aD (fun _=>(MF hp e.1 l.1).bind fun t a=>am ⟨a.1,g,a.2,j,k⟩) (fun _=>aD (fun _=>(RA hp e.1).bind fun t a=>am ⟨a.1,g,i,a.2.1,a.2.2⟩) (fun _=>am ⟨e.1,g,i,j,k⟩))))
theorem Sr {c:ak} (s:Cur p c) {f:bh} (j:EK f):TD p (vk p c f) tx:=by
 unfold vk;refine (fC hp s (by simp)).bind fun y q=>?_
 obtain ⟨n,t,r⟩:∃n:Nat,y.1=n∧n≤36:=by
  have h:=q.2;simp only [List.mem_cons,List.not_mem_nil,or_false] at h;exact ⟨y.1.toNat,by omega,by omega⟩
 rw [t];refine (IU hp q.1 j r).bind fun w k=>(dC hp k.1 14).bind fun o e=>?_;have v:=k.2.1;have g:=k.2.sml;have keep:TD p (some (w.1,o.2)) tx:=am ⟨e.1,g⟩;refine aD (fun _=>(MH hp e.1 j).bind fun m d=>?_) (fun _=>aD (fun _=>aD (fun a=>?_) (fun _=>keep)) (fun _=>aD (fun _=>aD (fun a=>(MH hp e.1 j).bind fun m d=>?_) (fun _=>keep)) (fun _=>keep)))
 ·rw [bo (by simp;omega)];refine am ⟨d.1,by show (w.1.u_++_).length≤_;simp;omega,fun x hx=>?_⟩;rcases List.mem_append.1 hx with hx|hx
  ·exact g.2 x hx
  rw [List.mem_singleton.1 hx];exact d.2.sml
 ·have a:0<w.1.u_.length:=by simpa using a
  rw [aR (by omega) (by omega)];refine (pH ⟨by omega,by omega,by omega⟩).bind fun l i=>am ⟨e.1,?_,fun x hx=>?_⟩
  ·show l.length≤_;rw [i];simp only [List.length_take,List.length_drop];omega
  have hx:x∈l:=hx;rw [i] at hx;exact g.2 x (List.mem_of_mem_drop (List.mem_of_mem_take hx))
 have a:0<w.1.u_.length:=by simpa using a
 have u:idx w.1.u_ 0=some w.1.u_[0]:=aH a;rw [u];refine am ⟨d.1,by show (w.1.u_.set _ _).length≤_;rw [List.length_set];omega,fun x hx=>?_⟩;rcases List.mem_or_eq_of_mem_set hx with hx|rfl
 ·exact g.2 x hx
 exact d.2.sml
theorem SU {c:ak} (i:Cur p c):TD p (vf p c) kK:=by
 unfold vf;refine (Pg hp i).bind fun s h=>(dC hp h.1 14).bind fun y d=>?_;obtain ⟨j,k,e,f,g⟩:=h.2;exact aD (fun _=>(Wb hp d.1).bind fun v a=>am ⟨a.1,a.2,f,g⟩) (fun _=>aD (fun _=>(Sr hp d.1 j).bind fun v a=>am ⟨a.1,e,a.2,g⟩) (fun _=>aD (fun _=>(Sm hp d.1).bind fun v a=>am ⟨a.1,e,f,a.2⟩) (fun _=>am ⟨d.1,e,f,g⟩)))
theorem ME:Tot (mT p) kK:=by
 unfold mT;exact (Ww hp).bind fun c a=>(SU hp a).bind fun s d=>am d.2
end
end Go.Vk
/- One inverted bit changes the checksum. -/
namespace Go.Vk
theorem BV {x:Nat} (h:x<4294967296):uR x<4294967296:=by
 unfold uR;split
 ·have:(x / 2) ^^^ 3988292384<2^32:=Nat.xor_lt_two_pow (by omega) (by omega);omega
 omega
theorem vP {a b c:Nat} (h:a ^^^ c=b ^^^ c):a=b:=by
 have:=congrArg (· ^^^ c) h;simpa [Nat.xor_assoc] using this
theorem UP {a b:Nat} (c:a<2147483648) (d:b<2147483648):a≠b ^^^ 3988292384:=fun h=>by
 have:=congrArg (fun n=>n.testBit 31) h;simp only [Nat.testBit_xor] at this;rw [Nat.testBit_lt_two_pow (show a<2^31 by omega),Nat.testBit_lt_two_pow (show b<2^31 by omega),show Nat.testBit 3988292384 31=true by decide] at this;cases this
theorem NK {x y:Nat} (a:x<4294967296) (c:y<4294967296) (h:uR x=uR y):x=y:=by
 unfold uR at h;split at h<;>split at h
 ·have:=vP h;omega
 ·exact absurd h.symm (UP (by omega) (by omega))
 ·exact absurd h (UP (by omega) (by omega))
 omega
theorem pp {n:Nat}:∀{x:Nat},x<4294967296→pQ n x<4294967296:=by
 induction n with
 | zero=>exact fun h=>h
 | succ n ih=>exact fun h=>ih (BV h)
theorem Ff {n:Nat}:∀{x y:Nat},x<4294967296→y<4294967296→pQ n x=pQ n y→x=y:=by
 induction n with
 | zero=>exact fun _ _ h=>h
 | succ n ih=>exact fun a c h=>NK a c (ih (BV a) (BV c) h)
def yY (x:Nat) (l:List Nat):Nat:=l.foldl (fun x b=>pQ 8 (x ^^^ b)) x
theorem sy {x b:Nat} (a:x<4294967296) (c:b<256):x ^^^ b<4294967296:=by
 have:x ^^^ b<2^32:=Nat.xor_lt_two_pow (by omega) (by omega);omega
theorem Jd:∀(l:List Nat) (x:Nat),(∀b∈l,b<256)→x<4294967296→yY x l<4294967296:=by
 intro l
 induction l with
 | nil=>exact fun _ _ h=>h
 | cons b l ih=>exact fun x a d=>ih _ (fun c e=>a c (List.mem_cons_of_mem _ e)) (pp (sy d (a b (List.mem_cons_self ..))))
theorem PJ:∀(l:List Nat) (x y:Nat),(∀b∈l,b<256)→x<4294967296→y<4294967296→x≠y→yY x l≠yY y l:=by
 intro l
 induction l with
 | nil=>exact fun _ _ _ _ _ h=>h
 | cons b l ih =>
  intro x y d f g h;have a:=d b (List.mem_cons_self ..);exact ih _ _ (fun c i=>d c (List.mem_cons_of_mem _ i)) (pp (sy f a)) (pp (sy g a)) (fun e=>h (vP (Ff (sy f a) (sy g a) e)))
theorem Ni:∀(l:List Nat) (x j b:Nat) (f:j<l.length),(∀b∈l,b<256)→x<4294967296→b<256→b≠l[j]→yY x (l.set j b)≠yY x l:=by
 intro l
 induction l with
 | nil=>intro x j b f;simp at f
 | cons c l ih =>
  intro x j b f k a h g;have i:=k c (List.mem_cons_self ..);have hl':=fun d o=>k d (List.mem_cons_of_mem c o)
  cases j with
  | zero =>
   refine PJ l _ _ hl' (pp (sy a h)) (pp (sy a i)) (fun e=>g ?_);have m:=Ff (sy a h) (sy a i) e;rw [Nat.xor_comm x b,Nat.xor_comm x c] at m;exact vP m
  | succ j=>exact ih _ j b (by simpa using f) hl' (pp (sy a i)) h (by simpa using g)
def EJ (l:List Nat):List Int:=l.map fun (n:Nat)=>(n:Int)
theorem BM {l:List Nat} (e:∀b∈l,b<256) (j:l.length≤1048576):ym (EJ l)=some ((yY 4294967295 l ^^^ 4294967295:Nat):Int):=by
 unfold ym EJ
 have key:∀(d k i x:Nat),l.length-i=d→d<k→i≤l.length→x<4294967296→jv (l.map fun (n:Nat)=>(n:Int)) k (x:Int) (i:Int)=some ((yY x (l.drop i) ^^^ 4294967295:Nat):Int):=by
  intro d
  induction d with
  | zero =>
   intro k i x f hk hi c;obtain ⟨k,rfl⟩:=kS k (by omega);unfold jv;have:i=l.length:=by omega
   subst this;rw [if_neg (by simp),List.drop_length,show (4294967295:Int)=((4294967295:Nat):Int) from rfl,(wQ x 4294967295 (by omega) (by omega)).1];rfl
  | succ d ih =>
   intro k i x f hk hi c;obtain ⟨k,rfl⟩:=kS k (by omega);have a:i<l.length:=by omega
   have g:=e l[i] (List.getElem_mem a);have h:=sy c g;unfold jv;rw [if_pos (by simp;omega),aH (by simpa using a),List.drop_eq_getElem_cons a];simp only [Option.bind_some,List.getElem_map];rw [gh (by omega),(wQ x l[i] (by omega) (by omega)).1];have:=HA (jv (l.map fun (n:Nat)=>(n:Int)) k) i 8 bb (x ^^^ l[i]) 0 (by omega) (by omega) (cN (by omega)) (by omega);rw [show (0:Int)=((0:Nat):Int) from rfl,this,ax (by omega)];exact ih k (i+1) _ (by omega) (by omega) (by omega) (pp h)
 have:=key l.length bb 0 4294967295 (by omega) (cN (by omega)) (by omega) (by omega);simpa using this
theorem KV {p:List Int} {r:Nat} (h:ym p=some (r:Int)):dX p=some (yk r):=by
 unfold dX;rw [h];simp only [bS];have a:=AD r (k:=24) (by omega);have c:=AD r (k:=16) (by omega);have d:=AD r (k:=8) (by omega);simp only [Int.cast_ofNat_Int] at a c d;rw [a,c,d,uK,uK,uK,uK];rfl
theorem OM {p:List Int} (c:dU p):∃l:List Nat,p=EJ l∧(∀b∈l,b<256)∧l.length=p.length:=by
 refine ⟨p.map Int.toNat,?_,fun b h=>?_,by simp⟩
 ·unfold EJ;rw [List.map_map];conv=>lhs;rw [←List.map_id p]
  exact List.map_congr_left fun x a=>by
   have:=c x a;show x=((x.toNat:Nat):Int);omega
 obtain ⟨x,a,rfl⟩:=List.mem_map.1 h;have:=c x a;omega
theorem UF {p s:List Int} (i:dU p) (u:p.length≤400000) {j:Nat} (v:j<p.length) {c:Int} (w:0≤c∧c≤255) (d:c≠p[j]) (h1:dX p=some s) (m:dX (p.set j c)=some s):False:=by
 obtain ⟨l,rfl,f,o⟩:=OM i;obtain ⟨n,rfl⟩:∃n:Nat,c=n:=⟨c.toNat,by omega⟩;have hj':j<l.length:=by omega
 have k:(EJ l).set j (n:Int)=EJ (l.set j n):=by simp [EJ,List.map_set]
 have g:∀b∈l.set j n,b<256:=fun b i=>by
  rcases List.mem_or_eq_of_mem_set i with h|h
  ·exact f b h
  omega
 have q:n≠l[j]:=fun h=>d (by simp [EJ,h]);rw [KV (BM f (by omega))] at h1;rw [k,KV (BM g (by rw [List.length_set];omega))] at m;have d:=Ni l 4294967295 j n hj' f (by omega) (by omega) q;have r:=Jd (l.set j n) 4294967295 g (by omega);have t:=Jd l 4294967295 f (by omega);generalize yY 4294967295 (l.set j n)=A at *
 generalize yY 4294967295 l=B at *
 have x:A ^^^ 4294967295<4294967296:=by
  have:A ^^^ 4294967295<2^32:=Nat.xor_lt_two_pow (by omega) (by omega);omega
 have C:B ^^^ 4294967295<4294967296:=by
  have:B ^^^ 4294967295<2^32:=Nat.xor_lt_two_pow (by omega) (by omega);omega
 refine d (vP (c:=4294967295) ?_);have e:=(Option.some.inj m).trans (Option.some.inj h1).symm;generalize A ^^^ 4294967295=a at *
 generalize B ^^^ 4294967295=b at *
 unfold yk at e;simp only [List.cons.injEq,and_true] at e;omega
theorem So {n:Nat} (h:n<256):IntKind.u8.wrap (n:Int)=n:=by rw [uK,Nat.mod_eq_of_lt h]
theorem UO (n:Nat) (h:n<256):(BitVec.ofInt 8 (n:Int)).toNat=n:=by
 rw [BitVec.ofInt_natCast,BitVec.toNat_ofNat];omega
theorem WJ (x y:Nat) (a:x<256) (c:y<256):fv .xor .u8 x y=((x ^^^ y:Nat):Int)∧x ^^^ y<256:=by
 have d:x ^^^ y<2^8:=Nat.xor_lt_two_pow (by omega) (by omega);refine ⟨?_,by omega⟩;unfold fv;show IntKind.u8.wrap _=_;rw [BitVec.toNat_xor];show IntKind.u8.wrap (((BitVec.ofInt 8 (x:Int)).toNat ^^^ (BitVec.ofInt 8 (y:Int)).toNat:Nat):Int)=_;rw [UO x a,UO y c];exact So (by omega)
theorem Vc {a b:Nat} (h:b≠0):a ^^^ b≠a:=fun e=>h (vP (a:=b) (b:=0) (c:=a) (by rw [Nat.xor_comm,e,Nat.zero_xor]))
end Go.Vk
/- A state out of its bytes, by the program. -/
namespace Go.Vk
def Rq (p:List Int) (st:aM):Prop:=kK st∧wn st∧iu st=some p
theorem Ii (r:Nat):dU (yk r):=fun x a=>by
 unfold yk at a;simp only [List.mem_cons,List.not_mem_nil,or_false] at a;omega
theorem RC {p:List Int} (a:dU p) (e:p.length≤1048576):∃r,dX p=some (yk r):=by
 obtain ⟨l,rfl,c,d⟩:=OM a;exact ⟨_,KV (BM c (by omega))⟩
theorem NI {st:aM} (a:kK st) (c:wn st):∃r,dX (lX st)=some (yk r)∧iu st=some (lX st++yk r):=by
 obtain ⟨s,_,e,_,_,f⟩:=Tg a c;obtain ⟨r,d⟩:=RC (ww st) (by have:=Cx (stG a c);omega);obtain rfl:=Option.some.inj (d.symm.trans e);exact ⟨r,d,f⟩
theorem KJ {p:List Int} (a:dU p) (E:p.length≤1048576):∃m,vu p=some m∧((m.1=zT∧1≤m.2∧m.2≤5)∨(Rq p m.1∧m.2=0)):=by
 have no:∀k:Int,1≤k∧k≤5→∃m,some (zT,k)=some m∧((m.1=zT∧1≤m.2∧m.2≤5)∨(Rq p m.1∧m.2=0)):=fun k h=>⟨_,rfl,.inl ⟨rfl,h⟩⟩;unfold vu;by_cases j:p.length<8
 ·rw [if_pos (by simp;omega)];exact no 1 ⟨by omega,by omega⟩
 rw [if_neg (by simp;omega)];have o:IntKind.i64.wrap ((p.length:Int)-4)=((p.length-4:Nat):Int):=by rw [aR (by omega) (by omega)];omega
 have s:sub p 0 ((p.length-4:Nat):Int)=some (p.take (p.length-4)):=by
  have:=BU (xs:=p) (f:=0) (i:=p.length-4) (by omega) (by omega);simpa using this
 have t:sub p ((p.length-4:Nat):Int) (p.length:Int)=some (p.drop (p.length-4)):=by
  rw [BU (by omega) (Nat.le_refl _),List.take_of_length_le (by rw [List.length_drop];omega)]
 obtain ⟨F,u,_⟩:=pH (xs:=p) (lo:=0) (hi:=3) ⟨by omega,by omega,by omega⟩;have w:idx p 3=some p[3]:=aH (i:=3) (by omega);have hb':dU (p.take (p.length-4)):=fun x c=>a x (List.mem_of_mem_take c);have hp':(p.take (p.length-4)).length≤1048576:=by rw [List.length_take];omega
 obtain ⟨r,A⟩:=RC hb' hp';obtain ⟨v,e,C⟩:=Pe hb' hp';rw [o,s,t,u,w];simp only [bS];split
 ·exact no 2 ⟨by omega,by omega⟩
 split
 ·exact no 3 ⟨by omega,by omega⟩
 rw [A,e];simp only [Option.bind_some,qQ];split
 ·exact no 4 ⟨by omega,by omega⟩
 obtain ⟨st,q⟩:=v
 cases q with
 | false=>exact no 5 ⟨by omega,by omega⟩
 | true =>
  have d:kK st:=C rfl;simp only [Bool.not_true,Bool.false_eq_true,if_false];by_cases g:wn st
  ·obtain ⟨r,_,l⟩:=NI d g;have D:dU (lX st++yk r):=dI (ww st) (Ii r);rw [l];simp only [bS];rw [Fe D a];by_cases h:lX st++yk r=p
   ·rw [decide_eq_true h];exact ⟨_,rfl,.inr ⟨⟨d,g,h▸l⟩,rfl⟩⟩
   rw [decide_eq_false h];exact no 5 ⟨by omega,by omega⟩
  rw [(Jw d g).2];simp only [bS];rw [Fe (fun x c=>by cases c) a,decide_eq_false fun h=>by rw [←h] at j;simp at j];exact no 5 ⟨by omega,by omega⟩
end Go.Vk
/- FnFlip answers true. -/
namespace Go.Vk
theorem Uy {y:Int} (g:0≤y):∃b:Nat,Gx y=some (b:Int)∧b<256∧b≠0:=by
 obtain ⟨n,rfl⟩:∃n:Nat,y=n:=⟨y.toNat,by omega⟩;have a:Int.tmod (n:Int) 8=((n%8:Nat):Int):=pD n 8;have h:n%8<8:=Nat.mod_lt _ (by omega);have j:(2:Nat)^(n%8)≤2^7:=Nat.pow_le_pow_right (by omega) (by omega);have l:0<(2:Nat)^(n%8):=Nat.pow_pos (by omega)
 have key:∀(d k i:Nat),i+d=n%8→d<k→rp (n:Int) k ((2^i:Nat):Int) (i:Int)=some ((2^(n%8):Nat):Int):=by
  intro d
  induction d with
  | zero =>
   intro k i c hk;obtain ⟨k,rfl⟩:=kS k (by omega);unfold rp;rw [a,if_neg (by simp;omega),show i=n%8 by omega,So (by omega)]
  | succ d ih =>
   intro k i c hk;obtain ⟨k,rfl⟩:=kS k (by omega);unfold rp;have f:(2:Nat)^i≤2^7:=Nat.pow_le_pow_right (by omega) (by omega)
   have e:IntKind.i64.wrap (2*((2^i:Nat):Int))=((2^(i+1):Nat):Int):=by
    rw [Nat.pow_succ];generalize (2:Nat)^i=q at f;rw [aR (by omega) (by omega)];omega
   rw [a,if_pos (decide_eq_true (by omega)),e,ax (by omega)];exact ih k (i+1) (by omega) (by omega)
 exact ⟨_,key (n%8) bb 0 (by omega) (cN (by omega)),by omega,by omega⟩
theorem Kz {p:List Int} (a:dU p) (d:p.length≤1048576) {i:Nat} (hi:i<100):∃v,vT p (i:Int)=some v∧0≤v∧v≤255:=by
 unfold vT;by_cases h:i<p.length
 ·rw [if_pos (by simp;omega),aH h];obtain ⟨c,h1⟩:=a p[i] (List.getElem_mem h);simp only [bS];rw [aR (by omega) (by omega)];exact ⟨_,rfl,c,h1⟩
 rw [if_neg (by simp;omega),aR (n:=(i:Int)*7) (by omega) (by omega),aR (n:=(i:Int)*7+(p.length:Int)) (by omega) (by omega),show (i:Int)*7+(p.length:Int)=((i*7+p.length:Nat):Int) by omega];have:Int.tmod ((i*7+p.length:Nat):Int) 256=(((i*7+p.length)%256:Nat):Int):=pD _ 256;rw [this];have:=Nat.mod_lt (i*7+p.length) (show 0<256 by omega);exact ⟨_,rfl,by omega,by omega⟩
theorem TB {st:aM} (o:kK st) (p:wn st) {r:Nat} (i:dX (lX st)=some (yk r)) {j:Nat} (s:j<(lX st++yk r).length) {c:Int} (t:0≤c∧c≤255) (a:c≠(lX st++yk r)[j]) {u:aM} (h:Rq ((lX st++yk r).set j c) u):False:=by
 obtain ⟨h1,v,w⟩:=h;obtain ⟨q,g,e⟩:=NI h1 v;have e:=Option.some.inj (w.symm.trans e);have A:=Cx (stG o p);have k:(yk r).length=4:=rfl;have m:(yk q).length=4:=rfl;by_cases d:j<(lX st).length
 ·rw [List.set_append_left _ _ d] at e;have f:=List.append_inj' e (by rw [k,m]);rw [List.getElem_append_left d] at a;rw [←f.1,←f.2] at g;exact UF (ww st) (by omega) d t a i g
 rw [List.set_append_right _ _ (by omega)] at e;have f:=List.append_inj' e (by rw [List.length_set,k,m]);rw [←f.1,i] at g;have x:=f.2.trans (Option.some.inj g).symm;rw [List.getElem_append_right (by omega)] at a;rw [List.length_append] at s;have hk:j-(lX st).length<(yk r).length:=by omega
 have:=congrArg (fun l=>l[j-(lX st).length]?) x;simp only [List.getElem?_set_self hk,List.getElem?_eq_getElem hk,Option.some.injEq] at this;exact a this
theorem MO {p:List Int} (q:dU p):zM p=some true:=by
 unfold zM Hc;simp only [bS];by_cases d:1048576<p.length
 ·rw [if_pos (by simp;omega)]
 have d:p.length≤1048576:=by omega
 rw [if_neg (by simp;omega)];obtain ⟨st,e,f⟩:=ME d;rw [e];simp only [bS];rcases (AQ f).cases with ⟨s,g⟩|⟨s,g⟩
 ·obtain ⟨r,H,L⟩:=NI f g;have hl:=Cx (stG f g);have u:dU (lX st++yk r):=dI (ww st) (Ii r);have l0:4≤(lX st).length:=by unfold lX zC;simp
  have l1:(lX st++yk r).length=(lX st).length+4:=by rw [List.length_append];rfl
  have no:=@TB st f g r H;rw [s,L];generalize lX st++yk r=b at *
  simp only [cS];rw [if_neg (by simp;omega)];refine tE (Lp:=fun k i=>ji b p k (i:Int)) (n:=6) (fun k=>?_) (fun k i hi=>?_) (by omega)
  ·show ji _ _ (k+1) _=_;rw [ji,if_neg (by simp)]
  show ji _ _ (k+1) _=ji _ _ k _;obtain ⟨h,M,a1,a2⟩:=Kz q d (i:=i) (by omega);obtain ⟨l,P,b1,b2⟩:=Kz q d (i:=i+7) (by omega);obtain ⟨c0,Q,c1,c2⟩:=Kz q d (i:=i+14) (by omega);obtain ⟨d0,R,X,d2⟩:=Kz q d (i:=i+21) (by omega);obtain ⟨t,Z,t1,t2⟩:=Uy X;have w7:IntKind.i64.wrap ((i:Int)+7)=((i+7:Nat):Int):=by rw [aR (by omega) (by omega)];omega
  have D:IntKind.i64.wrap ((i:Int)+14)=((i+14:Nat):Int):=by rw [aR (by omega) (by omega)];omega
  have E:IntKind.i64.wrap ((i:Int)+21)=((i+21:Nat):Int):=by rw [aR (by omega) (by omega)];omega
  rw [ji,if_pos (by simp;omega),bo (by simp;omega),w7,D,E,M,P,Q,R,ax (by omega)];simp only [Option.bind_some,List.nil_append];rw [aR (n:=h*65536) (by omega) (by omega),aR (n:=l*256) (by omega) (by omega),aR (n:=h*65536+l*256) (by omega) (by omega),aR (n:=h*65536+l*256+c0) (by omega) (by omega)];obtain ⟨m,hm⟩:∃m:Nat,h*65536+l*256+c0=m:=⟨(h*65536+l*256+c0).toNat,by omega⟩
  have w:rem (m:Int) (b.length:Int)=some ((m%b.length:Nat):Int):=by
   unfold rem;rw [if_neg (by omega),pD]
  have o:m%b.length<b.length:=Nat.mod_lt _ (by omega);rw [hm,w];generalize m%b.length=j at o;simp only [bS];rw [aH o,Z];simp only [Option.bind_some,Int.toNat_natCast];obtain ⟨x,hx⟩:∃x:Nat,b[j]=x:=⟨b[j].toNat,by have:=u _ (List.getElem_mem o);omega⟩;have F:x<256:=by have:=u _ (List.getElem_mem o);omega
  obtain ⟨x1,x2⟩:=WJ x t F t1;have b3:=Vc (a:=x) t2;rw [hx,x1];generalize x ^^^ t=y at *
  have G:dU (b.set j (y:Int)):=fun z A=>by
   rcases List.mem_or_eq_of_mem_set A with A|rfl
   ·exact u z A
   omega
  obtain ⟨v,e4,hv⟩:=KJ G (by rw [List.length_set];omega);rw [e4];rcases hv with ⟨C,v2,v3⟩|⟨C,_⟩
  ·simp only [bS];rw [C,if_neg (by simp;omega)]
  exact (no o (c:=(y:Int)) (by omega) (by omega) C).elim
 rw [s,(Jw f g).2];rfl
end Go.Vk
