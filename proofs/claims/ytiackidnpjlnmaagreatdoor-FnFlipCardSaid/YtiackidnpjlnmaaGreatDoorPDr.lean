/- Draws: they always answer. -/
import Derived.Test.YtiackidnpjlnmaaGreatDoorPBi
import Derived.Test.YtiackidnpjlnmaaGreatDoorPTr
import Derived.Test.YtiackidnpjlnmaaGreatDoorRX
import Derived.Test.YtiackidnpjlnmaaGreatDoorVkBr
import Derived.Test.YtiackidnpjlnmaaGreatDoorVkG
import Derived.Lib.ItoaLen
namespace Go.Vk
def Cur (p:List Int) (c:ak):Prop:=0≤c.i_∧c.i_≤p.length
abbrev TD {α:Type} (p:List Int) (o:Option (α×ak)) (Q:α→Prop):Prop:=Tot o (fun y=>Cur p y.2∧Q y.1)
theorem Ww {p:List Int} (hp:p.length≤1048576):Tot (yF p) (Cur p):=by
 unfold yF
 have key:∀(d k i:Nat) (h:Int),p.length-i=d→d<k→i≤p.length→Tot (oo p k h (i:Int)) (Cur p):=by
  intro d
  induction d with
  | zero =>
   intro k i h a hk hi;obtain ⟨k,rfl⟩:=kS k (by omega);rw [oo,if_neg (by simp;omega)];exact am ⟨by show (0:Int)≤0;omega,by show (0:Int)≤p.length;omega⟩
  | succ d ih =>
   intro k i h a hk hi;obtain ⟨k,rfl⟩:=kS k (by omega);rw [oo];refine aD (fun _=>?_) (fun _=>am ⟨by show (0:Int)≤0;omega,by show (0:Int)≤p.length;omega⟩);rw [aH (show i<p.length by omega),ax (by omega)];exact ih k (i+1) _ (by omega) (by omega) (by omega)
 exact key p.length bb 0 _ rfl (cN (by omega)) (Nat.zero_le _)
section
variable {p:List Int} (hp:p.length≤1048576)
include hp
theorem Ds {c:ak} (d:Cur p c):TD p (mz p c) (fun v=>0≤v∧v≤255):=by
 obtain ⟨a,h1⟩:=d;unfold mz;refine aD (fun h=>?_) (fun _=>am ⟨⟨a,h1⟩,RG _⟩);have h:c.i_<p.length:=by simpa using h
 refine (gb ⟨a,h⟩).bind fun v _=>am ⟨⟨?_,?_⟩,RG _⟩
 ·show 0≤IntKind.i64.wrap (c.i_+1);rw [aR (by omega) (by omega)];omega
 show IntKind.i64.wrap (c.i_+1)≤_;rw [aR (by omega) (by omega)];omega
theorem dC {c:ak} (d:Cur p c) (n:Int):TD p (bz p c n) (fun v=>0≤v∧(v<n∨v=0)):=by
 unfold bz;refine aD (fun _=>am ⟨d,by omega,.inr rfl⟩) (fun h=>?_);have h:0<n:=by simpa using h
 refine aD (fun _=>(Ds hp d).bind fun y e=>(Oy e.2.1 h).bind fun x a=>am ⟨e.1,a.1,.inl a.2⟩) (fun _=>?_);refine (Ds hp d).bind fun y1 h1=>(Ds hp h1.1).bind fun y2 f=>(Ds hp f.1).bind fun y3 g=>(Ds hp g.1).bind fun y4 i=>?_;obtain ⟨_,k,l⟩:=h1;obtain ⟨_,m,o⟩:=f;obtain ⟨_,q,r⟩:=g;obtain ⟨c4,s,t⟩:=i;have j:0≤y1.1*16777216+y2.1*65536+y3.1*256+y4.1:=by omega
 rw [aR (n:=y1.1*16777216) (by omega) (by omega),aR (n:=y2.1*65536) (by omega) (by omega),aR (n:=y1.1*16777216+y2.1*65536) (by omega) (by omega),aR (n:=y3.1*256) (by omega) (by omega),aR (n:=y1.1*16777216+y2.1*65536+y3.1*256) (by omega) (by omega),aR (n:=y1.1*16777216+y2.1*65536+y3.1*256+y4.1) (by omega) (by omega)];exact (Oy j h).bind fun x a=>am ⟨c4,a.1,.inl a.2⟩
theorem qj {c:ak} (a:Cur p c) (n:Int):TD p (fj p c n) (fun _=>True):=by
 unfold fj;exact (dC hp a n).bind fun y d=>am ⟨d.1,trivial⟩
theorem fC {c:ak} (d:Cur p c) {l:List Int} (f:0<l.length):TD p (aZ p c l) (fun v=>v∈l):=by
 unfold aZ;refine (dC hp d (l.length:Int)).bind fun y a=>?_;have:y.1<(l.length:Int):=by rcases a.2.2 with g|g<;>omega
 exact (gb ⟨a.2.1,this⟩).bind fun v e=>am ⟨a.1,e.1⟩
theorem MA {c:ak} (A:Cur p c) {n:Nat} (_:n≤1000):TD p (jS p c (n:Int)) jF:=by
 unfold jS
 have q:0≤Int.tmod (n:Int) 5∧Int.tmod (n:Int) 5<5:=by
  rw [Int.tmod_eq_emod_of_nonneg (by omega)];omega
 refine (gb ⟨q.1,by simpa using q.2⟩).bind fun e f=>?_
 have f:e.length≤1048576:=by
  have h:=f.1;simp only [List.mem_cons,List.not_mem_nil,or_false] at h;rcases h with rfl|rfl|rfl|rfl|rfl<;>simp
 refine (qj hp A 2).bind fun y r=>aD (fun _=>?_) (fun _=>?_)
 ·refine (dC hp r.1 3).bind fun y2 a=>(fC hp a.1 (by simp)).bind fun y3 t=>?_;obtain ⟨m,d⟩:∃m:Nat,y2.1=m:=⟨y2.1.toNat,by have:=a.2.1;omega⟩;have u:m≤2:=by rcases a.2.2 with g|g<;>omega
  refine cz (fun k (σ:Int×Int×List Int×Int) i=>du y2 p e k σ.1 σ.2.1 σ.2.2.1 σ.2.2.2 i) (1+m) (fun i σ=>Cur p ⟨σ.1,σ.2.1⟩∧σ.2.2.1.length=i∧(∀x∈σ.2.2.1,V x)∧V σ.2.2.2) (fun k σ h=>?_) (fun k σ i hi h hk=>?_) (by omega) (s:=(y3.2.i_,y3.2.h_,[],y3.1)) ⟨t.1,rfl,(fun x hx=>by cases hx),?_⟩
  ·obtain ⟨j,C,o,w⟩:=h;show Tot (du _ _ _ (k+1) _ _ _ _ _) _;rw [du,d,aR (by omega) (by omega),if_neg (by simp)];exact am ⟨j,f,⟨by show σ.2.2.1.length≤_;omega,o⟩,by simp,fun x hx=>by cases hx⟩
  ·obtain ⟨j,C,o,w⟩:=h;show Tot (du _ _ _ (k+1) _ _ _ _ _) _;rw [du,d,aR (n:=1+(m:Int)) (by omega) (by omega),if_pos (by simp;omega),bo (by simp;omega)];simp only [bS];refine (dC hp j 6).bind fun y4 D=>?_;rw [ax (by omega)];refine hk (_,_,_,_) ⟨D.1,by simp;omega,fun x hx=>?_,nS _⟩;rcases List.mem_append.1 hx with hx|hx
   ·exact o x hx
   rw [List.mem_singleton.1 hx];exact w
  have h:=t.2;simp only [List.mem_cons,List.not_mem_nil,or_false] at h;exact dK (by show -1000000000000≤y3.1∧y3.1≤_;omega)
 refine (dC hp r.1 3).bind fun y2 a=>?_;obtain ⟨m,d⟩:∃m:Nat,y2.1=m:=⟨y2.1.toNat,by have:=a.2.1;omega⟩;have u:m≤2:=by rcases a.2.2 with g|g<;>omega
 refine cz (fun k (l:List (List UInt8)) i=>dw y2 e k i l) (2+m) (fun i l=>l.length=i∧∀x∈l,x.length≤1048576) (fun k l h=>?_) (fun k l i hi h hk=>?_) (by omega) (s:=[]) ⟨rfl,fun x hx=>by cases hx⟩
 ·show Tot (dw _ _ (k+1) _ _) _;rw [dw,d,aR (by omega) (by omega),if_neg (by simp)];exact am ⟨a.1,f,⟨by simp,fun x hx=>by cases hx⟩,by show l.length≤_;omega,h.2⟩
 show Tot (dw _ _ (k+1) _ _) _;rw [dw,d,aR (n:=2+(m:Int)) (by omega) (by omega),if_pos (by simp;omega)];refine (gb ⟨by omega,by simp;omega⟩).bind fun v E=>?_;rw [bo (by simp;omega),ax (by omega)];refine hk _ ⟨by simp;omega,fun x hx=>?_⟩;rcases List.mem_append.1 hx with hx|hx
 ·exact h.2 x hx
 rw [List.mem_singleton.1 hx];have h:=E.1;simp only [List.mem_cons,List.not_mem_nil,or_false] at h;rcases h with rfl|rfl|rfl|rfl<;>simp
omit hp in
def CD (s:ae):Prop:=bi s∧s.c_.length≤8∧s.g_.length≤8
theorem LP {c:ak} (a:Cur p c):TD p (rY p c) (fun s=>CD s∧1≤s.c_.length∧s.c_.length≤5∧2≤s.g_.length∧s.g_.length≤3):=by
 unfold rY
 have key:∀(c:ak) (l:List (List UInt8)),Cur p c→2≤l.length→l.length≤3→(∀x∈l,x.length≤1048576)→TD p (mi p c.i_ c.h_ l) (fun s=>CD s∧1≤s.c_.length∧s.c_.length≤5∧2≤s.g_.length∧s.g_.length≤3):=by
  intro c l a j t hx;unfold mi;refine (dC hp (c:=⟨c.i_,c.h_⟩) a 5).bind fun y2 d=>?_;obtain ⟨m,o⟩:∃m:Nat,y2.1=m:=⟨y2.1.toNat,by have:=d.2.1;omega⟩;have v:m≤4:=by rcases d.2.2 with g|g<;>omega
  refine cz (fun k (σ:Int×Int×List aK) i=>jC y2 p l k σ.1 σ.2.1 σ.2.2 i) (1+m) (fun i σ=>Cur p ⟨σ.1,σ.2.1⟩∧σ.2.2.length=i∧∀x∈σ.2.2,jF x) (fun k σ h=>?_) (fun k σ i hi h hk=>?_) (by omega) (s:=(y2.2.i_,y2.2.h_,[])) ⟨d.1,rfl,fun x hx=>by cases hx⟩
  ·obtain ⟨e,u,f⟩:=h;show Tot (jC _ _ _ (k+1) _ _ _ _) _;rw [jC,o,aR (by omega) (by omega),if_neg (by simp)];exact am ⟨e,⟨⟨⟨by show σ.2.2.length≤_;omega,f⟩,by show l.length≤_;omega,hx⟩,by show σ.2.2.length≤_;omega,by show l.length≤_;omega⟩,by show _≤σ.2.2.length;omega,by show σ.2.2.length≤_;omega,j,t⟩
  obtain ⟨e,u,f⟩:=h;show Tot (jC _ _ _ (k+1) _ _ _ _) _;rw [jC,o,aR (n:=1+(m:Int)) (by omega) (by omega),if_pos (by simp;omega)];refine (MA hp e (by omega)).bind fun y3 q=>?_;rw [bo (by simp;omega),ax (by omega)];refine hk (_,_,_) ⟨q.1,by simp;omega,fun x hx=>?_⟩;rcases List.mem_append.1 hx with hx|hx
  ·exact f x hx
  rw [List.mem_singleton.1 hx];exact q.2
 refine (qj hp a 3).bind fun y r=>aD (fun _=>?_) (fun _=>key y.2 _ r.1 (by simp) (by simp) (fun x hx=>?_))
 ·rw [bo (by simp)];refine key y.2 _ r.1 (by simp) (by simp) (fun x hx=>?_);simp only [List.cons_append,List.nil_append,List.mem_cons,List.not_mem_nil,or_false] at hx;rcases hx with rfl|rfl|rfl<;>simp
 simp only [List.mem_cons,List.not_mem_nil,or_false] at hx;rcases hx with rfl|rfl<;>simp
theorem VO {c:ak} (a:Cur p c):TD p (li p c) (fun _=>True):=by
 unfold li;exact (fC hp a (by simp)).bind fun _ h1=>(fC hp h1.1 (by simp)).bind fun _ d=>(fC hp d.1 (by simp)).bind fun _ e=>(fC hp e.1 (by simp)).bind fun _ f=>(fC hp f.1 (by simp)).bind fun _ g=>(fC hp g.1 (by simp)).bind fun _ h=>(qj hp h.1 2).bind fun _ i=>am ⟨i.1,trivial⟩
theorem Dq {c:ak} (f:Cur p c) {s:ae} (g:CD s):TD p (mE p c s) (smI 8):=by
 have j:=g.2.1;unfold mE;refine cz (fun k (σ:Int×Int×List Int) i=>eH s p k σ.1 σ.2.1 σ.2.2 i) s.c_.length (fun i σ=>Cur p ⟨σ.1,σ.2.1⟩∧smI i σ.2.2) (fun k σ h=>?_) (fun k σ i hi h hk=>?_) (by omega) (s:=(c.i_,c.h_,[])) ⟨f,.nil _⟩
 ·obtain ⟨d,a⟩:=h;show Tot (eH _ _ (k+1) _ _ _ _) _;rw [eH,if_neg (by simp)];exact aD (fun _=>am ⟨d,by simp,fun x l=>by rw [List.mem_singleton.1 l];exact dK ⟨by omega,by omega⟩⟩) (fun _=>am ⟨d,a.mono j⟩)
 obtain ⟨d,a⟩:=h;have m:=a.1;show Tot (eH _ _ (k+1) _ _ _ _) _;rw [eH,if_pos (by simp;omega)];refine (qj hp d 4).bind fun y e=>aD (fun _=>?_) (fun _=>?_)
 ·rw [bo (by simp;omega),ax (by omega)];exact hk (_,_,_) ⟨e.1,a.app (dK ⟨by omega,by omega⟩) (Nat.le_refl _)⟩
 rw [ax (by omega)];exact hk (_,_,_) ⟨e.1,a.mono (Nat.le_succ _)⟩
omit hp in
def Om (f:aB):Prop:=V f.p_∧V f.f_
theorem RB {c:ak} (o:Cur p c) {s:ae} (q:CD s):TD p (vy p c s) Om:=by
 have A:=q.2.1;have z:V 0:=dK ⟨by omega,by omega⟩;unfold vy;refine cz (fun k (l:List aB) i=>fy s c p k l i) s.c_.length (fun i l=>l.length≤5*i∧∀f∈l,Om f) (fun k l h=>?_) (fun k l i hi h hk=>?_) (by omega) (s:=[]) ⟨by simp,fun x r=>by cases r⟩
 ·show Tot (fy _ _ _ (k+1) _ _) _;rw [fy,if_neg (by simp)];refine aD (fun _=>am ⟨o,z,z⟩) (fun u=>(dC hp o _).bind fun y m=>?_);have u:l.length≠0:=by simpa using u
  have:y.1<(l.length:Int):=by rcases m.2.2 with g|g<;>omega
  exact (gb ⟨m.2.1,this⟩).bind fun v w=>am ⟨m.1,h.2 v w.1⟩
 show Tot (fy _ _ _ (k+1) _ _) _;rw [fy,if_pos (by simp;omega)];show Tot (gz s (i:Int) (fy s c p k) bb l ((0:Int)-1)) _;refine cz (fun d (a:List aB) x=>gz s (i:Int) (fy s c p k) d a (x-1)) 5 (fun x a=>a.length≤5*i+x∧∀f∈a,Om f) (fun d a e=>?_) (fun d a x r e j=>?_) (by omega) ⟨by omega,h.2⟩
 ·show Tot (gz _ _ _ (d+1) _ _) _;rw [gz,if_neg (by simp),ax (by omega)];exact hk _ ⟨by omega,e.2⟩
 show Tot (gz _ _ _ (d+1) _ _) _;rw [gz,if_pos (by simp;omega),aR (n:=(x:Int)-1+1) (by omega) (by omega),show (x:Int)-1+1=((x+1:Nat):Int)-1 by omega];refine (Dec.t (po (f:=⟨(i:Int),(x:Int)-1⟩) q.1)).bind fun b _=>aD (fun _=>?_) (fun _=>j _ ⟨by omega,e.2⟩);rw [bo (by simp;omega)];refine j _ ⟨by simp;omega,fun f hf=>?_⟩;rcases List.mem_append.1 hf with hf|hf
 ·exact e.2 f hf
 rw [List.mem_singleton.1 hf];exact ⟨(dK ⟨by omega,by omega⟩:V (i:Int)),(dK ⟨by omega,by omega⟩:V ((x:Int)-1))⟩
omit hp in
theorem wu {l:List Int} {x:Int} (a:∀y∈l,V y) (h:x∈l):V x:=a x h
theorem Tq {c:ak} (g:Cur p c) {s:ae} (h:CD s):TD p (wN p c s) Om:=by
 unfold wN;refine (RB hp g h).bind fun f e=>(dC hp e.1 10).bind fun y a=>aD (fun _=>(fC hp a.1 (by simp)).bind fun z d=>am ⟨d.1,e.2.1,wu (fun y a=>?_) d.2⟩) (fun _=>aD (fun _=>(fC hp a.1 (by simp)).bind fun z d=>am ⟨d.1,wu (fun y a=>?_) d.2,e.2.2⟩) (fun _=>am ⟨a.1,e.2⟩))
 ·simp only [List.mem_cons,List.not_mem_nil,or_false] at a;unfold V;omega
 simp only [List.mem_cons,List.not_mem_nil,or_false] at a;unfold V;omega
theorem RL {c:ak} (g:Cur p c) {s:ae} (i:CD s):TD p (vC p c s) (smI 9):=by
 unfold vC;refine (Dq hp g i).bind fun f d=>(dC hp d.1 10).bind fun y a=>aD (fun _=>(fC hp a.1 (by simp)).bind fun z e=>?_) (fun _=>aD (fun _=>am ⟨a.1,.nil _⟩) (fun _=>am ⟨a.1,d.2.mono (by omega)⟩));have h:=d.2.1;rw [bo (by simp;omega)];refine am ⟨e.1,d.2.app (wu (fun y a=>?_) e.2) (Nat.le_refl _)⟩;simp only [List.mem_cons,List.not_mem_nil,or_false] at a;unfold V;omega
end
end Go.Vk
/- Trees drawn: they are there, and CJ. -/
namespace Go.Vk
theorem VL {a:aK} (h:jF a):T (kb a):=by
 rcases (xZ (yW h)).cases with ⟨_,g⟩|⟨e,_⟩
 ·rw [ut h g];exact bj _
 unfold kb;rw [e];simp only [sS];exact bj _
section
variable {p:List Int} (hp:p.length≤1048576)
include hp
theorem Hf {c:ak} (o:Cur p c) {s:ae} (m:CD s):TD p (pZ p c s) (fun e=>e.M_.length≤8):=by
 have r:=m.2.1;unfold pZ;refine cz (fun k (σ:Int×Int×List Int) i=>fB s p k σ.1 σ.2.1 σ.2.2 i) s.c_.length (fun i σ=>Cur p ⟨σ.1,σ.2.1⟩∧σ.2.2.length=i) (fun k σ h=>?_) (fun k σ i hi h hk=>?_) (by omega) (s:=(c.i_,c.h_,[])) ⟨o,rfl⟩
 ·obtain ⟨f,q⟩:=h;show Tot (fB _ _ (k+1) _ _ _ _) _;have d:σ.2.2.length≤8:=by omega
  rw [fB,if_neg (by simp)];refine (dC hp f _).bind fun y a=>?_;refine Tot.bind (P:=fun u=>Cur p ⟨u.2.1,u.2.2⟩∧(u.1=true→0<σ.2.2.length)) (aD (fun g=>(qj hp a.1 5).bind fun y2 j=>am ⟨j.1,fun _=>by simpa using g⟩) (fun _=>am ⟨a.1,fun h=>by cases h⟩)) (fun u l=>aD (fun g=>?_) (fun _=>am ⟨l.1,d⟩));simp only [Bool.and_eq_true,decide_eq_true_eq] at g;have t:=l.2 g.1;refine (gb ⟨by omega,by omega⟩).bind fun e _=>?_;unfold rem;rw [if_neg (by omega)];exact am ⟨l.1,d⟩
 obtain ⟨f,q⟩:=h;show Tot (fB _ _ (k+1) _ _ _ _) _;rw [fB,if_pos (by simp;omega),aH hi];refine (VL (m.1.1.2 _ (List.getElem_mem hi))).bind fun b _=>(dC hp f b).bind fun y a=>(qj hp a.1 9).bind fun y2 j=>?_
 have key:∀v:Int,Tot (mj σ.2.2 (fB s p k) (i:Int) y2.2.i_ y2.2.h_ v) (fun y=>Cur p y.2∧y.1.M_.length≤8):=by
  intro v;unfold mj;rw [bo (by simp;omega),ax (by omega)];exact hk (_,_,_) ⟨j.1,by simp;omega⟩
 exact aD (fun _=>key _) (fun _=>key _)
theorem ya {c:ak} (d:Cur p c) {n:Nat} (g:n≤1000):TD p (lr p c (n:Int)) (fun l=>l.length=n∧∀x∈l,0≤x∧x≤255):=by
 unfold lr;refine cz (fun k (σ:Int×Int×List Int) i=>iL (n:Int) p k σ.1 σ.2.1 σ.2.2 i) n (fun i σ=>Cur p ⟨σ.1,σ.2.1⟩∧σ.2.2.length=i∧∀x∈σ.2.2,0≤x∧x≤255) (fun k σ h=>?_) (fun k σ i hi h hk=>?_) (by omega) (s:=(c.i_,c.h_,[])) ⟨d,rfl,fun x hx=>by cases hx⟩
 ·show Tot (iL _ _ (k+1) _ _ _ _) _;rw [iL,if_neg (by simp)];exact am ⟨h.1,h.2⟩
 obtain ⟨e,j,f⟩:=h;show Tot (iL _ _ (k+1) _ _ _ _) _;rw [iL,if_pos (by simp;omega)];refine (Ds hp e).bind fun y a=>?_;rw [bo (by simp;omega),ax (by omega)];refine hk (_,_,_) ⟨a.1,by simp;omega,fun x hx=>?_⟩;rcases List.mem_append.1 hx with hx|hx
 ·exact f x hx
 rw [List.mem_singleton.1 hx,IntWalk.u8_in _ a.2];exact a.2
theorem TT {c:ak} (q:Cur p c) {s:ae} (a:CD s) (r:bZ) {n:Nat} (G:n≤60):Tot (tO p c s r (n:Int)) (fun y=>Cur p y.2.2∧gc 0 y.1):=by
 unfold tO;have z:V 0:=dK ⟨by omega,by omega⟩;have u:Tot (some (ao.mk [] 0)) (gc 0):=am ⟨⟨by simp,fun x f=>by cases f⟩,z⟩;refine (Dq hp q a).bind fun y d=>?_
 have v:Tot (nP s y.1) (gc 0):=by
  unfold nP;refine (sW a.1 (by have:=d.2.1;omega)).t.bind fun b _=>aD (fun _=>u) (fun _=>(yX a.1).bind fun st l=>?_);rw [bo (by have:=d.2.1;simp;omega)];refine am ⟨⟨by simp,fun x f=>?_⟩,z⟩;rw [List.mem_singleton.1 f];exact ⟨⟨z,z⟩,.nil _,z,l,z,d.2.mono (by omega),z,dK (x:=-1) ⟨by omega,by omega⟩,z⟩
 refine v.bind fun t A=>(dC hp d.1 _).bind fun y2 C=>?_;refine cz (fun k (σ:Int×Int×List aA×Int×List bW) i=>iI (n:Int) p s r y2 k σ.1 σ.2.1 σ.2.2.1 σ.2.2.2.1 σ.2.2.2.2 i) n (fun i σ=>Cur p ⟨σ.1,σ.2.1⟩∧gc 0 ⟨σ.2.2.1,σ.2.2.2.1⟩∧σ.2.2.2.2.length=i) (fun k σ h=>?_) (fun k σ i hi h hk=>?_) (by omega) (s:=(y2.2.i_,y2.2.h_,t.a_,t.m_,[])) ⟨C.1,A,rfl⟩
 ·obtain ⟨g,j,D⟩:=h;show Tot (iI _ _ _ _ _ (k+1) _ _ _ _ _ _) _;rw [iI,if_neg (by simp)];exact am ⟨g,j⟩
 obtain ⟨g,j,D⟩:=h;show Tot (iI _ _ _ _ _ (k+1) _ _ _ _ _ _) _;rw [iI,if_pos (by simp;omega)];refine (Hf hp g a).bind fun e E=>(ya hp E.1 (n:=8) (by omega)).bind fun b m=>(fC hp m.1 (by simp)).bind fun w F=>(JZ a.1 j (tape:=⟨b.1,0⟩) (by show b.1.length≤_;have:=m.2.1;omega)).bind fun H o=>?_;rw [bo (by simp;omega),ax (by omega)];exact hk (_,_,_,_,_) ⟨F.1,o.1,by simp;omega⟩
theorem Qp {c:ak} (a:Cur p c) {s:ae} (g:CD s):TD p (tZ p c s) (gc 0):=by
 unfold tZ;refine (VO hp a).bind fun r i=>(qj hp i.1 3).bind fun o d=>?_
 have key:∀(c:ak) (u:Int),Cur p c→TD p (lu p s r c.i_ c.h_ u) (gc 0):=by
  intro c u a;unfold lu;refine (fC hp (c:=⟨c.i_,c.h_⟩) a (by simp)).bind fun n e=>?_
  obtain ⟨m,j,f⟩:∃m:Nat,n.1=m∧m≤60:=by
   have h:=e.2;simp only [List.mem_cons,List.not_mem_nil,or_false] at h;exact ⟨n.1.toNat,by omega,by omega⟩
  rw [j];exact (TT hp e.1 g _ f).bind fun y k=>am k
 exact aD (fun _=>(fC hp d.1 (by simp)).bind fun u l=>key u.2 _ l.1) (fun _=>key o.2 _ d.1)
theorem RZ {c:ak} (r:Cur p c) {s:ae} (d:CD s):TD p (vH p c s) (sB 0):=by
 unfold vH;refine (yX d.1).bind fun st g=>(fC hp r (by simp)).bind fun n j=>?_
 obtain ⟨m,l,C⟩:∃m:Nat,n.1=m∧m≤60:=by
  have h:=j.2;simp only [List.mem_cons,List.not_mem_nil,or_false] at h;exact ⟨n.1.toNat,by omega,by omega⟩
 refine cz (fun k (σ:Int×Int×List Int×List (List Int)) i=>jx n p s k σ.1 σ.2.1 σ.2.2.1 σ.2.2.2 i) m (fun i σ=>Cur p ⟨σ.1,σ.2.1⟩∧sB 0 ⟨σ.2.2.1,σ.2.2.2⟩) (fun k σ h=>?_) (fun k σ i hi h hk=>?_) (by omega) (s:=(n.2.i_,n.2.h_,st.j_,st.d_)) ⟨j.1,g⟩
 ·obtain ⟨f,a⟩:=h;show Tot (jx _ _ _ (k+1) _ _ _ _ _) _;rw [jx,l,if_neg (by simp)];refine (qj hp f 8).bind fun o q=>aD (fun _=>?_) (fun _=>am ⟨q.1,a⟩);rw [KG (by have:=a.1.1;omega)];exact am ⟨q.1,a.1,by simp,fun x t=>by cases t⟩
 obtain ⟨f,a⟩:=h;show Tot (jx _ _ _ (k+1) _ _ _ _ _) _;rw [jx,l,if_pos (by simp;omega),ax (by omega)];exact (Hf hp f d).bind fun e u=>(fC hp u.1 (by simp)).bind fun w v=>(GA d.1 a).bind fun y A=>hk (_,_,_,_) ⟨v.1,A⟩
theorem Ty {c:ak} (o:Cur p c) {s:ae} (q:CD s):TD p (xk p c s) (sB 1):=by
 unfold xk;refine (RZ hp o q).bind fun st i=>(dC hp i.1 14).bind fun y a=>?_;obtain ⟨l,A,m⟩:=i.2;have d:=i.2.mono (d':=1) (by omega);have keep:TD p (some (st.1,y.2)) (sB 1):=am ⟨a.1,d⟩;refine aD (fun _=>aD (fun h=>(fC hp a.1 (by simp)).bind fun v j=>(gb ⟨by omega,by simpa using h⟩).bind fun _ _=>am ⟨j.1,(l.mono (by omega)).set (wu (fun y a=>?_) j.2) _,d.2⟩) (fun _=>keep)) (fun _=>aD (fun _=>?_) (fun _=>aD (fun _=>?_) (fun _=>aD (fun _=>aD (fun h=>?_) (fun _=>keep)) (fun _=>keep))))
 ·simp only [List.mem_cons,List.not_mem_nil,or_false] at a;unfold V;omega
 ·have h:=l.1;rw [bo (by simp;omega)];exact am ⟨a.1,l.app (dK ⟨by omega,by omega⟩) (by omega),d.2⟩
 ·refine Tot.bind (P:=fun u=>u=true→∃h:0<st.1.d_.length,0<(st.1.d_[0]).length) (aD (fun h=>?_) (fun _=>am fun h=>by cases h)) (fun u r=>aD (fun g=>?_) (fun _=>keep))
  ·have h:0<st.1.d_.length:=by simpa using h
   have k:idx st.1.d_ 0=some st.1.d_[0]:=aH h;rw [k];exact am fun g=>⟨h,by simpa using g⟩
  obtain ⟨h,t⟩:=r g;have k:idx st.1.d_ 0=some st.1.d_[0]:=aH h;have w:idx st.1.d_[0] 0=some st.1.d_[0][0]:=aH t;have f:=m _ (List.getElem_mem h);rw [k];simp only [bS];refine (fC hp a.1 (by simp)).bind fun v j=>?_;rw [w];refine am ⟨j.1,d.1,by show (st.1.d_.set _ _).length≤_;rw [List.length_set];omega,fun x e=>?_⟩;rcases List.mem_or_eq_of_mem_set e with e|rfl
  ·exact d.2.2 x e
  refine (f.mono (by omega)).set (wu (fun y a=>?_) j.2) _;simp only [List.mem_cons,List.not_mem_nil,or_false] at a;unfold V;omega
 have h:0<st.1.d_.length:=by simpa using h
 have k:idx st.1.d_ 0=some st.1.d_[0]:=aH h;have f:=m _ (List.getElem_mem h);have C:=f.1;rw [k];simp only [bS];rw [bo (by simp;omega)];refine am ⟨a.1,d.1,by show (st.1.d_.set _ _).length≤_;rw [List.length_set];omega,fun x e=>?_⟩;rcases List.mem_or_eq_of_mem_set e with e|rfl
 ·exact d.2.2 x e
 exact f.app (dK ⟨by omega,by omega⟩) (by omega)
theorem MF {c:ak} (Q:Cur p c) {s:ae} (F:CD s):TD p (sa p c s) (gc 1):=by
 unfold sa;refine (Qp hp Q F).bind fun y f=>?_;have R:=f.2.mono (d':=1) (by omega);obtain ⟨e,h⟩:=R;refine aD (fun _=>am ⟨f.1,e,h⟩) (fun M=>?_);have M:y.1.a_.length≠0:=by simpa using M
 refine (dC hp f.1 _).bind fun a L=>?_;obtain ⟨j,X⟩:∃j:Nat,a.1=j:=⟨a.1.toNat,by have:=L.2.1;omega⟩;have E:j<y.1.a_.length:=by rcases L.2.2 with g|g<;>omega
 have Z:=e.1;rw [X,aH E];have G:=f.2.1.2 _ (List.getElem_mem E);have D:=e.2 _ (List.getElem_mem E);obtain ⟨k,m,q,r,t,u,w,A,C⟩:=D;refine (dC hp L.1 22).bind fun o i=>?_;simp only [bS];refine aD (fun _=>(fC hp i.1 (by simp)).bind fun v d=>am ⟨d.1,e,wu (fun y f=>?_) d.2⟩) (fun _=>?_)
 ·simp only [List.mem_cons,List.not_mem_nil,or_false] at f;unfold V;omega
 refine aD (fun _=>(dC hp i.1 8).bind fun v d=>am ⟨d.1,gc.setN e (n:={y.1.a_[j] with r_:=v.1}) ⟨k,m,q,r,t,u,dK (x:=v.1) ⟨by have:=d.2;omega,by have:=d.2;omega⟩,A,C⟩ h _⟩) (fun _=>?_);refine aD (fun _=>(fC hp i.1 (by simp)).bind fun v d=>am ⟨d.1,gc.setN e (n:={y.1.a_[j] with F_:=v.1}) ⟨k,m,q,r,t,u,w,wu (fun y f=>?_) d.2,C⟩ h _⟩) (fun _=>?_)
 ·simp only [List.mem_cons,List.not_mem_nil,or_false] at f;unfold V;omega
 refine aD (fun _=>(fC hp i.1 (by simp)).bind fun v d=>?_) (fun _=>?_)
 ·have hk:=G.2.1.1;rw [bo (by simp;omega)];refine am ⟨d.1,gc.setN e (n:={y.1.a_[j] with z_:=y.1.a_[j].z_++[v.1]}) ⟨k,G.2.1.app (wu (fun y f=>?_) d.2) (by omega),q,r,t,u,w,A,C⟩ h _⟩;simp only [List.mem_cons,List.not_mem_nil,or_false] at f;rcases f with rfl|rfl|rfl|rfl
  ·exact dK ⟨by omega,by omega⟩
  ·exact dK ⟨by omega,by omega⟩
  ·exact nS _
  exact dK ⟨by omega,by omega⟩
 refine aD (fun _=>(fC hp i.1 (by simp)).bind fun v d=>am ⟨d.1,gc.setN e (n:={y.1.a_[j] with J_:=v.1}) ⟨k,m,wu (fun y f=>?_) d.2,r,t,u,w,A,C⟩ h _⟩) (fun _=>?_)
 ·simp only [List.mem_cons,List.not_mem_nil,or_false] at f;unfold V;omega
 refine aD (fun _=>(fC hp i.1 (by simp)).bind fun v d=>am ⟨d.1,gc.setN e (n:={y.1.a_[j] with I_:=v.1}) ⟨k,m,q,r,wu (fun y f=>?_) d.2,u,w,A,C⟩ h _⟩) (fun _=>?_)
 ·simp only [List.mem_cons,List.not_mem_nil,or_false] at f;unfold V;omega
 refine aD (fun _=>(fC hp i.1 (by simp)).bind fun v d=>am ⟨d.1,gc.setN e (n:={y.1.a_[j] with E_:=v.1}) ⟨k,m,q,r,t,u,w,A,wu (fun z P=>?_) d.2⟩ h _⟩) (fun _=>?_)
 ·simp only [List.mem_cons,List.not_mem_nil,or_false] at P;rcases P with rfl|rfl|rfl|rfl|rfl
  ·exact dK ⟨by omega,by omega⟩
  ·exact dK ⟨by omega,by omega⟩
  ·exact dK ⟨by omega,by omega⟩
  ·exact h
  exact nS _
 refine aD (fun _=>am ⟨i.1,gc.setN e (n:={y.1.a_[j] with A_:=(!y.1.a_[j].A_)}) ⟨k,m,q,r,t,u,w,A,C⟩ h _⟩) (fun _=>?_);refine aD (fun _=>(Tq hp i.1 F).bind fun v d=>am ⟨d.1,gc.setN e (n:={y.1.a_[j] with n_:=v.1}) ⟨d.2,m,q,r,t,u,w,A,C⟩ h _⟩) (fun _=>?_);refine aD (fun _=>(RL hp i.1 F).bind fun v d=>am ⟨d.1,gc.setN e (n:={y.1.a_[j] with c_:=v.1}) ⟨k,m,q,r,t,d.2.mono (by omega),w,A,C⟩ h _⟩) (fun _=>?_);refine aD (fun _=>(Ty hp i.1 F).bind fun v d=>am ⟨d.1,gc.setN e (n:={y.1.a_[j] with o_:=v.1}) ⟨k,m,q,d.2,t,u,w,A,C⟩ h _⟩) (fun _=>?_);refine aD (fun _=>?_) (fun _=>am ⟨i.1,e,h⟩);rw [aR (by omega) (by omega)];refine (pH ⟨by omega,by omega,by omega⟩).bind fun l H=>am ⟨i.1,⟨?_,fun n D=>?_⟩,h⟩
 ·show l.length≤40;rw [H];simp only [List.length_take,List.length_drop];omega
 have D:n∈l:=D;rw [H] at D;exact e.2 n (List.mem_of_mem_drop (List.mem_of_mem_take D))
end
end Go.Vk
/- Windows drawn: they are there, and CJ. -/
namespace Go.Vk
def fO (a b:Nat) (l:List (List Int)):Prop:=l.length≤a∧∀r∈l,smI b r
theorem fO.mono {a b a' b':Nat} (e:a≤a') (c:b≤b') {l:List (List Int)} (h:fO a b l):fO a' b' l:=⟨by have:=h.1;omega,fun r d=>(h.2 r d).mono c⟩
theorem fO.app {a b:Nat} {l:List (List Int)} {r:List Int} (h:fO a b l) (c:smI b r):fO (a+1) b (l++[r]):=⟨by have:=h.1;simp;omega,fun x hx=>by
 rcases List.mem_append.1 hx with hx|hx
 ·exact h.2 x hx
 rw [List.mem_singleton.1 hx];exact c⟩
theorem fO.set {a b:Nat} {l:List (List Int)} {r:List Int} (h:fO a b l) (d:smI b r) (i:Nat):fO a b (l.set i r):=⟨by rw [List.length_set];exact h.1,fun x c=>by
 rcases List.mem_or_eq_of_mem_set c with c|rfl
 ·exact h.2 x c
 exact d⟩
theorem tC {w:aw} (h:fO 100 1000 w.e_):lb w=some w:=by
 have a:=h.1;unfold lb
 rw [pz (p:=w.e_) id (mn w) (fun l=>some ⟨l⟩) (fun k l=>by rw [mn,if_neg (by simp)]) (fun k l i hi c=>by
  have d:=(h.2 _ (List.getElem_mem hi)).1;rw [mn,if_pos (by simp;omega),aH hi,ax (by omega)];simp only [bS];rw [bo (by simp;omega)];simp only [Option.bind_some,List.nil_append];rw [bo (by simp;omega)];rfl) (by omega),List.map_id]
theorem Mz {w:aw} {b:Int} (h:fO 8 12 w.e_):Tot (pl w b) (fun y=>fO 8 12 y.1.e_):=by
 unfold pl;rw [tC (h.mono (by omega) (by omega))];simp only [bS];refine kj (Ce w).t (by simp only [sS];exact am h) (fun C=>?_);simp only [sS];refine lO cE.t (by simp only [sS];exact am h) (fun H=>?_);simp only [sS]
 have s:fO 8 3 w.e_:=⟨C.1,fun r A=>by
  obtain ⟨i,hi,rfl⟩:=List.getElem_of_mem A;exact ⟨(C.2 i hi hi).1.2,(h.2 _ A).2⟩⟩
 have vb:V b:=dK ⟨by omega,by omega⟩
 have key:∀l:List (List Int),0<l.length→fO 8 3 l→Tot (kI b l) (fun y=>fO 8 12 y.1.e_):=by
  intro l c s;have v:=s.2 _ (List.getElem_mem c);have A:=v.1;have L:idx l 0=some l[0]:=aH c;unfold kI;rw [L];simp only [bS];rw [bo (by simp;omega)];simp only [bS];have M:fO 8 4 (l.set (0:Int).toNat (l[0]++[b])):=(s.mono (Nat.le_refl _) (by omega)).set (v.app vb (by omega)) _;refine cz (fun k (l:List (List Int)) i=>eF k l i) 8 (fun i l=>fO 8 (4+i) l) (fun k l c=>?_) (fun k l i hi c hk=>?_) (by omega) (M.mono (Nat.le_refl _) (by omega))
  ·show Tot (eF (k+1) _ _) _;rw [eF,if_neg (by simp)];exact am (c.mono (Nat.le_refl _) (by omega))
  show Tot (eF (k+1) _ _) _;have fin:fO 8 12 l:=c.mono (Nat.le_refl _) (by omega);have X:=c.1;rw [eF,if_pos (by simp;omega)];by_cases D:i<l.length
  ·have e:=c.2 _ (List.getElem_mem D);have Z:=e.1;rw [if_neg (by simp;omega),aH D];simp only [bS];refine aD (fun _=>am fin) (fun g=>?_);have g:3<l[i].length:=by simp at g;omega
   refine aD (fun _=>(pH ⟨by omega,by omega,by omega⟩).bind fun u a=>?_) (fun E=>(gb ⟨by omega,by omega⟩).bind fun P _=>(gb ⟨by omega,by omega⟩).bind fun Q _=>(pH ⟨by omega,by omega,by omega⟩).bind fun u a=>?_)
   ·have d:smI 12 u:=⟨by rw [a];simp only [List.length_take,List.length_drop];omega,fun x f=>e.2 x (by rw [a] at f;exact List.mem_of_mem_drop (List.mem_of_mem_take f))⟩;have a:=d.1;rw [bo (by simp;omega)];exact am (fin.set d _)
   have E:i≠7:=fun h=>E (by subst h;rfl);have d:smI (4+i) u:=⟨by rw [a];simp only [List.length_take,List.length_drop];omega,fun x f=>e.2 x (by rw [a] at f;exact List.mem_of_mem_drop (List.mem_of_mem_take f))⟩;have a:=d.1;rw [bo (by simp;omega),ax (by omega)];simp only [Option.bind_some,List.nil_append]
   have j:∀q:List (List Int),i+1<q.length→fO 8 (4+i) q→Tot (kJ (i:Int) P Q (eF k) q) (fun y=>fO 8 12 y.1.e_):=by
    intro q F G;have m:=G.2 _ (List.getElem_mem F);have a0:=m.1;unfold kJ;rw [ax (by omega),aH F];simp only [bS];rw [bo (by simp;omega)];exact hk _ ((G.mono (b':=4+(i+1)) (Nat.le_refl _) (by omega)).set (m.app (nS _) (by omega)) _)
   have o:fO 8 (4+i) (l.set (i:Int).toNat u):=c.set d _;refine aD (fun ge=>?_) (fun ge=>j _ ?_ o)
   ·have ge:i+1=l.length:=by simp at ge;omega
    rw [bo (by simp;omega)];refine j _ (by simp;omega) ⟨by simp;omega,(fO.app (r:=[]) o (.nil _)).2⟩
   have ge:i+1≠l.length:=by simp at ge;omega
   rw [List.length_set];omega
  rw [if_pos (by simp;omega)];simp only [sS];exact am fin
 refine aD (fun p=>?_) (fun p=>key _ (by have:w.e_.length≠0:=(by simpa using p);omega) s);have p:w.e_.length=0:=by simpa using p
 have R:w.e_=[]:=List.length_eq_zero_iff.1 p;rw [R,bo (by simp)];exact key [[]] (by simp) ⟨by simp,fun x f=>by rw [List.mem_singleton.1 f];exact .nil _⟩
theorem WE {i:Nat} (h:i≤8):V ((2^i:Nat):Int):=by
 have:(2:Nat)^i≤2^8:=Nat.pow_le_pow_right (by omega) h;generalize (2:Nat)^i=q at *
 exact dK ⟨by omega,by omega⟩
section
variable {p:List Int} (hp:p.length≤1048576)
include hp
theorem Rm {c:ak} (a:Cur p c) {n:Nat} (u:n≤90):TD p (rM p c (n:Int)) (fun l=>l.length≤90):=by
 unfold rM;rw [ax (by omega)];refine (dC hp a _).bind fun y1 h1=>(dC hp h1.1 _).bind fun y2 j=>(fC hp j.1 (by simp)).bind fun y3 r=>?_;obtain ⟨m,e⟩:∃m:Nat,y1.1=m:=⟨y1.1.toNat,by have:=h1.2.1;omega⟩;have t:m≤90:=by rcases h1.2.2 with g|g<;>omega
 refine cz (fun k (σ:Int×Int×List Int) i=>gr y1 y2 p y3 k σ.1 σ.2.1 σ.2.2 i) m (fun i σ=>Cur p ⟨σ.1,σ.2.1⟩∧σ.2.2.length=i) (fun k σ h=>?_) (fun k σ i hi h hk=>?_) (by omega) (s:=(y3.2.i_,y3.2.h_,[])) ⟨r.1,rfl⟩
 ·show Tot (gr _ _ _ _ (k+1) _ _ _ _) _;rw [gr,e,if_neg (by simp)];exact am ⟨h.1,by show σ.2.2.length≤90;have:=h.2;omega⟩
 obtain ⟨f,w⟩:=h;show Tot (gr _ _ _ _ (k+1) _ _ _ _) _;rw [gr,e,if_pos (by simp;omega)]
 have key:∀(c:ak) (q:Bool),Cur p c→Tot ((gQ q).bind fun y=>(app σ.2.2 [y]).bind fun l=>gr y1 y2 p y3 k c.i_ c.h_ l (IntKind.i64.wrap ((i:Int)+1))) (fun y=>Cur p y.2∧y.1.length≤90):=by
  intro c q a;have:T (gQ q):=by unfold gQ;exact aD (fun _=>bj _) (fun _=>bj _)
  refine this.bind fun v _=>?_;rw [bo (by simp;omega),ax (by omega)];exact hk (_,_,_) ⟨a,by simp;omega⟩
 exact aD (fun _=>(qj hp f _).bind fun o d=>key o.2 _ d.1) (fun _=>(qj hp f _).bind fun o d=>key o.2 _ d.1)
theorem Qd {c:ak} (L:Cur p c):TD p (tF p c) (fun w=>fO 8 12 w.e_):=by
 unfold tF;refine (qj hp L 5).bind fun o C=>aD (fun _=>(fC hp C.1 (by simp)).bind fun y a=>?_) (fun _=>(fC hp C.1 (by simp)).bind fun y a=>?_)
 ·obtain ⟨m,hm,d⟩:∃m:Nat,y.1=m∧m≤8:=by
   have h:=a.2;simp only [List.mem_cons,List.not_mem_nil,or_false] at h;exact ⟨y.1.toNat,by omega,by omega⟩
  refine cz (fun k (σ:Int×Int×List (List Int)) i=>fJ y p k σ.1 σ.2.1 σ.2.2 i) m (fun i σ=>Cur p ⟨σ.1,σ.2.1⟩∧fO i 12 σ.2.2) (fun k σ h=>?_) (fun k σ i hi h hk=>?_) (by omega) (s:=(y.2.i_,y.2.h_,[])) ⟨a.1,by simp,fun x r=>by cases r⟩
  ·show Tot (fJ _ _ (k+1) _ _ _ _) _;rw [fJ,hm,if_neg (by simp)];exact am ⟨h.1,h.2.mono d (Nat.le_refl _)⟩
  obtain ⟨M,D⟩:=h;show Tot (fJ _ _ (k+1) _ _ _ _) _;rw [fJ,hm,if_pos (by simp;omega)];refine (dC hp M 3).bind fun y2 t=>?_;obtain ⟨q,E⟩:∃q:Nat,y2.1=q:=⟨y2.1.toNat,by have:=t.2.1;omega⟩;have R:q≤2:=by rcases t.2.2 with g|g<;>omega
  refine cz (fun e (τ:Int×Int×List Int) j=>iH y2 (i:Int) p σ.2.2 (fJ y p k) e τ.1 τ.2.1 τ.2.2 j) (1+q) (fun j τ=>Cur p ⟨τ.1,τ.2.1⟩∧smI j τ.2.2) (fun e τ u=>?_) (fun e τ j X u F=>?_) (by omega) (s:=(y2.2.i_,y2.2.h_,[])) ⟨t.1,.nil _⟩
  ·obtain ⟨v,f⟩:=u;show Tot (iH _ _ _ _ _ (e+1) _ _ _ _) _;have gl:=D.1;rw [iH,E,aR (n:=1+(q:Int)) (by omega) (by omega),if_neg (by simp),bo (by simp;omega),ax (by omega)];exact hk (_,_,_) ⟨v,D.app (f.mono (by omega))⟩
  obtain ⟨v,f⟩:=u;show Tot (iH _ _ _ _ _ (e+1) _ _ _ _) _;rw [iH,E,aR (n:=1+(q:Int)) (by omega) (by omega),if_pos (by simp;omega),KH (by omega)];simp only [bS];refine (dC hp v _).bind fun y4 G=>(fC hp G.1 (by simp)).bind fun y5 H=>?_;have Z:=f.1;rw [bo (by simp;omega),ax (i:=j) (by omega)];refine F (_,_,_) ⟨H.1,f.app ?_ (Nat.le_refl _)⟩;have P:=WE (i:=i) (by omega);have hm:=H.2;simp only [List.mem_cons,List.not_mem_nil,or_false] at hm;rcases hm with hm|hm|hm
  ·rw [hm];exact dK ⟨by omega,by omega⟩
  ·rw [hm];exact P
  rw [hm];have p8:(2:Nat)^i≤2^8:=Nat.pow_le_pow_right (by omega) (by omega);have:=G.2;generalize (2:Nat)^i=z at *
  rw [aR (by omega) (by omega)] at this;exact dK ⟨by omega,by omega⟩
 obtain ⟨m,hm,d⟩:∃m:Nat,y.1=m∧m≤90:=by
  have h:=a.2;simp only [List.mem_cons,List.not_mem_nil,or_false] at h;exact ⟨y.1.toNat,by omega,by omega⟩
 rw [hm];refine (Rm hp a.1 d).bind fun z A=>?_;refine cz (fun k (l:List (List Int)) i=>iP z k i l) z.1.length (fun _ l=>fO 8 12 l) (fun k l h=>?_) (fun k l i hi h hk=>?_) (by have:=A.2;omega) (s:=[]) ⟨by simp,fun x r=>by cases r⟩
 ·show Tot (iP _ (k+1) _ _) _;rw [iP,if_neg (by simp)];exact am ⟨A.1,h⟩
 show Tot (iP _ (k+1) _ _) _;have:=A.2;rw [iP,if_pos (by simp;omega),aH hi,ax (by omega)];exact (Mz (w:=⟨l⟩) h).bind fun w Q=>hk _ Q
theorem LF {c:ak} (o:Cur p c):TD p (sd p c) (fun w=>fO 9 13 w.e_):=by
 unfold sd;refine (Qd hp o).bind fun w e=>(dC hp e.1 12).bind fun y a=>?_;have s:=e.2.1;have i:=e.2.mono (a':=9) (b':=13) (by omega) (by omega);have keep:TD p (some (w.1,y.2)) (fun w=>fO 9 13 w.e_):=am ⟨a.1,i⟩;refine aD (fun _=>?_) (fun _=>aD (fun _=>aD (fun g=>?_) (fun _=>keep)) (fun _=>aD (fun _=>?_) (fun _=>aD (fun _=>(fC hp a.1 (by simp)).bind fun v f=>?_) (fun _=>keep))))
 ·rw [bo (by simp;omega)];exact am ⟨a.1,((e.2.mono (Nat.le_refl _) (by omega)).app (.nil _):fO (8+1) 13 _)⟩
 ·have g:0<w.1.e_.length:=by simpa using g
  have q:idx w.1.e_ 0=some w.1.e_[0]:=aH g;have h:=e.2.2 _ (List.getElem_mem g);have t:=h.1;rw [q];simp only [bS];refine (fC hp a.1 (by simp)).bind fun v f=>?_;rw [bo (by simp;omega)];refine am ⟨f.1,i.set (h.app (wu (fun y a=>?_) f.2) (by omega)) _⟩;simp only [List.mem_cons,List.not_mem_nil,or_false] at a;unfold V;omega
 ·have key:∀(d k:Nat) (l:List (List Int)),9-l.length=d→d<k→fO 9 13 l→Tot (ma y k l) (fun z=>Cur p z.2∧fO 9 13 z.1.e_):=by
   intro d
   induction d with
   | zero =>
    intro k l r hk j;obtain ⟨k,rfl⟩:=kS k (by omega);rw [ma,if_neg (by simp;omega)];exact am ⟨a.1,j⟩
   | succ d ih =>
    intro k l r hk j;obtain ⟨k,rfl⟩:=kS k (by omega);rw [ma,if_pos (by simp;omega),bo (by simp;omega)];exact ih k _ (by simp;omega) (by omega) ⟨by simp;omega,(j.app ⟨by simp,fun x m=>by rw [List.mem_singleton.1 m];exact dK ⟨by omega,by omega⟩⟩).2⟩
  exact key _ bb _ rfl (cN (by omega)) i
 rw [bo (by simp;omega)];refine am ⟨f.1,((e.2.mono (Nat.le_refl _) (by omega)).app ⟨by simp,fun x m=>?_⟩:fO (8+1) 13 _)⟩;rw [List.mem_singleton.1 m];refine wu (fun y a=>?_) f.2;simp only [List.mem_cons,List.not_mem_nil,or_false] at a;unfold V;omega
end
end Go.Vk
/- The buckets of a window: alike. -/
namespace Go.Vk
def bk (p:aw):Nat→List cL
 | 0=>[]
 | c+1=>((p.e_[c]?).getD []).map (cL.mk ((2^c:Nat):Int))++bk p c
theorem Ro {p:aw} (h:Gc p):∀c,c≤p.e_.length→(bk p c).length≤3*c
 | 0,_=>by simp [bk]
 | c+1,a=>by
  have:=Ro h c (by omega);have:=((h.2 c (by omega)) (by omega)).1;have h':c<p.e_.length:=by omega
  simp [bk,h'];omega
theorem SQ {α β ρ:Type} {p:List α} (g:α→β) (l:List β) (Lp:Nat→List β→Int→Option ρ) (fin:List β→Option ρ)
  (a:∀k v,Lp (k+1) v (p.length:Int)=fin v)
  (c:∀k v (i:Nat) (h:i<p.length),v.length=l.length+i→Lp (k+1) v (i:Int)=Lp k (v++[g p[i]]) ((i+1:Nat):Int))
  (d:p.length<1000000000000):Lp bb l 0=fin (l++p.map g):=by
 have:=tE (Lp:=fun k i=>Lp k (l++(p.take i).map g) (i:Int)) (n:=p.length) (fin:=fin (l++p.map g)) (fun k=>by
  show Lp _ _ _=_
  rw [a,List.take_length]) (fun k i hi=>by
  show Lp _ _ _=Lp _ _ _;rw [c _ _ _ hi (by simp;omega),List.take_succ_eq_append_getElem hi,List.map_append,List.append_assoc];rfl) d
 simpa using this
theorem VT {p:aw} (h:Gc p):∀c k l,c≤p.e_.length→c<k→l.length+3*c≤1000→iq p k l ((c:Int)-1)=some (l++bk p c):=by
 intro c
 induction c with
 | zero =>
  intro k l _ hk a;obtain ⟨k,rfl⟩:=kS k (by omega);rw [iq,if_neg (by simp),bk,List.append_nil]
 | succ c ih =>
  intro k l g hk a;obtain ⟨k,rfl⟩:=kS k (by omega);have i:=h.1;have hc':c<p.e_.length:=by omega
  have m:=(h.2 c hc' hc').1;have e:((c+1:Nat):Int)-1=c:=by omega
  rw [e,iq,if_pos (by simp),SQ (p:=p.e_[c]) (cL.mk ((2^c:Nat):Int)) l (ml p c (iq p k)) (fun l=>iq p k l ((c:Int)-1)) (fun d v=>by
   rw [ml,aH hc'];simp only [bS]
   rw [if_neg (by simp),aR (by omega) (by omega)]) (fun d v j f o=>by
   rw [ml,aH hc'];simp only [bS];rw [if_pos (by simp;omega),aH f,KH (by omega),ax (by omega)];unfold app;simp only [bS];rw [if_pos (by simp;omega)];rfl) (by omega),ih k _ (by omega) (by omega) (by simp;omega)]
  simp [bk,hc']
end Go.Vk
/- Lists of words and of numbers: copied, compared, marked. -/
namespace Go.Vk
theorem SF {α:Type} (p:List α):(p.map fun _=>1).sum=p.length:=by induction p with|nil=>rfl|cons x p ih=>simp [ih];omega
end Go.Vk
/- Numbers and lists put into bytes. -/
namespace Go.Vk
def BS (n:Nat):List Int:=if h:n<128 then [(n:Int)] else ((n%128+128:Nat):Int)::BS (n / 128)
termination_by n
decreasing_by omega
theorem KI {n:Nat} (h:n<128):BS n=[(n:Int)]:=by unfold BS;rw [dif_pos h]
theorem Ob {n:Nat} (h:¬n<128):BS n=((n%128+128:Nat):Int)::BS (n / 128):=by rw [BS,dif_neg h]
theorem SW {n:Nat} (h:n<256):IntKind.u8.wrap (n:Int)=n:=by
 unfold IntKind.wrap;simp [IntKind.bits,IntKind.signed];omega
theorem Rd:∀(d k n:Nat) (l:List Int),n<128^(d+1)→n<9223372036854775808→d<k→l.length+d≤1000000 →
  oO k (n:Int) l=some (l++BS n)∧mY k (n:Int) l=some (l++BS n,false)∧(BS n).length≤d+1:=by
 intro d
 induction d with
 | zero =>
  intro k n l a c hk f;obtain ⟨k,rfl⟩:=kS k (by omega);unfold oO mY;simp at a;rw [if_neg (by simp;omega),if_neg (by simp;omega),SW (by omega),KI a,bo (by simp;omega)];exact ⟨rfl,rfl,by simp⟩
 | succ d ih =>
  intro k n l a c hk f;obtain ⟨k,rfl⟩:=kS k (by omega);unfold oO mY;by_cases e:n<128
  ·rw [if_neg (by simp;omega),if_neg (by simp;omega),SW (by omega),KI e,bo (by simp;omega)];exact ⟨rfl,rfl,by simp⟩
  rw [if_pos (by simp;omega),if_pos (by simp;omega),Sv n c,Wt _ (by omega),WW]
  have g:IntKind.i64.wrap (Int.tdiv (n:Int) 128)=((n / 128:Nat):Int):=by
   rw [show (128:Int)=((128:Nat):Int) from rfl,xV,gh (by omega)]
  have h:Int.tmod (n:Int) 128=((n%128:Nat):Int):=pD n 128;have i:IntKind.i64.wrap (((n%128:Nat):Int)+128)=((n%128+128:Nat):Int):=by rw [aR (by omega) (by omega)];simp
  rw [g,h,i,SW (by omega),bo (by simp;omega)];simp only [bS]
  obtain ⟨h1,j,m⟩:=ih k (n / 128) (l++[((n%128+128:Nat):Int)]) (by
   rw [Nat.div_lt_iff_lt_mul (by omega),←Nat.pow_succ];exact a) (by omega) (by omega) (by simp;omega)
  rw [h1,j,Ob e];exact ⟨by simp,by simp,by simp;omega⟩
def zig (x:Int):Nat:=if x<0 then (-2*x-1).toNat else (2*x).toNat
def InR (x:Int):Prop:=-1000000000≤x∧x≤1000000000
instance:DecidablePred InR:=fun _=>inferInstanceAs (Decidable (_∧_))
theorem Vl {x:Int} (h:InR x):zig x≤2000000000:=by obtain ⟨a,h1⟩:=h;unfold zig;split<;>omega
def nt (x:Int):List Int:=if InR x then BS (zig x) else []
theorem Jo {n:Nat} (h:n≤2147483647):uh (n:Int)=some (BS n)∧rn (n:Int)=some (BS n,false)∧(BS n).length≤5:=by
 unfold uh rn aV bf;simp only [bS];rw [qq (by omega)];simp only [Bool.not_true,Bool.false_eq_true,if_false];obtain ⟨h1,a,c⟩:=Rd 4 bb n [] (by omega) (by omega) (cN (by omega)) (by simp);exact ⟨by simpa using h1,by simpa using a,by simpa using c⟩
theorem fZ {x:Int}:dY x=some (nt x)∧wX x=some (nt x,decide ¬InR x)∧(nt x).length≤5:=by
 unfold dY wX aV bf nt;simp only [bS];by_cases a:InR x
 ·obtain ⟨h1,f,g⟩:=Jo (n:=zig x) (by have:=Vl a;omega);rw [if_pos a];have d:(decide ¬InR x)=false:=by simp [a]
  rw [d];obtain ⟨c1,c2⟩:=a;rw [qq ⟨c1,c2⟩];simp only [Bool.not_true,Bool.false_eq_true,if_false];by_cases c:x<0
  ·rw [if_pos (by simpa using c),if_pos (by simpa using c)]
   have e:IntKind.i64.wrap ((IntKind.i64.wrap (0-(IntKind.i64.wrap (2*x))))-1)=(zig x:Nat):=by
    rw [aR (n:=2*x) (by omega) (by omega),aR (n:=0-2*x) (by omega) (by omega),aR (by omega) (by omega)];unfold zig;rw [if_pos c];omega
   have e':IntKind.i64.wrap ((IntKind.i64.wrap ((-2)*x))-1)=(zig x:Nat):=by
    rw [aR (n:=-2*x) (by omega) (by omega),aR (by omega) (by omega)];unfold zig;rw [if_pos c];omega
   rw [e,e',h1,f];exact ⟨rfl,rfl,g⟩
  rw [if_neg (by simpa using c),if_neg (by simpa using c)]
  have e:IntKind.i64.wrap (2*x)=(zig x:Nat):=by
   rw [aR (n:=2*x) (by omega) (by omega)];unfold zig;rw [if_neg c];omega
  rw [e,h1,f];exact ⟨rfl,rfl,g⟩
 rw [if_neg a,ra (by exact a)];have d:(decide ¬InR x)=true:=by simp [a]
 rw [d];exact ⟨rfl,rfl,by simp⟩
def nU (xs:List Int):List Int:=xs.flatMap nt
theorem om (xs:List Int):(nU xs).length≤5*xs.length:=by
 induction xs with
 | nil=>simp [nU]
 | cons x xs ih => 
  have:=(fZ (x:=x)).2.2;simp only [nU,List.flatMap_cons,List.length_append,List.length_cons] at ih ⊢;omega
theorem BJ {p:List Int} (c:p.length<1000000000000):jm p=some (decide (∀x∈p,InR x)):=by
 unfold jm;refine LM (P:=InR) (uE p) (fun k=>?_) (fun k i h=>?_) c
 ·show (if _ then _ else _)=_;rw [if_neg (by simp)]
 show (if _ then _ else _)=_;rw [if_pos (by simp;omega),aH h,ax (by omega)];unfold aV;simp only [bS];by_cases a:InR p[i]
 ·rw [qq a,if_pos a];rfl
 rw [ra a,if_neg a];rfl
theorem IL {p:List Int} (a:p.length≤1048576) (l:List Int) (c:l.length≤1000000000):qS p bb l 0=some (l++nU p):=by
 rw [Dn (p:=p) (fun k s i=>qS p k s i) (fun s x=>.inr (s++nt x)) (fun s=>some s) (fun i s=>s.length≤l.length+5*i)
  (fun k s _=>by show (if _ then _ else _)=_;rw [if_neg (by simp)])
  (fun k s i h d=>⟨by
   show (if _ then _ else _)=_;rw [if_pos (by simp;omega),aH h,ax (by omega)];simp only [bS];rw [fZ.1];simp only [bS];rw [bo (by have:=(fZ (x:=p[i])).2.2;omega)]
   rfl,fun s' e=>by
   have:=(fZ (x:=p[i])).2.2;obtain rfl:=Sum.inr.inj e;rw [List.length_append];omega⟩) (by omega) l (by omega)]
 clear a c
 induction p generalizing l with
 | nil=>simp [run,nU]
 | cons x p ih=>show run _ _ (l++nt x) p=_;rw [ih];simp [nU]
theorem jw {p:List Int} (a:p.length≤1048576) (l:List Int) (q:Bool) (c:l.length≤1000000000):cx ⟨l,q⟩ p=some ⟨l++nU p,q||decide (¬ ∀x∈p,InR x)⟩:=by
 unfold cx;show jq p bb l q 0=_
 rw [show jq p bb l q 0=_ from Dn (p:=p) (fun k (s:List Int×Bool) i=>jq p k s.1 s.2 i) (fun s x=>.inr (s.1++nt x,s.2||decide ¬InR x)) (fun s=>some ⟨s.1,s.2⟩) (fun i s=>s.1.length≤l.length+5*i)
  (fun k s _=>by show (if _ then _ else _)=_;rw [if_neg (by simp)])
  (fun k s i h d=>⟨by
   show (if _ then _ else _)=_;rw [if_pos (by simp;omega),aH h,ax (by omega)];simp only [bS];rw [fZ.2.1];simp only [bS];rw [bo (by have:=(fZ (x:=p[i])).2.2;omega)]
   rfl,fun s' e=>by
   have:=(fZ (x:=p[i])).2.2;obtain rfl:=Sum.inr.inj e;show (s.1++_).length≤_;rw [List.length_append];omega⟩) (by omega) (l,q) (Nat.le_add_right _ _)]
 clear a c
 induction p generalizing l q with
 | nil=>simp [run,nU]
 | cons x p ih =>
  show run _ _ (l++nt x,q||decide ¬InR x) p=_;rw [ih];congr 2
  ·simp [nU]
  by_cases h:InR x<;>simp [h]
theorem Mw {p:List Int} (a:p.length≤1048576) (l:List Int) (q:Bool) (d:l.length≤900000000):fb ⟨l,q⟩ p=some ⟨l++nt p.length++nU p,q||decide (¬ ∀x∈p,InR x)⟩:=by
 unfold fb;rw [jw (by simp) l q (by omega)];have h1:InR (p.length:Int):=⟨by omega,by omega⟩;have c:nU [(p.length:Int)]=nt p.length:=by simp [nU]
 rw [c];simp only [bS];have:=(fZ (x:=(p.length:Int))).2.2;rw [jw a _ _ (by rw [List.length_append];omega)];simp [h1]
theorem Hw {p:List Int} (a:p.length≤1048576):mC p=some (if ∀x∈p,InR x then nt p.length++nU p else []):=by
 unfold mC;rw [BJ (by omega)];simp only [bS];by_cases h:∀x∈p,InR x
 ·rw [if_pos h,decide_eq_true h];simp only [Bool.not_true,Bool.false_eq_true,if_false];rw [fZ.1];simp only [bS];exact IL a _ (by have:=(fZ (x:=(p.length:Int))).2.2;omega)
 rw [if_neg h,decide_eq_false h];rfl
end Go.Vk
/- Windows: weighed, copied, put. -/
namespace Go.Vk
def CJ (n:Nat):Prop:=n<9223372036854775808
def AV (x:List (List Int)):Nat:=x.length+(x.map List.length).sum
def rD (p:List Int):Prop:=∀x∈p,InR x
instance:DecidablePred rD:=fun p=>inferInstanceAs (Decidable (∀x∈p,InR x))
def qg (p:List Int):List Int:=nt p.length++nU p
theorem dW (x:Int):(nt x).length≤5:=fZ.2.2
theorem mX (p:List Int):(qg p).length≤5*(1+p.length):=by
 have:=dW p.length;have:=om p;unfold qg;rw [List.length_append];omega
theorem tw (p:List (List Int)):(p.flatMap qg).length≤5*AV p:=by
 unfold AV
 induction p with
 | nil=>simp
 | cons x p ih =>
  have:=mX x;simp only [List.flatMap_cons,List.length_append,List.map_cons,List.sum_cons,List.length_cons];omega
theorem za {p:List (List Int)}:p.length≤AV p:=by unfold AV;omega
theorem CM {p:List (List Int)} {x:List Int} (h:x∈p):x.length≤AV p:=by
 have:=Ou (f:=List.length) h;unfold AV;omega
theorem uw {p:List Int} (a:p.length≤1048576) (c:rD p):mC p=some (qg p):=by
 rw [Hw a,if_pos (show ∀x∈p,InR x from c)];rfl
theorem zO {p:List (List Int)} (d:AV p≤1048576) (c:∀x∈p,rD x):nC p=some (nt p.length++p.flatMap qg):=by
 unfold nC;rw [fZ.1];simp only [bS];have h1:=tw p;have e:=dW p.length;have f:=@za p
 exact LU (p:=p) (σ:=Unit) (ρ:=List Int) qg (fun _ _=>()) (fun k l _ i=>qm p k l i) (fun l _=>some l)
  (fun k l q=>by show (if _ then _ else _)=_;rw [if_neg (by simp)])
  (fun k l q i h g=>by
   show (if _ then _ else _)=_;have a:=List.getElem_mem h;rw [if_pos (by simp;omega),aH h,ax (by omega)];simp only [bS];rw [uw (by have:=CM a;omega) (c _ a)];simp only [bS];rw [bo (by omega)];rfl) (by omega) _ () (by omega)
theorem rR {p:List Int} (a:p.length≤1048576) (l:List Int) (q:Bool) (c:l.length≤900000000):fb ⟨l,q⟩ p=some ⟨l++qg p,q||decide (¬rD p)⟩:=by
 rw [Mw a l q c,List.append_assoc];rfl
theorem Ck {ρ:Type} {p:List (List Int)} (d:AV p≤1048576) (Lp:Nat→List Int→Bool→Int→Option ρ) (fin:List Int→Bool→Option ρ)
  (step:∀k l q i,Lp (k+1) l q i=if decide (i<(p.length:Int)) then (idx p i).bind fun e=>(fb ⟨l,q⟩ e).bind fun y=>Lp k y.ad_ y.L_ (IntKind.i64.wrap (i+1)) else fin l q)
  (l:List Int) (q:Bool) (a:l.length≤700000000):Lp bb l q 0=fin (l++p.flatMap qg) (q||decide (¬ ∀x∈p,rD x)):=by
 have h1:=tw p;have f:=@za p;rw [←Jx]
 exact LU (p:=p) (σ:=Bool) qg (fun q x=>q||decide (¬rD x)) Lp fin
  (fun k l q=>by rw [step,if_neg (by simp)])
  (fun k l q i h a=>by
   have c:=List.getElem_mem h;rw [step,if_pos (by simp;omega),aH h,ax (by omega)];simp only [bS];rw [rR (by have:=CM c;omega) l q (by omega)];rfl) (by omega) _ q (by omega)
theorem Ix {x:aw} (c:AV x.e_≤1048576):pc x=some (if ∀r∈x.e_,rD r then nt x.e_.length++x.e_.flatMap qg else []):=by
 unfold pc;have e:=@za x.e_
 rw [Je (p:=x.e_) (P:=rD) (fin:=(nC x.e_).bind fun y=>some y) (bad:=some []) (sg x) (fun k=>by
  show (if _ then _ else _)=_
  rw [if_neg (by simp)]) (fun k i h=>by
  have d:=List.getElem_mem h;show (if _ then _ else _)=_;rw [if_pos (by simp;omega),aH h,ax (by omega)];simp only [bS];rw [BJ (by have:=CM d;omega)];simp only [bS];by_cases a:rD x.e_[i]
  ·rw [if_pos a,show (decide (∀y∈x.e_[i],InR y))=true from decide_eq_true a];rfl
  rw [if_neg a,show (decide (∀y∈x.e_[i],InR y))=false from decide_eq_false a];rfl) (by omega)]
 split
 ·rename_i a;rw [zO c a];rfl
 rfl
theorem Gn {n:Nat} (h:n≤1000000000):InR (n:Int):=⟨by omega,by omega⟩
theorem yU {x:Int} (a:InR x) (l:List Int) (q:Bool) (c:l.length≤1000000000):cx ⟨l,q⟩ [x]=some ⟨l++nt x,q⟩:=by
 rw [jw (by simp) l q c];simp [nU,a]
theorem RT {p:List (List Int)}:(p.map fun v=>1+v.length).sum=AV p:=by
 unfold AV
 induction p with
 | nil=>rfl
 | cons x p ih=>simp only [List.map_cons,List.sum_cons,List.length_cons];omega
end Go.Vk
/- Trees: weighed, copied, put, compared, marked. -/
namespace Go.Vk
def szM (x:aA):Nat:=x.z_.length+(x.o_.j_.length+AV x.o_.d_)+x.c_.length
def szU (x:ao):Nat:=x.a_.length+(x.a_.map szM).sum
theorem NP {x:ao} {y:aA} (a:y∈x.a_):szM y≤szU x:=by
 have:=Ou (f:=szM) a;unfold szU;omega
end Go.Vk
/- Trees, put. -/
namespace Go.Vk
def HP (b:Bool):Int:=if b then 1 else 0
def yj (x:aA):List Int :=
 nt (HP x.A_)++nt x.n_.p_++nt x.n_.f_++qg x.z_++nt x.J_++qg x.o_.j_++(nt x.o_.d_.length++x.o_.d_.flatMap qg)++nt x.I_++qg x.c_++nt x.r_++nt x.F_++nt x.E_
def Au (x:aA):Prop:=rD [x.n_.p_,x.n_.f_,x.J_,x.I_,x.r_,x.F_,x.E_]∧rD x.z_∧rD x.c_∧rD x.o_.j_∧∀y∈x.o_.d_,rD y
instance:DecidablePred Au:=fun _=>inferInstanceAs (Decidable (_∧_∧_∧_∧_))
theorem Jq (x:aA):(yj x).length≤5*(12+szM x):=by
 have a:=dW (HP x.A_);have c:=dW x.n_.p_;have d:=dW x.n_.f_;have e:=mX x.z_;have f:=dW x.J_;have g:=mX x.o_.j_;have h:=dW x.o_.d_.length;have i:=tw x.o_.d_;have j:=dW x.I_;have k:=mX x.c_;have l:=dW x.r_;have m:=dW x.F_;have o:=dW x.E_;unfold yj szM;simp only [List.length_append];omega
theorem Dz (b:Bool):gQ b=some (HP b)∧xY b=some (HP b):=by cases b<;>exact ⟨rfl,rfl⟩
theorem Kc (b:Bool):InR (HP b):=by cases b<;>decide
theorem AE {p:List Int} (h:p.length<1000000000000):jm p=some (decide (rD p)):=BJ h
theorem WC {A B C D E:Prop} [Decidable A] [Decidable B] [Decidable C] [Decidable D] [Decidable E] :
  ((if (!decide A)=true then some true else some !decide B).bind fun a=>(if a=true then some true else some !decide C).bind fun c=>(if c=true then some true else some !decide D).bind fun d=>if d=true then some false else some (decide E))=some (decide (A∧B∧C∧D∧E)):=by
 by_cases A<;>by_cases B<;>by_cases C<;>by_cases D<;>by_cases E<;>simp [*]
theorem LH {x:aA} (h:szM x≤1048576):sZ x=some (decide (Au x)):=by
 unfold szM at h;have e:=@za x.o_.d_
 have c:mR x bb 0=some (decide (∀y∈x.o_.d_,rD y)) :=
  LM (P:=rD) (p:=x.o_.d_) (mR x) (fun k=>by
   show (if _ then _ else _)=_
   rw [if_neg (by simp)]) (fun k i h=>by
   have d:=List.getElem_mem h;show (if _ then _ else _)=_;rw [if_pos (by simp;omega),aH h,ax (by omega)];simp only [bS];rw [AE (by have:=CM d;omega)];simp only [bS];by_cases a:rD x.o_.d_[i]
   ·rw [if_pos a,decide_eq_true a];rfl
   rw [if_neg a,decide_eq_false a];rfl) (by omega)
 unfold sZ;rw [AE (by simp),AE (p:=x.z_) (by omega),AE (p:=x.c_) (by omega),AE (p:=x.o_.j_) (by omega),c];simp only [bS];exact WC
theorem Nf {x:aA} (h:szM x≤1048576) (a:Au x):uV x=some (yj x):=by
 have g:=Jq x;unfold szM at h;have i:=@za x.o_.d_;obtain ⟨j,c,d,e,f⟩:=a;have k:=dW (HP x.A_);have l:=dW x.n_.p_;have m:=dW x.n_.f_;have o:=mX x.z_;have p:=dW x.J_;have q:=mX x.o_.j_;have r:=dW x.o_.d_.length;have s:=tw x.o_.d_;have t:=dW x.I_;have u:=mX x.c_;have v:=dW x.r_;have w:=dW x.F_;have A:=dW x.E_;unfold uV;rw [(Dz _).1];simp only [Option.bind_some,fZ.1];rw [bo (by omega)];simp only [bS];rw [bo (by simp only [List.length_append];omega)];simp only [bS];rw [uw (by omega) c];simp only [bS];rw [bo (by simp only [List.length_append];omega)];simp only [bS];rw [bo (by simp only [List.length_append];omega)];simp only [bS];rw [uw (by omega) e];simp only [bS];rw [bo (by simp only [List.length_append];omega)];simp only [bS];rw [zO (by omega) f];simp only [bS];rw [bo (by simp only [List.length_append];omega)];simp only [bS];rw [bo (by simp only [List.length_append];omega)];simp only [bS];rw [uw (by omega) d];simp only [bS];rw [bo (by simp only [List.length_append];omega)];simp only [bS];rw [bo (by simp only [List.length_append];omega)];simp only [bS];rw [bo (by simp only [List.length_append];omega)];simp only [bS];rw [bo (by simp only [List.length_append];omega)];rfl
theorem Hi (p:List aA):(p.flatMap yj).length≤60*p.length+5*(p.map szM).sum:=by
 induction p with
 | nil=>simp
 | cons x p ih =>
  have:=Jq x;simp only [List.flatMap_cons,List.length_append,List.map_cons,List.sum_cons,List.length_cons];omega
theorem MC {x:ao} (h:szU x≤1048576):rN x=some (if InR x.m_∧∀y∈x.a_,Au y then nt x.m_++nt x.a_.length++x.a_.flatMap yj else []):=by
 have p:x.a_.length≤1048576:=by unfold szU at h;omega
 have q:=Hi x.a_;have r:(x.a_.map szM).sum≤1048576:=by unfold szU at h;omega
 unfold rN;rw [AE (by simp)];simp only [bS];by_cases h1:InR x.m_
 ·have g:rD [x.m_]:=by intro y j;rw [List.mem_singleton.1 j];exact h1
  rw [decide_eq_true g];simp only [Bool.not_true,Bool.false_eq_true,if_false];rw [fZ.1,fZ.1];have s:=dW x.m_;have t:=dW x.a_.length;simp only [bS];rw [bo (by omega)];simp only [Option.bind_some,h1,true_and]
  have key:∀(d k i:Nat) (l:List Int),x.a_.length-i=d→d<k→i≤x.a_.length→l.length+((x.a_.drop i).flatMap yj).length≤800000000 →
    uN x k l (i:Int)=some (if ∀y∈x.a_.drop i,Au y then l++(x.a_.drop i).flatMap yj else []):=by
   intro d
   induction d with
   | zero =>
    intro k i l m hk hi a;obtain ⟨k,rfl⟩:=kS k (by omega);have:i=x.a_.length:=by omega
    subst this;show (if _ then _ else _)=_;rw [if_neg (by simp),List.drop_length];simp
   | succ d ih =>
    intro k i l m hk hi a;obtain ⟨k,rfl⟩:=kS k (by omega);have c:i<x.a_.length:=by omega
    have o:=List.getElem_mem c;have f:szM x.a_[i]≤1048576:=by have:=NP o;omega
    rw [List.drop_eq_getElem_cons c] at a ⊢;simp only [List.flatMap_cons,List.length_append] at a ⊢;show (if _ then _ else _)=_;rw [if_pos (by simp;omega),aH c];simp only [bS];rw [LH f];simp only [bS];by_cases e:Au x.a_[i]
    ·rw [decide_eq_true e];simp only [Bool.not_true,Bool.false_eq_true,if_false];rw [Nf f e];simp only [bS];rw [bo (by omega)];simp only [bS];rw [ax (by omega),ih k (i+1) _ (by omega) (by omega) (by omega) (by simp only [List.length_append];omega)];generalize List.drop (i+1) x.a_=D;simp [e]
    rw [decide_eq_false e];generalize List.drop (i+1) x.a_=D;simp [e]
  have:=key x.a_.length bb 0 (nt x.m_++nt x.a_.length) (by omega) (cN (by omega)) (by omega) (by simp only [List.length_append,List.drop_zero];omega);simpa using this
 have g:¬rD [x.m_]:=fun n=>h1 (n _ (List.mem_singleton.2 rfl));rw [decide_eq_false g];simp [h1]
theorem DK:nU []=[]:=rfl
theorem BG (x:Int) (xs:List Int):nU (x::xs)=nt x++nU xs:=List.flatMap_cons ..
theorem rv {M:Nat} {α σ ρ:Type} {p:List α} (B:α→List Int) (u:σ→α→σ) (Lp:Nat→List Int→σ→Int→Option ρ) (fin:List Int→σ→Option ρ)
  (e:∀k l q,Lp (k+1) l q (p.length:Int)=fin l q)
  (f:∀k l q (i:Nat) (h:i<p.length),l.length+(B p[i]).length≤M→Lp (k+1) l q (i:Int)=Lp k (l++B p[i]) (u q p[i]) ((i+1:Nat):Int))
  (j:p.length<1000000000000) (l:List Int) (q:σ) (a:l.length+(p.flatMap B).length≤M):Lp bb l q 0=fin (l++p.flatMap B) (p.foldl u q):=by
 have key:∀(d k i:Nat) (l:List Int) (q:σ),p.length-i=d→d<k→i≤p.length→l.length+((p.drop i).flatMap B).length≤M→Lp k l q (i:Int)=fin (l++(p.drop i).flatMap B) ((p.drop i).foldl u q):=by
  intro d
  induction d with
  | zero =>
   intro k i l q g hk hi a;obtain ⟨k,rfl⟩:=kS k (by omega);have:i=p.length:=by omega
   subst this;rw [e,List.drop_length];simp
  | succ d ih =>
   intro k i l q g hk hi a;obtain ⟨k,rfl⟩:=kS k (by omega);have c:i<p.length:=by omega
   rw [List.drop_eq_getElem_cons c] at a ⊢;simp only [List.flatMap_cons,List.length_append,List.foldl_cons] at a ⊢;rw [f k l q i c (by omega),ih k (i+1) _ _ (by omega) (by omega) (by omega) (by simp only [List.length_append];omega),List.append_assoc]
 have:=key p.length bb 0 l q (by omega) (cN (by omega)) (by omega) (by simpa using a);simpa using this
theorem zV {q:Bool} {A B:Prop} [Decidable A] [Decidable B]:((q||decide (¬A))||decide (¬B))=(q||decide (¬(A∧B))):=by
 by_cases A<;>by_cases B<;>simp [*]
theorem Ir {x:ao} {k i:Nat} {l:List Int} {q:Bool} (h:i<x.a_.length) (u:x.a_.length≤1048576) (d:szM x.a_[i]≤1048576) (f:l.length+(yj x.a_[i]).length≤400000000) :
  fR x (k+1) l q (i:Int)=fR x k (l++yj x.a_[i]) (q||decide (¬Au x.a_[i])) ((i+1:Nat):Int):=by
 show (if _ then _ else _)=_;rw [if_pos (by simp;omega),aH h];generalize x.a_[i]=e at d f;have hz':=d;unfold szM at hz';have v:=@za e.o_.d_;simp only [bS];rw [(Dz _).2];simp only [bS];have g:=om [HP e.A_,e.n_.p_,e.n_.f_];have w:=mX e.z_;have j:=om [e.J_];have A:=mX e.o_.j_;have m:=om [(e.o_.d_.length:Int)];have C:=tw e.o_.d_;have o:=om [e.I_];have D:=mX e.c_;have r:=om [e.r_,e.F_,e.E_];simp only [List.length_cons,List.length_nil] at g j m o r;rw [jw (by simp) _ _ (by omega)];simp only [bS];rw [rR (by omega) _ _ (by simp only [List.length_append];omega)];simp only [bS];rw [jw (by simp) _ _ (by simp only [List.length_append];omega)];simp only [bS];rw [rR (by omega) _ _ (by simp only [List.length_append];omega)];simp only [bS];rw [jw (by simp) _ _ (by simp only [List.length_append];omega)];simp only [bS];rw [Ck (p:=e.o_.d_) (by omega) (mW e (fR x k) i) _ (fun _ _ _ _=>rfl) _ _ (by simp only [List.length_append];omega),jw (by simp) _ _ (by simp only [List.length_append];omega)];simp only [bS];rw [rR (by omega) _ _ (by simp only [List.length_append];omega)];simp only [bS];rw [jw (by simp) _ _ (by simp only [List.length_append];omega)];simp only [bS];rw [ax (by omega)];congr 1
 ·simp only [yj,BG,DK,List.append_nil,List.append_assoc]
 rw [zV,zV,zV,zV,zV,zV,zV,zV];congr 1;refine decide_eq_decide.2 (not_congr ?_);have s:=Kc e.A_;have t:InR (e.o_.d_.length:Int):=Gn (by omega);unfold Au rD;simp only [List.forall_mem_cons,s,t,true_and];constructor
 ·rintro ⟨⟨c1,c2,_⟩,c3,⟨c4,_⟩,c5,_,c6,⟨c7,_⟩,c8,c9,a,c,_⟩;exact ⟨⟨c1,c2,c4,c7,c9,a,c,by simp⟩,c3,c8,c5,c6⟩
 rintro ⟨⟨c1,c2,c4,c7,c9,a,c,_⟩,c3,c8,c5,c6⟩;exact ⟨⟨c1,c2,by simp⟩,c3,⟨c4,by simp⟩,c5,by simp,c6,⟨c7,by simp⟩,c8,c9,a,c,by simp⟩
end Go.Vk
/- Checks: alike. -/
namespace Go.Vk
def uR (x:Nat):Nat:=if x%2=1 then (x / 2) ^^^ 3988292384 else x / 2
theorem Pk {x:Nat} (h:x<9223372036854775808):uR x<9223372036854775808:=by
 unfold uR;split
 ·have:(x / 2) ^^^ 3988292384<2^63:=Nat.xor_lt_two_pow (by omega) (by omega);omega
 omega
def pQ:Nat→Nat→Nat
 | 0,x=>x
 | n+1,x=>pQ n (uR x)
theorem Nz {n:Nat}:∀{x:Nat},x<9223372036854775808→pQ n x<9223372036854775808:=by
 induction n with
 | zero=>exact fun h=>h
 | succ n ih=>exact fun h=>ih (Pk h)
theorem MW (R:Int→Int→Option Int) (i:Int):∀(d k x j:Nat),8-j=d→j≤8→d<k→x<9223372036854775808→rq R i k (x:Int) (j:Int)=R (pQ d x:Nat) (IntKind.i64.wrap (i+1)):=by
 intro d
 induction d with
 | zero =>
  intro k x j e f hk g
  cases k with
  | zero=>omega
  | succ k =>
   unfold rq;rw [if_neg (by simp;omega)];rfl
 | succ d ih =>
  intro k x j e f hk g
  cases k with
  | zero=>omega
  | succ k =>
   unfold rq;rw [if_pos (by simp;omega)]
   have h:IntKind.i64.wrap (Int.tdiv (x:Int) 2)=((x / 2:Nat):Int):=by
    rw [show Int.tdiv (x:Int) 2=((x / 2:Nat):Int) from by rw [Int.tdiv_eq_ediv_of_nonneg (by omega)];simp];exact gh (by omega)
   have c:IntKind.i64.wrap ((j:Int)+1)=((j+1:Nat):Int):=by rw [aR (by omega) (by omega)];simp
   rw [h,c];have l:Int.tmod (x:Int) 2=((x%2:Nat):Int):=by rw [Int.tmod_eq_emod_of_nonneg (by omega)];simp
   rw [l];by_cases a:x%2=1
   ·rw [if_pos (by simp [a]),show (3988292384:Int)=((3988292384:Nat):Int) from rfl,(wQ (x / 2) 3988292384 (by omega) (by omega)).1];have:=ih k ((x / 2) ^^^ 3988292384) (j+1) (by omega) (by omega) (by omega) (wQ (x / 2) 3988292384 (by omega) (by omega)).2;rw [this];simp [pQ,uR,a]
   rw [if_neg (by simp;omega)];have:=ih k (x / 2) (j+1) (by omega) (by omega) (by omega) (by omega);rw [this];simp [pQ,uR,a]
theorem HA (R:Int→Int→Option Int) (i:Int):∀(d k x j:Nat),8-j=d→j≤8→d<k→x<9223372036854775808→pm R i k (j:Int) (x:Int)=R (pQ d x:Nat) (IntKind.i64.wrap (i+1)):=by
 intro d
 induction d with
 | zero =>
  intro k x j f g hk c
  cases k with
  | zero=>omega
  | succ k =>
   unfold pm;rw [if_neg (by simp;omega)];rfl
 | succ d ih =>
  intro k x j f g hk c
  cases k with
  | zero=>omega
  | succ k =>
   unfold pm;rw [if_pos (by simp;omega)];have e:IntKind.i64.wrap ((j:Int)+1)=((j+1:Nat):Int):=by rw [aR (by omega) (by omega)];simp
   rw [SM,e]
   have h:fv .and .i64 (x:Int) 1=((x%2:Nat):Int):=by
    rw [show (1:Int)=((1:Nat):Int) from rfl,NT x 1 c (by omega),Nat.and_one_is_mod]
   rw [h];by_cases a:x%2=1
   ·rw [if_pos (by simp [a]),show (3988292384:Int)=((3988292384:Nat):Int) from rfl,(wQ (x / 2) 3988292384 (by omega) (by omega)).1];have:=ih k ((x / 2) ^^^ 3988292384) (j+1) (by omega) (by omega) (by omega) (wQ (x / 2) 3988292384 (by omega) (by omega)).2;rw [this];simp [pQ,uR,a]
   rw [if_neg (by simp;omega)];have:=ih k (x / 2) (j+1) (by omega) (by omega) (by omega) (by omega);rw [this];simp [pQ,uR,a]
def dU (p:List Int):Prop:=∀x∈p,0≤x∧x≤255
theorem DE {p:List Int} (a:dU p) {i:Nat} (h:i<p.length):∃n:Nat,p[i]=(n:Int)∧n≤255:=by
 obtain ⟨c,h1⟩:=a p[i] (List.getElem_mem h);exact ⟨p[i].toNat,by omega,by omega⟩
theorem VZ {p:List Int} (h:dU p) (o:p.length≤1048576):∀(d k x i:Nat),p.length-i=d→i≤p.length→d<k→x<9223372036854775808→∃r:Nat,rk p k (x:Int) (i:Int)=some (r:Int)∧jv p k (x:Int) (i:Int)=some (r:Int)∧r<9223372036854775808:=by
 intro d
 induction d with
 | zero =>
  intro k x i j hi hk e
  cases k with
  | zero=>omega
  | succ k =>
   unfold rk jv;rw [if_neg (by simp;omega),if_neg (by simp;omega)];obtain ⟨h1,a⟩:=wQ x 4294967295 e (by omega);exact ⟨x ^^^ 4294967295,congrArg some h1,congrArg some h1,a⟩
 | succ d ih =>
  intro k x i j hi hk e
  cases k with
  | zero=>omega
  | succ k =>
   unfold rk jv;have c:i<p.length:=by omega
   rw [if_pos (by simp;omega),if_pos (by simp;omega),aH c];simp only [bS];obtain ⟨n,l,m⟩:=DE h c;rw [l,gh (n:=n) (by omega)];obtain ⟨h1,a⟩:=wQ x n e (by omega);rw [h1];have f:=MW (rk p k) i 8 bb (x ^^^ n) 0 (by omega) (by omega) (cN (by omega)) a;have g:=HA (jv p k) i 8 bb (x ^^^ n) 0 (by omega) (by omega) (cN (by omega)) a;rw [show ((0:Nat):Int)=0 from rfl] at f g;rw [f,g,show IntKind.i64.wrap ((i:Int)+1)=((i+1:Nat):Int) from by rw [aR (by omega) (by omega)];simp];exact ih k (pQ 8 (x ^^^ n)) (i+1) (by omega) (by omega) (by omega) (Nz a)
theorem Sw {p:List Int} (a:dU p) (c:p.length≤1048576):∃r:Nat,LT p=some (r:Int)∧ym p=some (r:Int)∧r<9223372036854775808 :=
 VZ a c p.length bb 4294967295 0 (by omega) (by omega) (cN (by omega)) (by omega)
theorem AD (x:Nat) {k:Nat} (h:k≤63):uJ .i64 (x:Int) k=((x / 2^k:Nat):Int):=by
 unfold uJ;have e:min ((k:Int).toNat) IntKind.i64.bits=k:=by show min k 64=k;omega
 rw [e,Int.fdiv_eq_ediv_of_nonneg _ (Int.le_of_lt (Int.pow_pos (by decide)))];simp
theorem uK (n:Nat):IntKind.u8.wrap (n:Int)=((n%256:Nat):Int):=by
 unfold IntKind.wrap;simp [IntKind.bits,IntKind.signed]
def yk (r:Nat):List Int:=[((r / 16777216%256:Nat):Int),((r / 65536%256:Nat):Int),((r / 256%256:Nat):Int),((r%256:Nat):Int)]
theorem WV {r:Nat} (h:r<9223372036854775808) (d:Nat):IntKind.u8.wrap (IntKind.i64.wrap (Int.tdiv (r:Int) (d:Int)))=((r / d%256:Nat):Int):=by
 rw [xV,gh (by have:=Nat.div_le_self r d;omega),uK]
theorem Wx {r:Nat} (h:r<9223372036854775808) (d:Nat):IntKind.u8.wrap (Int.tmod (IntKind.i64.wrap (Int.tdiv (r:Int) (d:Int))) 256)=((r / d%256:Nat):Int):=by
 rw [xV,gh (by have:=Nat.div_le_self r d;omega),show (256:Int)=((256:Nat):Int) from rfl,pD,uK,Nat.mod_mod]
theorem Qv {p:List Int} (f:dU p) (g:p.length≤1048576):∃s,nG p=some s∧dX p=some s∧s.length=4:=by
 obtain ⟨r,h1,h,e⟩:=Sw f g;refine ⟨yk r,?_,?_,rfl⟩
 ·unfold nG;rw [h1];simp only [bS];have a:=WV e 16777216;have c:=Wx e 65536;have d:=Wx e 256;have i:IntKind.u8.wrap (Int.tmod (r:Int) 256)=((r%256:Nat):Int):=by rw [show (256:Int)=((256:Nat):Int) from rfl,pD,uK,Nat.mod_mod]
  simp only [Int.cast_ofNat_Int] at a c d;rw [a,c,d,i];rfl
 unfold dX;rw [h];simp only [bS];have a:=AD r (k:=24) (by omega);have c:=AD r (k:=16) (by omega);have d:=AD r (k:=8) (by omega);simp only [Int.cast_ofNat_Int] at a c d;rw [a,c,d,uK,uK,uK,uK];rfl
end Go.Vk
/- Numbers in decimal, texts joined: alike. -/
namespace Go.Vk
open Go.Proofs
def I64 (x:Int):Prop:=-9223372036854775808≤x∧x≤9223372036854775807
theorem Ml {d:Nat} (h:d<10):kl ([IntKind.u8.wrap (IntKind.i64.wrap (48+(d:Int)))]:List Int)=[UInt8.ofNat (48+d)]:=by
 rw [aR (by omega) (by omega),IntWalk.u8_in _ (by omega)];have:((48:Int)+(d:Int)).toNat=48+d:=by omega
 simp [kl,this]
theorem LX {u:Nat} (a:0<u) (s:List UInt8):(if u / 10=0 then UInt8.ofNat (48+u%10)::s else Lib.decDigits (u / 10)++(UInt8.ofNat (48+u%10)::s))=Lib.decDigits u++s:=by
 by_cases h:u<10
 ·rw [if_pos (by omega),Lib.decDigits_one h,Nat.mod_eq_of_lt h];rfl
 rw [if_neg (by omega),Lib.decDigits.eq_def u,dif_neg h];simp
def Nq (p:Int) (s:List UInt8):Option (List UInt8):=if p<0 then some (45::s) else some s
theorem Gj {p:Int} {k:Nat} {s:List UInt8} (a:s.length≤1000):ie p (k+1) 0 s=Nq p s:=by
 rw [ie,if_neg (by simp)];unfold Nq qw;by_cases h:p<0
 ·rw [if_pos (by simpa using h),if_pos h,if_pos (by simp;omega)];rfl
 rw [if_neg (by simpa using h),if_neg h]
theorem Uj (p:Int):∀(d u k:Nat) (s:List UInt8),u<10^d→u≤9223372036854775808→d<k→s.length+d≤1000→ie p k (u:Int) s=Nq p (if u=0 then s else Lib.decDigits u++s):=by
 intro d
 induction d with
 | zero =>
  intro u k s a _ hk g;obtain ⟨k,rfl⟩:=kS k (by omega);have:u=0:=by simpa using a
  subst this;rw [if_pos rfl];exact Gj (by omega)
 | succ d ih =>
  intro u k s a h hk g;obtain ⟨k,rfl⟩:=kS k (by omega);by_cases e:u=0
  ·subst e;rw [if_pos rfl];exact Gj (by omega)
  have c:=pD u 10;have f:=xV u 10;simp only [Int.cast_ofNat_Int] at c f;rw [ie,if_pos (by simp;omega),if_neg (by rw [c];simp;omega),c];unfold pb;rw [Ml (Nat.mod_lt _ (by omega)),f,aR (by omega) (by omega)];unfold qw;rw [if_pos (by simp;omega)];simp only [Option.bind_some,List.cons_append,List.nil_append];rw [ih (u / 10) k _ (by rw [Nat.pow_succ] at a;omega) (by omega) (by omega) (by simp;omega),if_neg e,LX (by omega)]
theorem UH (p:Int):∀(d u k:Nat) (s:List UInt8),u<10^d→u≤9223372036854775808→d<k→s.length+d≤1000→ie p k (-(u:Int)) s=Nq p (if u=0 then s else Lib.decDigits u++s):=by
 intro d
 induction d with
 | zero =>
  intro u k s a _ hk i;obtain ⟨k,rfl⟩:=kS k (by omega);have:u=0:=by simpa using a
  subst this;rw [if_pos rfl];exact Gj (by omega)
 | succ d ih =>
  intro u k s a j hk i;obtain ⟨k,rfl⟩:=kS k (by omega);by_cases f:u=0
  ·subst f;rw [if_pos rfl];exact Gj (by omega)
  have g:=pD u 10;have h:=xV u 10;simp only [Int.cast_ofNat_Int] at g h;have hr':Int.tmod (-(u:Int)) 10=-((u%10:Nat):Int):=by rw [Int.neg_tmod,g]
  have hd':Int.tdiv (-(u:Int)) 10=-((u / 10:Nat):Int):=by rw [Int.neg_tdiv,h]
  have c:pb s (ie p k) (-(u:Int)) ((u%10:Nat):Int)=Nq p (Lib.decDigits u++s):=by
   unfold pb;rw [Ml (Nat.mod_lt _ (by omega)),hd',aR (by omega) (by omega)];unfold qw;rw [if_pos (by simp;omega)];simp only [Option.bind_some,List.cons_append,List.nil_append];rw [ih (u / 10) k _ (by rw [Nat.pow_succ] at a;omega) (by omega) (by omega) (by simp;omega),LX (by omega)]
  rw [ie,if_pos (by simp;omega),hr',if_neg f];by_cases e:u%10=0
  ·rw [if_neg (by rw [e];simp),e];rw [e] at c;exact c
  rw [if_pos (by simp;omega),aR (by omega) (by omega),show (0:Int) - -((u%10:Nat):Int)=((u%10:Nat):Int) by omega];exact c
theorem GP {n:Int} (h:I64 n):xh n=some (Lib.itoa n):=by
 obtain ⟨d,h1⟩:=h;unfold xh;by_cases c:n=0
 ·subst c;rw [if_pos (by simp)];unfold Lib.itoa;rw [if_neg (by omega),show (0:Int).toNat=0 from rfl,Lib.decDigits_one (by omega)];rfl
 rw [if_neg (by simpa using c)];by_cases a:n<0
 ·obtain ⟨u,rfl⟩:∃u:Nat,n=-(u:Int):=⟨n.natAbs,by omega⟩;rw [UH _ 20 u bb [] (by have:(10:Nat)^20=100000000000000000000:=(by decide);omega) (by omega) (cN (by omega)) (by simp),if_neg (by omega)];unfold Nq Lib.itoa;rw [if_pos a,if_pos a,show (-(u:Int)).natAbs=u by omega,List.append_nil]
 obtain ⟨u,rfl⟩:∃u:Nat,n=(u:Int):=⟨n.toNat,by omega⟩;rw [Uj _ 20 u bb [] (by have:(10:Nat)^20=100000000000000000000:=(by decide);omega) (by omega) (cN (by omega)) (by simp),if_neg (by omega)];unfold Nq Lib.itoa;rw [if_neg a,if_neg a,Int.toNat_natCast,List.append_nil]
theorem HK {n:Int} (h:I64 n):ud n=some (Lib.itoa n):=by
 unfold ud NW;rw [if_pos ⟨h.1,h.2⟩];rfl
theorem Si {n:Int} (h:I64 n):(Lib.itoa n).length≤21:=Lib.itoa_length_le n h.1 h.2
theorem vq {a b:List UInt8} (h:a.length+b.length≤68719476736):qw a b=some (a++b):=if_pos h
theorem PC (xs:List (List UInt8)) (x sep:List UInt8):Lib.join (xs++[x]) sep=if xs=[] then x else Lib.join xs sep++sep++x:=by
 cases xs with
 | nil=>simp [Lib.join_one]
 | cons y r =>
  rw [List.cons_append,Lib.join_cons,Lib.join_cons,if_neg (by simp)];simp [Lib.joinTail]
theorem JU (xs:List (List UInt8)) (sep:List UInt8):∀n,(Lib.join (xs.take n) sep).length≤(Lib.join xs sep).length:=by
 intro n
 cases xs with
 | nil=>simp
 | cons x r =>
  cases n with
  | zero=>simp [Lib.join_nil]
  | succ n =>
   rw [List.take_succ_cons,Lib.join_cons,Lib.join_cons];simp only [List.length_append,Lib.joinTail]
   have:((r.take n).map (sep ++ ·)).flatten.length≤(r.map (sep ++ ·)).flatten.length:=by
    rw [List.map_take];conv=>rhs;rw [←List.take_append_drop n (r.map (sep ++ ·)),List.flatten_append,List.length_append]
    omega
   omega
theorem CY {xs:List (List UInt8)} {sep:List UInt8} (h:xs.length≤1000000000) (j:(Lib.join xs sep).length≤1000000000) (_:sep.length≤1000):my xs sep=some (Lib.join xs sep):=by
 unfold my;refine tE (Lp:=fun k i=>ij xs sep k (Lib.join (xs.take i) sep) (i:Int)) (n:=xs.length) (fun k=>?_) (fun k i hi=>?_) (by omega)
 ·show ij xs sep (k+1) _ _=_;rw [ij,if_neg (by simp),List.take_length]
 show ij xs sep (k+1) _ _=ij xs sep k _ _;have g:xs.take (i+1)=xs.take i++[xs[i]]:=List.take_succ_eq_append_getElem hi;have h1:=JU xs sep (i+1);have a:=PC (xs.take i) xs[i] sep;rw [←g] at a;by_cases c:i=0
 ·subst c;rw [if_pos (by simp)] at a;rw [a] at h1 ⊢;rw [ij,if_pos (by simp;omega),if_neg (by simp)];unfold rV;rw [aH hi,ax (by omega)];simp only [Option.bind_some,List.take_zero,Lib.join_nil];rw [vq (by simp;omega)];rfl
 have d:¬xs.take i=[]:=by
  intro e;have f:(xs.take i).length=i:=by rw [List.length_take];omega
  rw [e] at f;exact c f.symm
 rw [if_neg d] at a;rw [a] at h1 ⊢;simp only [List.length_append] at h1;rw [ij,if_pos (by simp;omega),if_pos (by simp;omega),vq (by omega)];unfold rV;simp only [bS];rw [aH hi,ax (by omega)];simp only [bS];rw [vq (by simp only [List.length_append];omega)];rfl
theorem CP {xs:List (List UInt8)} {sep:List UInt8} (a:xs.length≤1000000000) (c:(Lib.join xs sep).length≤1000000000):zW xs sep=some (Lib.join xs sep):=by
 unfold zW;rw [if_pos ⟨by omega,by omega⟩]
theorem Dk {xs:List (List UInt8)} {sep:List UInt8} {b:Nat} (h:∀x∈xs,x.length≤b):(Lib.join xs sep).length≤(sep.length+b)*xs.length:=by
 cases xs with
 | nil=>simp [Lib.join_nil]
 | cons x r =>
  rw [Lib.join_cons,List.length_append];have c:=h x (by simp)
  have:(Lib.joinTail sep r).length≤(sep.length+b)*r.length:=by
   unfold Lib.joinTail;have a:∀y∈r,y.length≤b:=fun y d=>h y (by simp [d]);clear h c
   induction r with
   | nil=>simp
   | cons y r ih =>
    have h1:=a y (by simp);have f:=ih (fun z e=>a z (by simp [e]));simp only [List.map_cons,List.flatten_cons,List.length_append,List.length_cons,Nat.mul_succ];omega
  simp only [List.length_cons,Nat.mul_succ];omega
theorem KQ {p:List Int} {sep:List UInt8} (a:pF p) (f:sep.length≤100):pM p sep=some (Lib.join (p.map Lib.itoa) sep)∧(Lib.join (p.map Lib.itoa) sep).length≤121*p.length:=by
 have g:=a.1
 have c:(Lib.join (p.map Lib.itoa) sep).length≤121*p.length:=by
  have:=Dk (xs:=p.map Lib.itoa) (sep:=sep) (b:=21) (fun x d=>by
   obtain ⟨n,e,rfl⟩:=List.mem_map.1 d;exact Si (a.2 n e))
  rw [List.length_map] at this;exact Nat.le_trans this (Nat.mul_le_mul_right _ (by omega))
 refine ⟨?_,c⟩;unfold pM;refine pz (p:=p) Lib.itoa (fun k l i=>fN p sep k i l) (fun l=>(zW l sep).bind fun s=>some s) (fun k l=>?_) (fun k l i h hi=>?_) (by omega) |>.trans ?_
 ·show fN p sep (k+1) _ l=_;rw [fN,if_neg (by simp)]
 ·show fN p sep (k+1) _ l=_;rw [fN,if_pos (by simp;omega),aH h,ax (by omega)];simp only [bS];rw [HK (a.2 _ (List.getElem_mem h))];simp only [bS];rw [bo (by simp;omega)];rfl
 rw [CP (by simp;omega) (by omega)];rfl
end Go.Vk
