/- Draws: they always answer. -/
import Derived.Test.YtnjemlncpeekkaaGreatDoorPBi
import Derived.Test.YtnjemlncpeekkaaGreatDoorPTr
import Derived.Test.YtnjemlncpeekkaaGreatDoorRX
import Derived.Test.YtnjemlncpeekkaaGreatDoorVkBr
import Derived.Test.YtnjemlncpeekkaaGreatDoorVkG
import Derived.Lib.ItoaLen
import Derived.Test.YtnjemlncpeekkaaGreatDoorVkBs
namespace Go.Vk
def Cur (p:List Int)(c:aK):Prop:=0≤c.i_∧c.i_≤p.length
abbrev TD {α:Type}(p:List Int)(o:Option (α×aK))(Q:α→Prop):Prop:=Tot o (fun y=>Cur p y.2∧Q y.1)
theorem WS {p:List Int}(hp:p.length≤1048576):Tot (zj p) (Cur p):=by
 unfold zj
 have key:∀(d k i:Nat)(h:Int),p.length-i=d→d<k→i≤p.length→Tot (oZ p k h (i:Int)) (Cur p):=by
  intro d
  induction d with
  | zero =>
   intro k i h a hk c;obtain ⟨k,rfl⟩:=kS k (by omega);rw [oZ,if_neg (by simp;omega)];exact ar ⟨by show (0:Int)≤0;omega,by show (0:Int)≤p.length;omega⟩
  | succ d ih =>
   intro k i h a hk c;obtain ⟨k,rfl⟩:=kS k (by omega);rw [oZ];refine aZ (fun _=>?_) (fun _=>ar ⟨by show (0:Int)≤0;omega,by show (0:Int)≤p.length;omega⟩);rw [aH (show i<p.length by omega),ax (by omega)];exact ih k (i+1) _ (by omega) (by omega) (by omega)
 exact key p.length aY 0 _ rfl (cx (by omega)) (Nat.zero_le _)
section
variable {p:List Int} (hp:p.length≤1048576)
include hp
theorem BY {c:aK}(d:Cur p c):TD p (lu p c) (fun v=>0≤v∧v≤255):=by
 obtain ⟨a,h1⟩:=d;unfold lu;refine aZ (fun h=>?_) (fun _=>ar ⟨⟨a,h1⟩,RP _⟩);have h:c.i_<p.length:=by simpa using h
 refine (ga ⟨a,h⟩).bind fun v _=>ar ⟨⟨?_,?_⟩,RP _⟩
 ·show 0≤IntKind.i64.wrap (c.i_+1);rw [aP (by omega) (by omega)];omega
 show IntKind.i64.wrap (c.i_+1)≤_;rw [aP (by omega) (by omega)];omega
theorem jk {c:aK}(d:Cur p c)(n:Int):TD p (cV p c n) (fun v=>0≤v∧(v<n∨v=0)):=by
 unfold cV;refine aZ (fun _=>ar ⟨d,by omega,.inr rfl⟩) (fun h=>?_);have h:0<n:=by simpa using h
 refine aZ (fun _=>(BY hp d).bind fun y e=>(Ph e.2.1 h).bind fun x a=>ar ⟨e.1,a.1,.inl a.2⟩) (fun _=>?_);refine (BY hp d).bind fun y1 h1=>(BY hp h1.1).bind fun y2 f=>(BY hp f.1).bind fun y3 g=>(BY hp g.1).bind fun y4 i=>?_;obtain ⟨_,k,l⟩:=h1;obtain ⟨_,m,o⟩:=f;obtain ⟨_,q,r⟩:=g;obtain ⟨c4,s,t⟩:=i;have j:0≤y1.1*16777216+y2.1*65536+y3.1*256+y4.1:=by omega
 rw [aP (n:=y1.1*16777216) (by omega) (by omega),aP (n:=y2.1*65536) (by omega) (by omega),aP (n:=y1.1*16777216+y2.1*65536) (by omega) (by omega),aP (n:=y3.1*256) (by omega) (by omega),aP (n:=y1.1*16777216+y2.1*65536+y3.1*256) (by omega) (by omega),aP (n:=y1.1*16777216+y2.1*65536+y3.1*256+y4.1) (by omega) (by omega)];exact (Ph j h).bind fun x a=>ar ⟨c4,a.1,.inl a.2⟩
theorem Ay {c:aK}(a:Cur p c)(n:Int):TD p (kD p c n) (fun _=>True):=by
 unfold kD;exact (jk hp a n).bind fun y d=>ar ⟨d.1,trivial⟩
theorem KQ {c:aK}(d:Cur p c){l:List Int}(f:0<l.length):TD p (eh p c l) (fun v=>v∈l):=by
 unfold eh;refine (jk hp d (l.length:Int)).bind fun y a=>?_;have:y.1<(l.length:Int):=by rcases a.2.2 with g|g<;>omega
 exact (ga ⟨a.2.1,this⟩).bind fun v e=>ar ⟨a.1,e.1⟩
theorem Nq {c:aK}(A:Cur p c){n:Nat}(_:n≤1000):TD p (qB p c (n:Int)) jK:=by
 unfold qB
 have q:0≤Int.tmod (n:Int) 5∧Int.tmod (n:Int) 5<5:=by
  rw [Int.tmod_eq_emod_of_nonneg (by omega)];omega
 refine (ga ⟨q.1,by simpa using q.2⟩).bind fun e f=>?_
 have f:e.length≤1048576:=by
  have h:=f.1;simp only [List.mem_cons,List.not_mem_nil,or_false] at h;rcases h with rfl|rfl|rfl|rfl|rfl<;>simp
 refine (Ay hp A 2).bind fun y r=>aZ (fun _=>?_) (fun _=>?_)
 ·refine (jk hp r.1 3).bind fun y2 a=>(KQ hp a.1 (by simp)).bind fun y3 t=>?_;obtain ⟨m,d⟩:∃m:Nat,y2.1=m:=⟨y2.1.toNat,by have:=a.2.1;omega⟩;have u:m≤2:=by rcases a.2.2 with g|g<;>omega
  refine dj (fun k (σ:Int×Int×List Int×Int) i=>fT y2 p e k σ.1 σ.2.1 σ.2.2.1 σ.2.2.2 i) (1+m) (fun i σ=>Cur p ⟨σ.1,σ.2.1⟩∧σ.2.2.1.length=i∧(∀x∈σ.2.2.1,V x)∧V σ.2.2.2) (fun k σ h=>?_) (fun k σ i C h hk=>?_) (by omega) (s:=(y3.2.i_,y3.2.h_,[],y3.1)) ⟨t.1,rfl,(fun x hx=>by cases hx),?_⟩
  ·obtain ⟨j,D,o,w⟩:=h;show Tot (fT _ _ _ (k+1) _ _ _ _ _) _;rw [fT,d,aP (by omega) (by omega),if_neg (by simp)];exact ar ⟨j,f,⟨by show σ.2.2.1.length≤_;omega,o⟩,by simp,fun x hx=>by cases hx⟩
  ·obtain ⟨j,D,o,w⟩:=h;show Tot (fT _ _ _ (k+1) _ _ _ _ _) _;rw [fT,d,aP (n:=1+(m:Int)) (by omega) (by omega),if_pos (by simp;omega),bC (by simp;omega)];simp only [bS];refine (jk hp j 6).bind fun y4 E=>?_;rw [ax (by omega)];refine hk (_,_,_,_) ⟨E.1,by simp;omega,fun x hx=>?_,tG _⟩;rcases List.mem_append.1 hx with hx|hx
   ·exact o x hx
   rw [List.mem_singleton.1 hx];exact w
  have h:=t.2;simp only [List.mem_cons,List.not_mem_nil,or_false] at h;exact ko (by show -1000000000000≤y3.1∧y3.1≤_;omega)
 refine (jk hp r.1 3).bind fun y2 a=>?_;obtain ⟨m,d⟩:∃m:Nat,y2.1=m:=⟨y2.1.toNat,by have:=a.2.1;omega⟩;have u:m≤2:=by rcases a.2.2 with g|g<;>omega
 refine dj (fun k (l:List (List UInt8)) i=>fU y2 e k i l) (2+m) (fun i l=>l.length=i∧∀x∈l,x.length≤1048576) (fun k l h=>?_) (fun k l i C h hk=>?_) (by omega) (s:=[]) ⟨rfl,fun x hx=>by cases hx⟩
 ·show Tot (fU _ _ (k+1) _ _) _;rw [fU,d,aP (by omega) (by omega),if_neg (by simp)];exact ar ⟨a.1,f,⟨by simp,fun x hx=>by cases hx⟩,by show l.length≤_;omega,h.2⟩
 show Tot (fU _ _ (k+1) _ _) _;rw [fU,d,aP (n:=2+(m:Int)) (by omega) (by omega),if_pos (by simp;omega)];refine (ga ⟨by omega,by simp;omega⟩).bind fun v F=>?_;rw [bC (by simp;omega),ax (by omega)];refine hk _ ⟨by simp;omega,fun x hx=>?_⟩;rcases List.mem_append.1 hx with hx|hx
 ·exact h.2 x hx
 rw [List.mem_singleton.1 hx];have h:=F.1;simp only [List.mem_cons,List.not_mem_nil,or_false] at h;rcases h with rfl|rfl|rfl|rfl<;>simp
omit hp in
def UK (s:ae):Prop:=ba s∧s.c_.length≤8∧s.f_.length≤8
theorem RQ {c:aK}(a:Cur p c):TD p (wb p c) (fun s=>UK s∧1≤s.c_.length∧s.c_.length≤5∧2≤s.f_.length∧s.f_.length≤3):=by
 unfold wb
 have key:∀(c:aK)(l:List (List UInt8)),Cur p c→2≤l.length→l.length≤3→(∀x∈l,x.length≤1048576)→TD p (my p c.i_ c.h_ l) (fun s=>UK s∧1≤s.c_.length∧s.c_.length≤5∧2≤s.f_.length∧s.f_.length≤3):=by
  intro c l a j t hx;unfold my;refine (jk hp (c:=⟨c.i_,c.h_⟩) a 5).bind fun y2 d=>?_;obtain ⟨m,o⟩:∃m:Nat,y2.1=m:=⟨y2.1.toNat,by have:=d.2.1;omega⟩;have v:m≤4:=by rcases d.2.2 with g|g<;>omega
  refine dj (fun k (σ:Int×Int×List aD) i=>jw y2 p l k σ.1 σ.2.1 σ.2.2 i) (1+m) (fun i σ=>Cur p ⟨σ.1,σ.2.1⟩∧σ.2.2.length=i∧∀x∈σ.2.2,jK x) (fun k σ h=>?_) (fun k σ i w h hk=>?_) (by omega) (s:=(y2.2.i_,y2.2.h_,[])) ⟨d.1,rfl,fun x hx=>by cases hx⟩
  ·obtain ⟨e,u,f⟩:=h;show Tot (jw _ _ _ (k+1) _ _ _ _) _;rw [jw,o,aP (by omega) (by omega),if_neg (by simp)];exact ar ⟨e,⟨⟨⟨by show σ.2.2.length≤_;omega,f⟩,by show l.length≤_;omega,hx⟩,by show σ.2.2.length≤_;omega,by show l.length≤_;omega⟩,by show _≤σ.2.2.length;omega,by show σ.2.2.length≤_;omega,j,t⟩
  obtain ⟨e,u,f⟩:=h;show Tot (jw _ _ _ (k+1) _ _ _ _) _;rw [jw,o,aP (n:=1+(m:Int)) (by omega) (by omega),if_pos (by simp;omega)];refine (Nq hp e (by omega)).bind fun y3 q=>?_;rw [bC (by simp;omega),ax (by omega)];refine hk (_,_,_) ⟨q.1,by simp;omega,fun x hx=>?_⟩;rcases List.mem_append.1 hx with hx|hx
  ·exact f x hx
  rw [List.mem_singleton.1 hx];exact q.2
 refine (Ay hp a 3).bind fun y r=>aZ (fun _=>?_) (fun _=>key y.2 _ r.1 (by simp) (by simp) (fun x hx=>?_))
 ·rw [bC (by simp)];refine key y.2 _ r.1 (by simp) (by simp) (fun x hx=>?_);simp only [List.cons_append,List.nil_append,List.mem_cons,List.not_mem_nil,or_false] at hx;rcases hx with rfl|rfl|rfl<;>simp
 simp only [List.mem_cons,List.not_mem_nil,or_false] at hx;rcases hx with rfl|rfl<;>simp
end
end Go.Vk
/- Trees drawn: they are there, and CT. -/
namespace Go.Vk
theorem Wr {a:aD}(h:jK a):T (jU a):=by
 rcases (yK (yO h)).cases with ⟨_,g⟩|⟨e,_⟩
 ·rw [uM h g];exact bj _
 unfold jU;rw [e];simp only [sS];exact bj _
section
variable {p:List Int} (hp:p.length≤1048576)
include hp
theorem Ty {c:aK}(q:Cur p c){s:ae}(m:UK s):TD p (vX p c s) (fun e=>e.O_.length≤8):=by
 have t:=m.2.1;unfold vX;refine dj (fun k (σ:Int×Int×List Int) i=>fK s p k σ.1 σ.2.1 σ.2.2 i) s.c_.length (fun i σ=>Cur p ⟨σ.1,σ.2.1⟩∧σ.2.2.length=i) (fun k σ h=>?_) (fun k σ i o h hk=>?_) (by omega) (s:=(c.i_,c.h_,[])) ⟨q,rfl⟩
 ·obtain ⟨f,r⟩:=h;show Tot (fK _ _ (k+1) _ _ _ _) _;have d:σ.2.2.length≤8:=by omega
  rw [fK,if_neg (by simp)];refine (jk hp f _).bind fun y a=>?_;refine Tot.bind (P:=fun u=>Cur p ⟨u.2.1,u.2.2⟩∧(u.1=true→0<σ.2.2.length)) (aZ (fun g=>(Ay hp a.1 5).bind fun y2 j=>ar ⟨j.1,fun _=>by simpa using g⟩) (fun _=>ar ⟨a.1,fun h=>by cases h⟩)) (fun u l=>aZ (fun g=>?_) (fun _=>ar ⟨l.1,d⟩));simp only [Bool.and_eq_true,decide_eq_true_eq] at g;have w:=l.2 g.1;refine (ga ⟨by omega,by omega⟩).bind fun e _=>?_;unfold rem;rw [if_neg (by omega)];exact ar ⟨l.1,d⟩
 obtain ⟨f,r⟩:=h;show Tot (fK _ _ (k+1) _ _ _ _) _;rw [fK,if_pos (by simp;omega),aH o];refine (Wr (m.1.1.2 _ (List.getElem_mem o))).bind fun b _=>(jk hp f b).bind fun y a=>(Ay hp a.1 9).bind fun y2 j=>?_
 have key:∀v:Int,Tot (mG σ.2.2 (fK s p k) (i:Int) y2.2.i_ y2.2.h_ v) (fun y=>Cur p y.2∧y.1.O_.length≤8):=by
  intro v;unfold mG;rw [bC (by simp;omega),ax (by omega)];exact hk (_,_,_) ⟨j.1,by simp;omega⟩
 exact aZ (fun _=>key _) (fun _=>key _)
theorem JZ {c:aK}(d:Cur p c){n:Nat}(g:n≤1000):TD p (qT p c (n:Int)) (fun l=>l.length=n∧∀x∈l,0≤x∧x≤255):=by
 unfold qT;refine dj (fun k (σ:Int×Int×List Int) i=>iN (n:Int) p k σ.1 σ.2.1 σ.2.2 i) n (fun i σ=>Cur p ⟨σ.1,σ.2.1⟩∧σ.2.2.length=i∧∀x∈σ.2.2,0≤x∧x≤255) (fun k σ h=>?_) (fun k σ i j h hk=>?_) (by omega) (s:=(c.i_,c.h_,[])) ⟨d,rfl,fun x hx=>by cases hx⟩
 ·show Tot (iN _ _ (k+1) _ _ _ _) _;rw [iN,if_neg (by simp)];exact ar ⟨h.1,h.2⟩
 obtain ⟨e,m,f⟩:=h;show Tot (iN _ _ (k+1) _ _ _ _) _;rw [iN,if_pos (by simp;omega)];refine (BY hp e).bind fun y a=>?_;rw [bC (by simp;omega),ax (by omega)];refine hk (_,_,_) ⟨a.1,by simp;omega,fun x hx=>?_⟩;rcases List.mem_append.1 hx with hx|hx
 ·exact f x hx
 rw [List.mem_singleton.1 hx,IntWalk.u8_in _ a.2];exact a.2
end
end Go.Vk
/- Windows drawn: they are there, and CT. -/
namespace Go.Vk
def jH (a b:Nat)(l:List (List Int)):Prop:=l.length≤a∧∀r∈l,smI b r
theorem jH.mono {a b a' b':Nat}(e:a≤a')(c:b≤b'){l:List (List Int)}(h:jH a b l):jH a' b' l:=⟨by have:=h.1;omega,fun r d=>(h.2 r d).mono c⟩
theorem jH.app {a b:Nat}{l:List (List Int)}{r:List Int}(h:jH a b l)(c:smI b r):jH (a+1) b (l++[r]):=⟨by have:=h.1;simp;omega,fun x hx=>by
 rcases List.mem_append.1 hx with hx|hx
 ·exact h.2 x hx
 rw [List.mem_singleton.1 hx];exact c⟩
theorem jH.set {a b:Nat}{l:List (List Int)}{r:List Int}(h:jH a b l)(d:smI b r)(i:Nat):jH a b (l.set i r):=⟨by rw [List.length_set];exact h.1,fun x c=>by
 rcases List.mem_or_eq_of_mem_set c with c|rfl
 ·exact h.2 x c
 exact d⟩
theorem tF {w:aw}(h:jH 100 1000 w.k_):kY w=some w:=by
 have c:=h.1;unfold kY
 rw [pZ (p:=w.k_) id (mv w) (fun l=>some ⟨l⟩) (fun k l=>by rw [mv,if_neg (by simp)]) (fun k l i a d=>by
  have e:=(h.2 _ (List.getElem_mem a)).1;rw [mv,if_pos (by simp;omega),aH a,ax (by omega)];simp only [bS];rw [bC (by simp;omega)];simp only [Option.bind_some,List.nil_append];rw [bC (by simp;omega)];rfl) (by omega),List.map_id]
theorem TR {w:aw}{b:Int}(h:jH 8 12 w.k_):Tot (tu w b) (fun y=>jH 8 12 y.1.k_):=by
 unfold tu;rw [tF (h.mono (by omega) (by omega))];simp only [bS];refine ki (De w).t (by simp only [sS];exact ar h) (fun D=>?_);simp only [sS];refine lV cz.t (by simp only [sS];exact ar h) (fun L=>?_);simp only [sS]
 have s:jH 8 3 w.k_:=⟨D.1,fun r A=>by
  obtain ⟨i,C,rfl⟩:=List.getElem_of_mem A;exact ⟨(D.2 i C C).1.2,(h.2 _ A).2⟩⟩
 have vb:V b:=ko ⟨by omega,by omega⟩
 have key:∀l:List (List Int),0<l.length→jH 8 3 l→Tot (kF b l) (fun y=>jH 8 12 y.1.k_):=by
  intro l c s;have v:=s.2 _ (List.getElem_mem c);have A:=v.1;have M:idx l 0=some l[0]:=aH c;unfold kF;rw [M];simp only [bS];rw [bC (by simp;omega)];simp only [bS];have P:jH 8 4 (l.set (0:Int).toNat (l[0]++[b])):=(s.mono (Nat.le_refl _) (by omega)).set (v.app vb (by omega)) _;refine dj (fun k (l:List (List Int)) i=>eQ k l i) 8 (fun i l=>jH 8 (4+i) l) (fun k l c=>?_) (fun k l i C c hk=>?_) (by omega) (P.mono (Nat.le_refl _) (by omega))
  ·show Tot (eQ (k+1) _ _) _;rw [eQ,if_neg (by simp)];exact ar (c.mono (Nat.le_refl _) (by omega))
  show Tot (eQ (k+1) _ _) _;have fin:jH 8 12 l:=c.mono (Nat.le_refl _) (by omega);have Z:=c.1;rw [eQ,if_pos (by simp;omega)];by_cases E:i<l.length
  ·have e:=c.2 _ (List.getElem_mem E);have a0:=e.1;rw [if_neg (by simp;omega),aH E];simp only [bS];refine aZ (fun _=>ar fin) (fun g=>?_);have g:3<l[i].length:=by simp at g;omega
   refine aZ (fun _=>(qu ⟨by omega,by omega,by omega⟩).bind fun u a=>?_) (fun F=>(ga ⟨by omega,by omega⟩).bind fun Q _=>(ga ⟨by omega,by omega⟩).bind fun R _=>(qu ⟨by omega,by omega,by omega⟩).bind fun u a=>?_)
   ·have d:smI 12 u:=⟨by rw [a];simp only [List.length_take,List.length_drop];omega,fun x f=>e.2 x (by rw [a] at f;exact List.mem_of_mem_drop (List.mem_of_mem_take f))⟩;have a:=d.1;rw [bC (by simp;omega)];exact ar (fin.set d _)
   have F:i≠7:=fun h=>F (by subst h;rfl);have d:smI (4+i) u:=⟨by rw [a];simp only [List.length_take,List.length_drop];omega,fun x f=>e.2 x (by rw [a] at f;exact List.mem_of_mem_drop (List.mem_of_mem_take f))⟩;have a:=d.1;rw [bC (by simp;omega),ax (by omega)];simp only [Option.bind_some,List.nil_append]
   have j:∀q:List (List Int),i+1<q.length→jH 8 (4+i) q→Tot (kG (i:Int) Q R (eQ k) q) (fun y=>jH 8 12 y.1.k_):=by
    intro q G H;have m:=H.2 _ (List.getElem_mem G);have a1:=m.1;unfold kG;rw [ax (by omega),aH G];simp only [bS];rw [bC (by simp;omega)];exact hk _ ((H.mono (b':=4+(i+1)) (Nat.le_refl _) (by omega)).set (m.app (tG _) (by omega)) _)
   have o:jH 8 (4+i) (l.set (i:Int).toNat u):=c.set d _;refine aZ (fun ge=>?_) (fun ge=>j _ ?_ o)
   ·have ge:i+1=l.length:=by simp at ge;omega
    rw [bC (by simp;omega)];refine j _ (by simp;omega) ⟨by simp;omega,(jH.app (r:=[]) o (.nil _)).2⟩
   have ge:i+1≠l.length:=by simp at ge;omega
   rw [List.length_set];omega
  rw [if_pos (by simp;omega)];simp only [sS];exact ar fin
 refine aZ (fun p=>?_) (fun p=>key _ (by have:w.k_.length≠0:=(by simpa using p);omega) s);have p:w.k_.length=0:=by simpa using p
 have X:w.k_=[]:=List.length_eq_zero_iff.1 p;rw [X,bC (by simp)];exact key [[]] (by simp) ⟨by simp,fun x f=>by rw [List.mem_singleton.1 f];exact .nil _⟩
section
variable {p:List Int} (hp:p.length≤1048576)
include hp
end
end Go.Vk
/- The buckets of a window: alike. -/
namespace Go.Vk
def bk (p:aw):Nat→List cO
 | 0=>[]
 | c+1=>((p.k_[c]?).getD []).map (cO.mk ((2^c:Nat):Int))++bk p c
theorem Tz {p:aw}(h:Gq p):∀c,c≤p.k_.length→(bk p c).length≤3*c
 | 0,_=>by simp [bk]
 | c+1,a=>by
  have:=Tz h c (by omega);have:=((h.2 c (by omega)) (by omega)).1;have h':c<p.k_.length:=by omega
  simp [bk,h'];omega
theorem RS {α β ρ:Type}{p:List α}(g:α→β)(l:List β)(Lp:Nat→List β→Int→Option ρ)(fin:List β→Option ρ)(c:∀k v,Lp (k+1) v (p.length:Int)=fin v)(d:∀k v (i:Nat) (h:i<p.length),v.length=l.length+i→Lp (k+1) v (i:Int)=Lp k (v++[g p[i]]) ((i+1:Nat):Int))(e:p.length<1000000000000):Lp aY l 0=fin (l++p.map g):=by
 have:=vV (Lp:=fun k i=>Lp k (l++(p.take i).map g) (i:Int)) (n:=p.length) (fin:=fin (l++p.map g)) (fun k=>by
  show Lp _ _ _=_
  rw [c,List.take_length]) (fun k i a=>by
  show Lp _ _ _=Lp _ _ _;rw [d _ _ _ a (by simp;omega),List.take_succ_eq_append_getElem a,List.map_append,List.append_assoc];rfl) e
 simpa using this
theorem VK {p:aw}(h:Gq p):∀c k l,c≤p.k_.length→c<k→l.length+3*c≤1000→il p k l ((c:Int)-1)=some (l++bk p c):=by
 intro c
 induction c with
 | zero =>
  intro k l _ hk a;obtain ⟨k,rfl⟩:=kS k (by omega);rw [il,if_neg (by simp),bk,List.append_nil]
 | succ c ih =>
  intro k l g hk a;obtain ⟨k,rfl⟩:=kS k (by omega);have i:=h.1;have hc':c<p.k_.length:=by omega
  have m:=(h.2 c hc' hc').1;have e:((c+1:Nat):Int)-1=c:=by omega
  rw [e,il,if_pos (by simp),RS (p:=p.k_[c]) (cO.mk ((2^c:Nat):Int)) l (mH p c (il p k)) (fun l=>il p k l ((c:Int)-1)) (fun d v=>by
   rw [mH,aH hc'];simp only [bS]
   rw [if_neg (by simp),aP (by omega) (by omega)]) (fun d v j f o=>by
   rw [mH,aH hc'];simp only [bS];rw [if_pos (by simp;omega),aH f,KH (by omega),ax (by omega)];unfold app;simp only [bS];rw [if_pos (by simp;omega)];rfl) (by omega),ih k _ (by omega) (by omega) (by simp;omega)]
  simp [bk,hc']
end Go.Vk
/- Lists of words and of numbers: copied, compared, marked. -/
namespace Go.Vk
theorem SC {α:Type}(p:List α):(p.map fun _=>1).sum=p.length:=by induction p with|nil=>rfl|cons x p ih=>simp [ih];omega
end Go.Vk
/- Numbers and lists put into bytes. -/
namespace Go.Vk
def tw (n:Nat):List Int:=if h:n<128 then [(n:Int)] else ((n%128+128:Nat):Int)::tw (n / 128)
termination_by n
decreasing_by omega
theorem Dx {n:Nat}(h:n<128):tw n=[(n:Int)]:=by unfold tw;rw [dif_pos h]
theorem GY {n:Nat}(h:¬n<128):tw n=((n%128+128:Nat):Int)::tw (n / 128):=by rw [tw,dif_neg h]
theorem Rz {n:Nat}(h:n<256):IntKind.u8.wrap (n:Int)=n:=by
 unfold IntKind.wrap;simp [IntKind.bits,IntKind.signed];omega
theorem SU:∀(d k n:Nat)(l:List Int),n<128^(d+1)→n<9223372036854775808→d<k→l.length+d≤1000000 →
  nx k (n:Int) l=some (l++tw n)∧nO k (n:Int) l=some (l++tw n,false)∧(tw n).length≤d+1:=by
 intro d
 induction d with
 | zero =>
  intro k n l a c hk f;obtain ⟨k,rfl⟩:=kS k (by omega);unfold nx nO;simp at a;rw [if_neg (by simp;omega),if_neg (by simp;omega),Rz (by omega),Dx a,bC (by simp;omega)];exact ⟨rfl,rfl,by simp⟩
 | succ d ih =>
  intro k n l a c hk f;obtain ⟨k,rfl⟩:=kS k (by omega);unfold nx nO;by_cases e:n<128
  ·rw [if_neg (by simp;omega),if_neg (by simp;omega),Rz (by omega),Dx e,bC (by simp;omega)];exact ⟨rfl,rfl,by simp⟩
  rw [if_pos (by simp;omega),if_pos (by simp;omega),Tx n c,Xp _ (by omega),Xy]
  have g:IntKind.i64.wrap (Int.tdiv (n:Int) 128)=((n / 128:Nat):Int):=by
   rw [show (128:Int)=((128:Nat):Int) from rfl,wD,fm (by omega)]
  have h:Int.tmod (n:Int) 128=((n%128:Nat):Int):=qa n 128;have i:IntKind.i64.wrap (((n%128:Nat):Int)+128)=((n%128+128:Nat):Int):=by rw [aP (by omega) (by omega)];simp
  rw [g,h,i,Rz (by omega),bC (by simp;omega)];simp only [bS]
  obtain ⟨h1,j,m⟩:=ih k (n / 128) (l++[((n%128+128:Nat):Int)]) (by
   rw [Nat.div_lt_iff_lt_mul (by omega),←Nat.pow_succ];exact a) (by omega) (by omega) (by simp;omega)
  rw [h1,j,GY e];exact ⟨by simp,by simp,by simp;omega⟩
def zig (x:Int):Nat:=if x<0 then (-2*x-1).toNat else (2*x).toNat
def InR (x:Int):Prop:=-1000000000≤x∧x≤1000000000
instance:DecidablePred InR:=fun _=>inferInstanceAs (Decidable (_∧_))
theorem Sd {x:Int}(h:InR x):zig x≤2000000000:=by obtain ⟨a,h1⟩:=h;unfold zig;split<;>omega
def dZ (x:Int):List Int:=if InR x then tw (zig x) else []
theorem JU {n:Nat}(h:n≤2147483647):rV (n:Int)=some (tw n)∧rY (n:Int)=some (tw n,false)∧(tw n).length≤5:=by
 unfold rV rY aM bc;simp only [bS];rw [pF (by omega)];simp only [Bool.not_true,Bool.false_eq_true,if_false];obtain ⟨h1,a,c⟩:=SU 4 aY n [] (by omega) (by omega) (cx (by omega)) (by simp);exact ⟨by simpa using h1,by simpa using a,by simpa using c⟩
theorem fZ {x:Int}:dS x=some (dZ x)∧xG x=some (dZ x,decide ¬InR x)∧(dZ x).length≤5:=by
 unfold dS xG aM bc dZ;simp only [bS];by_cases a:InR x
 ·obtain ⟨h1,f,g⟩:=JU (n:=zig x) (by have:=Sd a;omega);rw [if_pos a];have d:(decide ¬InR x)=false:=by simp [a]
  rw [d];obtain ⟨c1,c2⟩:=a;rw [pF ⟨c1,c2⟩];simp only [Bool.not_true,Bool.false_eq_true,if_false];by_cases c:x<0
  ·rw [if_pos (by simpa using c),if_pos (by simpa using c)]
   have e:IntKind.i64.wrap ((IntKind.i64.wrap (0-(IntKind.i64.wrap (2*x))))-1)=(zig x:Nat):=by
    rw [aP (n:=2*x) (by omega) (by omega),aP (n:=0-2*x) (by omega) (by omega),aP (by omega) (by omega)];unfold zig;rw [if_pos c];omega
   have e':IntKind.i64.wrap ((IntKind.i64.wrap ((-2)*x))-1)=(zig x:Nat):=by
    rw [aP (n:=-2*x) (by omega) (by omega),aP (by omega) (by omega)];unfold zig;rw [if_pos c];omega
   rw [e,e',h1,f];exact ⟨rfl,rfl,g⟩
  rw [if_neg (by simpa using c),if_neg (by simpa using c)]
  have e:IntKind.i64.wrap (2*x)=(zig x:Nat):=by
   rw [aP (n:=2*x) (by omega) (by omega)];unfold zig;rw [if_neg c];omega
  rw [e,h1,f];exact ⟨rfl,rfl,g⟩
 rw [if_neg a,qZ (by exact a)];have d:(decide ¬InR x)=true:=by simp [a]
 rw [d];exact ⟨rfl,rfl,by simp⟩
def mo (xs:List Int):List Int:=xs.flatMap dZ
theorem pi (xs:List Int):(mo xs).length≤5*xs.length:=by
 induction xs with
 | nil=>simp [mo]
 | cons x xs ih => 
  have:=(fZ (x:=x)).2.2;simp only [mo,List.flatMap_cons,List.length_append,List.length_cons] at ih ⊢;omega
theorem Cn {p:List Int}(c:p.length<1000000000000):ib p=some (decide (∀x∈p,InR x)):=by
 unfold ib;refine LO (P:=InR) (rr p) (fun k=>?_) (fun k i h=>?_) c
 ·show (if _ then _ else _)=_;rw [if_neg (by simp)]
 show (if _ then _ else _)=_;rw [if_pos (by simp;omega),aH h,ax (by omega)];unfold aM;simp only [bS];by_cases a:InR p[i]
 ·rw [pF a,if_pos a];rfl
 rw [qZ a,if_neg a];rfl
theorem IV {p:List Int}(a:p.length≤1048576)(l:List Int)(c:l.length≤1000000000):oH p aY l 0=some (l++mo p):=by
 rw [Dq (p:=p) (fun k s i=>oH p k s i) (fun s x=>.inr (s++dZ x)) (fun s=>some s) (fun i s=>s.length≤l.length+5*i)
  (fun k s _=>by show (if _ then _ else _)=_;rw [if_neg (by simp)])
  (fun k s i h d=>⟨by
   show (if _ then _ else _)=_;rw [if_pos (by simp;omega),aH h,ax (by omega)];simp only [bS];rw [fZ.1];simp only [bS];rw [bC (by have:=(fZ (x:=p[i])).2.2;omega)]
   rfl,fun s' e=>by
   have:=(fZ (x:=p[i])).2.2;obtain rfl:=Sum.inr.inj e;rw [List.length_append];omega⟩) (by omega) l (by omega)]
 clear a c
 induction p generalizing l with
 | nil=>simp [run,mo]
 | cons x p ih=>show run _ _ (l++dZ x) p=_;rw [ih];simp [mo]
theorem jv {p:List Int}(a:p.length≤1048576)(l:List Int)(q:Bool)(c:l.length≤1000000000):cw ⟨l,q⟩ p=some ⟨l++mo p,q||decide (¬ ∀x∈p,InR x)⟩:=by
 unfold cw;show jm p aY l q 0=_
 rw [show jm p aY l q 0=_ from Dq (p:=p) (fun k (s:List Int×Bool) i=>jm p k s.1 s.2 i) (fun s x=>.inr (s.1++dZ x,s.2||decide ¬InR x)) (fun s=>some ⟨s.1,s.2⟩) (fun i s=>s.1.length≤l.length+5*i)
  (fun k s _=>by show (if _ then _ else _)=_;rw [if_neg (by simp)])
  (fun k s i h d=>⟨by
   show (if _ then _ else _)=_;rw [if_pos (by simp;omega),aH h,ax (by omega)];simp only [bS];rw [fZ.2.1];simp only [bS];rw [bC (by have:=(fZ (x:=p[i])).2.2;omega)]
   rfl,fun s' e=>by
   have:=(fZ (x:=p[i])).2.2;obtain rfl:=Sum.inr.inj e;show (s.1++_).length≤_;rw [List.length_append];omega⟩) (by omega) (l,q) (Nat.le_add_right _ _)]
 clear a c
 induction p generalizing l q with
 | nil=>simp [run,mo]
 | cons x p ih =>
  show run _ _ (l++dZ x,q||decide ¬InR x) p=_;rw [ih];congr 2
  ·simp [mo]
  by_cases h:InR x<;>simp [h]
theorem Nb {p:List Int}(a:p.length≤1048576)(l:List Int)(q:Bool)(d:l.length≤900000000):fh ⟨l,q⟩ p=some ⟨l++dZ p.length++mo p,q||decide (¬ ∀x∈p,InR x)⟩:=by
 unfold fh;rw [jv (by simp) l q (by omega)];have h1:InR (p.length:Int):=⟨by omega,by omega⟩;have c:mo [(p.length:Int)]=dZ p.length:=by simp [mo]
 rw [c];simp only [bS];have:=(fZ (x:=(p.length:Int))).2.2;rw [jv a _ _ (by rw [List.length_append];omega)];simp [h1]
theorem HO {p:List Int}(a:p.length≤1048576):lb p=some (if ∀x∈p,InR x then dZ p.length++mo p else []):=by
 unfold lb;rw [Cn (by omega)];simp only [bS];by_cases h:∀x∈p,InR x
 ·rw [if_pos h,decide_eq_true h];simp only [Bool.not_true,Bool.false_eq_true,if_false];rw [fZ.1];simp only [bS];exact IV a _ (by have:=(fZ (x:=(p.length:Int))).2.2;omega)
 rw [if_neg h,decide_eq_false h];rfl
end Go.Vk
/- Windows: weighed, copied, put. -/
namespace Go.Vk
def CT (n:Nat):Prop:=n<9223372036854775808
def AJ (x:List (List Int)):Nat:=x.length+(x.map List.length).sum
def rf (p:List Int):Prop:=∀x∈p,InR x
instance:DecidablePred rf:=fun p=>inferInstanceAs (Decidable (∀x∈p,InR x))
def kE (p:List Int):List Int:=dZ p.length++mo p
theorem dY (x:Int):(dZ x).length≤5:=fZ.2.2
theorem oc (p:List Int):(kE p).length≤5*(1+p.length):=by
 have:=dY p.length;have:=pi p;unfold kE;rw [List.length_append];omega
theorem tI (p:List (List Int)):(p.flatMap kE).length≤5*AJ p:=by
 unfold AJ
 induction p with
 | nil=>simp
 | cons x p ih =>
  have:=oc x;simp only [List.flatMap_cons,List.length_append,List.map_cons,List.sum_cons,List.length_cons];omega
theorem wa {p:List (List Int)}:p.length≤AJ p:=by unfold AJ;omega
theorem yz {p:List (List Int)}{x:List Int}(h:x∈p):x.length≤AJ p:=by
 have:=PP (f:=List.length) h;unfold AJ;omega
theorem uH {p:List Int}(a:p.length≤1048576)(c:rf p):lb p=some (kE p):=by
 rw [HO a,if_pos (show ∀x∈p,InR x from c)];rfl
theorem Be {p:List (List Int)}(d:AJ p≤1048576)(c:∀x∈p,rf x):lG p=some (dZ p.length++p.flatMap kE):=by
 unfold lG;rw [fZ.1];simp only [bS];have h1:=tI p;have e:=dY p.length;have f:=@wa p
 exact Me (p:=p) (σ:=Unit) (ρ:=List Int) kE (fun _ _=>()) (fun k l _ i=>np p k l i) (fun l _=>some l)
  (fun k l q=>by show (if _ then _ else _)=_;rw [if_neg (by simp)])
  (fun k l q i h g=>by
   show (if _ then _ else _)=_;have a:=List.getElem_mem h;rw [if_pos (by simp;omega),aH h,ax (by omega)];simp only [bS];rw [uH (by have:=yz a;omega) (c _ a)];simp only [bS];rw [bC (by omega)];rfl) (by omega) _ () (by omega)
theorem tq {p:List Int}(a:p.length≤1048576)(l:List Int)(q:Bool)(c:l.length≤900000000):fh ⟨l,q⟩ p=some ⟨l++kE p,q||decide (¬rf p)⟩:=by
 rw [Nb a l q c,List.append_assoc];rfl
theorem DG {ρ:Type}{p:List (List Int)}(d:AJ p≤1048576)(Lp:Nat→List Int→Bool→Int→Option ρ)(fin:List Int→Bool→Option ρ)(step:∀k l q i,Lp (k+1) l q i=if decide (i<(p.length:Int)) then (idx p i).bind fun e=>(fh ⟨l,q⟩ e).bind fun y=>Lp k y.ad_ y.N_ (IntKind.i64.wrap (i+1)) else fin l q)(l:List Int)(q:Bool)(a:l.length≤700000000):Lp aY l q 0=fin (l++p.flatMap kE) (q||decide (¬ ∀x∈p,rf x)):=by
 have h1:=tI p;have f:=@wa p;rw [←JO]
 exact Me (p:=p) (σ:=Bool) kE (fun q x=>q||decide (¬rf x)) Lp fin
  (fun k l q=>by rw [step,if_neg (by simp)])
  (fun k l q i h a=>by
   have c:=List.getElem_mem h;rw [step,if_pos (by simp;omega),aH h,ax (by omega)];simp only [bS];rw [tq (by have:=yz c;omega) l q (by omega)];rfl) (by omega) _ q (by omega)
theorem Jw {x:aw}(c:AJ x.k_≤1048576):nG x=some (if ∀r∈x.k_,rf r then dZ x.k_.length++x.k_.flatMap kE else []):=by
 unfold nG;have e:=@wa x.k_
 rw [JG (p:=x.k_) (P:=rf) (fin:=(lG x.k_).bind fun y=>some y) (bad:=some []) (pw x) (fun k=>by
  show (if _ then _ else _)=_
  rw [if_neg (by simp)]) (fun k i h=>by
  have d:=List.getElem_mem h;show (if _ then _ else _)=_;rw [if_pos (by simp;omega),aH h,ax (by omega)];simp only [bS];rw [Cn (by have:=yz d;omega)];simp only [bS];by_cases a:rf x.k_[i]
  ·rw [if_pos a,show (decide (∀y∈x.k_[i],InR y))=true from decide_eq_true a];rfl
  rw [if_neg a,show (decide (∀y∈x.k_[i],InR y))=false from decide_eq_false a];rfl) (by omega)]
 split
 ·rename_i a;rw [Be c a];rfl
 rfl
theorem By {n:Nat}(h:n≤1000000000):InR (n:Int):=⟨by omega,by omega⟩
theorem ze {x:Int}(a:InR x)(l:List Int)(q:Bool)(c:l.length≤1000000000):cw ⟨l,q⟩ [x]=some ⟨l++dZ x,q⟩:=by
 rw [jv (by simp) l q c];simp [mo,a]
theorem SE {p:List (List Int)}:(p.map fun v=>1+v.length).sum=AJ p:=by
 unfold AJ
 induction p with
 | nil=>rfl
 | cons x p ih=>simp only [List.map_cons,List.sum_cons,List.length_cons];omega
end Go.Vk
/- Trees: weighed, copied, put, compared, marked. -/
namespace Go.Vk
def szM (x:au):Nat:=x.A_.length+(x.m_.l_.length+AJ x.m_.g_)+x.c_.length
def szU (x:am):Nat:=x.b_.length+(x.b_.map szM).sum
theorem KP {x:am}{y:au}(a:y∈x.b_):szM y≤szU x:=by
 have:=PP (f:=szM) a;unfold szU;omega
end Go.Vk
/- Trees, put. -/
namespace Go.Vk
def wI (b:Bool):Int:=if b then 1 else 0
def uB (x:au):List Int :=
 dZ (wI x.D_)++dZ x.n_.q_++dZ x.n_.j_++kE x.A_++dZ x.K_++kE x.m_.l_++(dZ x.m_.g_.length++x.m_.g_.flatMap kE)++dZ x.J_++kE x.c_++dZ x.o_++dZ x.H_++dZ x.F_
def yt (x:au):Prop:=rf [x.n_.q_,x.n_.j_,x.K_,x.J_,x.o_,x.H_,x.F_]∧rf x.A_∧rf x.c_∧rf x.m_.l_∧∀y∈x.m_.g_,rf y
instance:DecidablePred yt:=fun _=>inferInstanceAs (Decidable (_∧_∧_∧_∧_))
theorem Kh (x:au):(uB x).length≤5*(12+szM x):=by
 have a:=dY (wI x.D_);have c:=dY x.n_.q_;have d:=dY x.n_.j_;have e:=oc x.A_;have f:=dY x.K_;have g:=oc x.m_.l_;have h:=dY x.m_.g_.length;have i:=tI x.m_.g_;have j:=dY x.J_;have k:=oc x.c_;have l:=dY x.o_;have m:=dY x.H_;have o:=dY x.F_;unfold uB szM;simp only [List.length_append];omega
theorem Eu (b:Bool):lN b=some (wI b)∧yi b=some (wI b):=by cases b<;>exact ⟨rfl,rfl⟩
theorem Do (b:Bool):InR (wI b):=by cases b<;>decide
theorem Bv {p:List Int}(h:p.length<1000000000000):ib p=some (decide (rf p)):=Cn h
theorem Xb {A B C D E:Prop}[Decidable A][Decidable B][Decidable C][Decidable D][Decidable E] :
  ((if (!decide A)=true then some true else some !decide B).bind fun a=>(if a=true then some true else some !decide C).bind fun c=>(if c=true then some true else some !decide D).bind fun d=>if d=true then some false else some (decide E))=some (decide (A∧B∧C∧D∧E)):=by
 by_cases A<;>by_cases B<;>by_cases C<;>by_cases D<;>by_cases E<;>simp [*]
theorem ML {x:au}(h:szM x≤1048576):qL x=some (decide (yt x)):=by
 unfold szM at h;have e:=@wa x.m_.g_
 have c:kR x aY 0=some (decide (∀y∈x.m_.g_,rf y)) :=
  LO (P:=rf) (p:=x.m_.g_) (kR x) (fun k=>by
   show (if _ then _ else _)=_
   rw [if_neg (by simp)]) (fun k i h=>by
   have d:=List.getElem_mem h;show (if _ then _ else _)=_;rw [if_pos (by simp;omega),aH h,ax (by omega)];simp only [bS];rw [Bv (by have:=yz d;omega)];simp only [bS];by_cases a:rf x.m_.g_[i]
   ·rw [if_pos a,decide_eq_true a];rfl
   rw [if_neg a,decide_eq_false a];rfl) (by omega)
 unfold qL;rw [Bv (by simp),Bv (p:=x.A_) (by omega),Bv (p:=x.c_) (by omega),Bv (p:=x.m_.l_) (by omega),c];simp only [bS];exact Xb
theorem Oj {x:au}(h:szM x≤1048576)(a:yt x):ro x=some (uB x):=by
 have g:=Kh x;unfold szM at h;have i:=@wa x.m_.g_;obtain ⟨j,c,d,e,f⟩:=a;have k:=dY (wI x.D_);have l:=dY x.n_.q_;have m:=dY x.n_.j_;have o:=oc x.A_;have p:=dY x.K_;have q:=oc x.m_.l_;have r:=dY x.m_.g_.length;have s:=tI x.m_.g_;have t:=dY x.J_;have u:=oc x.c_;have v:=dY x.o_;have w:=dY x.H_;have A:=dY x.F_;unfold ro;rw [(Eu _).1];simp only [Option.bind_some,fZ.1];rw [bC (by omega)];simp only [bS];rw [bC (by simp only [List.length_append];omega)];simp only [bS];rw [uH (by omega) c];simp only [bS];rw [bC (by simp only [List.length_append];omega)];simp only [bS];rw [bC (by simp only [List.length_append];omega)];simp only [bS];rw [uH (by omega) e];simp only [bS];rw [bC (by simp only [List.length_append];omega)];simp only [bS];rw [Be (by omega) f];simp only [bS];rw [bC (by simp only [List.length_append];omega)];simp only [bS];rw [bC (by simp only [List.length_append];omega)];simp only [bS];rw [uH (by omega) d];simp only [bS];rw [bC (by simp only [List.length_append];omega)];simp only [bS];rw [bC (by simp only [List.length_append];omega)];simp only [bS];rw [bC (by simp only [List.length_append];omega)];simp only [bS];rw [bC (by simp only [List.length_append];omega)];rfl
theorem Ie (p:List au):(p.flatMap uB).length≤60*p.length+5*(p.map szM).sum:=by
 induction p with
 | nil=>simp
 | cons x p ih =>
  have:=Kh x;simp only [List.flatMap_cons,List.length_append,List.map_cons,List.sum_cons,List.length_cons];omega
theorem Mt {x:am}(h:szU x≤1048576):qw x=some (if InR x.p_∧∀y∈x.b_,yt y then dZ x.p_++dZ x.b_.length++x.b_.flatMap uB else []):=by
 have q:x.b_.length≤1048576:=by unfold szU at h;omega
 have r:=Ie x.b_;have s:(x.b_.map szM).sum≤1048576:=by unfold szU at h;omega
 unfold qw;rw [Bv (by simp)];simp only [bS];by_cases h1:InR x.p_
 ·have g:rf [x.p_]:=by intro y j;rw [List.mem_singleton.1 j];exact h1
  rw [decide_eq_true g];simp only [Bool.not_true,Bool.false_eq_true,if_false];rw [fZ.1,fZ.1];have t:=dY x.p_;have u:=dY x.b_.length;simp only [bS];rw [bC (by omega)];simp only [Option.bind_some,h1,true_and]
  have key:∀(d k i:Nat)(l:List Int),x.b_.length-i=d→d<k→i≤x.b_.length→l.length+((x.b_.drop i).flatMap uB).length≤800000000 →
    rp x k l (i:Int)=some (if ∀y∈x.b_.drop i,yt y then l++(x.b_.drop i).flatMap uB else []):=by
   intro d
   induction d with
   | zero =>
    intro k i l m hk o a;obtain ⟨k,rfl⟩:=kS k (by omega);have:i=x.b_.length:=by omega
    subst this;show (if _ then _ else _)=_;rw [if_neg (by simp),List.drop_length];simp
   | succ d ih =>
    intro k i l m hk o a;obtain ⟨k,rfl⟩:=kS k (by omega);have c:i<x.b_.length:=by omega
    have p:=List.getElem_mem c;have f:szM x.b_[i]≤1048576:=by have:=KP p;omega
    rw [List.drop_eq_getElem_cons c] at a ⊢;simp only [List.flatMap_cons,List.length_append] at a ⊢;show (if _ then _ else _)=_;rw [if_pos (by simp;omega),aH c];simp only [bS];rw [ML f];simp only [bS];by_cases e:yt x.b_[i]
    ·rw [decide_eq_true e];simp only [Bool.not_true,Bool.false_eq_true,if_false];rw [Oj f e];simp only [bS];rw [bC (by omega)];simp only [bS];rw [ax (by omega),ih k (i+1) _ (by omega) (by omega) (by omega) (by simp only [List.length_append];omega)];generalize List.drop (i+1) x.b_=D;simp [e]
    rw [decide_eq_false e];generalize List.drop (i+1) x.b_=D;simp [e]
  have:=key x.b_.length aY 0 (dZ x.p_++dZ x.b_.length) (by omega) (cx (by omega)) (by omega) (by simp only [List.length_append,List.drop_zero];omega);simpa using this
 have g:¬rf [x.p_]:=fun n=>h1 (n _ (List.mem_singleton.2 rfl));rw [decide_eq_false g];simp [h1]
theorem EW:mo []=[]:=rfl
theorem CC (x:Int)(xs:List Int):mo (x::xs)=dZ x++mo xs:=List.flatMap_cons ..
theorem sf {M:Nat}{α σ ρ:Type}{p:List α}(B:α→List Int)(u:σ→α→σ)(Lp:Nat→List Int→σ→Int→Option ρ)(fin:List Int→σ→Option ρ)(e:∀k l q,Lp (k+1) l q (p.length:Int)=fin l q)(f:∀k l q (i:Nat) (h:i<p.length),l.length+(B p[i]).length≤M→Lp (k+1) l q (i:Int)=Lp k (l++B p[i]) (u q p[i]) ((i+1:Nat):Int))(m:p.length<1000000000000)(l:List Int)(q:σ)(a:l.length+(p.flatMap B).length≤M):Lp aY l q 0=fin (l++p.flatMap B) (p.foldl u q):=by
 have key:∀(d k i:Nat)(l:List Int)(q:σ),p.length-i=d→d<k→i≤p.length→l.length+((p.drop i).flatMap B).length≤M→Lp k l q (i:Int)=fin (l++(p.drop i).flatMap B) ((p.drop i).foldl u q):=by
  intro d
  induction d with
  | zero =>
   intro k i l q g hk j a;obtain ⟨k,rfl⟩:=kS k (by omega);have:i=p.length:=by omega
   subst this;rw [e,List.drop_length];simp
  | succ d ih =>
   intro k i l q g hk j a;obtain ⟨k,rfl⟩:=kS k (by omega);have c:i<p.length:=by omega
   rw [List.drop_eq_getElem_cons c] at a ⊢;simp only [List.flatMap_cons,List.length_append,List.foldl_cons] at a ⊢;rw [f k l q i c (by omega),ih k (i+1) _ _ (by omega) (by omega) (by omega) (by simp only [List.length_append];omega),List.append_assoc]
 have:=key p.length aY 0 l q (by omega) (cx (by omega)) (by omega) (by simpa using a);simpa using this
theorem AL {q:Bool}{A B:Prop}[Decidable A][Decidable B]:((q||decide (¬A))||decide (¬B))=(q||decide (¬(A∧B))):=by
 by_cases A<;>by_cases B<;>simp [*]
theorem Jk {x:am}{k i:Nat}{l:List Int}{q:Bool}(h:i<x.b_.length)(u:x.b_.length≤1048576)(d:szM x.b_[i]≤1048576)(f:l.length+(uB x.b_[i]).length≤400000000) :
  fS x (k+1) l q (i:Int)=fS x k (l++uB x.b_[i]) (q||decide (¬yt x.b_[i])) ((i+1:Nat):Int):=by
 show (if _ then _ else _)=_;rw [if_pos (by simp;omega),aH h];generalize x.b_[i]=e at d f;have hz':=d;unfold szM at hz';have v:=@wa e.m_.g_;simp only [bS];rw [(Eu _).2];simp only [bS];have g:=pi [wI e.D_,e.n_.q_,e.n_.j_];have w:=oc e.A_;have j:=pi [e.K_];have A:=oc e.m_.l_;have m:=pi [(e.m_.g_.length:Int)];have C:=tI e.m_.g_;have o:=pi [e.J_];have D:=oc e.c_;have r:=pi [e.o_,e.H_,e.F_];simp only [List.length_cons,List.length_nil] at g j m o r;rw [jv (by simp) _ _ (by omega)];simp only [bS];rw [tq (by omega) _ _ (by simp only [List.length_append];omega)];simp only [bS];rw [jv (by simp) _ _ (by simp only [List.length_append];omega)];simp only [bS];rw [tq (by omega) _ _ (by simp only [List.length_append];omega)];simp only [bS];rw [jv (by simp) _ _ (by simp only [List.length_append];omega)];simp only [bS];rw [DG (p:=e.m_.g_) (by omega) (nj e (fS x k) i) _ (fun _ _ _ _=>rfl) _ _ (by simp only [List.length_append];omega),jv (by simp) _ _ (by simp only [List.length_append];omega)];simp only [bS];rw [tq (by omega) _ _ (by simp only [List.length_append];omega)];simp only [bS];rw [jv (by simp) _ _ (by simp only [List.length_append];omega)];simp only [bS];rw [ax (by omega)];congr 1
 ·simp only [uB,CC,EW,List.append_nil,List.append_assoc]
 rw [AL,AL,AL,AL,AL,AL,AL,AL];congr 1;refine decide_eq_decide.2 (not_congr ?_);have s:=Do e.D_;have t:InR (e.m_.g_.length:Int):=By (by omega);unfold yt rf;simp only [List.forall_mem_cons,s,t,true_and];constructor
 ·rintro ⟨⟨c1,c2,_⟩,c3,⟨c4,_⟩,c5,_,c6,⟨c7,_⟩,c8,c9,a,c,_⟩;exact ⟨⟨c1,c2,c4,c7,c9,a,c,by simp⟩,c3,c8,c5,c6⟩
 rintro ⟨⟨c1,c2,c4,c7,c9,a,c,_⟩,c3,c8,c5,c6⟩;exact ⟨⟨c1,c2,by simp⟩,c3,⟨c4,by simp⟩,c5,by simp,c6,⟨c7,by simp⟩,c8,c9,a,c,by simp⟩
end Go.Vk
/- Checks: alike. -/
namespace Go.Vk
def Ch (x:Nat):Nat:=if x%2=1 then (x / 2) ^^^ 3988292384 else x / 2
theorem Ra {x:Nat}(h:x<9223372036854775808):Ch x<9223372036854775808:=by
 unfold Ch;split
 ·have:(x / 2) ^^^ 3988292384<2^63:=Nat.xor_lt_two_pow (by omega) (by omega);omega
 omega
def vD:Nat→Nat→Nat
 | 0,x=>x
 | n+1,x=>vD n (Ch x)
theorem NR {n:Nat}:∀{x:Nat},x<9223372036854775808→vD n x<9223372036854775808:=by
 induction n with
 | zero=>exact fun h=>h
 | succ n ih=>exact fun h=>ih (Ra h)
theorem NK (R:Int→Int→Option Int)(i:Int):∀(d k x j:Nat),8-j=d→j≤8→d<k→x<9223372036854775808→pJ R i k (x:Int) (j:Int)=R (vD d x:Nat) (IntKind.i64.wrap (i+1)):=by
 intro d
 induction d with
 | zero =>
  intro k x j e f hk g
  cases k with
  | zero=>omega
  | succ k =>
   unfold pJ;rw [if_neg (by simp;omega)];rfl
 | succ d ih =>
  intro k x j e f hk g
  cases k with
  | zero=>omega
  | succ k =>
   unfold pJ;rw [if_pos (by simp;omega)]
   have h:IntKind.i64.wrap (Int.tdiv (x:Int) 2)=((x / 2:Nat):Int):=by
    rw [show Int.tdiv (x:Int) 2=((x / 2:Nat):Int) from by rw [Int.tdiv_eq_ediv_of_nonneg (by omega)];simp];exact fm (by omega)
   have c:IntKind.i64.wrap ((j:Int)+1)=((j+1:Nat):Int):=by rw [aP (by omega) (by omega)];simp
   rw [h,c];have l:Int.tmod (x:Int) 2=((x%2:Nat):Int):=by rw [Int.tmod_eq_emod_of_nonneg (by omega)];simp
   rw [l];by_cases a:x%2=1
   ·rw [if_pos (by simp [a]),show (3988292384:Int)=((3988292384:Nat):Int) from rfl,(Bh (x / 2) 3988292384 (by omega) (by omega)).1];have:=ih k ((x / 2) ^^^ 3988292384) (j+1) (by omega) (by omega) (by omega) (Bh (x / 2) 3988292384 (by omega) (by omega)).2;rw [this];simp [vD,Ch,a]
   rw [if_neg (by simp;omega)];have:=ih k (x / 2) (j+1) (by omega) (by omega) (by omega) (by omega);rw [this];simp [vD,Ch,a]
theorem NZ (R:Int→Int→Option Int)(i:Int):∀(d k x j:Nat),8-j=d→j≤8→d<k→x<9223372036854775808→pL R i k (j:Int) (x:Int)=R (vD d x:Nat) (IntKind.i64.wrap (i+1)):=by
 intro d
 induction d with
 | zero =>
  intro k x j f g hk c
  cases k with
  | zero=>omega
  | succ k =>
   unfold pL;rw [if_neg (by simp;omega)];rfl
 | succ d ih =>
  intro k x j f g hk c
  cases k with
  | zero=>omega
  | succ k =>
   unfold pL;rw [if_pos (by simp;omega)];have e:IntKind.i64.wrap ((j:Int)+1)=((j+1:Nat):Int):=by rw [aP (by omega) (by omega)];simp
   rw [Sx,e]
   have h:eW .and .i64 (x:Int) 1=((x%2:Nat):Int):=by
    rw [show (1:Int)=((1:Nat):Int) from rfl,Ps x 1 c (by omega),Nat.and_one_is_mod]
   rw [h];by_cases a:x%2=1
   ·rw [if_pos (by simp [a]),show (3988292384:Int)=((3988292384:Nat):Int) from rfl,(Bh (x / 2) 3988292384 (by omega) (by omega)).1];have:=ih k ((x / 2) ^^^ 3988292384) (j+1) (by omega) (by omega) (by omega) (Bh (x / 2) 3988292384 (by omega) (by omega)).2;rw [this];simp [vD,Ch,a]
   rw [if_neg (by simp;omega)];have:=ih k (x / 2) (j+1) (by omega) (by omega) (by omega) (by omega);rw [this];simp [vD,Ch,a]
def du (p:List Int):Prop:=∀x∈p,0≤x∧x≤255
theorem FG {p:List Int}(a:du p){i:Nat}(h:i<p.length):∃n:Nat,p[i]=(n:Int)∧n≤255:=by
 obtain ⟨c,h1⟩:=a p[i] (List.getElem_mem h);exact ⟨p[i].toNat,by omega,by omega⟩
theorem VY {p:List Int}(h:du p)(q:p.length≤1048576):∀(d k x i:Nat),p.length-i=d→i≤p.length→d<k→x<9223372036854775808→∃r:Nat,om p k (x:Int) (i:Int)=some (r:Int)∧ot p k (x:Int) (i:Int)=some (r:Int)∧r<9223372036854775808:=by
 intro d
 induction d with
 | zero =>
  intro k x i j l hk e
  cases k with
  | zero=>omega
  | succ k =>
   unfold om ot;rw [if_neg (by simp;omega),if_neg (by simp;omega)];obtain ⟨h1,a⟩:=Bh x 4294967295 e (by omega);exact ⟨x ^^^ 4294967295,congrArg some h1,congrArg some h1,a⟩
 | succ d ih =>
  intro k x i j l hk e
  cases k with
  | zero=>omega
  | succ k =>
   unfold om ot;have c:i<p.length:=by omega
   rw [if_pos (by simp;omega),if_pos (by simp;omega),aH c];simp only [bS];obtain ⟨n,m,o⟩:=FG h c;rw [m,fm (n:=n) (by omega)];obtain ⟨h1,a⟩:=Bh x n e (by omega);rw [h1];have f:=NK (om p k) i 8 aY (x ^^^ n) 0 (by omega) (by omega) (cx (by omega)) a;have g:=NZ (ot p k) i 8 aY (x ^^^ n) 0 (by omega) (by omega) (cx (by omega)) a;rw [show ((0:Nat):Int)=0 from rfl] at f g;rw [f,g,show IntKind.i64.wrap ((i:Int)+1)=((i+1:Nat):Int) from by rw [aP (by omega) (by omega)];simp];exact ih k (vD 8 (x ^^^ n)) (i+1) (by omega) (by omega) (by omega) (NR a)
theorem RE {p:List Int}(a:du p)(c:p.length≤1048576):∃r:Nat,HK p=some (r:Int)∧HJ p=some (r:Int)∧r<9223372036854775808 :=
 VY a c p.length aY 4294967295 0 (by omega) (by omega) (cx (by omega)) (by omega)
theorem LA (x:Nat){k:Nat}(h:k≤63):vg .i64 (x:Int) k=((x / 2^k:Nat):Int):=by
 unfold vg;have e:min ((k:Int).toNat) IntKind.i64.bits=k:=by show min k 64=k;omega
 rw [e,Int.fdiv_eq_ediv_of_nonneg _ (Int.le_of_lt (Int.pow_pos (by decide)))];simp
theorem Ct (n:Nat):IntKind.u8.wrap (n:Int)=((n%256:Nat):Int):=by
 unfold IntKind.wrap;simp [IntKind.bits,IntKind.signed]
def Xu (r:Nat):List Int:=[((r / 16777216%256:Nat):Int),((r / 65536%256:Nat):Int),((r / 256%256:Nat):Int),((r%256:Nat):Int)]
theorem Xs {r:Nat}(h:r<9223372036854775808)(d:Nat):IntKind.u8.wrap (IntKind.i64.wrap (Int.tdiv (r:Int) (d:Int)))=((r / d%256:Nat):Int):=by
 rw [wD,fm (by have:=Nat.div_le_self r d;omega),Ct]
theorem WW {r:Nat}(h:r<9223372036854775808)(d:Nat):IntKind.u8.wrap (Int.tmod (IntKind.i64.wrap (Int.tdiv (r:Int) (d:Int))) 256)=((r / d%256:Nat):Int):=by
 rw [wD,fm (by have:=Nat.div_le_self r d;omega),show (256:Int)=((256:Nat):Int) from rfl,qa,Ct,Nat.mod_mod]
theorem Fo {p:List Int}(f:du p)(g:p.length≤1048576):∃s,gc p=some s∧iX p=some s∧s.length=4:=by
 obtain ⟨r,h1,h,e⟩:=RE f g;refine ⟨Xu r,?_,?_,rfl⟩
 ·unfold gc;rw [h1];simp only [bS];have a:=Xs e 16777216;have c:=WW e 65536;have d:=WW e 256;have i:IntKind.u8.wrap (Int.tmod (r:Int) 256)=((r%256:Nat):Int):=by rw [show (256:Int)=((256:Nat):Int) from rfl,qa,Ct,Nat.mod_mod]
  simp only [Int.cast_ofNat_Int] at a c d;rw [a,c,d,i];rfl
 unfold iX;rw [h];simp only [bS];have a:=LA r (k:=24) (by omega);have c:=LA r (k:=16) (by omega);have d:=LA r (k:=8) (by omega);simp only [Int.cast_ofNat_Int] at a c d;rw [a,c,d,Ct,Ct,Ct,Ct];rfl
end Go.Vk
/- Numbers in decimal, texts joined: alike. -/
namespace Go.Vk
open Go.Proofs
def I64 (x:Int):Prop:=-9223372036854775808≤x∧x≤9223372036854775807
theorem Na {d:Nat}(h:d<10):eU ([IntKind.u8.wrap (IntKind.i64.wrap (48+(d:Int)))]:List Int)=[UInt8.ofNat (48+d)]:=by
 rw [aP (by omega) (by omega),IntWalk.u8_in _ (by omega)];have:((48:Int)+(d:Int)).toNat=48+d:=by omega
 simp [eU,this]
theorem Mv {u:Nat}(a:0<u)(s:List UInt8):(if u / 10=0 then UInt8.ofNat (48+u%10)::s else Lib.decDigits (u / 10)++(UInt8.ofNat (48+u%10)::s))=Lib.decDigits u++s:=by
 by_cases h:u<10
 ·rw [if_pos (by omega),Lib.decDigits_one h,Nat.mod_eq_of_lt h];rfl
 rw [if_neg (by omega),Lib.decDigits.eq_def u,dif_neg h];simp
def NO (p:Int)(s:List UInt8):Option (List UInt8):=if p<0 then some (45::s) else some s
theorem Hl {p:Int}{k:Nat}{s:List UInt8}(a:s.length≤1000):fB p (k+1) 0 s=NO p s:=by
 rw [fB,if_neg (by simp)];unfold NO rh;by_cases h:p<0
 ·rw [if_pos (by simpa using h),if_pos h,if_pos (by simp;omega)];rfl
 rw [if_neg (by simpa using h),if_neg h]
theorem UW (p:Int):∀(d u k:Nat)(s:List UInt8),u<10^d→u≤9223372036854775808→d<k→s.length+d≤1000→fB p k (u:Int) s=NO p (if u=0 then s else Lib.decDigits u++s):=by
 intro d
 induction d with
 | zero =>
  intro u k s a _ hk g;obtain ⟨k,rfl⟩:=kS k (by omega);have:u=0:=by simpa using a
  subst this;rw [if_pos rfl];exact Hl (by omega)
 | succ d ih =>
  intro u k s a h hk g;obtain ⟨k,rfl⟩:=kS k (by omega);by_cases e:u=0
  ·subst e;rw [if_pos rfl];exact Hl (by omega)
  have c:=qa u 10;have f:=wD u 10;simp only [Int.cast_ofNat_Int] at c f;rw [fB,if_pos (by simp;omega),if_neg (by rw [c];simp;omega),c];unfold lR;rw [Na (Nat.mod_lt _ (by omega)),f,aP (by omega) (by omega)];unfold rh;rw [if_pos (by simp;omega)];simp only [Option.bind_some,List.cons_append,List.nil_append];rw [ih (u / 10) k _ (by rw [Nat.pow_succ] at a;omega) (by omega) (by omega) (by simp;omega),if_neg e,Mv (by omega)]
theorem Vs (p:Int):∀(d u k:Nat)(s:List UInt8),u<10^d→u≤9223372036854775808→d<k→s.length+d≤1000→fB p k (-(u:Int)) s=NO p (if u=0 then s else Lib.decDigits u++s):=by
 intro d
 induction d with
 | zero =>
  intro u k s a _ hk i;obtain ⟨k,rfl⟩:=kS k (by omega);have:u=0:=by simpa using a
  subst this;rw [if_pos rfl];exact Hl (by omega)
 | succ d ih =>
  intro u k s a j hk i;obtain ⟨k,rfl⟩:=kS k (by omega);by_cases f:u=0
  ·subst f;rw [if_pos rfl];exact Hl (by omega)
  have g:=qa u 10;have h:=wD u 10;simp only [Int.cast_ofNat_Int] at g h;have hr':Int.tmod (-(u:Int)) 10=-((u%10:Nat):Int):=by rw [Int.neg_tmod,g]
  have hd':Int.tdiv (-(u:Int)) 10=-((u / 10:Nat):Int):=by rw [Int.neg_tdiv,h]
  have c:lR s (fB p k) (-(u:Int)) ((u%10:Nat):Int)=NO p (Lib.decDigits u++s):=by
   unfold lR;rw [Na (Nat.mod_lt _ (by omega)),hd',aP (by omega) (by omega)];unfold rh;rw [if_pos (by simp;omega)];simp only [Option.bind_some,List.cons_append,List.nil_append];rw [ih (u / 10) k _ (by rw [Nat.pow_succ] at a;omega) (by omega) (by omega) (by simp;omega),Mv (by omega)]
  rw [fB,if_pos (by simp;omega),hr',if_neg f];by_cases e:u%10=0
  ·rw [if_neg (by rw [e];simp),e];rw [e] at c;exact c
  rw [if_pos (by simp;omega),aP (by omega) (by omega),show (0:Int) - -((u%10:Nat):Int)=((u%10:Nat):Int) by omega];exact c
theorem Cr {n:Int}(h:I64 n):uU n=some (Lib.itoa n):=by
 obtain ⟨d,h1⟩:=h;unfold uU;by_cases c:n=0
 ·subst c;rw [if_pos (by simp)];unfold Lib.itoa;rw [if_neg (by omega),show (0:Int).toNat=0 from rfl,Lib.decDigits_one (by omega)];rfl
 rw [if_neg (by simpa using c)];by_cases a:n<0
 ·obtain ⟨u,rfl⟩:∃u:Nat,n=-(u:Int):=⟨n.natAbs,by omega⟩;rw [Vs _ 20 u aY [] (by have:(10:Nat)^20=100000000000000000000:=(by decide);omega) (by omega) (cx (by omega)) (by simp),if_neg (by omega)];unfold NO Lib.itoa;rw [if_pos a,if_pos a,show (-(u:Int)).natAbs=u by omega,List.append_nil]
 obtain ⟨u,rfl⟩:∃u:Nat,n=(u:Int):=⟨n.toNat,by omega⟩;rw [UW _ 20 u aY [] (by have:(10:Nat)^20=100000000000000000000:=(by decide);omega) (by omega) (cx (by omega)) (by simp),if_neg (by omega)];unfold NO Lib.itoa;rw [if_neg a,if_neg a,Int.toNat_natCast,List.append_nil]
theorem Ck {n:Int}(h:I64 n):uG n=some (Lib.itoa n):=by
 unfold uG PI;rw [if_pos ⟨h.1,h.2⟩];rfl
theorem Np {n:Int}(h:I64 n):(Lib.itoa n).length≤21:=Lib.itoa_length_le n h.1 h.2
theorem vR {a b:List UInt8}(h:a.length+b.length≤68719476736):rh a b=some (a++b):=if_pos h
theorem Qt (xs:List (List UInt8))(x sep:List UInt8):Lib.join (xs++[x]) sep=if xs=[] then x else Lib.join xs sep++sep++x:=by
 cases xs with
 | nil=>simp [Lib.join_one]
 | cons y r =>
  rw [List.cons_append,Lib.join_cons,Lib.join_cons,if_neg (by simp)];simp [Lib.joinTail]
theorem KU (xs:List (List UInt8))(sep:List UInt8):∀n,(Lib.join (xs.take n) sep).length≤(Lib.join xs sep).length:=by
 intro n
 cases xs with
 | nil=>simp
 | cons x r =>
  cases n with
  | zero=>simp [Lib.join_nil]
  | succ n =>
   rw [List.take_succ_cons,Lib.join_cons,Lib.join_cons];simp only [List.length_append,Lib.joinTail]
   have:((r.take n).map (sep ++ ·)).flatten.length≤(r.map (sep ++ ·)).flatten.length:=by
    rw [List.map_take];conv=>rhs;rw [←List.take_append_drop n (r.map (sep ++ ·)),List.flatten_append,List.length_append]
    omega
   omega
theorem Dv {xs:List (List UInt8)}{sep:List UInt8}(j:xs.length≤1000000000)(l:(Lib.join xs sep).length≤1000000000)(_:sep.length≤1000):lk xs sep=some (Lib.join xs sep):=by
 unfold lk;refine vV (Lp:=fun k i=>fD xs sep k (Lib.join (xs.take i) sep) (i:Int)) (n:=xs.length) (fun k=>?_) (fun k i c=>?_) (by omega)
 ·show fD xs sep (k+1) _ _=_;rw [fD,if_neg (by simp),List.take_length]
 show fD xs sep (k+1) _ _=fD xs sep k _ _;have h:xs.take (i+1)=xs.take i++[xs[i]]:=List.take_succ_eq_append_getElem c;have h1:=KU xs sep (i+1);have a:=Qt (xs.take i) xs[i] sep;rw [←h] at a;by_cases d:i=0
 ·subst d;rw [if_pos (by simp)] at a;rw [a] at h1 ⊢;rw [fD,if_pos (by simp;omega),if_neg (by simp)];unfold nE;rw [aH c,ax (by omega)];simp only [Option.bind_some,List.take_zero,Lib.join_nil];rw [vR (by simp;omega)];rfl
 have f:¬xs.take i=[]:=by
  intro e;have g:(xs.take i).length=i:=by rw [List.length_take];omega
  rw [e] at g;exact d g.symm
 rw [if_neg f] at a;rw [a] at h1 ⊢;simp only [List.length_append] at h1;rw [fD,if_pos (by simp;omega),if_pos (by simp;omega),vR (by omega)];unfold nE;simp only [bS];rw [aH c,ax (by omega)];simp only [bS];rw [vR (by simp only [List.length_append];omega)];rfl
theorem Dy {xs:List (List UInt8)}{sep:List UInt8}(a:xs.length≤1000000000)(c:(Lib.join xs sep).length≤1000000000):AG xs sep=some (Lib.join xs sep):=by
 unfold AG;rw [if_pos ⟨by omega,by omega⟩]
theorem CV {xs:List (List UInt8)}{sep:List UInt8}{b:Nat}(h:∀x∈xs,x.length≤b):(Lib.join xs sep).length≤(sep.length+b)*xs.length:=by
 cases xs with
 | nil=>simp [Lib.join_nil]
 | cons x r =>
  rw [Lib.join_cons,List.length_append];have c:=h x (by simp)
  have:(Lib.joinTail sep r).length≤(sep.length+b)*r.length:=by
   unfold Lib.joinTail;have a:∀y∈r,y.length≤b:=fun y d=>h y (by simp [d]);clear h c
   induction r with
   | nil=>simp
   | cons y r ih =>
    have h1:=a y (by simp);have f:=ih (fun z e=>a z (by simp [e]));simp only [List.map_cons,List.flatten_cons,List.length_append,List.length_cons,Nat.mul_succ];omega
  simp only [List.length_cons,Nat.mul_succ];omega
theorem Ll {p:List Int}{sep:List UInt8}(a:sn p)(f:sep.length≤100):qC p sep=some (Lib.join (p.map Lib.itoa) sep)∧(Lib.join (p.map Lib.itoa) sep).length≤121*p.length:=by
 have g:=a.1
 have c:(Lib.join (p.map Lib.itoa) sep).length≤121*p.length:=by
  have:=CV (xs:=p.map Lib.itoa) (sep:=sep) (b:=21) (fun x d=>by
   obtain ⟨n,e,rfl⟩:=List.mem_map.1 d;exact Np (a.2 n e))
  rw [List.length_map] at this;exact Nat.le_trans this (Nat.mul_le_mul_right _ (by omega))
 refine ⟨?_,c⟩;unfold qC;refine pZ (p:=p) Lib.itoa (fun k l i=>fV p sep k i l) (fun l=>(AG l sep).bind fun s=>some s) (fun k l=>?_) (fun k l i h j=>?_) (by omega) |>.trans ?_
 ·show fV p sep (k+1) _ l=_;rw [fV,if_neg (by simp)]
 ·show fV p sep (k+1) _ l=_;rw [fV,if_pos (by simp;omega),aH h,ax (by omega)];simp only [bS];rw [Ck (a.2 _ (List.getElem_mem h))];simp only [bS];rw [bC (by simp;omega)];rfl
 rw [Dy (by simp;omega) (by omega)];rfl
end Go.Vk
/- A schema's text: alike. -/
namespace Go.Vk
open Go.Proofs
theorem Dec.val {o:Option Bool}{P:Prop}(h:Dec o P)(p:P):o=some true:=by
 rcases h.cases with ⟨e,_⟩|⟨_,n⟩
 ·exact e
 exact absurd p n
theorem LN {ws:List (List UInt8)}(h:yM ws):∀w∈ws,w.length≤8:=fun w c=>by
 obtain ⟨i,a,rfl⟩:=List.getElem_of_mem c;have:=(h i (Nat.zero_le _) a a).1.1;omega
def eA (a:aD):List UInt8:=if 0<a.z_.length then a.E_++[58]++Lib.join (a.z_.map Lib.itoa) [44] else a.E_++[61]++Lib.join a.M_ [44]
theorem Ep {a:aD}(d:jK a)(h:sa a):nc a=some (eA a)∧mV a=some (eA a)∧(eA a).length≤400:=by
 have t:a.E_.length≤8:=by have:=h.1.1;omega
 unfold nc mV eA;rw [(yK (yO d)).val h,(DK (yO d)).val h];simp only [cS];rcases h.2 with ⟨g,u,j⟩|⟨g,v,_⟩
 ·have m:=CV (xs:=a.M_) (sep:=[44]) (LN j);have o:(Lib.join a.M_ [44]).length≤36:=by simp only [List.length_cons,List.length_nil] at m;omega
  rw [if_pos (by simp;omega),if_neg (c:=0<a.z_.length) (by omega),if_neg (c:=decide ((a.z_.length:Int)>0)=true) (by rw [decide_eq_true_iff];omega),vR (by simp;omega)];simp only [bS];rw [Dv (by omega) (by omega) (by simp),Dy (by omega) (by omega)];simp only [bS];rw [vR (by simp;omega)];exact ⟨rfl,rfl,by simp;omega⟩
 obtain ⟨q,o⟩:=Ll (sep:=[44]) d.2.1 (by simp);have r:a.z_.length≤3:=by omega
 have e:rh a.E_ [58]=some (a.E_++[58]):=vR (by simp only [List.length_cons,List.length_nil];omega);have f:rh (a.E_++[58]) (Lib.join (a.z_.map Lib.itoa) [44])=some (a.E_++[58]++Lib.join (a.z_.map Lib.itoa) [44]):=vR (by simp only [List.length_append,List.length_cons,List.length_nil];omega);rw [if_neg (c:=decide ((a.M_.length:Int)>0)=true) (by rw [decide_eq_true_iff];omega),if_pos (c:=0<a.z_.length) (by omega),if_pos (c:=decide ((a.z_.length:Int)>0)=true) (by rw [decide_eq_true_iff];omega),e];simp only [bS];rw [q];simp only [bS];rw [f];refine ⟨?_,rfl,by simp;omega⟩;refine (pZ (p:=a.z_) Lib.itoa (fun k l i=>iy a k l i) (fun l=>(rh a.E_ [58]).bind fun s=>(lk l [44]).bind fun y=>(rh s y).bind fun s=>some s) (fun k l=>?_) (fun k l i h w=>?_) (by omega)).trans ?_
 ·show iy a (k+1) l _=_;rw [iy,if_neg (by simp)]
 ·show iy a (k+1) l _=_;rw [iy,if_pos (by simp;omega),aH h,ax (by omega)];simp only [bS];rw [Cr (d.2.1.2 _ (List.getElem_mem h))];simp only [bS];rw [bC (by simp;omega)];rfl
 rw [e];simp only [bS];rw [Dv (by simp;omega) (by omega) (by simp)];simp only [bS];rw [f];rfl
def kj (s:ae):List UInt8:=Lib.join (s.c_.map eA) [59]++[124]++Lib.join s.f_ [44]
theorem xA {s:ae}(c:ba s)(h:fL s):ry s=some (kj s)∧rF s=some (kj s)∧(kj s).length≤3000:=by
 have m:=h.1;have o:=h.2.1;have d:∀{i:Nat}(a:i<s.c_.length),nc s.c_[i]=some (eA s.c_[i])∧mV s.c_[i]=some (eA s.c_[i])∧(eA s.c_[i]).length≤400:=fun a=>Ep (c.1.2 _ (List.getElem_mem a)) (h.attr a)
 have h1:(Lib.join (s.c_.map eA) [59]).length≤2005:=by
  have:=CV (xs:=s.c_.map eA) (sep:=[59]) (b:=400) (fun x g=>by
   obtain ⟨y,j,rfl⟩:=List.mem_map.1 g;obtain ⟨i,a,rfl⟩:=List.getElem_of_mem j;exact (d a).2.2)
  rw [List.length_map] at this;simp only [List.length_cons,List.length_nil] at this;omega
 have q:(Lib.join s.f_ [44]).length≤27:=by
  have:=CV (xs:=s.f_) (sep:=[44]) (LN h.2.2.1);simp only [List.length_cons,List.length_nil] at this;omega
 have e:rh (Lib.join (s.c_.map eA) [59]) [124]=some (Lib.join (s.c_.map eA) [59]++[124]):=vR (by simp only [List.length_cons,List.length_nil];omega);have f:rh (Lib.join (s.c_.map eA) [59]++[124]) (Lib.join s.f_ [44])=some (kj s):=vR (by simp only [List.length_append,List.length_cons,List.length_nil];omega);unfold ry rF;rw [(lP (kC c)).val h,(ox (kC c)).val h];simp only [cS];refine ⟨?_,?_,by unfold kj;simp;omega⟩
 ·refine (pZ (p:=s.c_) eA (fun k l i=>go s k l i) (fun l=>(lk l [59]).bind fun y=>(rh y [124]).bind fun t=>(lk s.f_ [44]).bind fun y=>(rh t y).bind fun t=>some t) (fun k l=>?_) (fun k l i h a=>?_) (by omega)).trans ?_
  ·show go s (k+1) l _=_;rw [go,if_neg (by simp)]
  ·show go s (k+1) l _=_;rw [go,if_pos (by simp;omega),aH h,ax (by omega)];simp only [bS];rw [(d h).1];simp only [bS];rw [bC (by simp;omega)];rfl
  rw [Dv (by simp;omega) (by omega) (by simp)];simp only [bS];rw [e];simp only [bS];rw [Dv (by omega) (by omega) (by simp)];simp only [bS];rw [f];rfl
 refine (pZ (p:=s.c_) eA (fun k l i=>gd s k i l) (fun l=>(AG l [59]).bind fun y=>(rh y [124]).bind fun t=>(AG s.f_ [44]).bind fun y=>(rh t y).bind fun t=>some t) (fun k l=>?_) (fun k l i h a=>?_) (by omega)).trans ?_
 ·show gd s (k+1) _ l=_;rw [gd,if_neg (by simp)]
 ·show gd s (k+1) _ l=_;rw [gd,if_pos (by simp;omega),aH h,ax (by omega)];simp only [bS];rw [(d h).2.1];simp only [bS];rw [bC (by simp;omega)];rfl
 rw [Dy (by simp;omega) (by omega)];simp only [bS];rw [e];simp only [bS];rw [Dy (by omega) (by omega)];simp only [bS];rw [f];rfl
def tA (w:List UInt8):List Int:=tw w.length++byS w
theorem Kj {w:List UInt8}(h:w.length≤3000):vH w=some (tA w)∧vx w=some (tA w)∧(tA w).length≤3005:=by
 obtain ⟨h1,a,c⟩:=JU (n:=w.length) (by omega);have d:=vM w;have e:Cw w=some (byS w):=if_pos (by omega);unfold vH vx tA;rw [h1,a,e];simp only [bS];rw [bC (by omega)];exact ⟨rfl,rfl,by rw [List.length_append];omega⟩
theorem dm {a b:List Int}(c:du a)(d:du b):du (a++b):=fun x e=>(List.mem_append.1 e).elim (c x) (d x)
theorem wH {α:Type}{p:List α}{B:α→List Int}(h:∀x∈p,du (B x)):du (p.flatMap B):=fun y a=>by
 obtain ⟨x,c,a⟩:=List.mem_flatMap.1 a;exact h x c y a
theorem Rc (s:List UInt8):du (byS s):=fun x a=>by
 obtain ⟨b,_,rfl⟩:=List.mem_map.1 a;have:=b.toNat_lt;exact ⟨by omega,by omega⟩
theorem Cx:∀n:Nat,du (tw n)
 | n=>by
  by_cases h:n<128
  ·rw [Dx h];intro x hx;rw [List.mem_singleton.1 hx];omega
  rw [GY h];intro x hx;rcases List.mem_cons.1 hx with rfl|hx
  ·omega
  exact Cx (n / 128) x hx
termination_by n=>n
theorem fW (x:Int):du (dZ x):=by
 unfold dZ;split
 ·exact Cx _
 intro x a;cases a
theorem FY (p:List Int):du (mo p):=wH fun x _=>fW x
theorem xF (p:List Int):du (kE p):=dm (fW _) (FY _)
theorem zB (p:List (List Int)):du (p.flatMap kE):=wH fun x _=>xF x
theorem Mz (x:au):du (uB x) :=
 dm (dm (dm (dm (dm (dm (dm (dm (dm (dm (dm (fW _) (fW _)) (fW _)) (xF _)) (fW _)) (xF _)) (dm (fW _) (zB _))) (fW _)) (xF _)) (fW _)) (fW _)) (fW _)
end Go.Vk
/- What a right state's bytes need: alike. -/
namespace Go.Vk
theorem Hm {α:Type}{p:List α}{f:α→Nat}{b:Nat}(h:∀x∈p,f x≤b):(p.map f).sum≤b*p.length:=by
 induction p with
 | nil=>simp
 | cons x p ih =>
  have h1:=h x (by simp);have c:=ih fun y a=>h y (by simp [a]);simp only [List.map_cons,List.sum_cons,List.length_cons,Nat.mul_succ];omega
theorem Uy {l:List Int}{n:Nat}(h:∀i,0≤i→i<l.length→∀h:i<l.length,(0≤l[i]∧l[i]≤(n:Int)-1)∧(0<i→l[i-1]<l[i])):l.length≤n:=by
 have key:∀i,∀a:i<l.length,(i:Int)≤l[i]:=by
  intro i
  induction i with
  | zero=>intro a;exact (h 0 (Nat.le_refl _) a a).1.1
  | succ i ih =>
   intro a;have h1:=ih (by omega);have c:=(h (i+1) (Nat.zero_le _) a a).2 (Nat.succ_pos i);simp only [Nat.add_sub_cancel] at c;omega
 by_cases d:l.length=0
 ·omega
 have h1:=key (l.length-1) (by omega);have c:=(h (l.length-1) (Nat.zero_le _) (by omega) (by omega)).1.2;omega
theorem Bf {l:List Int}(h:∀x∈l,0≤x∧x≤99999):rf l:=fun x a=>by
 have:=h x a;exact ⟨by omega,by omega⟩
theorem WK {s:ae}{f:aI}(h:uP s f):f.j_≤4:=by
 have h1:=h.2.2.2
 have d:=(DZ (a:=atr s f) (by
   obtain ⟨j,c,e⟩:=List.getElem_of_mem (zy h.2.1);rw [←e];exact h.1.attr c)).2
 unfold Af at h1;split at h1<;>omega
theorem Qp {s:ae}{x:aE}(h:xP s x):rf x.l_∧(∀y∈x.g_,rf y)∧x.l_.length+AJ x.g_≤80∧x.l_.sum≤999:=by
 obtain ⟨d,h1,j,k,a⟩:=h;have q:=d.2.1;have r:=d.1
 have g:∀y∈x.g_,rf y∧y.length≤12:=fun y c=>by
  rcases a with a|⟨a,l⟩
  ·rw [List.length_eq_zero_iff.1 a] at c;cases c
  obtain ⟨i,m,rfl⟩:=List.getElem_of_mem c;obtain ⟨c1,c2,_⟩:=l i m (by omega);have o:=(DZ (d.attr (i:=i) (by omega))).2;have:=Nat.mul_le_mul o (show s.f_.length≤3 by omega);exact ⟨Bf fun z e=>by have:=c2 z e;omega,by omega⟩
 have t:x.g_.length≤5:=by
  rcases a with a|⟨a,_⟩<;>omega
 refine ⟨Bf fun z e=>by have:=j z e;omega,fun y c=>(g y c).1,?_,k⟩;have:=Hm (p:=x.g_) (f:=List.length) (b:=12) fun y c=>(g y c).2;unfold AJ;omega
theorem Ki {s:ae}{t:am}(c:xh s t){i:Nat}(r:i<t.b_.length):yt t.b_[i]∧szM t.b_[i]≤100:=by
 have hL:=c.2.1;have hs:=c.2.2.1;have hA:=c.1.1;obtain ⟨⟨F,G,k,a,l,o⟩,v,w⟩:=c.2.2.2 i r r;obtain ⟨A,C,H,L⟩:=Qp k;have M:=Uy a.2.2
 have D:rf t.b_[i].c_:=Bf fun z q=>by
  obtain ⟨j,E,rfl⟩:=List.getElem_of_mem q;have:=(a.2.2 j (Nat.zero_le _) E E).1;omega
 have P : -1≤t.b_[i].H_∧t.b_[i].H_≤31:=by
  by_cases Q:i=0
  ·have:=(v Q).1;omega
  obtain ⟨u,a5,a6,e,_⟩:=w (by omega);omega
 generalize t.b_[i]=n at F G k a l o A C H L M D P
 have hk:rf n.A_∧n.A_.length≤4∧(-1≤n.n_.q_∧n.n_.q_≤5)∧(-1≤n.n_.j_∧n.n_.j_≤5)∧(0≤n.K_∧n.K_≤5)∧(0≤n.J_∧n.J_≤999):=by
  cases p:n.D_ with
  | true =>
   obtain ⟨⟨R,X⟩,Z,e4,d⟩:=l p;refine ⟨?_,by omega,by omega,by omega,by omega,d.1,?_⟩
   ·rw [List.length_eq_zero_iff.1 Z];intro x f;cases f
   have:=d.2;split at this<;>omega
  | false =>
   obtain ⟨g,R,X,_,e4,d⟩:=o p;have b1:=(Ma g).2;have b2:=WK g;have b3:=g.2.1;have b4:=g.2.2.1;refine ⟨Bf fun z q=>?_,by omega,by omega,by omega,by omega,by omega⟩;obtain ⟨m,hm,e,_⟩:=d.2 z q;omega
 obtain ⟨k1,k2,k3,k4,k5,k6⟩:=hk;have hI:∀{x:Int},-1≤x∧x≤99999→InR x:=fun h=>⟨by omega,by omega⟩;refine ⟨⟨?_,k1,D,A,C⟩,by unfold szM;omega⟩;intro x f;simp only [List.mem_cons,List.not_mem_nil,or_false] at f;rcases f with rfl|rfl|rfl|rfl|rfl|rfl|rfl<;>exact hI (by omega)
def IM (t:am):Prop:=szU t≤4000∧t.b_.length≤31∧InR t.p_∧∀y∈t.b_,yt y
theorem VD {s:ae}{t:am}(a:xh s t):IM t:=by
 have e:=a.2.1;have g:=a.2.2.1
 have:=Hm (p:=t.b_) (f:=szM) (b:=100) fun y c=>by
  obtain ⟨i,d,rfl⟩:=List.getElem_of_mem c;exact (Ki a d).2
 refine ⟨by unfold szU;omega,by omega,⟨by omega,by omega⟩,fun y c=>?_⟩;obtain ⟨i,d,rfl⟩:=List.getElem_of_mem c;exact (Ki a d).1
theorem Uh {t:am}(h:Lz t):IM t:=by
 have e:=List.length_eq_zero_iff.1 h.1;refine ⟨by unfold szU;rw [e];simp,by rw [e];simp,⟨by have:=h.2;omega,by have:=h.2;omega⟩,fun y a=>?_⟩;rw [e] at a;cases a
def vu (t:am):List Int:=dZ t.p_++dZ t.b_.length++t.b_.flatMap uB
theorem EC {t:am}(h:IM t):(vu t).length≤22000:=by
 have h1:=dY t.p_;have c:=dY t.b_.length;have d:=Ie t.b_;have a:=h.1;have e:=h.2.1;unfold szU at a;unfold vu;simp only [List.length_append];omega
theorem Gh (t:am):du (vu t):=dm (dm (fW _) (fW _)) (wH fun x _=>Mz x)
theorem Ke {t:am}(h:IM t):qw t=some (vu t):=by
 rw [Mt (by have:=h.1;omega),if_pos h.2.2];rfl
theorem Kf {t:am}(h:IM t){l:List Int}(m:l.length≤1000000):nv ⟨l,false⟩ t=some ⟨l++vu t,false⟩:=by
 have a:=EC h;have h1:=h.2.1;have o:=h.1;unfold vu at a ⊢;simp only [List.length_append] at a;have f:InR (t.b_.length:Int):=By (by omega);have g:=pi [t.p_,(t.b_.length:Int)];simp only [List.length_cons,List.length_nil] at g;unfold nv;rw [jv (by simp) _ _ (by omega)];simp only [bS];have e:(false||decide (¬ ∀x∈[t.p_,(t.b_.length:Int)],InR x))=false:=by simp [f,h.2.2.1]
 rw [e]
 refine (sf (M:=400000000) (p:=t.b_) (σ:=Bool) uB (fun q x=>q||decide (¬yt x)) (fS t) (fun l q=>some ⟨l,q⟩)
   (fun k l q=>by show (if _ then _ else _)=_;rw [if_neg (by simp)])
   (fun k l q i c d=>by
    have j:=List.getElem_mem c;exact Jk c (by omega) (by have:=KP j;omega) d) (by omega) _ false (by simp only [List.length_append];omega)).trans ?_
 rw [JO,decide_eq_false (show ¬ ¬_ from fun n=>n h.2.2.2)];simp [CC,EW]
def QX (x:aw):Prop:=AJ x.k_≤32∧∀r∈x.k_,rf r
theorem Xj {x:aw}(h:Gq x):QX x:=by
 have c:∀r∈x.k_,rf r∧r.length≤3:=fun r a=>by
  obtain ⟨i,d,rfl⟩:=List.getElem_of_mem a;obtain ⟨h1,e⟩:=h.2 i d d;have g:=h.1;have l:2^i≤2^8:=Nat.pow_le_pow_right (by omega) (by omega);exact ⟨Bf fun z j=>by have:=e z j;omega,h1.2⟩
 have:=Hm (p:=x.k_) (f:=List.length) (b:=3) fun y k=>(c y k).2;have g:=h.1;exact ⟨by unfold AJ;omega,fun r a=>(c r a).1⟩
def Dn (x:aw):List Int:=dZ x.k_.length++x.k_.flatMap kE
theorem Mo {x:aw}(h:QX x):(Dn x).length≤200:=by
 have h1:=dY x.k_.length;have a:=tI x.k_;have c:=h.1;unfold Dn;rw [List.length_append];omega
theorem HP (x:aw):du (Dn x):=dm (fW _) (zB _)
theorem Nj {x:aw}(h:QX x):nG x=some (Dn x):=by
 rw [Jw (by have:=h.1;omega),if_pos h.2];rfl
theorem Nh {x:aw}(h:QX x){l:List Int}(a:l.length≤1000000):lM ⟨l,false⟩ x=some ⟨l++Dn x,false⟩:=by
 have c:=h.1;have d:=@wa x.k_;have e:=dY x.k_.length;unfold lM;rw [ze (By (by omega)) _ _ (by omega)];simp only [bS];rw [DG (p:=x.k_) (by omega) (mc x) _ (fun _ _ _ _=>rfl) _ _ (by simp only [List.length_append];omega),decide_eq_false (show ¬ ¬_ from fun n=>n h.2),List.append_assoc];rfl
end Go.Vk
