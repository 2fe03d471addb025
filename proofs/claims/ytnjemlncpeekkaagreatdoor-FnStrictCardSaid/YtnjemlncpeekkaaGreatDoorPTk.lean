/- Scores drawn: they are there, and CT. -/
import Derived.Test.YtnjemlncpeekkaaGreatDoorPDr
import Derived.Test.YtnjemlncpeekkaaGreatDoorPTr
import Derived.Test.YtnjemlncpeekkaaGreatDoorPTq
import Derived.Test.YtnjemlncpeekkaaGreatDoorVkBr
namespace Go.Vk
structure Shp (N:Nat)(s:aT):Prop where
 len:s.r_.length=N
 row:∀r∈s.r_,r.length=N∧∀x∈r,V x
 few:s.s_.length≤30
 last:∀q∈s.s_,V q.aa_∧V q.Y_
theorem Shp.sml {N:Nat}{s:aT}(h:Shp N s)(d:N≤3):yj s :=
 ⟨⟨by rw [h.len];omega,fun r a=>⟨by rw [(h.row r a).1];omega,(h.row r a).2⟩⟩,by have:=h.few;show s.s_.length≤_;omega,fun q c=>h.last q c⟩
theorem v0:V 0:=ko ⟨by omega,by omega⟩
theorem Ux {N:Nat}(c:2≤N∧N≤3):Tot (tV N) (fun s=>Shp N s∧s.s_=[]):=by
 unfold tV aM;simp only [bS];rw [pF (by omega)];simp only [Bool.not_true,Bool.false_eq_true,if_false];refine dj (Lp:=fun k l i=>iM N k l i) N (fun i l=>l.length=i∧∀r∈l,r.length=N∧∀x∈r,V x) (fun k l h=>?_) (fun k l i d h rec=>?_) (by omega) ⟨rfl,by simp⟩
 ·show Tot (iM N (k+1) l _) _;rw [iM,if_neg (by simp)];exact ar ⟨⟨h.1,h.2,by simp,by simp⟩,rfl⟩
 show Tot (iM N (k+1) l _) _;rw [iM,if_pos (by simp;omega),OK _ (by omega)];simp only [bS];rw [bC (by simp;omega),ax (by omega)];refine rec _ ⟨by simp [h.1],fun r hr=>?_⟩;rcases List.mem_append.1 hr with hr|hr
 ·exact h.2 r hr
 rw [List.mem_singleton.1 hr];exact ⟨by simp,fun x a=>by rw [(List.mem_replicate.1 a).2];exact v0⟩
theorem KI {N:Nat}{s:aT}{i j:Nat}{x:Int}{l:List aC}(h:Shp N s)(d:i<s.r_.length)(e:V x)(f:l.length≤30)(g:∀q∈l,V q.aa_∧V q.Y_):Shp N ⟨s.r_.set i (s.r_[i].set j x),l⟩:=by
 refine ⟨by simp [h.len],fun r a=>?_,f,g⟩;rcases List.mem_or_eq_of_mem_set a with a|rfl
 ·exact h.row r a
 have:=h.row _ (List.getElem_mem d);refine ⟨by simp [this.1],fun y c=>?_⟩;rcases List.mem_or_eq_of_mem_set c with c|rfl
 ·exact this.2 y c
 exact e
theorem Lr {N:Nat}{s:aT}(c:N≤3)(h:Shp N s):vv s=some s:=by
 have h1:=h.len;have d:=h.few;unfold vv;rw [bC (by simp;omega)];simp only [Option.bind_some,List.nil_append]
 have:=pZ (p:=s.r_) id (fun k l i=>jt s s.s_ k l i) (fun l=>some ⟨l,s.s_⟩) (fun k l=>by
  show jt s s.s_ (k+1) l _=_
  rw [jt,if_neg (by simp)]) (fun k l i a e=>by
  show jt s s.s_ (k+1) l _=_;have f:=(h.row _ (List.getElem_mem a)).1;rw [jt,if_pos (by simp;omega),aH a,ax (by omega)];simp only [bS];rw [bC (by simp;omega)];simp only [bS];rw [bC (by simp;omega)];rfl) (by omega)
 rwa [List.map_id] at this
theorem Ur {N:Nat}{s:aT}(a:N≤3)(h:Shp N s):T (zp N s):=by
 unfold zp;have c:=h.len;refine (Er (h.sml a)).t.bind fun b _=>aZ (fun _=>bj _) (fun _=>?_);refine dj (fun k (v:Int) i=>ln N s k v i) N (fun _ _=>True) (fun k v _=>?_) (fun k v i d _ hk=>?_) (by omega) trivial
 ·show Tot (ln N s (k+1) _ _) _;rw [ln,if_neg (by simp)];exact bj _
 show Tot (ln N s (k+1) _ _) _;rw [ln,if_pos (by simp;omega),aH (show i<s.r_.length by omega),ax (by omega)];simp only [bS];exact (Po (by rw [(h.row _ (List.getElem_mem _)).1];omega)).bind fun _ _=>hk _ trivial
theorem Vr {N:Nat}(c:2≤N∧N≤3){s:aT}(h:Shp N s){a b:Int}:Tot (uk N s a b) (fun m=>Shp N m.1):=by
 unfold uk;rw [Lr c.2 h];simp only [bS];refine ki (Er (h.sml c.2)).t (by simp only [sS];exact ar h) (fun hp=>?_);simp only [sS];rw [aP (n:=(N:Int)-1) (by omega) (by omega)];refine lV cz.t (by simp only [sS];exact ar h) (fun f=>?_);simp only [sS];refine lV cz.t (by simp only [sS];exact ar h) (fun g=>?_);simp only [sS];refine Tot.bind (P:=fun _=>True) ((Ur c.2 h).bind fun _ _=>bj _) (fun u _=>aZ (fun _=>ar h) (fun _=>?_))
 have k:s.s_.length≤20:=by
  obtain ⟨_,_,_,_,d,_⟩:=hp;split at d<;>omega
 obtain ⟨i,rfl⟩:∃x:Nat,a=x:=⟨a.toNat,by omega⟩;obtain ⟨j,rfl⟩:∃x:Nat,b=x:=⟨b.toNat,by omega⟩;have h1:i<s.r_.length:=by rw [h.len];omega
 have d:j<s.r_[i].length:=by rw [(h.row _ (List.getElem_mem h1)).1];omega
 rw [aH h1];simp only [bS];rw [aH d];simp only [bS];rw [bC (by simp;omega)];simp only [bS]
 have hq:∀q∈s.s_++[(⟨(i:Int),(j:Int)⟩:aC)],V q.aa_∧V q.Y_:=fun q hq=>by
  rcases List.mem_append.1 hq with hq|hq
  ·exact h.last q hq
  rw [List.mem_singleton.1 hq];exact ⟨ko (x:=(i:Int)) ⟨by omega,by omega⟩,ko (x:=(j:Int)) ⟨by omega,by omega⟩⟩
 refine aZ (fun e=>?_) (fun _=>ar (KI h h1 (tG _) (by simp;omega) hq));refine (qu ⟨by omega,by simp;omega,by omega⟩).bind fun l e=>?_;subst e;rw [bC (by simp;omega)];refine ar (KI h h1 (tG _) (by simp;omega) fun q hq'=>hq q ?_);rw [List.nil_append] at hq';exact List.mem_of_mem_drop (List.mem_of_mem_take hq')
section
variable {p:List Int} (hp:p.length≤1048576)
include hp
theorem PV {c:aK}(w:Cur p c){N:Nat}(g:2≤N∧N≤3):TD p (ua p c N) (Shp N):=by
 unfold ua;refine (Ux g).bind fun s e=>(Ay hp w 6).bind fun o j=>?_;obtain ⟨e,r⟩:=e;refine aZ (fun _=>?_) (fun _=>?_)
 ·have h1:0<s.r_.length:=by rw [e.len];omega
  have x:0<s.r_[0].length:=by rw [(e.row _ (List.getElem_mem h1)).1];omega
  have A:idx s.r_ 0=some s.r_[0]:=aH h1;have C:idx s.r_[0] 0=some s.r_[0][0]:=aH x;rw [A];simp only [bS];refine (jk hp j.1 2).bind fun d D=>?_;rw [C];simp only [bS];refine dj (Lp:=fun k l i=>iD s s.r_[0] d k l i) 20 (fun i l=>l.length=i∧∀q∈l,V q.aa_∧V q.Y_) (fun k l h=>?_) (fun k l i E h rec=>?_) (by omega) ⟨by rw [r];rfl,by rw [r];simp⟩
  ·show Tot (iD s _ d (k+1) l _) _;rw [iD,if_neg (by simp)];exact ar ⟨D.1,KI e h1 (tG _) (by omega) h.2⟩
  show Tot (iD s _ d (k+1) l _) _;rw [iD,if_pos (by simp;omega),bC (by simp;omega),ax (by omega)];refine rec _ ⟨by simp [h.1],fun q hq=>?_⟩;rcases List.mem_append.1 hq with hq|hq
  ·exact h.2 q hq
  rw [List.mem_singleton.1 hq];exact ⟨v0,v0⟩
 refine (KQ hp j.1 (by simp)).bind fun m f=>?_;obtain ⟨u,f⟩:=f
 obtain ⟨n,v,L⟩:∃n:Nat,m.1=n∧n≤30:=by
  simp only [List.mem_cons,List.not_mem_nil,or_false] at f;exact ⟨m.1.toNat,by omega,by omega⟩
 refine dj (σ:=Int×Int×aT) (Lp:=fun k s i=>iG m p N k s.1 s.2.1 s.2.2.r_ s.2.2.s_ i) (s:=(m.2.i_,m.2.h_,s)) n (fun i s=>Cur p ⟨s.1,s.2.1⟩∧Shp N s.2.2) (fun k s h=>?_) (fun k s i E h rec=>?_) (by omega) ⟨u,e⟩
 ·show Tot (iG m p N (k+1) s.1 s.2.1 _ _ _) _;rw [iG,if_neg (by rw [v];simp)];exact ar ⟨h.1,h.2⟩
 show Tot (iG m p N (k+1) s.1 s.2.1 _ _ _) _;rw [iG,if_pos (by rw [v];simp;omega),ax (by omega)];refine (jk hp h.1 N).bind fun a F=>(jk hp F.1 N).bind fun b G=>(Vr g h.2).bind fun t H=>?_;exact rec (b.2.i_,b.2.h_,t.1) ⟨G.1,H⟩
end
end Go.Vk
/- Schemas drawn: they are there, and CT. -/
namespace Go.Vk
section
variable {p:List Int} (hp:p.length≤1048576)
include hp
end
end Go.Vk
/- Members, forests, states drawn: they are there, and CT. -/
namespace Go.Vk
theorem Dec.yes {o:Option Bool}{P:Prop}(h:Dec o P)(hp:P):o=some true:=by
 rcases h.cases with ⟨e,_⟩|⟨_,g⟩
 ·exact e
 exact absurd hp g
theorem Wz {s:ae}{t:am}{e:cl}(a:ba s)(h:iC t)(c:xh s t)(f:ExP s e):T (uo s t e):=by
 unfold uo xW uT;rw [(wV a h).yes c,(CJ (kC a)).yes f,(VF a c f).1];simp only [sS];have j:=c.2.1;have p:=a.2.1;obtain ⟨_,p2⟩:=PG a c f 32 0 (by omega);have hp:=Iv (s:=s) (t:=t) (e:=e) 32 0;generalize rS s t e 32 0=l at *
 have m:(BI l).length=l.length:=by simp [BI]
 refine Tot.bind (P:=fun v=>v.length≤1048576) ?_ (fun v g=>(KF g).bind fun _ _=>bj _);refine aZ (fun _=>ar (by simp)) (fun _=>?_)
 have key:∀(n k:Nat),n≤l.length→n<k→Tot (lJ (BI l) t s k ((n:Int)-1)) (fun v=>v.length≤1048576):=by
  intro n
  induction n with
  | zero =>
   intro k _ hk;obtain ⟨k,rfl⟩:=kS k (by omega);rw [lJ,if_neg (by simp)];exact (Lj ⟨by omega,by omega⟩).bind fun v g=>ar (by rw [g];simp;omega)
  | succ n ih =>
   intro k q hk;obtain ⟨k,rfl⟩:=kS k (by omega);have hn':n<(BI l).length:=by omega
   have o:((n+1:Nat):Int)-1=(n:Int):=by omega
   have i:=p2 _ (List.getElem_mem (show n<l.length by omega));have ej:(BI l)[n]=((l[n]:Nat):Int):=by simp [BI]
   rw [o,lJ,if_pos (by simp),aH hn'];simp only [bS];rw [ej,aH i];simp only [bS];have d:=(h.1.2 _ (List.getElem_mem i)).2.2.2.2.1;refine (GZ a d).bind fun v _=>aZ (fun _=>?_) (fun _=>?_)
   ·have h1:=d.1.1;rw [bC (by simp;omega)];exact ar (by simpa using h1)
   rw [aP (by omega) (by omega)];exact ih k (by omega) (by omega)
 rw [m,aP (by omega) (by omega)];exact key l.length aY (Nat.le_refl _) (cx (by omega))
theorem Xm (x:Int):Tot (kK x) (fun l=>l.length≤7):=by
 unfold kK;exact aZ (fun _=>ar (by simp)) (fun _=>aZ (fun _=>ar (by simp)) (fun _=>ar (by simp)))
theorem SS (x d:Int):T (tX x d):=by
 unfold tX;refine (Xm x).bind fun l c=>Tot.bind (P:=fun _=>True) (aZ (fun _=>bj _) (fun _=>cz.t.bind fun _ _=>bj _)) (fun _ _=>aZ (fun _=>bj _) (fun _=>?_));refine dj (fun k (n:Int) i=>gD l d k n i) l.length (fun _ _=>True) (fun k s _=>?_) (fun k s i a _ hk=>?_) (by omega) trivial
 ·show Tot (gD _ _ (k+1) _ _) _;rw [gD,if_neg (by simp)];exact bj _
 show Tot (gD _ _ (k+1) _ _) _;rw [gD,if_pos (by simp;omega),aH a,ax (by omega)];exact aZ (fun _=>hk _ trivial) (fun _=>hk _ trivial)
def Hx (t:bp):Prop:=t.v_.length≤1048576
def BH (m:av):Prop:=mn 0 m.C_∧mn 0 m.u_∧Tk m.G_
theorem tE (d:Nat):mn d ⟨[],0⟩:=⟨⟨by simp,fun x a=>by cases a⟩,v0⟩
theorem Nc:Tk ⟨⟨[]⟩,⟨[]⟩⟩:=⟨Bz _ _,Bz _ _⟩
theorem Ms (b:Bool):BH ⟨⟨[],0⟩,b,⟨[],0⟩,⟨⟨[]⟩,⟨[]⟩⟩⟩:=⟨tE _,tE _,Nc⟩
theorem Mm {l:List (List Int)}(h:jH 9 13 l):yg l:=⟨by have:=h.1;omega,fun r a=>(h.2 r a).sml (by omega)⟩
def WF (m:av):Prop:=mn 1 m.C_∧mn 1 m.u_∧jH 9 13 m.G_.x_.k_∧jH 9 13 m.G_.y_.k_
theorem BH.d {m:av}(h:BH m):WF m:=⟨h.1.mono (by omega),h.2.1.mono (by omega),h.2.2.1.mono (by omega) (by omega),h.2.2.2.mono (by omega) (by omega)⟩
theorem WF.sml {m:av}(h:WF m):rJ m:=⟨h.1.sml (by omega),trivial,h.2.1.sml (by omega),Mm h.2.2.1,Mm h.2.2.2⟩
theorem zi {m:av}(h:BH m):jd m=some m:=by
 unfold jd;rw [rT (h.1.sml (by omega)),rT (h.2.1.sml (by omega)),Is h.2.2];rfl
theorem QN {s:ae}{l:List Int}(a:ba s)(c:smI 24 l):Tot (vE s l) (mn 0):=by
 unfold vE;have h1:=c.1;refine (wl a (by omega)).t.bind fun b _=>aZ (fun _=>ar (tE _)) (fun _=>(HC a).bind fun st d=>?_);rw [bC (by simp;omega)];refine ar ⟨⟨by simp,fun x e=>?_⟩,v0⟩;rw [List.mem_singleton.1 e];exact ⟨⟨v0,v0⟩,.nil _,v0,d,v0,c,v0,ko (x:=-1) ⟨by omega,by omega⟩,v0⟩
theorem NF {c:aU}{tape:bp}(f:ba c.w_)(d:uy c)(a:Hx tape):Tot (qp c tape) (fun y=>mn 0 y.1∧Hx y.2.1):=by
 unfold qp;have h1:=d.1.1;have h:=d.2.2.2.1;obtain ⟨k,hk⟩:∃k:Nat,c.V_=k:=⟨c.V_.toNat,by omega⟩;rw [hk,gQ a];exact (Kv a (by omega) (by omega)).bind fun y e=>aZ (fun _=>ar ⟨tE _,a⟩) (fun _=>(QN f (.small e.2 (by omega))).bind fun t g=>ar ⟨g,e.1⟩)
theorem TM {c:aU}{tape:bp}(d:ba c.w_)(a:Hx tape):Tot (tg c tape) (fun y=>BH y.1∧Hx y.2.1):=by
 unfold tg;rw [gQ a];refine ki (Aw d).t (by simp only [sS];exact ar ⟨Ms _,a⟩) (fun f=>?_);simp only [sS];exact (NF d f a).bind fun y e=>aZ (fun _=>ar ⟨Ms _,a⟩) (fun _=>ar ⟨⟨e.1,tE _,Nc⟩,e.2⟩)
theorem Xo (q:Bool):T (lN q):=by
 unfold lN;exact aZ (fun _=>bj _) (fun _=>bj _)
theorem QY {c:aU}{m:av}{e:cl}{tape:bp}(i:ba c.w_)(f:BH m)(h:Hx tape):Tot (rt c m e tape) (fun y=>BH y.1∧Hx y.2.1):=by
 have r:=f.d.sml;unfold rt;rw [zi f,gQ h];refine ki (HN i r).t (by simp only [sS];exact ar ⟨f,h⟩) (fun D=>?_);simp only [sS];refine lV (CJ (kC i)).t (by simp only [sS];exact ar ⟨f,h⟩) (fun H=>?_);simp only [sS];refine Tot.bind (P:=fun _=>True) (aZ (fun _=>bj _) (fun _=>(Du _).t.bind fun _ _=>bj _)) (fun u _=>aZ (fun _=>ar ⟨f,h⟩) (fun _=>?_));have E:=D.1;have bad:∀x:dt,Tot (some (m,tape,x,false)) (fun y:av×bp×dt×Bool=>BH y.1∧Hx y.2.1):=fun x=>ar ⟨f,h⟩;refine (Wz i r.1 D.2.1.1 H).bind fun v _=>(Xo _).bind fun b _=>(SX h).bind fun y F=>aZ (fun _=>bad _) (fun _=>(SS _ _).bind fun w _=>?_)
 have key:∀(l:List au)(x:Int)(j:List au)(x2 a A:Int)(tp:List Int)(a_:Int),mn 0 ⟨l,x⟩→mn 0 ⟨j,x2⟩→tp.length≤1048576→Tot (iu m b c m tape v w l x j x2 a A tp a_) (fun y=>BH y.1∧Hx y.2.1):=by
  intro l x j x2 a A tp a_ h1 p k;unfold iu;rw [zi f,gQ h];refine (Qn f.2.2).bind fun d C=>?_
  have o:∀(q:Bool)(j:List au)(x2:Int)(G:Bool)(tp:List Int)(a_:Int),mn 0 ⟨j,x2⟩→tp.length≤1048576→Tot (jY d v b w a A c m tape l x q j x2 G tp a_) (fun y=>BH y.1∧Hx y.2.1):=by
   intro q j x2 G tp a_ p k;unfold jY jT;rw [zi f,gQ h];refine aZ (fun _=>aZ (fun _=>ar ⟨⟨p,tE _,C⟩,k⟩) (fun _=>(NF i E (tape:=⟨tp,a_⟩) k).bind fun z g=>aZ (fun _=>bad _) (fun _=>ar ⟨⟨g.1,tE _,C⟩,g.2⟩))) (fun _=>ar ⟨⟨h1,p,C⟩,k⟩)
  exact aZ (fun _=>(NF i E (tape:=⟨tp,a_⟩) k).bind fun z g=>aZ (fun _=>bad _) (fun _=>o _ _ _ _ _ _ g.1 g.2)) (fun _=>o _ _ _ _ _ _ p k)
 refine aZ (fun _=>?_) (fun _=>key _ _ _ _ _ _ _ _ f.1 f.2.1 F);refine (OG i f.1 F).bind fun z g=>aZ (fun _=>bad _) (fun _=>aZ (fun _=>?_) (fun _=>key _ _ _ _ _ _ _ _ g.1 f.2.1 g.2));exact (OG i f.2.1 g.2).bind fun L s=>aZ (fun _=>bad _) (fun _=>key _ _ _ _ _ _ _ _ g.1 s.1 s.2)
def Jg (f:bh):Prop:=f.t_.length≤8∧∀m∈f.t_,BH m
theorem Jg.sml {f:bh}(h:Jg f):wC f:=⟨by have:=h.1;omega,fun m a=>(h.2 m a).d.sml⟩
theorem LT:Jg ⟨[]⟩:=⟨by simp,fun x a=>by cases a⟩
theorem Kw {l:List av}{m:av}(h:∀x∈l,BH x)(a:BH m):∀x∈l++[m],BH x:=fun x hx=>by
 rcases List.mem_append.1 hx with hx|hx
 ·exact h x hx
 rw [List.mem_singleton.1 hx];exact a
theorem II {f:bh}(h:Jg f):sK f=some f:=by
 have c:=h.1;unfold sK
 rw [pZ (p:=f.t_) id (mE f) (fun l=>some ⟨l⟩) (fun k l=>by rw [mE,if_neg (by simp)]) (fun k l i a d=>by
  rw [mE,if_pos (by simp;omega),aH a,ax (by omega)];simp only [bS];rw [zi (h.2 _ (List.getElem_mem a))];simp only [bS];rw [bC (by simp;omega)];rfl) (by omega),List.map_id]
theorem Sh {c:aU}{tape:bp}(e:ba c.w_)(d:Hx tape):Tot (tt c tape) (fun y=>Jg y.1):=by
 unfold tt;rw [gQ d];simp only [bS];refine ki (Aw e).t (by simp only [sS];exact ar LT) (fun g=>?_);simp only [sS];have p:=g.2.2.1;obtain ⟨n,a⟩:∃n:Nat,c.t_=n:=⟨c.t_.toNat,by omega⟩;refine dj (fun k (σ:List av×List Int×Int) i=>gW c tape k σ.1 σ.2.1 σ.2.2 i) n (fun i σ=>σ.1.length=i∧(∀m∈σ.1,BH m)∧σ.2.1.length≤1048576) (fun k σ h=>?_) (fun k σ i q h hk=>?_) (by omega) (s:=([],tape.v_,tape.j_)) ⟨rfl,(fun x j=>by cases j),d⟩
 ·show Tot (gW _ _ (k+1) _ _ _ _) _;rw [gW,a,if_neg (by simp)];exact ar ⟨by show σ.1.length≤8;omega,h.2.1⟩
 obtain ⟨h1,l,o⟩:=h;show Tot (gW _ _ (k+1) _ _ _ _) _;rw [gW,a,if_pos (by simp;omega),gQ d,ax (by omega)];refine (TM e (tape:=⟨σ.2.1,σ.2.2⟩) o).bind fun y f=>aZ (fun _=>ar LT) (fun _=>?_);rw [bC (by simp;omega)];exact hk (_,_,_) ⟨by simp;omega,Kw l f.1,f.2⟩
theorem QJ {c:aU}{f:bh}{e:cl}{tape:bp}(d:ba c.w_)(a:Jg f)(g:Hx tape):Tot (rG c f e tape) (fun y=>Jg y.1):=by
 have r:=a.1;unfold rG;rw [II a,gQ g];refine (IP d a.sml).t.bind fun u _=>Tot.bind (P:=fun _=>True) (aZ (fun _=>bj _) (fun _=>(CJ (kC d)).t.bind fun _ _=>bj _)) (fun u _=>Tot.bind (P:=fun _=>True) (aZ (fun _=>bj _) (fun _=>(Du _).t.bind fun _ _=>bj _)) (fun u _=>aZ (fun _=>ar a) (fun _=>?_)));refine dj (fun k (σ:List av×List Int×Int×List dt) i=>gk f c e tape k σ.1 σ.2.1 σ.2.2.1 σ.2.2.2 i) f.t_.length (fun i σ=>σ.1.length=i∧(∀m∈σ.1,BH m)∧σ.2.1.length≤1048576∧σ.2.2.2.length=i) (fun k σ h=>?_) (fun k σ i j h hk=>?_) (by omega) (s:=([],tape.v_,tape.j_,[])) ⟨rfl,(fun x o=>by cases o),g,rfl⟩
 ·show Tot (gk _ _ _ _ (k+1) _ _ _ _ _) _;rw [gk,if_neg (by simp)];exact ar ⟨by show σ.1.length≤8;omega,h.2.1⟩
 obtain ⟨h1,p,q,v⟩:=h;show Tot (gk _ _ _ _ (k+1) _ _ _ _ _) _;rw [gk,if_pos (by simp;omega),aH j,II a,gQ g,ax (by omega)];simp only [bS];refine (QY d (a.2 _ (List.getElem_mem j)) (tape:=⟨σ.2.1,σ.2.2.1⟩) q).bind fun y l=>aZ (fun _=>ar a) (fun _=>?_);rw [bC (by simp;omega)];simp only [bS];rw [bC (by simp;omega)];exact hk (_,_,_,_) ⟨by simp;omega,Kw p l.1,l.2,by simp;omega⟩
section
variable {p:List Int} (hp:p.length≤1048576)
include hp
theorem xH {c:aK}(d:Cur p c){l:List Int}(e:0<l.length)(f:l.all (fun x=>decide (-9223372036854775808≤x∧x≤9223372036854775807))=true):TD p (eh p c l) V :=
 (KQ hp d e).mono fun y a=>⟨a.1,by have:=List.all_eq_true.1 f _ a.2;simp only [decide_eq_true_eq] at this;exact this⟩
theorem Qz {c:aK}(h:Cur p c):TD p (us p c) HH:=by
 unfold us;exact (xH hp h (by simp) rfl).bind fun _ h1=>(xH hp h1.1 (by simp) rfl).bind fun _ a=>(xH hp a.1 (by simp) rfl).bind fun _ d=>(xH hp d.1 (by simp) rfl).bind fun _ e=>(xH hp e.1 (by simp) rfl).bind fun _ f=>(xH hp f.1 (by simp) rfl).bind fun _ g=>(Ay hp g.1 2).bind fun _ i=>ar ⟨i.1,h1.2,a.2,d.2,e.2,f.2,g.2,trivial⟩
def MV (c:aU):Prop:=UK c.w_∧DH c∧2≤c.w_.f_.length∧c.w_.f_.length≤3
theorem Wd {c:aK}(a:Cur p c):TD p (vW p c) MV:=by
 unfold vW;refine (RQ hp a).bind fun s e=>(Qz hp e.1).bind fun r f=>(Ay hp f.1 2).bind fun o g=>?_;obtain ⟨h,H,L,c1,c2⟩:=e.2;obtain ⟨k,l,m,q,t,u,v⟩:=f.2
 have key:∀(c:aK)(x1 x2 d x4:Int),Cur p c→V x1→V x2→V d→V x4→TD p (mz p s r c.i_ c.h_ x1 x2 d x4) MV:=by
  intro c x1 x2 d x4 a h1 w x A;unfold mz;exact (jk hp (c:=⟨c.i_,c.h_⟩) a _).bind fun y1 C=>(jk hp C.1 _).bind fun y2 D=>(xH hp D.1 (by simp) rfl).bind fun y3 i=>(jk hp i.1 _).bind fun y4 E=>(jk hp E.1 _).bind fun y5 F=>ar ⟨F.1,h,⟨h.1,⟨h1,l,w,x,A,u,v⟩,tG _,tG _,i.2,tG _,tG _⟩,c1,c2⟩
 have G:V 1:=ko ⟨by omega,by omega⟩;exact aZ (fun _=>(xH hp g.1 (by simp) rfl).bind fun y j=>key y.2 _ _ _ _ j.1 G j.2 (ko ⟨by omega,by omega⟩) (ko ⟨by omega,by omega⟩)) (fun _=>key o.2 _ _ _ _ g.1 k m q t)
theorem Sy {c:aK}(g:Cur p c){f:aU}(a:MV f)(i n:Int):TD p (tf p c f i n) (fun _=>True):=by
 unfold tf;refine (Ty hp g a.1).bind fun e d=>aZ (fun _=>?_) (fun _=>ar ⟨d.1,trivial⟩);have:=a.2.2.1;unfold rem;rw [if_neg (by omega)];exact ar ⟨d.1,trivial⟩
theorem QE {c:aK}(g:Cur p c){f:aU}(d:MV f){n:Nat}(q:n≤36):TD p (ue p c f n) Jg:=by
 unfold ue;refine (JZ hp g (n:=8) (by omega)).bind fun b a=>(Sh d.1.1 (tape:=⟨b.1,0⟩) (by show b.1.length≤_;have:=a.2.1;omega)).bind fun w j=>(jk hp a.1 _).bind fun y l=>?_;refine dj (fun k (σ:Int×Int×List av) i=>iI n p f y k σ.1 σ.2.1 i σ.2.2) n (fun _ σ=>Cur p ⟨σ.1,σ.2.1⟩∧Jg ⟨σ.2.2⟩) (fun k σ h=>?_) (fun k σ i r h hk=>?_) (by omega) (s:=(y.2.i_,y.2.h_,w.1.t_)) ⟨l.1,j⟩
 ·show Tot (iI _ _ _ _ (k+1) _ _ _ _) _;rw [iI,if_neg (by simp)];exact ar h
 show Tot (iI _ _ _ _ (k+1) _ _ _ _) _;rw [iI,if_pos (by simp;omega),ax (by omega)];exact (Sy hp h.1 d _ _).bind fun e m=>(JZ hp m.1 (n:=80) (by omega)).bind fun b a=>(QJ d.1.1 h.2 (tape:=⟨b.1,0⟩) (by show b.1.length≤_;have:=a.2.1;omega)).bind fun z o=>hk (_,_,_) ⟨a.1,o⟩
theorem QI {c:aK}(j:Cur p c):TD p (tZ p c) (fun st=>MV st.d_∧Jg st.Z_∧jP st):=by
 unfold tZ;refine (Wd hp j).bind fun f a=>(KQ hp a.1 (by simp)).bind fun y e=>?_
 obtain ⟨n,k,g⟩:∃n:Nat,y.1=n∧n≤36:=by
  have h:=e.2;simp only [List.mem_cons,List.not_mem_nil,or_false] at h;exact ⟨y.1.toNat,by omega,by omega⟩
 rw [k];refine (QE hp e.1 a.2 g).bind fun w d=>(PV hp d.1 a.2.2.2).bind fun s i=>ar ⟨i.1,a.2,d.2,a.2.2.1,d.2.sml,i.2.sml a.2.2.2.2⟩
end
end Go.Vk
/- States drawn, also wrong ones: they are there, and CT. -/
namespace Go.Vk
section
variable {p:List Int} (hp:p.length≤1048576)
include hp
end
end Go.Vk
/- FnStrict answers true. -/
namespace Go.Vk
theorem Ot (n:Int):0≤IntKind.u8.wrap n∧IntKind.u8.wrap n≤255:=by
 show 0≤(if (false&&decide (n%(256:Int)≥(128:Int)))=true then n%(256:Int)-(256:Int) else n%(256:Int))∧(if (false&&decide (n%(256:Int)≥(128:Int)))=true then n%(256:Int)-(256:Int) else n%(256:Int))≤255;simp only [Bool.false_and,Bool.false_eq_true,if_false];omega
theorem Fu {b:List Int}(h:du b)(i:Nat){x:Int}(c:0≤x∧x≤255):du (b.set i x):=fun z a=>by
 rcases List.mem_or_eq_of_mem_set a with a|rfl
 ·exact h z a
 exact c
theorem Bq {b l:List Int}(h:du b){m n:Nat}(e:l=(b.drop m).take n):du l:=fun z a=>by
 rw [e] at a;exact h z (List.mem_of_mem_drop (List.mem_of_mem_take a))
theorem SF {b:List Int}(h:du b)(a:b.length≤1048576):Tot (gc b) (fun s=>du s∧s.length=4):=by
 obtain ⟨s,e,_,c⟩:=Fo h a;exact ⟨s,e,yF e,c⟩
theorem SV {v:Int}(h:0≤v∧(v<8∨v=0)):Tot (ll v) (fun _=>True):=by
 obtain ⟨n,rfl⟩:∃n:Nat,v=n:=⟨v.toNat,by omega⟩;exact ⟨_,KH (by omega),trivial⟩
section
variable {p:List Int} (hp:p.length≤1048576)
include hp
theorem UG {c:aK}(C:Cur p c){b:List Int}(f:du b)(X:b.length≤400000):TD p (ul p c b) (fun l=>du l∧l.length≤1048576):=by
 unfold ul;have D:4≤b.length→IntKind.i64.wrap ((b.length:Int)-4)=(b.length:Int)-4:=fun _=>by rw [aP (by omega) (by omega)]
 refine aZ (fun _=>ar ⟨C,f,by show b.length≤_;omega⟩) (fun E=>?_);have E:8≤b.length:=by simp at E;omega
 refine (jk hp C 6).bind fun y i=>?_;refine aZ (fun _=>?_) (fun _=>aZ (fun _=>?_) (fun _=>aZ (fun _=>?_) (fun _=>aZ (fun _=>?_) (fun _=>aZ (fun _=>?_) (fun _=>ar ⟨i.1,f,by show b.length≤_;omega⟩)))))
 ·refine (jk hp i.1 _).bind fun v a=>(ga (by have:=a.2;omega)).bind fun e _=>(jk hp a.1 8).bind fun o g=>(SV g.2).bind fun q _=>(ga (by have:=a.2;omega)).bind fun _ _=>ar ⟨g.1,Fu f _ (Ot _),by show (b.set _ _).length≤_;rw [List.length_set];omega⟩
 ·refine (jk hp i.1 _).bind fun v a=>(qu (by have:=a.2;omega)).bind fun l e=>ar ⟨a.1,Bq f e,?_⟩;show l.length≤_;rw [e];simp only [List.length_take,List.length_drop];omega
 ·rw [D (by omega),aP (n:=(b.length:Int)-7) (by omega) (by omega)];refine (jk hp i.1 _).bind fun v a=>?_;have R:=a.2;rw [aP (n:=3+v.1) (by omega) (by omega)];refine (ga (by omega)).bind fun e _=>(jk hp a.1 8).bind fun o g=>(SV g.2).bind fun q _=>(ga (by omega)).bind fun _ _=>?_;have r:=Fu f (3+v.1).toNat (Ot (BitVec.ofInt (IntKind.bits .u8) e ^^^ BitVec.ofInt (IntKind.bits .u8) (IntKind.u8.wrap q)).toNat);have L:(b.set (3+v.1).toNat (eW .xor .u8 e (IntKind.u8.wrap q))).length=b.length:=List.length_set;change du (b.set (3+v.1).toNat (eW .xor .u8 e (IntKind.u8.wrap q))) at r;generalize b.set (3+v.1).toNat (eW .xor .u8 e (IntKind.u8.wrap q))=d at r L;refine (qu (by omega)).bind fun l j=>(qu (by omega)).bind fun M F=>?_;have G:=Bq r F;have Z:M.length≤400000:=by rw [F];simp only [List.length_take,List.length_drop];omega
  have k:=Bq r j;have P:l.length≤400000:=by rw [j];simp only [List.length_take,List.length_drop];omega
  refine (me (by simp;omega)).bind fun z A=>(SF G (by omega)).bind fun s h=>?_;rw [A];refine (me (by have:=h.2;simp;omega)).bind fun t m=>ar ⟨g.1,?_,?_⟩
  ·rw [m];exact dm (by simpa using k) h.1
  show t.length≤_;rw [m];have:=h.2;simp;omega
 ·rw [D (by omega)];refine (qu (by omega)).bind fun l j=>?_;have k:=Bq f j;have P:l.length≤400000:=by rw [j];simp only [List.length_take,List.length_drop];omega
  refine (me (by simp;omega)).bind fun z A=>?_;rw [A];refine (me (by simp;omega)).bind fun w H=>?_
  have u:du w:=by
   rw [H];exact dm (by simpa using k) (fun x Q=>by simp only [List.mem_singleton] at Q;omega)
  have gw:w.length≤400001:=by rw [H];simp;omega
  refine (SF u (by omega)).bind fun s h=>(me (by have:=h.2;simp;omega)).bind fun t m=>ar ⟨i.1,?_,?_⟩
  ·rw [m];exact dm u h.1
  show t.length≤_;rw [m];have:=h.2;simp;omega
 exact (jk hp i.1 4).bind fun v a=>(BY hp a.1).bind fun o g=>(ga (by have:=a.2;omega)).bind fun _ _=>ar ⟨g.1,Fu f _ (Ot _),by show (b.set _ _).length≤_;rw [List.length_set];omega⟩
theorem TE:Tot (qJ p) (fun l=>du l∧l.length≤1048576):=by
 unfold qJ;refine (WS hp).bind fun c g=>(QI hp g).bind fun st f=>?_;have d:=f.2.2.2
 have a:Tot (fb st.1) (fun b=>du b∧b.length≤400000):=by
  by_cases e:qR st.1
  ·obtain ⟨s,h1,_,m,h,_⟩:=DP d e;have q:=HL (stG d e);exact ⟨_,h,dm (za _) (yF h1),by rw [List.length_append];omega⟩
  exact ⟨[],(Fv d e).1,⟨(fun x i=>by cases i),Nat.zero_le _⟩⟩
 refine a.bind fun b a=>(Ay hp f.1 3).bind fun o j=>aZ (fun _=>ar ⟨a.1,by have:=a.2;omega⟩) (fun _=>(UG hp j.1 a.1 a.2).bind fun w k=>ar k.2)
end
theorem RM:mN zT=some false:=by
 have a:jP zT:=by simp [jP,DH,ba,HH,wC,yj,JB,qm,FP,yg,Bj]
 rcases (Bu a).cases with ⟨_,h⟩|⟨e,_⟩
 ·exact absurd h.1.1.1.1 (by simp [])
 exact e
theorem KG {p:List Int}(_hb:du p):xR p=some true:=by
 unfold xR Ij;simp only [bS];by_cases hp:1048576<p.length
 ·rw [if_pos (by simp;omega)]
 have hp:p.length≤1048576:=by omega
 rw [if_neg (by simp;omega)];obtain ⟨b,e,a,c⟩:=TE hp;obtain ⟨m,d,f,h⟩:=Ky a c;rw [e];simp only [bS];rw [d,f];simp only [Option.bind_some,bne_self_eq_false,Bool.false_eq_true,if_false];rcases h with ⟨h1,g,i⟩|⟨h1,g⟩
 ·rw [if_pos (by simp;omega),if_pos (by simp;omega),h1,RM];rfl
 rw [if_neg (by simp;omega),(Bu h1.1).val h1.2.1];simp only [Option.bind_some,if_true];rw [(Ft h1).2];simp
end Go.Vk
