/- The bytes of a state: alike. -/
import Derived.Test.YtnjemlncpeekkaaGreatDoorPDr
import Derived.Test.YtnjemlncpeekkaaGreatDoorPSpl
import Derived.Test.YtnjemlncpeekkaaGreatDoorVkBr
import Derived.Test.YtnjemlncpeekkaaGreatDoorVkCu
namespace Go.Vk
def wd (m:av):List Int:=vu m.C_++dZ (wI m.R_)++vu m.u_++Dn m.G_.x_++Dn m.G_.y_
def Sw (m:av):Prop:=IM m.C_∧IM m.u_∧QX m.G_.x_∧QX m.G_.y_
theorem XC {c:aU}{m:av}(h:xD c m):Sw m:=by
 obtain ⟨_,h1,a,e,f⟩:=h;refine ⟨VD h1.1,?_,Xj a.1,Xj a.2⟩
 cases d:m.R_ with
 | true=>exact VD (e d).1
 | false=>exact Uh (f d)
theorem Ta {m:av}(h:Sw m):(wd m).length≤45000:=by
 have h1:=EC h.1;have a:=EC h.2.1;have c:=Mo h.2.2.1;have d:=Mo h.2.2.2;have e:=dY (wI m.R_);unfold wd;simp only [List.length_append];omega
theorem Om (m:av):du (wd m):=dm (dm (dm (dm (Gh _) (fW _)) (Gh _)) (HP _)) (HP _)
def qU (p:aC):List Int:=dZ p.aa_++dZ p.Y_
def mS (st:az):List Int:=[st.d_.e_.T_,st.d_.e_.S_,st.d_.e_.U_,st.d_.e_.o_,st.d_.e_.b_,st.d_.e_.L_,wI st.d_.e_.P_]
def nf (st:az):List Int:=[st.d_.t_,st.d_.V_,st.d_.X_,st.d_.x_,st.d_.y_]
def zO (st:az):List Int:=[83,80,78,1]++tA (kj st.d_.w_)
def tB (st:az):List Int:=st.I_.r_.flatMap kE++dZ st.I_.s_.length++st.I_.s_.flatMap qU
structure StG (st:az):Prop where
 head:(zO st).length≤3009
 numA:∀x∈mS st,InR x
 numC:∀x∈nf st,InR x
 mems:st.Z_.t_.length≤4
 mem:∀m∈st.Z_.t_,Sw m
 rows:st.I_.r_.length≤3
 row:∀r∈st.I_.r_,rf r∧r.length≤3
 lasts:st.I_.s_.length≤20
 last:∀p∈st.I_.s_,InR p.aa_∧InR p.Y_
theorem stG {st:az}(g:jP st)(h:qR st):StG st:=by
 obtain ⟨⟨j,C,k⟩,l⟩:=h;obtain ⟨h1,o,D,E,F,G,H,_⟩:=j;obtain ⟨q,L,s,e⟩:=l;obtain ⟨r1,M,P,Q,R,X⟩:=o;have Z:=h1.1;have c:∀{x:Int},0≤x∧x≤99999→InR x:=fun h=>⟨by omega,by omega⟩;have d:=Do st.d_.e_.P_;refine ⟨?_,?_,?_,by omega,fun m a=>XC (k m a),by omega,?_,?_,fun p t=>?_⟩
 ·have:=(Kj (xA g.1.1 h1).2.2).2.2;unfold zO;simp only [List.length_append,List.length_cons,List.length_nil];omega
 ·intro x a;simp only [mS,List.mem_cons,List.not_mem_nil,or_false] at a;rcases a with rfl|rfl|rfl|rfl|rfl|rfl|rfl
  all_goals first|exact d|exact c (by omega)
 ·intro x a;simp only [nf,List.mem_cons,List.not_mem_nil,or_false] at a;rcases a with rfl|rfl|rfl|rfl|rfl
  all_goals exact c (by omega)
 ·intro r u;obtain ⟨i,f,rfl⟩:=List.getElem_of_mem u;obtain ⟨v,w⟩:=KC f (s i f) q.2;exact ⟨Bf fun z A=>by have:=w z A;omega,v⟩
 ·have:=e.2.1;split at this<;>omega
 obtain ⟨p1,p2⟩:=e.2.2 p t;exact ⟨c (by omega),c (by omega)⟩
theorem Ia {α:Type}{p:List α}{B:α→List Int}{b:Nat}(h:∀x∈p,(B x).length≤b):(p.flatMap B).length≤b*p.length:=by
 rw [List.length_flatMap];exact Hm (f:=fun x=>(B x).length) h
theorem Dr {st:az}(h:StG st):(st.Z_.t_.flatMap wd).length≤180000:=by
 have h1:=Ia (p:=st.Z_.t_) (B:=wd) fun m a=>Ta (h.mem m a);have c:=h.mems;omega
theorem My {st:az}(h:StG st):(tB st).length≤300:=by
 have h1:=Ia (p:=st.I_.r_) (B:=kE) (b:=20) fun r a=>by
  have:=oc r;have:=(h.row r a).2;omega
 have c:=Ia (p:=st.I_.s_) (B:=qU) (b:=10) fun p _=>by
  have h1:=dY p.aa_;have c:=dY p.Y_;unfold qU;rw [List.length_append];omega
 have d:=h.rows;have e:=h.lasts;have f:=dY st.I_.s_.length;unfold tB;simp only [List.length_append];omega
theorem Bg {st:az}(h:StG st):(st.I_.s_.flatMap qU).length≤300∧(st.I_.r_.flatMap kE).length≤300:=by
 have:=My h;unfold tB at this;simp only [List.length_append] at this;omega
theorem On {n i:Nat}(h:i<n):decide ((i:Int)<(n:Int))=true:=by rw [decide_eq_true_iff];exact Int.ofNat_lt.2 h
theorem Nx {n:Nat}:¬decide ((n:Int)<(n:Int))=true:=by simp
theorem Ql {st:az}(h:StG st)(l:List Int)(d:l.length≤400000) :
  jM st aY 0 l=(gc (l++st.I_.s_.flatMap qU)).bind fun y=>(app (l++st.I_.s_.flatMap qU) y).bind fun z=>some z:=by
 have e:=(Bg h).1;have f:=h.lasts
 exact sf (M:=1000000) (p:=st.I_.s_) (σ:=Unit) qU (fun _ _=>()) (fun k l _ i=>jM st k i l) (fun l _=>(gc l).bind fun y=>(app l y).bind fun z=>some z)
  (fun k l _=>by
   show (if _ then _ else _)=_;rw [if_neg Nx])
  (fun k l _ i c a=>by
   show (if _ then _ else _)=_;unfold qU at a ⊢;rw [List.length_append] at a;rw [if_pos (On c),aH c,ax (by omega)];simp only [bS];rw [fZ.1,fZ.1];simp only [bS];rw [bC (by omega)];simp only [bS];rw [bC (by rw [List.length_append];omega),List.append_assoc];rfl) (by omega) l () (by omega)
theorem Qw {st:az}(h:StG st)(l:List Int)(g:l.length≤400000) :
  kc st aY 0 l false=(iX (l++st.I_.s_.flatMap qU)).bind fun y=>(app (l++st.I_.s_.flatMap qU) y).bind fun z=>some z:=by
 have j:=(Bg h).1;have m:=h.lasts
 exact sf (M:=1000000) (p:=st.I_.s_) (σ:=Unit) qU (fun _ _=>()) (fun k l _ i=>kc st k i l false) (fun l _=>(iX l).bind fun y=>(app l y).bind fun z=>some z)
  (fun k l _=>by
   show (if _ then _ else _)=_;rw [if_neg Nx])
  (fun k l _ i a f=>by
   show (if _ then _ else _)=_;obtain ⟨c,d⟩:=h.last _ (List.getElem_mem a);rw [if_pos (On a),aH a,ax (by omega)];simp only [bS];have e:∀x∈[st.I_.s_[i].aa_,st.I_.s_[i].Y_],InR x:=by simp [c,d]
   rw [jv (by simp) _ _ (by omega),decide_eq_false (show ¬ ¬_ from fun n=>n e)];simp only [Option.bind_some,qU,CC,EW,List.append_nil];rfl) (by omega) l () (by omega)
theorem Rg {st:az}(h:StG st)(l:List Int)(e:l.length≤300000) :
  iv st aY l 0=(gc (l++tB st)).bind fun y=>(app (l++tB st) y).bind fun z=>some z:=by
 obtain ⟨f,g⟩:=Bg h;have j:=h.rows;have m:=dY st.I_.s_.length
 refine (sf (M:=1000000) (p:=st.I_.r_) (σ:=Unit) kE (fun _ _=>()) (fun k l _ i=>iv st k l i) (fun l _=>(dS (st.I_.s_.length:Int)).bind fun y=>(app l y).bind fun l=>jM st aY 0 l)
  (fun k l _=>by
   show (if _ then _ else _)=_;rw [if_neg Nx])
  (fun k l _ i a d=>by
   show (if _ then _ else _)=_;obtain ⟨c,o⟩:=h.row _ (List.getElem_mem a);rw [if_pos (On a),aH a,ax (by omega)];simp only [bS];rw [uH (by omega) c];simp only [bS];rw [bC (by omega)];rfl) (by omega) l () (by omega)).trans ?_
 rw [fZ.1];simp only [bS];rw [bC (by rw [List.length_append];omega)];simp only [bS];rw [Ql h _ (by simp only [List.length_append];omega)];simp only [tB,List.append_assoc]
theorem Rl {st:az}(h:StG st)(l:List Int)(e:l.length≤300000) :
  iw st aY 0 l false=(iX (l++tB st)).bind fun y=>(app (l++tB st) y).bind fun z=>some z:=by
 obtain ⟨f,g⟩:=Bg h;have j:=h.rows;have m:=h.lasts;have o:=dY st.I_.s_.length
 refine (sf (M:=1000000) (p:=st.I_.r_) (σ:=Unit) kE (fun _ _=>()) (fun k l _ i=>iw st k i l false) (fun l _=>(cw ⟨l,false⟩ [(st.I_.s_.length:Int)]).bind fun y=>kc st aY 0 y.ad_ y.N_)
  (fun k l _=>by
   show (if _ then _ else _)=_;rw [if_neg Nx])
  (fun k l _ i a d=>by
   show (if _ then _ else _)=_;obtain ⟨c,q⟩:=h.row _ (List.getElem_mem a);rw [if_pos (On a),aH a,ax (by omega)];simp only [bS];rw [tq (by omega) _ _ (by omega),decide_eq_false (show ¬ ¬_ from fun n=>n c)];rfl) (by omega) l () (by omega)).trans ?_
 rw [ze (By (by omega)) _ _ (by rw [List.length_append];omega)];simp only [bS];rw [Qw h _ (by simp only [List.length_append];omega)];simp only [tB,List.append_assoc]
theorem QO {st:az}(h:StG st)(l:List Int)(j:l.length≤10000) :
  iq st aY l 0=iv st aY (l++st.Z_.t_.flatMap wd) 0:=by
 have h1:=h.mems;have o:=Dr h
 exact sf (M:=1000000) (p:=st.Z_.t_) (σ:=Unit) wd (fun _ _=>()) (fun k l _ i=>iq st k l i) (fun l _=>iv st aY l 0)
  (fun k l _=>by
   show (if _ then _ else _)=_;rw [if_neg Nx])
  (fun k l _ i c a=>by
   show (if _ then _ else _)=_;obtain ⟨d,e,f,g⟩:=h.mem _ (List.getElem_mem c);rw [if_pos (On c),aH c,ax (by omega)];generalize st.Z_.t_[i]=m at d e f g a;unfold wd at a ⊢;simp only [List.length_append] at a;simp only [bS];rw [Ke d,Ke e,Nj f,Nj g,(Eu _).1];simp only [bS];rw [fZ.1];simp only [bS];rw [bC (by omega)];simp only [bS];rw [bC (by simp only [List.length_append];omega)];simp only [bS];rw [bC (by simp only [List.length_append];omega)];simp only [bS];rw [bC (by simp only [List.length_append];omega)];simp only [bS];rw [bC (by simp only [List.length_append];omega)];simp only [Option.bind_some,List.append_assoc]) (by omega) l () (by omega)
theorem Rn {st:az}(h:StG st)(l:List Int)(j:l.length≤10000) :
  ka st aY l false 0=iw st aY 0 (l++st.Z_.t_.flatMap wd) false:=by
 have h1:=h.mems;have o:=Dr h
 exact sf (M:=1000000) (p:=st.Z_.t_) (σ:=Unit) wd (fun _ _=>()) (fun k l _ i=>ka st k l false i) (fun l _=>iw st aY 0 l false)
  (fun k l _=>by
   show (if _ then _ else _)=_;rw [if_neg Nx])
  (fun k l _ i c a=>by
   show (if _ then _ else _)=_;obtain ⟨d,e,f,g⟩:=h.mem _ (List.getElem_mem c);rw [if_pos (On c),aH c,ax (by omega)];generalize st.Z_.t_[i]=m at d e f g a;unfold wd at a ⊢;simp only [List.length_append] at a;simp only [bS];rw [Kf d (by omega),(Eu _).2];simp only [bS];rw [ze (Do _) _ _ (by simp only [List.length_append];omega)];simp only [bS];rw [Kf e (by simp only [List.length_append];omega)];simp only [bS];rw [Nh f (by simp only [List.length_append];omega)];simp only [bS];rw [Nh g (by simp only [List.length_append];omega)];simp only [Option.bind_some,List.append_assoc]) (by omega) l () (by omega)
def qM (st:az):List Int:=zO st++mo (mS st++nf st)++st.Z_.t_.flatMap wd++tB st
theorem HL {st:az}(h:StG st):(qM st).length≤300000:=by
 have h1:=h.head;have a:=pi (mS st++nf st);have d:=Dr h;have e:=My h;have c:(mS st++nf st).length=12:=rfl;unfold qM;simp only [List.length_append] at a c ⊢;omega
theorem za (st:az):du (qM st):=by
 refine dm (dm (dm (dm ?_ (dm (Cx _) (Rc _))) (FY _)) (wH fun m _=>Om m)) (dm (dm (zB _) (fW _)) (wH fun p _=>dm (fW _) (fW _)));intro x a;simp only [List.mem_cons,List.not_mem_nil,or_false] at a;omega
theorem DP {a:az}(f:jP a)(g:qR a):∃s,gc (qM a)=some s∧iX (qM a)=some s∧s.length=4∧fb a=some (qM a++s)∧gr a=some (qM a++s):=by
 unfold fb gr;have e:=(yC f).val g;have e':=(Bu f).val g;have c:=stG f g;obtain ⟨r,t,u⟩:=xA f.1.1 g.1.1.1;obtain ⟨x1,x2,_⟩:=Kj u;have w:=HL c;obtain ⟨s,c1,c2,c3⟩:=Fo (za a) (by omega);have j:=c.head;have x:=Dr c;have m:(mS a++nf a).length=12:=rfl;have h:=pi (mS a++nf a);have A:=pi (mS a);have C:(mS a).length=7:=rfl;rw [e,e',r,t];simp only [cS];rw [x1,x2,(Eu _).1,(Eu _).2,bC (xs:=[83,80,78]) (by simp)];simp only [bS];have o:app ([83,80,78,1]:List Int) (tA (kj a.d_.w_))=some (zO a):=bC (by unfold zO at j;rw [List.length_append] at j;omega);have ha':app ([83,80,78]++[1]:List Int) (tA (kj a.d_.w_))=some (zO a):=o;rw [o,ha'];simp only [bS];have d:app (qM a) s=some (qM a++s):=bC (by omega);refine ⟨s,c1,c2,c3,?_,?_⟩
 ·refine (sf (M:=1000000) (p:=mS a++nf a) (σ:=Unit) dZ (fun _ _=>()) (fun k l _ i=>oE a (wI a.d_.e_.P_) k l i) (fun l _=>iq a aY l 0)
   (fun k l _=>by
    show (if decide (((mS a++nf a).length:Int)<((mS a++nf a).length:Int)) then _ else _)=_;rw [if_neg Nx])
   (fun k l _ i q v=>by
    show (if decide ((i:Int)<((mS a++nf a).length:Int)) then (idx (mS a++nf a) i).bind _ else _)=_;rw [if_pos (On q),aH q,ax (by omega)];simp only [bS];rw [fZ.1];simp only [bS];rw [bC (by omega)];rfl) (by omega) (zO a) () (by unfold mo at h;omega)).trans ?_
  show iq a aY (zO a++mo (mS a++nf a)) 0=_;rw [QO c _ (by rw [List.length_append];omega),Rg c _ (by simp only [List.length_append] at h m ⊢;omega)];show (gc (qM a)).bind _=_;rw [c1];simp only [bS];show (app (qM a) s).bind _=_;rw [d];rfl
 show (cw ⟨zO a,false⟩ (mS a)).bind _=_;rw [jv (by omega) _ _ (by omega),decide_eq_false (show ¬ ¬_ from fun n=>n c.numA)];simp only [bS];show (cw ⟨_,false⟩ (nf a)).bind _=_;rw [jv (show (nf a).length≤1048576 by show 5≤1048576;omega) _ _ (by rw [List.length_append];omega),decide_eq_false (show ¬ ¬_ from fun n=>n c.numC)];simp only [bS]
 have eP:zO a++mo (mS a)++mo (nf a)=zO a++mo (mS a++nf a):=by
  rw [List.append_assoc];congr 1;exact List.flatMap_append.symm
 rw [eP];show ka a aY _ false 0=_;rw [Rn c _ (by rw [List.length_append];omega),Rl c _ (by simp only [List.length_append] at h m ⊢;omega)];show (iX (qM a)).bind _=_;rw [c2];simp only [bS];show (app (qM a) s).bind _=_;rw [d];rfl
theorem Fv {a:az}(c:jP a)(d:¬qR a):fb a=some []∧gr a=some []:=by
 unfold fb gr;rcases (yC c).cases with ⟨_,h⟩|⟨e,_⟩
 ·exact absurd h d
 have e':mN a=some false:=by rw [(Bu c).eq (yC c),e]
 rw [e,e'];exact ⟨rfl,rfl⟩
end Go.Vk
/- Numbers read from bytes; readers. -/
namespace Go.Vk
theorem Dm (x:Int){y:Int}(h:0≤y):shl .i64 x y=some (Oq .i64 x y):=by
 unfold shl;rw [if_neg (by omega)]
def Lv (p:List Int)(a:Int)(r:Int×Int×Bool):Prop:=(r.2.2=true∧0≤a∧a<r.2.1∧r.2.1≤p.length)∨r=(0,0,false)
theorem TB {p:List Int}{a:Int}(hb:du p)(hp:p.length≤1048576)(e:0≤a)(h1:a≤9223372036854775807):∀(d k i:Nat)(x:Int),5-i=d→d<k→i≤5 →
  ∃r,fy a p k x (i:Int)=some r∧nW a p k x (i:Int)=some r∧Lv p a r:=by
 intro d
 induction d with
 | zero =>
  intro k i x f hk g;obtain ⟨k,rfl⟩:=kS k (by omega);unfold fy nW;rw [if_neg (by simp;omega),if_neg (by simp;omega)];exact ⟨_,rfl,rfl,.inr rfl⟩
 | succ d ih =>
  intro k i x f hk g;obtain ⟨k,rfl⟩:=kS k (by omega);unfold fy nW;rw [if_pos (by simp;omega)];have h:IntKind.i64.wrap ((p.length:Int)-(i:Int))=(p.length:Int)-i:=aP (by omega) (by omega);rw [h];by_cases s:a+i<p.length
  ·have l:IntKind.i64.wrap (a+(i:Int))=a+i:=aP (by omega) (by omega);rw [l,if_neg (by simp;omega),if_pos (by simp;omega)];obtain ⟨j,m⟩:∃j:Nat,a+(i:Int)=(j:Int):=⟨(a+i).toNat,by omega⟩;rw [m,aH (show j<p.length by omega)];simp only [bS];obtain ⟨n,o,q⟩:=FG hb (show j<p.length by omega);rw [o,fm (n:=n) (by omega),Tx n (by omega),show Int.tmod (n:Int) 128=((n%128:Nat):Int) from qa n 128,Dm _ (show 0≤IntKind.i64.wrap (7*(i:Int)) by rw [aP (by omega) (by omega)];omega)];simp only [bS];by_cases t:n<128
   ·rw [if_pos (c:=decide ((n:Int)<128)=true) (by simp;omega),if_neg (c:=decide ((n:Int)≥128)=true) (by simp;omega),Bool.and_comm (decide ((i:Int)>0))];generalize ((((n:Int)==0)&&decide ((i:Int)>0))||decide (eW .or .i64 x (Oq .i64 ((n%128:Nat):Int) (IntKind.i64.wrap (7*(i:Int))))>2147483647))=b;cases b
    ·refine ⟨_,rfl,rfl,.inl ⟨rfl,e,?_,?_⟩⟩
     ·show a<IntKind.i64.wrap ((j:Int)+1);rw [aP (by omega) (by omega)];omega
     show IntKind.i64.wrap ((j:Int)+1)≤_;rw [aP (by omega) (by omega)];omega
    exact ⟨_,rfl,rfl,.inr rfl⟩
   rw [if_neg (c:=decide ((n:Int)<128)=true) (by simp;omega),if_pos (c:=decide ((n:Int)≥128)=true) (by simp;omega),ax (by omega)];exact ih k (i+1) _ (by omega) (by omega) (by omega)
  rw [if_pos (by simp;omega),if_neg ?_]
  ·exact ⟨_,rfl,rfl,.inr rfl⟩
  rw [IntKind.wrap_i64];simp only [Bool.and_eq_true,decide_eq_true_eq,not_and];omega
theorem FW {p:List Int}{a:Int}(hb:du p)(hp:p.length≤1048576)(d:I64 a):∃r,qf p a=some r∧uz p a=some r∧Lv p a r:=by
 unfold qf uz;by_cases c:a<0
 ·rw [if_pos (by simpa using c)];refine ⟨_,?_,rfl,.inr rfl⟩;obtain ⟨k,hk⟩:∃k,aY=k+1:=⟨aY-1,by have:=cx (n:=1) (by omega);omega⟩;rw [hk];unfold fy;rw [if_pos (by simp),if_pos (by simp [c])]
 rw [if_neg (by simpa using c)];exact TB hb hp (by omega) d.2 5 aY 0 0 (by omega) (cx (by omega)) (by omega)
theorem MC {p:List Int}{a:Int}(hb:du p)(hp:p.length≤1048576)(e:I64 a):∃r,ep p a=some r∧rU p a=some r∧Lv p a r∧InR r.1:=by
 unfold ep rU;obtain ⟨r,f,g,h⟩:=FW hb hp e;rw [f,g];simp only [bS]
 have d:∀z,∃q,(if (!r.2.2)=true then some (0,0,false) else lX r z)=some q∧nS r z=some q∧Lv p a q∧InR q.1:=by
  intro z;unfold lX nS aM bc;simp only [bS];rcases h with ⟨h1,i,j,k⟩|rfl
  ·rw [h1];simp only [Bool.not_true,Bool.false_eq_true,if_false];by_cases c:InR z
   ·rw [pF c];exact ⟨_,rfl,rfl,.inl ⟨rfl,i,j,k⟩,c⟩
   rw [qZ c];exact ⟨_,rfl,rfl,.inr rfl,by decide⟩
  exact ⟨_,rfl,rfl,.inr rfl,by decide⟩
 obtain ⟨q1,l,m,o⟩:=d (IntKind.i64.wrap ((IntKind.i64.wrap (0-(IntKind.i64.wrap (Int.tdiv r.1 2))))-1));obtain ⟨s,t,u,v⟩:=d (IntKind.i64.wrap (Int.tdiv r.1 2));cases w:(Int.tmod r.1 2==1)
 ·refine ⟨s,?_,by simpa using u,v⟩;rw [←t];cases r.2.2<;>simp
 refine ⟨q1,?_,by simpa using m,o⟩;rw [←l];cases r.2.2<;>simp
abbrev Pz (α:Type):=Int→Option (α×Int)
def Pz.many {α:Type}(P:Pz α):Nat→Pz (List α)
 | 0,a=>some ([],a)
 | n+1,a=>(P a).bind fun y=>(many P n y.2).bind fun z=>some (y.1::z.1,z.2)
def Pz.map {α β:Type}(f:α→β)(P:Pz α):Pz β:=fun a=>(P a).map fun y=>(f y.1,y.2)
def wo {α:Type}(p:List Int)(P:Pz α)(sz:α→Nat):Prop:=∀a v b,I64 a→P a=some (v,b)→0≤a∧a+sz v≤b∧b≤p.length∧1≤sz v
def Je {α:Type}(op:Int→Option (α×Int×Bool))(P:Pz α)(z:α):Prop:=∀a,I64 a→op a=some (match P a with|some (v,b)=>(v,b,true)|none=>(z,0,false))
def xi {α:Type}(op:ao→Option (α×ao))(P:Pz α):Prop :=
 (∀a,∃v a',op ⟨a,true⟩=some (v,⟨a',true⟩))∧∀a,I64 a→(∀v b,P a=some (v,b)→op ⟨a,false⟩=some (v,⟨b,false⟩))∧(P a=none→∃v a',op ⟨a,false⟩=some (v,⟨a',true⟩))
theorem wo.i64 {α:Type}{p:List Int}{P:Pz α}{sz:α→Nat}(h:wo p P sz)(hp:p.length≤1048576){a b:Int}{v:α}(c:I64 a)(e:P a=some (v,b)):I64 b:=by
 obtain ⟨h1,d,f,_⟩:=h a v b c e;exact ⟨by omega,by omega⟩
theorem Bs {α:Type}{p:List Int}{P:Pz α}{sz:α→Nat}(h:wo p P sz)(hp:p.length≤1048576):∀(n:Nat)(a:Int)(vs:List α)(b:Int),0≤a→a≤p.length→P.many n a=some (vs,b)→a+(vs.map sz).sum≤b∧b≤p.length∧vs.length=n∧n≤(vs.map sz).sum:=by
 intro n
 induction n with
 | zero =>
  intro a vs b f h1 e;obtain ⟨rfl,rfl⟩:=Prod.mk.inj (Option.some.inj e);exact ⟨by simp,h1,rfl,Nat.zero_le _⟩
 | succ n ih =>
  intro a vs b f h1 e;unfold Pz.many at e
  cases c:P a with
  | none=>rw [c] at e;simp at e
  | some y =>
   rw [c] at e;simp only [bS] at e
   cases d:P.many n y.2 with
   | none=>rw [d] at e;simp at e
   | some z =>
    rw [d] at e;obtain ⟨rfl,rfl⟩:=Prod.mk.inj (Option.some.inj e);obtain ⟨j,k,g,l⟩:=h a y.1 y.2 ⟨by omega,by omega⟩ c;obtain ⟨m,i,o,q⟩:=ih y.2 z.1 z.2 (by omega) g d;simp only [List.map_cons,List.sum_cons,List.length_cons];exact ⟨by omega,i,by omega,by omega⟩
noncomputable def gI (p:List Int):Pz Int:=fun a=>match ep p a with
 | some (v,b,true)=>some (v,b)
 | _=>none
section
variable {p:List Int} (hb:du p) (hp:p.length≤1048576)
include hb hp
theorem DO {a:Int}(d:I64 a):(∃v b,gI p a=some (v,b)∧ep p a=some (v,b,true)∧rU p a=some (v,b,true)∧0≤a∧a<b∧b≤p.length∧InR v)∨(gI p a=none∧ep p a=some (0,0,false)∧rU p a=some (0,0,false)):=by
 obtain ⟨⟨v,b,q⟩,h1,c,h3,e⟩:=MC hb hp d;unfold gI;rcases h3 with ⟨f,g,h,i⟩|h3
 ·obtain rfl:q=true:=f;exact .inl ⟨v,b,by rw [h1],h1,c,g,h,i,e⟩
 rw [h3] at h1 c;exact .inr ⟨by rw [h1],h1,c⟩
theorem Kl:Je (ep p) (gI p) 0:=fun a d=>by
 rcases DO hb hp d with ⟨v,b,h1,c,_⟩|⟨h1,c,_⟩<;>rw [h1,c]
theorem KX {a:Int}(c:I64 a){v b:Int}(h:gI p a=some (v,b)):InR v:=by
 rcases DO hb hp c with ⟨v',b',h1,_,_,_,_,_,d⟩|⟨h1,_⟩
 ·rw [h] at h1;obtain ⟨rfl,rfl⟩:=Prod.mk.inj (Option.some.inj h1);exact d
 rw [h] at h1;simp at h1
omit hb hp in
theorem JC (a:Int):aS p ⟨a,true⟩=some (0,⟨a,true⟩):=rfl
theorem FT:xi (aS p) (gI p):=⟨fun a=>⟨_,_,rfl⟩,fun a d=>by
 unfold aS;simp only [Bool.false_eq_true,if_false];rcases DO hb hp d with ⟨v,b,h1,_,c,_⟩|⟨h1,_,c⟩<;>rw [h1,c]
 ·refine ⟨fun v' b' e=>?_,fun e=>by simp at e⟩;obtain ⟨rfl,rfl⟩:=Prod.mk.inj (Option.some.inj e);rfl
 exact ⟨fun v' b' e=>by simp at e,fun _=>⟨_,_,rfl⟩⟩⟩
end
theorem iQ {p:List Int}(hb:du p)(hp:p.length≤1048576):wo p (gI p) (fun _=>1):=fun a v b c h=>by
 rcases DO hb hp c with ⟨v',b',h1,_,_,d,f,e,_⟩|⟨h1,_⟩
 ·rw [h] at h1;obtain ⟨rfl,rfl⟩:=Prod.mk.inj (Option.some.inj h1);exact ⟨d,by show a+((1:Nat):Int)≤b;omega,e,Nat.le_refl _⟩
 rw [h] at h1;simp at h1
theorem DQ {α ρ:Type}{op:Int→Option (α×Int×Bool)}{P:Pz α}{z:α}{sz:α→Nat}{p:List Int}(g:Je op P z)(j:wo p P sz)(hp:p.length≤1048576){n:Int}(s:n≤1000000000)(Lp:Nat→List α→Int→Int→Option ρ)(fin:List α→Int→Option ρ)(bad:Option ρ)(step:∀k l i a,Lp (k+1) l i a=if decide (i<n) then (op a).bind fun y=>if (!y.2.2) then bad else (app l [y.1]).bind fun l'=>Lp k l' (IntKind.i64.wrap (i+1)) y.2.1 else fin l a) :
  ∀(d k:Nat)(i a:Int)(l:List α),(n-i).toNat=d→d<k→0≤i→(l.length:Int)≤i→i≤1000000000→I64 a→Lp k l i a=match P.many d a with|some (vs,c)=>fin (l++vs) c|none=>bad:=by
 intro d
 induction d with
 | zero =>
  intro k i a l m hk o r f e;obtain ⟨k,rfl⟩:=kS k (by omega);rw [step,if_neg (by simp;omega)];simp [Pz.many]
 | succ d ih =>
  intro k i a l m hk o r f e;obtain ⟨k,rfl⟩:=kS k (by omega);rw [step,if_pos (by simp;omega),g a e];simp only [bS];unfold Pz.many
  cases h:P a with
  | none=>rfl
  | some y =>
   obtain ⟨v,b⟩:=y;simp only [cS];rw [bC (by simp;omega)];simp only [bS];rw [aP (by omega) (by omega),ih k (i+1) b (l++[v]) (by omega) (by omega) (by omega) (by simp;omega) (by omega) (j.i64 hp e h)]
   cases P.many d b with
   | none=>rfl
   | some q=>simp
theorem DX {α ρ:Type}{op:ao→Option (α×ao)}{Lp:Nat→Int→Bool→List α→Int→Option ρ}{fin:List α→ao→Option ρ}(step:∀k a q l n,Lp (k+1) a q l n=if (decide (n>0)) && !q then (op ⟨a,q⟩).bind fun y=>(app l [y.1]).bind fun l'=>Lp k y.2.a_ y.2.N_ l' (IntKind.i64.wrap (n-1)) else fin l ⟨a,q⟩){k:Nat}(hk:0<k)(a:Int)(l:List α)(n:Int):Lp k a true l n=fin l ⟨a,true⟩:=by
 obtain ⟨k,rfl⟩:=kS k (by omega);rw [step,if_neg (by simp)]
theorem PK {α ρ:Type}{op:ao→Option (α×ao)}{P:Pz α}{sz:α→Nat}{p:List Int}(i:xi op P)(m:wo p P sz)(hp:p.length≤1048576)(Lp:Nat→Int→Bool→List α→Int→Option ρ)(fin:List α→ao→Option ρ)(step:∀k a q l n,Lp (k+1) a q l n=if (decide (n>0)) && !q then (op ⟨a,q⟩).bind fun y=>(app l [y.1]).bind fun l'=>Lp k y.2.a_ y.2.N_ l' (IntKind.i64.wrap (n-1)) else fin l ⟨a,q⟩) :
  ∀(d k:Nat)(n a:Int)(l:List α),n.toNat=d→d+1<k→n≤1000000000→0≤n→l.length+d≤1000000000→I64 a →
   (∀vs c,P.many d a=some (vs,c)→Lp k a false l n=fin (l++vs) ⟨c,false⟩)∧(P.many d a=none→∃l' a',Lp k a false l n=fin l' ⟨a',true⟩):=by
 intro d
 induction d with
 | zero =>
  intro k n a l o hk r j s g;obtain ⟨k,rfl⟩:=kS k (by omega);rw [step,if_neg (by simp;omega)];refine ⟨fun vs c e=>?_,fun e=>by simp [Pz.many] at e⟩;obtain ⟨rfl,rfl⟩:=Prod.mk.inj (Option.some.inj e);simp
 | succ d ih =>
  intro k n a l o hk r j s g;obtain ⟨k,rfl⟩:=kS k (by omega);rw [step,if_pos (by simp;omega)];unfold Pz.many
  cases h:P a with
  | none =>
   refine ⟨fun vs c e=>by simp at e,fun _=>?_⟩;obtain ⟨v,a',e⟩:=(i.2 a g).2 h;rw [e];simp only [bS];rw [bC (by simp;omega)];simp only [bS];exact ⟨_,_,DX step (by omega) _ _ _⟩
  | some y =>
   obtain ⟨v,b⟩:=y;rw [(i.2 a g).1 v b h];simp only [bS];rw [bC (by simp;omega)];simp only [bS];rw [aP (by omega) (by omega)];obtain ⟨t,u⟩:=ih k (n-1) b (l++[v]) (by omega) (by omega) (by omega) (by omega) (by simp;omega) (m.i64 hp g h);refine ⟨fun vs c e=>?_,fun e=>?_⟩
   ·cases f:P.many d b with
    | none=>rw [f] at e;simp at e
    | some q =>
     rw [f] at e;obtain ⟨rfl,rfl⟩:=Prod.mk.inj (Option.some.inj e);rw [t q.1 q.2 f];simp
   cases f:P.many d b with
   | none=>exact u f
   | some q=>rw [f] at e;simp at e
noncomputable def cIr (p:List Int):Pz Int:=fun a=>(gI p a).bind fun y=>if y.1<0∨(p.length:Int)-y.2<y.1 then none else some y
noncomputable def cK {α:Type}(p:List Int)(P:Pz α):Pz (List α):=fun a=>(gI p a).bind fun y=>if y.1<0 then none else P.many y.1.toNat y.2
section
variable {p:List Int} (hb:du p) (hp:p.length≤1048576)
include hb hp
omit hb hp in
theorem Mq {a n b:Int}(h:cIr p a=some (n,b)):gI p a=some (n,b)∧0≤n∧n≤p.length-b:=by
 unfold cIr at h
 cases c:gI p a with
 | none=>rw [c] at h;simp at h
 | some y =>
  rw [c] at h;simp only [bS] at h;split at h
  ·simp at h
  rename_i d;obtain rfl:=Option.some.inj h;exact ⟨rfl,by omega,by omega⟩
theorem PE {α:Type}{P:Pz α}{sz:α→Nat}(c:wo p P sz){a:Int}(d:I64 a):cK p P a=(cIr p a).bind fun y=>P.many y.1.toNat y.2:=by
 unfold cK cIr
 cases h:gI p a with
 | none=>rfl
 | some y =>
  obtain ⟨i,j,e,_⟩:=iQ hb hp a y.1 y.2 d h;simp only [bS];by_cases h1:y.1<0
  ·rw [if_pos h1,if_pos (.inl h1)];rfl
  rw [if_neg h1];by_cases f:(p.length:Int)-y.2<y.1
  ·rw [if_pos (.inr f)]
   cases g:P.many y.1.toNat y.2 with
   | none=>rfl
   | some q =>
    obtain ⟨k,l,m,o⟩:=Bs c hp _ _ q.1 q.2 (by omega) e g;exfalso;omega
  rw [if_neg (by omega)];rfl
theorem yG {α:Type}{P:Pz α}{sz:α→Nat}(d:wo p P sz):wo p (cK p P) (fun vs=>1+(vs.map sz).sum):=fun a vs b e h=>by
 unfold cK at h
 cases c:gI p a with
 | none=>rw [c] at h;simp at h
 | some y =>
  rw [c] at h;simp only [bS] at h;obtain ⟨f,g,i,_⟩:=iQ hb hp a y.1 y.2 e c;have g2':a+((1:Nat):Int)≤y.2:=g;split at h
  ·simp at h
  obtain ⟨k,j,l,m⟩:=Bs d hp _ _ vs b (by omega) i h;exact ⟨f,by show a+((1+(vs.map sz).sum:Nat):Int)≤b;omega,j,by show 1≤1+(vs.map sz).sum;omega⟩
theorem DR:xi (cW p) (cIr p):=⟨fun a=>by
 unfold cW;rw [JC];simp only [bS]
 split<;>exact ⟨_,_,rfl⟩,fun a c=>by
 unfold cW cIr;have d:=(FT hb hp).2 a c
 cases h:gI p a with
 | none =>
  obtain ⟨v,a',e⟩:=d.2 h;rw [e];simp only [bS];refine ⟨fun v b e=>by simp at e,fun _=>?_⟩;split<;>exact ⟨_,_,rfl⟩
 | some y =>
  obtain ⟨n,b⟩:=y;obtain ⟨g,i,j,_⟩:=iQ hb hp a n b c h;rw [d.1 n b h];simp only [bS];rw [aP (n:=(p.length:Int)-b) (by omega) (by omega)];by_cases f:n<0∨(p.length:Int)-b<n
  ·rw [if_pos f];exact ⟨fun v b e=>by simp at e,fun _=>⟨0,b,if_pos (by simp;omega)⟩⟩
  rw [if_neg f,if_neg (by simp;omega)];refine ⟨fun v' b' e=>?_,fun e=>by simp at e⟩;obtain ⟨rfl,rfl⟩:=Prod.mk.inj (Option.some.inj e);rfl⟩
end
end Go.Vk
/- Lists and lists of lists, read. -/
namespace Go.Vk
theorem Pz.map_some {α β:Type}{f:α→β}{P:Pz α}{a b:Int}{v:α}(h:P a=some (v,b)):Pz.map f P a=some (f v,b):=by unfold Pz.map;rw [h];rfl
theorem Pz.map_none {α β:Type}{f:α→β}{P:Pz α}{a:Int}(h:P a=none):Pz.map f P a=none:=by unfold Pz.map;rw [h];rfl
theorem Pz.map_id {α:Type}{P:Pz α}:Pz.map id P=P:=by funext a;unfold Pz.map;cases P a<;>rfl
section
variable {p:List Int} (hb:du p) (hp:p.length≤1048576)
include hb hp
theorem Pq {α β:Type}{op:Int→Option (α×Int×Bool)}{P:Pz α}{z:α}{sz:α→Nat}(m:Je op P z)(o:wo p P sz)(mk:List α→β)(zb:β){big:Int→Option (β×Int×Bool)}(Lp:Int×Int×Bool→Nat→List α→Int→Int→Option (β×Int×Bool))(d:∀a,big a=(ep p a).bind fun y=>if ((!y.2.2)||(decide (y.1<0))) then some (zb,0,false) else Lp y aY [] 0 y.2.1)(step:∀q k l i a,Lp q (k+1) l i a=if decide (i<q.1) then (op a).bind fun y=>if (!y.2.2) then some (zb,0,false) else (app l [y.1]).bind fun l'=>Lp q k l' (IntKind.i64.wrap (i+1)) y.2.1 else some (mk l,a,true)) :
  Je big (Pz.map mk (cK p P)) zb:=fun a c=>by
 rw [d,Kl hb hp a c];simp only [bS]
 cases h:gI p a with
 | none =>
  rw [Pz.map_none (by unfold cK;rw [h];rfl)];rfl
 | some y =>
  obtain ⟨n,b⟩:=y;have f:=KX hb hp c h;obtain ⟨r,s,t,_⟩:=iQ hb hp a n b c h;by_cases e:n<0
  ·rw [Pz.map_none (by unfold cK;rw [h];simp [e]),if_pos (by simp [e])]
  rw [if_neg (by simp;omega)];have g:cK p P a=P.many n.toNat b:=by unfold cK;rw [h];simp [e]
  rw [DQ m o hp (n:=n) f.2 (Lp (n,b,true)) (fun l a=>some (mk l,a,true)) (some (zb,0,false)) (step (n,b,true)) n.toNat aY 0 b [] (by simp) (cx (by have:=f.2;omega)) (by omega) (by simp) (by omega) (iQ hb hp |>.i64 hp c h)]
  cases j:P.many n.toNat b with
  | none=>rw [Pz.map_none (by rw [g,j])]
  | some z=>rw [Pz.map_some (by rw [g,j])];rfl
theorem KR {α β:Type}{op:ao→Option (α×ao)}{P:Pz α}{sz:α→Nat}(o:xi op P)(j:wo p P sz)(mk:List α→β){big:ao→Option (β×ao)}(Lp:Nat→Int→Bool→List α→Int→Option (β×ao))(d:∀s,big s=(cW p s).bind fun y=>Lp aY y.2.a_ y.2.N_ [] y.1)(step:∀k a q l n,Lp (k+1) a q l n=if (decide (n>0)) && !q then (op ⟨a,q⟩).bind fun y=>(app l [y.1]).bind fun l'=>Lp k y.2.a_ y.2.N_ l' (IntKind.i64.wrap (n-1)) else some (mk l,⟨a,q⟩)) :
  xi big (Pz.map mk (cK p P)):=⟨fun a=>by
 obtain ⟨v,a',e⟩:=(DR hb hp).1 a;rw [d,e];simp only [bS]
 exact ⟨_,_,DX (Lp:=Lp) (fin:=fun l s=>some (mk l,s)) step (cx (by omega)) _ _ _⟩,fun a f=>by
 rw [d];have m:=(DR hb hp).2 a f;have c:=PE hb hp j f
 cases h:cIr p a with
 | none =>
  rw [h] at c;rw [Pz.map_none (by rw [c];rfl)];obtain ⟨v,a',e⟩:=m.2 h;rw [e];simp only [bS];exact ⟨fun v b e=>by simp at e,fun _=>⟨_,_,DX (Lp:=Lp) (fin:=fun l s=>some (mk l,s)) step (cx (by omega)) _ _ _⟩⟩
 | some y =>
  obtain ⟨n,b⟩:=y;rw [h] at c;rw [m.1 n b h];simp only [bS];obtain ⟨h1,r,w⟩:=Mq h;obtain ⟨x,A,C,_⟩:=iQ hb hp a n b f h1;have i:=KX hb hp f h1;obtain ⟨t,u⟩:=PK o j hp Lp (fun l s=>some (mk l,s)) step n.toNat aY n b [] rfl (cx (by have:=i.2;omega)) i.2 r (by have:=i.2;simp;omega) (iQ hb hp |>.i64 hp f h1);simp only [bS] at c
  cases g:P.many n.toNat b with
  | none =>
   rw [Pz.map_none (by rw [c,g])];obtain ⟨l',a',e⟩:=u g;exact ⟨fun v b e=>by simp at e,fun _=>⟨_,_,e⟩⟩
  | some z =>
   rw [Pz.map_some (by rw [c,g])];refine ⟨fun v b e=>?_,fun e=>by simp at e⟩;obtain ⟨rfl,rfl⟩:=Prod.mk.inj (Option.some.inj e);exact t z.1 z.2 g⟩
theorem Ib:Je (mJ p) (cK p (gI p)) []:=by
 have:=Pq hb hp (Kl hb hp) (iQ hb hp) id [] (big:=mJ p) (fun y=>ru y p) (fun _=>rfl) (fun _ _ _ _ _=>rfl);rwa [Pz.map_id] at this
theorem oz:wo p (cK p (gI p)) (fun vs=>1+vs.length):=by
 have:=yG hb hp (iQ hb hp);simpa only [SC] using this
theorem HW:xi (dN p) (cK p (gI p)):=by
 have:=KR hb hp (FT hb hp) (iQ hb hp) id (big:=dN p) (nu p) (fun _=>rfl) (fun _ _ _ _ _=>rfl);rwa [Pz.map_id] at this
theorem Ks:Je (nM p) (cK p (cK p (gI p))) []:=by
 have:=Pq hb hp (Ib hb hp) (oz hb hp) id [] (big:=nM p) (fun y=>nt y p) (fun _=>rfl) (fun _ _ _ _ _=>rfl);rwa [Pz.map_id] at this
theorem AW:wo p (cK p (cK p (gI p))) (fun vs=>1+(vs.map fun v=>1+v.length).sum):=yG hb hp (oz hb hp)
theorem CS:xi (ft p) (Pz.map aw.mk (cK p (cK p (gI p)))) :=
 KR hb hp (HW hb hp) (oz hb hp) aw.mk (big:=ft p) (gY p) (fun _=>rfl) (fun _ _ _ _ _=>rfl)
end
theorem UP {p:List Int}(h:∀x∈p,Mg .u8 x):du p:=fun x a=>by
 have:=h x a;simp [Mg,Lit.wf,IntKind.min,IntKind.max,IntKind.signed,IntKind.bits] at this;exact ⟨by omega,by omega⟩
end Go.Vk
/- Trees, read. -/
namespace Go.Vk
def Pz.bind {α β:Type}(P:Pz α)(Q:α→Pz β):Pz β:=fun a=>(P a).bind fun y=>Q y.1 y.2
section
variable {p:List Int} (hb:du p) (hp:p.length≤1048576)
include hb hp
theorem DL:∀(d:Nat)(a:Int),(d:Int)≤1000→I64 a→eX p a d=some (match (gI p).many d a with|some (vs,c)=>(vs,c,true)|none=>([],0,false)):=fun d a f e=>by
 unfold eX;have:=DQ (Kl hb hp) (iQ hb hp) hp (n:=(d:Int)) (by omega) (fun k l i a=>rB (d:Int) p k a i l) (fun l a=>some (l,a,true)) (some ([],0,false)) (fun _ _ _ _=>rfl) d aY 0 a [] (by simp) (cx (by omega)) (by omega) (by simp) (by omega) e;refine this.trans ?_
 cases (gI p).many d a with
 | none=>rfl
 | some z=>rfl
end
noncomputable def yu (p:List Int):Pz Bool:=fun a=>(gI p a).bind fun y=>if y.1≠0∧y.1≠1 then none else some (y.1==1,y.2)
noncomputable def uF (p:List Int):Pz au :=
 Pz.bind (yu p) fun v0=>Pz.bind (gI p) fun e=>Pz.bind (gI p) fun f=>Pz.bind (cK p (gI p)) fun g=>Pz.bind (gI p) fun h=>Pz.bind (cK p (gI p)) fun i =>
 Pz.bind (Pz.map aw.mk (cK p (cK p (gI p)))) fun j=>Pz.bind (gI p) fun k=>Pz.bind (cK p (gI p)) fun l=>Pz.bind (gI p) fun m=>Pz.bind (gI p) fun c=>Pz.bind (gI p) fun d =>
 fun a=>some (⟨v0,⟨e,f⟩,g,h,⟨i,j.k_⟩,k,l,m,c,d⟩,a)
theorem WJ {α β:Type}(x:α)(f:α→Option β):(some x).bind f=f x:=rfl
theorem cQ {α β:Type}{o:Option α}{f:α→Option β}{b:β}(h:o.bind f=some b):∃a,o=some a∧f a=some b:=by
 cases o with
 | none=>cases h
 | some a=>exact ⟨a,rfl,h⟩
theorem zn {p:List Int}(hb:du p)(hp:p.length≤1048576):wo p (uF p) (fun x=>1+szM x):=fun a v b c h=>by
 unfold uF Pz.bind yu Pz.map at h;have gg:=iQ hb hp;have gl:=oz hb hp;have gL:=AW hb hp;have ig:=fun {a b v:Int}(c:I64 a)(e:gI p a=some (v,b))=>gg.i64 hp c e;obtain ⟨z0,e0',h⟩:=cQ h;obtain ⟨y0,f,e0'⟩:=cQ e0';split at e0'
 ·cases e0'
 obtain rfl:=Option.some.inj e0';obtain ⟨y1,g,h⟩:=cQ h;obtain ⟨y2,i,h⟩:=cQ h;obtain ⟨y3,j,h⟩:=cQ h;obtain ⟨y4,k,h⟩:=cQ h;obtain ⟨y5,l,h⟩:=cQ h;obtain ⟨z6,e6',h⟩:=cQ h;obtain ⟨R,m,e6'⟩:=Option.map_eq_some_iff.1 e6';obtain rfl:=e6';obtain ⟨y7,o,h⟩:=cQ h;obtain ⟨y8,e8,h⟩:=cQ h;obtain ⟨y9,q,h⟩:=cQ h;obtain ⟨d9,d,h⟩:=cQ h;obtain ⟨f0,r,h⟩:=cQ h;obtain ⟨rfl,rfl⟩:=Prod.mk.inj (Option.some.inj h);obtain ⟨X,Z,c0,_⟩:=gg _ _ _ c f;have s:=gg.i64 hp c f;obtain ⟨a1,b1,c1,_⟩:=gg _ _ _ s g;have t:=gg.i64 hp s g;obtain ⟨a2,b2,c2,_⟩:=gg _ _ _ t i;have u:=gg.i64 hp t i;obtain ⟨a3,b3,c3,_⟩:=gl _ _ _ u j;have w:=gl.i64 hp u j;obtain ⟨a4,b4,c4,_⟩:=gg _ _ _ w k;have A:=gg.i64 hp w k;obtain ⟨a5,b5,c5,_⟩:=gl _ _ _ A l;have C:=gl.i64 hp A l;obtain ⟨a6,D,c6,_⟩:=gL _ _ _ C m;have E:=gL.i64 hp C m;obtain ⟨a7,b7,c7,_⟩:=gg _ _ _ E o;have F:=gg.i64 hp E o;obtain ⟨a8,b8,c8,_⟩:=gl _ _ _ F e8;have G:=gl.i64 hp F e8;obtain ⟨a9,b9,c9,_⟩:=gg _ _ _ G q;have H:=gg.i64 hp G q;obtain ⟨f1,L,f2,_⟩:=gg _ _ _ H d;have M:=gg.i64 hp H d;obtain ⟨f3,P,Q,_⟩:=gg _ _ _ M r;have hs:=SE (p:=R.1);unfold szM;simp only at Z b1 b2 b3 b4 b5 D b7 b8 b9 L P ⊢;rw [hs] at D;exact ⟨X,by omega,Q,by omega⟩
def rb {α β:Type}(op:ao→Option (α×ao))(opk:α→ao→Option (β×ao)):ao→Option (β×ao):=fun st=>(op st).bind fun y=>opk y.1 y.2
theorem tv {α β:Type}{op:ao→Option (α×ao)}{opk:α→ao→Option (β×ao)}{P:Pz α}{Q:α→Pz β}(h1:xi op P)(f:∀a v b,I64 a→P a=some (v,b)→I64 b)(c:∀v,xi (opk v) (Q v)):xi (rb op opk) (Pz.bind P Q):=⟨fun a=>by
 obtain ⟨v,a',e⟩:=h1.1 a;unfold rb;rw [e]
 exact (c v).1 a',fun a d=>by
 unfold rb Pz.bind
 cases h:P a with
 | none =>
  obtain ⟨v,a',e⟩:=(h1.2 a d).2 h;rw [e];exact ⟨fun v b e=>(by cases e),fun _=>(c v).1 a'⟩
 | some y =>
  obtain ⟨v,b⟩:=y;rw [(h1.2 a d).1 v b h];exact (c v).2 b (f a v b d h)⟩
theorem Lc {α:Type}(v:α):xi (fun st=>some (v,st)) (fun a=>some (v,a)):=⟨fun a=>⟨_,_,rfl⟩,fun a _=>⟨fun v' b e=>by
 obtain ⟨rfl,rfl⟩:=Prod.mk.inj (Option.some.inj e);rfl,fun e=>(by cases e)⟩⟩
section
variable {p:List Int} (hb:du p) (hp:p.length≤1048576)
include hb hp
theorem KB:xi (gH p) (yu p):=⟨fun a=>⟨_,_,rfl⟩,fun a f=>by
 unfold gH yu;have d:=(FT hb hp).2 a f
 cases h:gI p a with
 | none =>
  obtain ⟨v,a',e⟩:=d.2 h;rw [e];exact ⟨fun v b e=>(by cases e),fun _=>⟨_,_,rfl⟩⟩
 | some y =>
  obtain ⟨n,b⟩:=y;rw [d.1 n b h];simp only [Option.bind_some,Bool.false_or];by_cases c:n≠0∧n≠1
  ·rw [if_pos c,show ((n != 0)&&(n != 1))=true by simp;exact c];exact ⟨fun v b e=>(by cases e),fun _=>⟨_,_,rfl⟩⟩
  rw [if_neg c,show ((n != 0)&&(n != 1))=false by simp;omega]
  exact ⟨fun v b e=>by
   obtain ⟨rfl,rfl⟩:=Prod.mk.inj (Option.some.inj e);rfl,fun e=>(by cases e)⟩⟩
end
noncomputable def Nw (p:List Int):ao→Option (au×ao) :=
 rb (gH p) fun v0=>rb (aS p) fun d=>rb (aS p) fun e=>rb (dN p) fun f=>rb (aS p) fun g=>rb (dN p) fun h =>
 rb (ft p) fun i=>rb (aS p) fun j=>rb (dN p) fun k=>rb (aS p) fun l=>rb (aS p) fun a=>rb (aS p) fun c =>
 fun st=>some (⟨v0,⟨d,e⟩,f,g,⟨h,i.k_⟩,j,k,l,a,c⟩,st)
section
variable {p:List Int} (hb:du p) (hp:p.length≤1048576)
include hb hp
theorem UH:xi (Nw p) (uF p):=by
 have gg:∀a v b,I64 a→gI p a=some (v,b)→I64 b:=fun a v b c e=>(iQ hb hp).i64 hp c e;have gl:∀a v b,I64 a→cK p (gI p) a=some (v,b)→I64 b:=fun a v b c e=>(oz hb hp).i64 hp c e
 have gf:∀a v b,I64 a→yu p a=some (v,b)→I64 b:=fun a v b c e=>by
  unfold yu at e;obtain ⟨y,f,d⟩:=cQ e;split at d
  ·cases d
  obtain ⟨rfl,rfl⟩:=Prod.mk.inj (Option.some.inj d);exact gg _ _ _ c f
 have gw:∀a v b,I64 a→Pz.map aw.mk (cK p (cK p (gI p))) a=some (v,b)→I64 b:=fun a v b c e=>by
  obtain ⟨y,f,d⟩:=Option.map_eq_some_iff.1 e;obtain ⟨rfl,rfl⟩:=Prod.mk.inj d;exact (AW hb hp).i64 hp c f
 have ri:=FT hb hp;have rl:=HW hb hp;exact tv (KB hb hp) gf fun _=>tv ri gg fun _=>tv ri gg fun _=>tv rl gl fun _=>tv ri gg fun _=>tv rl gl fun _=>tv (CS hb hp) gw fun _=>tv ri gg fun _=>tv rl gl fun _=>tv ri gg fun _=>tv ri gg fun _=>tv ri gg fun _=>Lc _
end
theorem Vo (p:List Int)(d:List au)(e:Bool×ao)(f g:Int×ao)(h:(List Int)×ao)(i:Int×ao)(j:(List Int)×ao)(v:Int→Bool→(List au)→Int→Option (am×ao))(m:Int) :
  ∀(k:Nat)(a:Int)(q:Bool)(l:List (List Int))(n:Int),kV p d e f g h i j v m k a q l n =
   (gY p k a q l n).bind fun w=>(aS p w.2).bind fun o=>(dN p o.2).bind fun r=>(aS p r.2).bind fun s=>(aS p s.2).bind fun t=>(aS p t.2).bind fun c=>(app d [(au.mk e.1 (aI.mk f.1 g.1) h.1 i.1 (aE.mk j.1 w.1.k_) o.1 r.1 s.1 t.1 c.1)]).bind fun u=>v c.2.a_ c.2.N_ u (IntKind.i64.wrap (m-1)):=by
 intro k
 induction k with
 | zero=>intro a q l n;rfl
 | succ k ih =>
  intro a q l n;unfold kV gY;split
  ·cases dN p ⟨a,q⟩ with
   | none=>rfl
   | some y =>
    simp only [bS]
    cases app l [y.1] with
    | none=>rfl
    | some l' =>
     simp only [bS];exact ih _ _ _ _
  rfl
theorem qh {α β:Type}{o:Option α}{f g:α→Option β}(h:∀a,f a=g a):o.bind f=o.bind g:=by cases o;rfl;exact h _
theorem PZ (p:List Int)(y2:Int×ao)(k:Nat)(a:Int)(q:Bool)(l:List au)(n:Int) :
  eY p y2 (k+1) a q l n=if (decide (n>0)) && !q then (Nw p ⟨a,q⟩).bind fun y=>(app l [y.1]).bind fun l'=>eY p y2 k y.2.a_ y.2.N_ l' (IntKind.i64.wrap (n-1)) else some (⟨l,y2.1⟩,⟨a,q⟩):=by
 rw [eY];split
 ·unfold Nw rb;simp only [Option.bind_assoc];refine qh fun y0=>qh fun y1=>qh fun y2'=>qh fun y3=>qh fun y4=>qh fun y5=>?_;unfold ft;simp only [Option.bind_assoc];refine qh fun c=>?_;rw [Vo];rfl
 rfl
end Go.Vk
/- Trees, read by both. -/
namespace Go.Vk
theorem UZ {α:Type}(x:α)(l:List α):idx (x::l) 0=some x:=by simp [idx]
theorem Un {α:Type}(x y:α)(l:List α):idx (x::y::l) 1=some y:=by simp [idx]
theorem Xn {α:Type}(x y z:α)(l:List α):idx (x::y::z::l) 2=some z:=by simp [idx]
def zN:au:=au.mk false (aI.mk 0 0) ([]:List Int) 0 (aE.mk ([]:List Int) ([]:List (List Int))) 0 ([]:List Int) 0 0 0
section
variable {p:List Int} (hb:du p) (hp:p.length≤1048576)
include hb hp
theorem Vy {a:Int}(c:I64 a):eX p a 3=some (((gI p a).bind fun y0=>(gI p y0.2).bind fun y1=>(gI p y1.2).bind fun y2=>some ([y0.1,y1.1,y2.1],y2.2,true)).getD ([],0,false)):=by
 rw [show eX p a 3=_ from DL hb hp 3 a (by omega) c];simp only [Pz.many,Option.bind_some]
 cases gI p a with
 | none=>rfl
 | some y0 =>
  simp only [bS]
  cases gI p y0.2 with
  | none=>rfl
  | some y1 =>
   simp only [bS]
   cases gI p y1.2 with
   | none=>rfl
   | some y2=>rfl
theorem Xe {a:Int}(c:I64 a):eX p a 2=some (((gI p a).bind fun y0=>(gI p y0.2).bind fun y1=>some ([y0.1,y1.1],y1.2,true)).getD ([],0,false)):=by
 rw [show eX p a 2=_ from DL hb hp 2 a (by omega) c];simp only [Pz.many,Option.bind_some]
 cases gI p a with
 | none=>rfl
 | some y0 =>
  simp only [bS]
  cases gI p y0.2 with
  | none=>rfl
  | some y1=>rfl
theorem UI:Je (rv p) (uF p) zN:=fun a c=>by
 have gg:=iQ hb hp;have gl:=oz hb hp;have gL:=AW hb hp;have sI:=Kl hb hp;have sl:=Ib hb hp;have sL:=Ks hb hp;unfold rv uF Pz.bind yu Pz.map;rw [Vy hb hp c];simp only [bS]
 cases m:gI p a with
 | none=>rfl
 | some y0 =>
 have o:=gg.i64 hp c m;simp only [bS];by_cases d:y0.1≠0∧y0.1≠1
 ·rw [if_pos d]
  cases h1:gI p y0.2 with
  | none=>rfl
  | some y1 =>
   simp only [bS]
   cases e:gI p y1.2 with
   | none=>rfl
   | some y2 =>
    simp only [Option.getD_some,UZ,Option.bind_some,Bool.not_true,Bool.false_eq_true,if_false,aM];rw [qZ (by omega)];rfl
 rw [if_neg d];simp only [bS]
 cases h1:gI p y0.2 with
 | none=>rfl
 | some y1 =>
 have q:=gg.i64 hp o h1;simp only [bS]
 cases e:gI p y1.2 with
 | none=>rfl
 | some y2 =>
 have f:=gg.i64 hp q e;simp only [Option.getD_some,UZ,Un,Xn,Option.bind_some,Bool.not_true,Bool.false_eq_true,if_false,aM];rw [pF (by omega)];simp only [Bool.not_true,Bool.false_eq_true,if_false];rw [sl _ f]
 cases r:cK p (gI p) y2.2 with
 | none=>rfl
 | some y3 =>
 have g:=gl.i64 hp f r;simp only [cS];rw [sI _ g]
 cases s:gI p y3.2 with
 | none=>rfl
 | some y4 =>
 have h:=gg.i64 hp g s;simp only [cS];rw [sl _ h]
 cases t:cK p (gI p) y4.2 with
 | none=>rfl
 | some y5 =>
 have i:=gl.i64 hp h t;simp only [cS];rw [sL _ i]
 cases u:cK p (cK p (gI p)) y5.2 with
 | none=>rfl
 | some v =>
 have j:=gL.i64 hp i u;simp only [Option.bind_some,Option.map_some,Bool.not_true,Bool.false_eq_true,if_false];rw [sI _ j]
 cases w:gI p v.2 with
 | none=>rfl
 | some x =>
 have k:=gg.i64 hp j w;simp only [cS];rw [sl _ k]
 cases A:cK p (gI p) x.2 with
 | none=>rfl
 | some C =>
 have D:=gl.i64 hp k A;simp only [cS];rw [Vy hb hp D]
 cases L:gI p C.2 with
 | none=>rfl
 | some E =>
 simp only [bS]
 cases F:gI p E.2 with
 | none=>rfl
 | some l =>
 simp only [bS]
 cases G:gI p l.2 with
 | none=>rfl
 | some H =>
 simp only [Option.getD_some,UZ,Un,Xn,Option.bind_some,Bool.not_true,Bool.false_eq_true,if_false]
end
noncomputable def xu (p:List Int):Pz am:=fun a=>(gI p a).bind fun y=>Pz.map (fun ns=>am.mk ns y.1) (cK p (uF p)) y.2
section
variable {p:List Int} (hb:du p) (hp:p.length≤1048576)
include hb hp
theorem OM:xi (ix p) (xu p):=by
 have big:∀y2:Int×ao,xi (fun st=>(cW p st).bind fun c=>eY p y2 aY c.2.a_ c.2.N_ [] c.1) (Pz.map (fun ns=>am.mk ns y2.1) (cK p (uF p))):=fun y2 =>
  KR hb hp (UH hb hp) (zn hb hp) (fun ns=>am.mk ns y2.1) (eY p y2) (fun _=>rfl) (fun k a q l n=>PZ p y2 k a q l n)
 refine ⟨fun a=>?_,fun a d=>?_⟩
 ·unfold ix;rw [JC];exact (big (0,⟨a,true⟩)).1 a
 unfold ix xu;have f:=(FT hb hp).2 a d
 cases h:gI p a with
 | none =>
  obtain ⟨v,a',e⟩:=f.2 h;rw [e];exact ⟨fun v b e=>(by cases e),fun _=>(big (v,⟨a',true⟩)).1 a'⟩
 | some y =>
  obtain ⟨n,b⟩:=y;rw [f.1 n b h];exact (big (n,⟨b,false⟩)).2 b ((iQ hb hp).i64 hp d h)
theorem OI:Je (sF p) (xu p) ⟨[],0⟩:=fun a d=>by
 have gg:=iQ hb hp;unfold sF xu;rw [Xe hb hp d];simp only [bS]
 cases j:gI p a with
 | none=>rfl
 | some y0 =>
 have e:=gg.i64 hp d j;simp only [bS]
 cases h1:gI p y0.2 with
 | none=>rw [Pz.map_none (by unfold cK;rw [h1];rfl)];rfl
 | some y1 =>
 have m:=gg.i64 hp e h1;simp only [Option.getD_some,UZ,Un,Option.bind_some,Bool.not_true,Bool.false_eq_true,if_false];by_cases c:y1.1<0
 ·rw [Pz.map_none (by unfold cK;rw [h1];simp [c]),decide_eq_true c];rfl
 rw [decide_eq_false c];simp only [Bool.false_eq_true,if_false];have f:cK p (uF p) y0.2=(uF p).many y1.1.toNat y1.2:=by unfold cK;rw [h1];simp [c]
 have g:=KX hb hp e (v:=y1.1) (b:=y1.2) h1;refine (DQ (UI hb hp) (zn hb hp) hp (n:=y1.1) g.2 (fun k l i a=>rH ([y0.1,y1.1],y1.2,true) p y0.1 k l i a) (fun l a=>some (⟨l,y0.1⟩,a,true)) (some (⟨[],0⟩,0,false)) (fun k l i a=>?_) y1.1.toNat aY 0 y1.2 [] (by simp) (cx (by have:=g.2;omega)) (by omega) (by simp) (by omega) m).trans ?_
 ·show (idx [y0.1,y1.1] 1).bind _=_;rw [Un];rfl
 cases h:(uF p).many y1.1.toNat y1.2 with
 | none=>rw [Pz.map_none (by rw [f,h])]
 | some z=>rw [Pz.map_some (v:=z.1) (b:=z.2) (by rw [f,h])];rfl
end
end Go.Vk
/- What is put is read again. -/
namespace Go.Vk
theorem BZ {m i:Nat}(a:m<128)(c:i<5):Oq .i64 (m:Int) (IntKind.i64.wrap (7*(i:Int)))=((m*128^i:Nat):Int):=by
 have hi':i=0∨i=1∨i=2∨i=3∨i=4:=by omega
 rw [aP (by omega) (by omega)];rcases hi' with rfl|rfl|rfl|rfl|rfl
 ·show IntKind.i64.wrap ((m:Int)*1)=((m*1:Nat):Int);rw [aP (by omega) (by omega)];omega
 ·show IntKind.i64.wrap ((m:Int)*128)=((m*128:Nat):Int);rw [aP (by omega) (by omega)];omega
 ·show IntKind.i64.wrap ((m:Int)*16384)=((m*16384:Nat):Int);rw [aP (by omega) (by omega)];omega
 ·show IntKind.i64.wrap ((m:Int)*2097152)=((m*2097152:Nat):Int);rw [aP (by omega) (by omega)];omega
 show IntKind.i64.wrap ((m:Int)*268435456)=((m*268435456:Nat):Int);rw [aP (by omega) (by omega)];omega
theorem Oi {a m i:Nat}(d:a<128^i)(f:m<128)(g:i<5):eW .or .i64 (a:Int) ((m*128^i:Nat):Int)=((a+m*128^i:Nat):Int):=by
 have c:(128:Nat)^i=2^(7*i):=by rw [Nat.pow_mul]
 have e:128^i≤128^4:=Nat.pow_le_pow_right (by omega) (by omega);have h:m*128^i≤127*128^4:=Nat.mul_le_mul (by omega) e;rw [TK a (m*128^i) (by omega) (by omega)];congr 1;rw [Nat.or_comm,c,Nat.mul_comm,←Nat.two_pow_add_eq_or_of_lt (by rw [←c];exact d),Nat.add_comm]
theorem Im {p:List Int}{a:Nat}(u:p.length≤1048576){n:Nat}(v:n≤2147483647):∀(d k i:Nat),d+i=5→d<k→i≤5→(0<i→1≤n / 128^i)→(∃post,p.drop (a+i)=tw (n / 128^i)++post) →
  fy (a:Int) p k ((n%128^i:Nat):Int) (i:Int)=some ((n:Int),((a+i+(tw (n / 128^i)).length:Nat):Int),true):=by
 intro d
 induction d with
 | zero =>
  intro k i s hk t h1 f;obtain rfl:i=5:=by omega
  have:=h1 (by omega);omega
 | succ d ih =>
  intro k i s hk t h1 ⟨post,f⟩;obtain ⟨k,rfl⟩:=kS k (by omega)
  have o:0<(p.drop (a+i)).length:=by
   rw [f];by_cases c:n / 128^i<128
   ·rw [Dx c];simp
   rw [GY c];simp
  rw [List.length_drop] at o;show (if _ then _ else _)=_;rw [if_pos (by simp;omega),aP (n:=(p.length:Int)-(i:Int)) (by omega) (by omega),if_neg (by simp;omega),aP (n:=(a:Int)+(i:Int)) (by omega) (by omega),show (a:Int)+(i:Int)=((a+i:Nat):Int) by omega,aH (show a+i<p.length by omega)];simp only [bS]
  have g:∀(x:Int)(q:List Int),p.drop (a+i)=x::q→p[a+i]'(by omega)=x:=fun x q e=>by
   have:=congrArg (fun l=>l[0]?) e;simp only [List.getElem?_drop,Nat.add_zero,List.getElem?_cons_zero] at this;rw [List.getElem?_eq_getElem (by omega)] at this;exact Option.some.inj this
  have r:n%128^i+n / 128^i%128*128^i=n%128^(i+1):=by
   rw [Nat.pow_succ,Nat.mod_mul,Nat.mul_comm]
  have hsmall:n / 128^i%128<128:=Nat.mod_lt _ (by omega);have h:n%128^i<128^i:=Nat.mod_lt _ (Nat.pow_pos (by omega));by_cases c:n / 128^i<128
  ·rw [Dx c] at f ⊢;rw [g _ _ f,fm (by omega),show (128:Int)=((128:Nat):Int) from rfl,qa,Nat.mod_eq_of_lt c,Dm _ (by rw [aP (by omega) (by omega)];omega),BZ c (by omega)];simp only [bS];rw [Oi h c (by omega)];have m:n%128^i+n / 128^i*128^i=n:=by rw [Nat.mul_comm];exact Nat.mod_add_div ..
   rw [m,if_pos (decide_eq_true (by omega)),if_neg ?_]
   ·rw [ax (by omega)];rfl
   simp only [Bool.or_eq_true,Bool.and_eq_true,decide_eq_true_eq,beq_iff_eq];rintro (⟨h2,w⟩|h2)
   ·have:=h1 (by omega);omega
   omega
  rw [GY c] at f ⊢;have j:n / 128^i / 128=n / 128^(i+1):=by rw [Nat.div_div_eq_div_mul,Nat.pow_succ]
  rw [g _ _ f,fm (by omega),show (128:Int)=((128:Nat):Int) from rfl,qa,Nat.add_mod_right,Nat.mod_mod,Dm _ (by rw [aP (by omega) (by omega)];omega),BZ hsmall (by omega)];simp only [bS];rw [Oi h hsmall (by omega),r,if_neg (by simp;omega),ax (by omega)]
  rw [ih k (i+1) (by omega) (by omega) (by omega) (fun _=>by rw [←j];omega) ⟨post,by
   rw [←j];have:=congrArg (List.drop 1) f;rw [List.drop_drop] at this;simpa [Nat.add_assoc] using this⟩,←j]
  simp only [List.length_cons];congr 3;omega
theorem Ob {pre post:List Int}{x:Int}(c:InR x)(h:(pre++dZ x++post).length≤1048576):ep (pre++dZ x++post) (pre.length:Int)=some (x,((pre.length+(dZ x).length:Nat):Int),true):=by
 have j:=Sd c;unfold ep qf;have g:dZ x=tw (zig x):=by unfold dZ;rw [if_pos c]
 have:=Im (p:=pre++dZ x++post) (a:=pre.length) h (n:=zig x) (by omega) 5 aY 0 (by omega) (cx (by omega)) (by omega) (by omega) ⟨post,by rw [g];simp⟩;simp only [Nat.pow_zero,Nat.mod_one,Nat.div_one] at this;have i:fy (pre.length:Int) (pre++dZ x++post) aY 0 0=some ((zig x:Int),((pre.length+0+(tw (zig x)).length:Nat):Int),true):=this;rw [i,g];simp only [cS];rw [show (2:Int)=((2:Nat):Int) from rfl,qa,wD,fm (n:=zig x / 2) (by omega)];unfold lX aM;by_cases d:x<0
 ·have e:((zig x%2:Nat):Int)=1:=by unfold zig;rw [if_pos d];omega
  have f:((zig x / 2:Nat):Int)=-x-1:=by unfold zig;rw [if_pos d];omega
  rw [e,f,if_pos (by simp)];have k:=c.1;rw [aP (n:=0-(-x-1)) (by omega) (by omega),aP (by omega) (by omega),show 0-(-x-1)-1=x by omega,pF c];rfl
 have e:((zig x%2:Nat):Int)=0:=by unfold zig;rw [if_neg d];omega
 have f:((zig x / 2:Nat):Int)=x:=by unfold zig;rw [if_neg d];omega
 rw [e,f,if_neg (by simp),pF c];rfl
end Go.Vk
/- Trees and windows are read as they were put. -/
namespace Go.Vk
theorem du.append {a b:List Int}(c:du a)(d:du b):du (a++b):=fun x e=>by
 rcases List.mem_append.1 e with h|h
 ·exact c x h
 exact d x h
theorem du.flat {α:Type}{xs:List α}{f:α→List Int}(h:∀x∈xs,du (f x)):du (xs.flatMap f):=fun y a=>by
 obtain ⟨x,c,d⟩:=List.mem_flatMap.1 a;exact h x c y d
def ta {α:Type}(l:List Int)(P:Pz α)(B:List Int)(x:α):Prop:=∀pre post,l=pre++B++post→P (pre.length:Int)=some (x,((pre.length+B.length:Nat):Int))
section
variable {l:List Int}
theorem DY {α:Type}(x:α):ta l (fun a=>some (x,a)) [] x:=fun _ _ _=>rfl
theorem fp {α β:Type}{P:Pz α}{Q:α→Pz β}{B C:List Int}{x:α}{y:β}(h:ta l P B x)(k:ta l (Q x) C y):ta l (Pz.bind P Q) (B++C) y:=fun pre post e=>by
 unfold Pz.bind;rw [h pre (C++post) (by rw [e];simp)];simp only [bS];have:=k (pre++B) post (by rw [e];simp);rw [List.length_append] at this;rw [this,List.length_append,Nat.add_assoc]
theorem KL {α β:Type}{P:Pz α}{B:List Int}{x:α}(f:α→β)(h:ta l P B x):ta l (Pz.map f P) B (f x):=fun pre post e=>by
 unfold Pz.map;rw [h pre post e];rfl
theorem Ak {α:Type}{P:Pz α}{B:α→List Int}:∀(xs:List α),(∀x∈xs,ta l P (B x) x)→ta l (P.many xs.length) (xs.flatMap B) xs:=by
 intro xs
 induction xs with
 | nil=>intro _ pre post _;simp [Pz.many]
 | cons x xs ih =>
  intro h pre post e;rw [List.flatMap_cons] at e ⊢;show (P (pre.length:Int)).bind _=_;rw [h x (List.mem_cons_self ..) pre (xs.flatMap B++post) (by rw [e];simp)];simp only [bS];have:=ih (fun y a=>h y (List.mem_cons_of_mem _ a)) (pre++B x) post (by rw [e];simp);rw [List.length_append] at this;rw [this];simp only [Option.bind_some,List.length_append,Nat.add_assoc]
variable (hp:l.length≤1048576)
include hp
theorem ng {x:Int}(a:InR x):ta l (gI l) (dZ x) x:=fun pre post e=>by
 subst e;unfold gI;rw [Ob a hp]
theorem AO {α:Type}{P:Pz α}{B:α→List Int}{xs:List α}(a:xs.length≤1000000)(h:∀x∈xs,ta l P (B x) x):ta l (cK l P) (dZ xs.length++xs.flatMap B) xs:=fun pre post e=>by
 have hk:ta l (P.many ((xs.length:Int)).toNat) (xs.flatMap B) xs:=by rw [Int.toNat_natCast];exact Ak xs h
 have:=fp (P:=gI l) (Q:=fun v=>if v<0 then (fun _=>none) else P.many v.toNat) (ng hp (By (by omega))) (by rw [if_neg (by omega)];exact hk) pre post e;rw [←this];unfold cK Pz.bind
 cases gI l pre.length with
 | none=>rfl
 | some y =>
  simp only [bS];split<;>rfl
theorem yJ {xs:List Int}(a:xs.length≤1000000)(h:rf xs):ta l (cK l (gI l)) (kE xs) xs:=AO hp a fun x c=>ng hp (h x c)
theorem HI (b:Bool):ta l (yu l) (dZ (wI b)) b:=fun pre post e=>by
 unfold yu;rw [ng hp (Do b) pre post e];cases b<;>rfl
theorem SP {x:au}(h:yt x)(c:szM x≤1000000):ta l (uF l) (uB x) x:=by
 have j:=@wa x.m_.g_;have hz':=c;unfold szM at hz';obtain ⟨h1,d,f,g,i⟩:=h;have m:∀y,y∈[x.n_.q_,x.n_.j_,x.K_,x.J_,x.o_,x.H_,x.F_]→InR y:=h1
 have key:ta l (uF l) (dZ (wI x.D_)++(dZ x.n_.q_++(dZ x.n_.j_++(kE x.A_++(dZ x.K_++(kE x.m_.l_++((dZ x.m_.g_.length++x.m_.g_.flatMap kE)++(dZ x.J_++(kE x.c_++(dZ x.o_++(dZ x.H_++(dZ x.F_++([]))))))))))))) x:=by
  unfold uF;refine fp (HI hp x.D_) ?_;refine fp (ng hp (m x.n_.q_ (by simp))) ?_;refine fp (ng hp (m x.n_.j_ (by simp))) ?_;refine fp (yJ hp (by omega) d) ?_;refine fp (ng hp (m x.K_ (by simp))) ?_;refine fp (yJ hp (by omega) g) ?_;refine fp (KL aw.mk (AO hp (by omega) fun y a=>yJ hp (by have:=yz a;omega) (i y a))) ?_;refine fp (ng hp (m x.J_ (by simp))) ?_;refine fp (yJ hp (by omega) f) ?_;refine fp (ng hp (m x.o_ (by simp))) ?_;refine fp (ng hp (m x.H_ (by simp))) ?_;refine fp (ng hp (m x.F_ (by simp))) ?_;exact DY x
 intro pre post e;have eb:uB x=dZ (wI x.D_)++(dZ x.n_.q_++(dZ x.n_.j_++(kE x.A_++(dZ x.K_++(kE x.m_.l_++((dZ x.m_.g_.length++x.m_.g_.flatMap kE)++(dZ x.J_++(kE x.c_++(dZ x.o_++(dZ x.H_++(dZ x.F_++([])))))))))))):=by unfold uB;simp only [List.append_assoc,List.append_nil]
 rw [eb] at e ⊢;exact key pre post e
theorem Dw {x:am}(c:InR x.p_)(h:∀y∈x.b_,yt y)(d:szU x≤1000000):ta l (xu l) (vu x) x:=by
 have f:x.b_.length≤1000000:=by unfold szU at d;omega
 have key:ta l (xu l) (dZ x.p_++(dZ x.b_.length++x.b_.flatMap uB)) x :=
  fp (Q:=fun v=>Pz.map (fun ns=>am.mk ns v) (cK l (uF l))) (ng hp c) (KL (fun ns=>am.mk ns x.p_) (AO hp f fun y a=>SP hp (h y a) (by have:=KP a;omega)))
 intro pre post e;unfold vu at e ⊢;rw [List.append_assoc] at e ⊢;rw [List.append_assoc] at e;exact key pre post (by rw [e];simp only [List.append_assoc])
theorem Hf {x:aw}(h:∀r∈x.k_,rf r)(c:AJ x.k_≤1000000):ta l (Pz.map aw.mk (cK l (cK l (gI l)))) (Dn x) x:=by
 have d:=@wa x.k_;exact KL aw.mk (AO hp (by omega) fun y a=>yJ hp (by have:=yz a;omega) (h y a))
end
end Go.Vk
/- Readers: a fixed number of things, read on whether or not something was bad. -/
namespace Go.Vk
section
theorem Td {α ρ:Type}{op:ao→Option (α×ao)}{P:Pz α}(g:xi op P)(s:∀a v b,I64 a→P a=some (v,b)→I64 b)(N:Int)(Lp:Nat→Int→Bool→List α→Int→Option ρ)(fin:List α→ao→Option ρ)(step:∀k a q l i,Lp (k+1) a q l i=if decide (i<N) then (op ⟨a,q⟩).bind fun y=>(app l [y.1]).bind fun l'=>Lp k y.2.a_ y.2.N_ l' (IntKind.i64.wrap (i+1)) else fin l ⟨a,q⟩) :
  ∀(d k:Nat)(i a:Int)(l:List α),(N-i).toNat=d→d<k→0≤i→N≤1000000→(l.length:Int)=i →
   (∃l' a',Lp k a true l i=fin l' ⟨a',true⟩)∧(I64 a→(∀vs c,P.many d a=some (vs,c)→Lp k a false l i=fin (l++vs) ⟨c,false⟩)∧(P.many d a=none→∃l' a',Lp k a false l i=fin l' ⟨a',true⟩)):=by
 intro d
 induction d with
 | zero =>
  intro k i a l t hk u j w;obtain ⟨k,rfl⟩:=kS k (by omega);rw [step,if_neg (by rw [decide_eq_true_iff];omega),step,if_neg (by rw [decide_eq_true_iff];omega)];refine ⟨⟨_,_,rfl⟩,fun _=>⟨fun vs c e=>?_,fun e=>by simp [Pz.many] at e⟩⟩;obtain ⟨rfl,rfl⟩:=Prod.mk.inj (Option.some.inj e);simp
 | succ d ih =>
  intro k i a l t hk u j w;obtain ⟨k,rfl⟩:=kS k (by omega);have p:∀v:α,((l++[v]).length:Int)=i+1:=fun v=>by simp;omega
  have m:∀v:α,app l [v]=some (l++[v]):=fun v=>bC (by simp;omega);have r:∀(v:α)(a:Int),∃l' a',Lp k a true (l++[v]) (i+1)=fin l' ⟨a',true⟩:=fun v a=>(ih k (i+1) a (l++[v]) (by omega) (by omega) (by omega) j (p v)).1;refine ⟨?_,fun o=>?_⟩
  ·obtain ⟨v,a',e⟩:=g.1 a;rw [step,if_pos (by rw [decide_eq_true_iff];omega),e];simp only [bS];rw [m];simp only [bS];rw [aP (by omega) (by omega)];exact r v a'
  rw [step,if_pos (by rw [decide_eq_true_iff];omega)];unfold Pz.many
  cases h:P a with
  | none =>
   refine ⟨fun vs c e=>by simp at e,fun _=>?_⟩;obtain ⟨v,a',e⟩:=(g.2 a o).2 h;rw [e];simp only [bS];rw [m];simp only [bS];rw [aP (by omega) (by omega)];exact r v a'
  | some y =>
   obtain ⟨v,b⟩:=y;rw [(g.2 a o).1 v b h];simp only [bS];rw [m];simp only [bS];rw [aP (by omega) (by omega)];obtain ⟨x,A⟩:=(ih k (i+1) b (l++[v]) (by omega) (by omega) (by omega) j (p v)).2 (s a v b o h);refine ⟨fun vs c e=>?_,fun e=>?_⟩
   ·cases f:P.many d b with
    | none=>rw [f] at e;simp at e
    | some q =>
     rw [f] at e;obtain ⟨rfl,rfl⟩:=Prod.mk.inj (Option.some.inj e);rw [x q.1 q.2 f];simp
   cases f:P.many d b with
   | none=>exact A f
   | some q=>rw [f] at e;simp at e
end
def Sat {α:Type}(P:Pz α)(Q:α→Prop):Prop:=∀a v b,I64 a→P a=some (v,b)→I64 b∧Q v
theorem fI {α β:Type}{P:Pz α}{R:α→Pz β}{Q:α→Prop}{S:β→Prop}(h:Sat P Q)(k:∀v,Q v→Sat (R v) S):Sat (Pz.bind P R) S:=fun a v b c e=>by
 unfold Pz.bind at e;obtain ⟨y,d,f⟩:=cQ e;obtain ⟨i,q⟩:=h a y.1 y.2 c d;exact k y.1 q y.2 v b i f
theorem AE {α:Type}{x:α}{Q:α→Prop}(h:Q x):Sat (fun a=>some (x,a)) Q:=fun a v b c e=>by
 obtain ⟨rfl,rfl⟩:=Prod.mk.inj (Option.some.inj e);exact ⟨c,h⟩
theorem OL {α β:Type}{P:Pz α}{f:α→β}{Q:α→Prop}{S:β→Prop}(h:Sat P Q)(k:∀v,Q v→S (f v)):Sat (Pz.map f P) S:=fun a v b c e=>by
 obtain ⟨y,d,g⟩:=Option.map_eq_some_iff.1 e;obtain ⟨rfl,rfl⟩:=Prod.mk.inj g;obtain ⟨i,q⟩:=h a y.1 y.2 c d;exact ⟨i,k _ q⟩
theorem pG {α:Type}{P:Pz α}{Q:α→Prop}(h:Sat P Q):∀n,Sat (P.many n) (fun vs=>vs.length=n∧∀x∈vs,Q x)
 | 0=>AE ⟨rfl,by simp⟩
 | n+1=>fun a v b c e=>by
  unfold Pz.many at e;obtain ⟨y,d,e⟩:=cQ e;obtain ⟨z,f,e⟩:=cQ e;obtain ⟨i,q⟩:=h a y.1 y.2 c d;obtain ⟨j,g,k⟩:=pG h n y.2 z.1 z.2 i f;obtain ⟨rfl,rfl⟩:=Prod.mk.inj (Option.some.inj e);refine ⟨j,by simp [g],fun x hx=>?_⟩;rcases List.mem_cons.1 hx with rfl|hx
  ·exact q
  exact k x hx
section
variable {p:List Int} (hb:du p) (hp:p.length≤1048576)
include hb hp
theorem so:Sat (gI p) InR:=fun _ _ _ c e=>⟨(iQ hb hp).i64 hp c e,KX hb hp c e⟩
theorem Ds {α:Type}{P:Pz α}{sz:α→Nat}{Q:α→Prop}(f:wo p P sz)(h:Sat P Q):Sat (cK p P) (fun vs=>vs.length≤1048576∧∀x∈vs,Q x):=fun a v b c e=>by
 have g:=yG hb hp f;obtain ⟨h1,j,l,m⟩:=g a v b c e;refine ⟨g.i64 hp c e,?_⟩;unfold cK at e;obtain ⟨y,i,e⟩:=cQ e;have k:=(so hb hp) a y.1 y.2 c i;split at e
 ·cases e
 have d:=iQ hb hp a y.1 y.2 c i;simp only at d;obtain ⟨o,q,r,s⟩:=Bs f hp _ _ v b (by omega) d.2.2.1 e;refine ⟨?_,(pG h _ y.2 v b k.1 e).2.2⟩;simp only at j;omega
theorem Ba:Sat (cK p (gI p)) (fun vs=>vs.length≤1048576∧∀x∈vs,InR x):=Ds hb hp (iQ hb hp) (so hb hp)
theorem Qo:Sat (cK p (cK p (gI p))) (fun vs=>vs.length≤1048576∧∀x∈vs,x.length≤1048576∧∀y∈x,InR y):=Ds hb hp (oz hb hp) (Ba hb hp)
end
end Go.Vk
/- Texts taken apart; numbers read. -/
namespace Go.Vk
open Go.Proofs
theorem JD {α:Type}{s:List α}{f i:Nat}(c:f≤i)(d:i<s.length):(s.drop f).take (i+1-f)=(s.drop f).take (i-f)++[s[i]]:=by
 have h1:i+1-f=(i-f)+1:=by omega
 have a:i-f<(s.drop f).length:=by rw [List.length_drop];omega
 rw [h1,List.take_succ_eq_append_getElem a,List.getElem_drop];congr 3;omega
theorem RK {α:Type}{s:List α}{f i:Nat}(a:f≤i):s.drop f=(s.drop f).take (i-f)++s.drop i:=by
 have h:=List.take_append_drop (i-f) (s.drop f);rw [List.drop_drop] at h;have e:f+(i-f)=i:=by omega
 rw [e] at h;exact h.symm
theorem xZ {α:Type}{xs:List α}{f i:Nat}(h:f≤i)(h':i≤xs.length):sub xs (f:Int) (i:Int)=some ((xs.drop f).take (i-f)):=by
 unfold sub;rw [if_pos ⟨by omega,by omega,by omega⟩];simp
theorem Pk {x c:UInt8}:((x.toNat:Int)==(c.toNat:Int))=decide (x=c):=by
 rw [Bool.eq_iff_iff,beq_iff_eq,decide_eq_true_iff];constructor
 ·intro h;exact UInt8.toNat_inj.1 (by omega)
 rintro rfl;rfl
theorem Ln {s:List UInt8}{c:UInt8}(t:s.length≤1048576):∀(d k i f:Nat)(out:List (List UInt8)),s.length-i=d→d<k→f≤i→i≤s.length→out.length≤i→c∉(s.drop f).take (i-f) →
  mZ s (c.toNat:Int) k out (f:Int) (i:Int)=some (out++gj c (s.drop f)):=by
 intro d
 induction d with
 | zero =>
  intro k i f out p hk j m q a;obtain ⟨k,rfl⟩:=kS k (by omega);have e:i=s.length:=by omega
  have o:(s.drop f).take (i-f)=s.drop f:=List.take_of_length_le (by rw [List.length_drop];omega);rw [mZ,if_neg (by rw [decide_eq_true_iff];omega),xZ (by omega) (Nat.le_refl _),←e,o];simp only [bS];rw [bC (by simp;omega)];rw [o] at a;rw [rN a];rfl
 | succ d ih =>
  intro k i f out p hk j m q a;obtain ⟨k,rfl⟩:=kS k (by omega);have g:i<s.length:=by omega
  rw [mZ,if_pos (by rw [decide_eq_true_iff];omega),aH g];simp only [bS];rw [Pk,ax (by omega)];by_cases l:s[i]=c
  ·rw [if_pos (by simpa using l),xZ j m];simp only [bS];rw [bC (by simp;omega)];simp only [bS];rw [ih k (i+1) (i+1) _ (by omega) (by omega) (Nat.le_refl _) (by omega) (by simp;omega) (by simp)]
   have e:gj c (s.drop f)=(s.drop f).take (i-f)::gj c (s.drop (i+1)):=by
    conv=>lhs;rw [RK j,List.drop_eq_getElem_cons g,l]
    exact tR a
   rw [e];simp
  rw [if_neg (by simpa using l)];refine ih k (i+1) f out (by omega) (by omega) (by omega) (by omega) (by omega) ?_;rw [JD j g];intro r;rcases List.mem_append.1 r with h|h
  ·exact a h
  exact l (List.mem_singleton.1 h).symm
theorem KV {s:List UInt8}{c:UInt8}(u:s.length≤1048576):∀(d k i f:Nat)(out:List (List UInt8)),s.length-i=d→d+1<k→f≤i→i≤s.length→out.length≤i→c∉(s.drop f).take (i-f) →
  lv s (c.toNat:Int) k out (f:Int) (i:Int)=some (out++gj c (s.drop f)):=by
 intro d
 induction d with
 | zero =>
  intro k i f out p hk j m r a;obtain ⟨k,rfl⟩:∃q,k=q+2:=⟨k-2,by omega⟩;have e:i=s.length:=by omega
  have o:(s.drop f).take (i-f)=s.drop f:=List.take_of_length_le (by rw [List.length_drop];omega);rw [lv,if_pos (by rw [decide_eq_true_iff];omega),if_pos (by rw [beq_iff_eq];omega)];simp only [Option.bind_some,if_true];rw [xZ (by omega) (by omega),o];simp only [bS];rw [bC (by simp;omega)];simp only [bS];rw [ax (by omega),lv,if_neg (by rw [decide_eq_true_iff];omega)];rw [o] at a;rw [rN a]
 | succ d ih =>
  intro k i f out p hk j m r a;obtain ⟨k,rfl⟩:=kS k (by omega);have g:i<s.length:=by omega
  rw [lv,if_pos (by rw [decide_eq_true_iff];omega),if_neg (by rw [beq_iff_eq];omega),aH g];simp only [bS];rw [Pk,ax (by omega)];by_cases l:s[i]=c
  ·rw [if_pos (by simpa using l),xZ j m];simp only [bS];rw [bC (by simp;omega)];simp only [bS];rw [ih k (i+1) (i+1) _ (by omega) (by omega) (Nat.le_refl _) (by omega) (by simp;omega) (by simp)]
   have e:gj c (s.drop f)=(s.drop f).take (i-f)::gj c (s.drop (i+1)):=by
    conv=>lhs;rw [RK j,List.drop_eq_getElem_cons g,l]
    exact tR a
   rw [e];simp
  rw [if_neg (by simpa using l)];refine ih k (i+1) f out (by omega) (by omega) (by omega) (by omega) (by omega) ?_;rw [JD j g];intro t;rcases List.mem_append.1 t with h|h
  ·exact a h
  exact l (List.mem_singleton.1 h).symm
theorem gM {s:List UInt8}(a:s.length≤1048576)(c:UInt8){p:Int}(d:(c.toNat:Int)=p):ke s p=some (gj c s)∧tJ s p=some (gj c s):=by
 subst d;exact ⟨KV a s.length aY 0 0 [] (by omega) (cx (by omega)) (Nat.le_refl _) (by omega) (by simp) (by simp),Ln a s.length aY 0 0 [] (by omega) (cx (by omega)) (Nat.le_refl _) (by omega) (by simp) (by simp)⟩
theorem wj {c:UInt8}:∀(s:List UInt8),(gj c s).length≤s.length+1∧∀w∈gj c s,w.length≤s.length
 | []=>by simp [gj]
 | x::r=>by
  obtain ⟨h1,a⟩:=wj (c:=c) r;unfold gj;split
  ·refine ⟨by simp;omega,fun w hw=>?_⟩;rcases List.mem_cons.1 hw with rfl|hw
   ·simp
   have:=a w hw;simp only [List.length_cons];omega
  split
  ·simp
  rename_i h t e;rw [e] at h1 a;refine ⟨by simp only [List.length_cons] at h1 ⊢;omega,fun w hw=>?_⟩;rcases List.mem_cons.1 hw with rfl|hw
  ·have:=a h (by simp);simp only [List.length_cons];omega
  have:=a w (by simp [hw]);simp only [List.length_cons];omega
theorem Nn (n:Int):I64 (IntKind.i64.wrap n):=by
 show I64 (if (true&&decide (n%(18446744073709551616:Int)≥(9223372036854775808:Int)))=true then n%(18446744073709551616:Int)-(18446744073709551616:Int) else n%(18446744073709551616:Int));unfold I64;split
 ·rename_i h;simp only [Bool.true_and,decide_eq_true_iff] at h;constructor<;>omega
 rename_i h;simp only [Bool.true_and,decide_eq_true_iff] at h;constructor<;>omega
def UB (l:List UInt8)(a:Nat):Nat:=l.foldl (fun a b=>10*a+(b.toNat-48)) a
theorem MT:∀(u:Nat),UB (Lib.decDigits u) 0=u
 | u=>by
  by_cases h1:u<10
  ·rw [Lib.decDigits_one h1];show 10*0+((UInt8.ofNat (48+u)).toNat-48)=u;rw [wh h1];omega
  have a:u%10<10:=Nat.mod_lt _ (by omega);rw [Lib.decDigits.eq_def u,dif_neg h1];unfold UB;rw [List.foldl_append];have:=MT (u / 10);unfold UB at this;rw [this];show 10*(u / 10)+((UInt8.ofNat (48+u%10)).toNat-48)=u;rw [wh a];omega
termination_by u=>u
theorem uj:∀(d u:Nat),u<10^(d+1)→(Lib.decDigits u).length≤d+1
 | 0,u,h=>by rw [Lib.decDigits_one (by simpa using h)];simp
 | d+1,u,h=>by
  by_cases h1:u<10
  ·rw [Lib.decDigits_one h1];simp
  rw [Lib.decDigits.eq_def u,dif_neg h1];have:=uj d (u / 10) (by rw [Nat.div_lt_iff_lt_mul (by omega),←Nat.pow_succ];exact h);simp;omega
theorem If {s:List UInt8}(f:s.length≤1048576):Tot (pX s) (fun v=>I64 v.1):=by
 have c:I64 0:=⟨by omega,by omega⟩;unfold pX;refine aZ (fun _=>ar c) (fun g=>?_);refine dj (σ:=Int) (fun k a i=>gq s k a i) s.length (fun _ a=>I64 a) (fun k a d=>?_) (fun k a i e d ih=>?_) (by omega) ((⟨by omega,by omega⟩:I64 0))
 ·show Tot (gq s (k+1) a _) _;rw [gq,if_neg (by simp),Cr d];exact aZ (fun _=>ar c) (fun _=>ar d)
 show Tot (gq s (k+1) a _) _;rw [gq,if_pos (by rw [decide_eq_true_iff];omega),aH e];simp only [bS];refine Tot.bind (P:=fun _=>True) (aZ (fun _=>ar trivial) (fun _=>ar trivial)) fun v _=>?_;refine aZ (fun _=>ar c) (fun _=>?_);rw [ax (by omega)];exact ih _ (Nn _)
theorem IE {u:Nat}(h:u≤9999):pX (Lib.decDigits u)=some ((u:Int),true):=by
 have p:=uj 3 u (by omega);have g:=po u;have q:0<(Lib.decDigits u).length:=List.length_pos_iff.2 (sM u);unfold pX;rw [if_neg (by simp;omega)]
 have key:∀(d k i a:Nat),(Lib.decDigits u).length-i=d→d<k→i≤(Lib.decDigits u).length→a<10^i→UB ((Lib.decDigits u).drop i) a=u→gq (Lib.decDigits u) k (a:Int) (i:Int)=some ((u:Int),true):=by
  intro d
  induction d with
  | zero =>
   intro k i a hd' hk j l c;obtain ⟨k,rfl⟩:=kS k (by omega);have e:(Lib.decDigits u).drop i=[]:=List.drop_eq_nil_iff.2 (by omega);rw [e] at c;have c:a=u:=c;subst c;rw [gq,if_neg (by rw [decide_eq_true_iff];omega),Cr ⟨by omega,by omega⟩]
   have m:Lib.itoa (a:Int)=Lib.decDigits a:=by
    unfold Lib.itoa;rw [if_neg (by omega),Int.toNat_natCast]
   rw [m];simp
  | succ d ih =>
   intro k i a hd' hk j l c;obtain ⟨k,rfl⟩:=kS k (by omega);have f:i<(Lib.decDigits u).length:=by omega
   have o:=g _ (List.getElem_mem f);rw [List.drop_eq_getElem_cons f] at c;have r:(10:Nat)^i≤10^4:=Nat.pow_le_pow_right (by omega) (by omega);rw [gq,if_pos (by rw [decide_eq_true_iff];omega),aH f];generalize (Lib.decDigits u)[i]=x at o c;simp only [bS];rw [if_neg (by rw [decide_eq_true_iff];omega),decide_eq_false (by omega)];simp only [Option.bind_some,Bool.false_eq_true,if_false];rw [aP (n:=10*(a:Int)) (by omega) (by omega),fm (n:=x.toNat) (by omega),aP (n:=10*(a:Int)+x.toNat) (by omega) (by omega),aP (by omega) (by omega),ax (by omega)];have e:10*(a:Int)+x.toNat-48=((10*a+(x.toNat-48):Nat):Int):=by omega
   rw [e];exact ih k (i+1) _ (by omega) (by omega) (by omega) (by rw [Nat.pow_succ];omega) c
 exact key (Lib.decDigits u).length aY 0 0 (by omega) (cx (by omega)) (by omega) (by simp) (MT u)
theorem HX {s:List UInt8}(k:s.length≤1048576):Tot (pW s) (fun v=>I64 v.1)∧Tot (pI s) (fun v=>I64 v.1):=by
 have c:I64 0:=⟨by omega,by omega⟩;refine ⟨?_,?_⟩
 ·unfold pW;refine aZ (fun _=>ar c) (fun l=>?_);have hl':0<s.length:=by simp at l;omega
  rw [show (0:Int)=((0:Nat):Int) from rfl,aH hl'];simp only [bS];refine aZ (fun _=>(If k).bind fun v a=>aZ (fun _=>ar c) (fun _=>ar a)) (fun _=>?_);have:=xZ (xs:=s) (f:=1) (i:=s.length) hl' (Nat.le_refl _);have m:((1:Nat):Int)=1:=rfl;rw [m] at this;rw [this];simp only [bS];exact (If (by simp;omega)).bind fun v a=>aZ (fun _=>ar c) (fun _=>ar (Nn _))
 have o:Tot (JE s) (fun v=>v.2=true→I64 v.1):=by
  unfold JE;rw [if_pos (by omega)];refine ar ?_
  cases e:Lib.atoiAll s with
  | ok v=>exact fun _=>Lib.atoiAll_bounds e
  | range=>intro h;cases h
  | _=>intro h;cases h
 unfold pI we;refine Tot.bind (P:=fun v=>I64 v.1) ?_ fun v a=>ar a;refine o.bind fun v a=>?_;refine Tot.bind (P:=fun b=>b=false→I64 v.1) (aZ (fun _=>ar (by simp)) fun d=>?_) fun b g=>?_
 ·have h2':v.2=true:=by simpa using d
  refine Tot.bind (P:=fun _=>True) ⟨_,rfl,trivial⟩ fun _ _=>ar fun _=>a h2'
 refine Tot.bind (P:=fun b=>b=false→I64 v.1) (aZ (fun _=>ar (by simp)) fun d=>?_) fun b g=>aZ (fun _=>ar c) fun p=>ar (g (by simpa using p));have j:=g (by simpa using d);rw [Ck j];exact ar fun _=>j
theorem Mc {n:Int}(h : -9999≤n∧n≤9999):pW (Lib.itoa n)=some (n,true)∧pI (Lib.itoa n)=some (n,true):=by
 have c:I64 n:=⟨by omega,by omega⟩;refine ⟨?_,?_⟩
 ·unfold pW Lib.itoa;by_cases d:n<0
  ·obtain ⟨u,rfl⟩:∃u:Nat,n=-(u:Int):=⟨n.natAbs,by omega⟩;have eu:(-(u:Int)).natAbs=u:=by omega
   rw [if_pos d,eu];have e:=uj 3 u (by omega);have a:0<(Lib.decDigits u).length:=List.length_pos_iff.2 (sM u);rw [if_neg (by simp;omega)];show (some (45:UInt8)).bind _=_;simp only [bS];rw [if_neg (by decide)];have g:=xZ (xs:=(45:UInt8)::Lib.decDigits u) (f:=1) (i:=((45:UInt8)::Lib.decDigits u).length) (by simp) (Nat.le_refl _);have j:((1:Nat):Int)=1:=rfl;rw [j] at g;rw [g];simp only [bS];have k:(((45:UInt8)::Lib.decDigits u).drop 1).take (((45:UInt8)::Lib.decDigits u).length-1)=Lib.decDigits u:=by simp
   rw [k,IE (by omega)];simp only [bS];rw [if_neg (by simp;omega),aP (by omega) (by omega)];simp
  obtain ⟨u,rfl⟩:∃u:Nat,n=(u:Int):=⟨n.toNat,by omega⟩;rw [if_neg d,Int.toNat_natCast];have e:=uj 3 u (by omega);have a:0<(Lib.decDigits u).length:=List.length_pos_iff.2 (sM u);have l:=po u;rw [if_neg (by simp;omega),show (0:Int)=((0:Nat):Int) from rfl,aH a];simp only [bS];have:=l _ (List.getElem_mem a);rw [if_pos (by simp;omega),IE (by omega)];simp only [bS];rw [if_neg (by simp;omega)]
 unfold pI we JE;have e:=Np c;rw [if_pos (by omega),Qh (by omega)];simp only [cS];unfold bc;rw [decide_eq_true (by omega),decide_eq_true (by omega)];simp only [Option.bind_some,Bool.and_self,Bool.not_true,Bool.false_eq_true,if_false];rw [Ck c];simp
end Go.Vk
