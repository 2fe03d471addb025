/- Attributes and schemas out of their texts. -/
import Derived.Test.YtnjemlncpeekkaaGreatDoorPDr
import Derived.Test.YtnjemlncpeekkaaGreatDoorPSb
import Derived.Test.YtnjemlncpeekkaaGreatDoorPBi
namespace Go.Vk
open Go.Proofs
abbrev zA:aD:=⟨[],[],[]⟩
abbrev zS:ae:=⟨[],[]⟩
theorem Hi {w:List UInt8}(h:Di w){c:UInt8}(e:c.toNat<97∨122<c.toNat):c∉w:=fun a=>by
 obtain ⟨i,d,rfl⟩:=List.getElem_of_mem a;have:=h.2 i (Nat.zero_le _) d;omega
theorem AX {ws:List (List UInt8)}(h:yM ws){c:UInt8}(d:c.toNat<97∨122<c.toNat):∀w∈ws,c∉w:=fun w e=>by
 obtain ⟨i,a,rfl⟩:=List.getElem_of_mem e;exact Hi (h i (Nat.zero_le _) a a).1 d
theorem Vl {n:Int}{c:UInt8}(a:c.toNat≠45∧(c.toNat<48∨57<c.toNat)):c∉Lib.itoa n:=fun hm=>by
 unfold Lib.itoa at hm;split at hm
 ·rcases List.mem_cons.1 hm with rfl|hm
  ·exact a.1 rfl
  have:=po _ _ hm;omega
 have:=po _ _ hm;omega
theorem xt {ws:List (List UInt8)}{c s:UInt8}(a:c≠s)(h:∀w∈ws,c∉w):c∉Lib.join ws [s]:=fun d=>by
 rcases Se d with h1|⟨w,e,h1⟩
 ·exact a (List.mem_singleton.1 h1)
 exact h w e h1
theorem CY {l:List Int}{c:UInt8}(a:c.toNat≠45∧(c.toNat<48∨57<c.toNat)):∀w∈l.map Lib.itoa,c∉w:=fun w d=>by
 obtain ⟨n,_,rfl⟩:=List.mem_map.1 d;exact Vl a
open Classical in
noncomputable def zW (a:aD)(p:List UInt8):aD×Bool:=if sa a∧eA a=p then (a,true) else (zA,false)
theorem MR {a:aD}(d:jK a){p:List UInt8}(h:(zW a p).2=true):sa (zW a p).1∧jK (zW a p).1:=by
 unfold zW at h ⊢;split at h
 ·rename_i c;rw [if_pos c];exact ⟨c.1,d⟩
 cases h
theorem Pv {a:aD}(c:jK a)(p:List UInt8):ja p a.E_ a.z_ a.M_=some (zW a p)∧jc p a.E_ a.z_ a.M_=some (zW a p):=by
 unfold ja jc;show (ol a).bind _=_∧(og a).bind _=_;rcases (yK (yO c)).cases with ⟨e,d⟩|⟨e,d⟩
 ·obtain ⟨g,i,_⟩:=Ep c d;rw [e,(DK (yO c)).val d];have t1':nc (aD.mk a.E_ a.z_ a.M_)=some (eA a):=g;have t2':mV (aD.mk a.E_ a.z_ a.M_)=some (eA a):=i;simp only [cS];rw [t1',t2'];simp only [bS];by_cases f:eA a=p
  ·rw [show zW a p=(a,true) from if_pos ⟨d,f⟩,if_neg (by simp [f])];exact ⟨rfl,rfl⟩
  rw [show zW a p=(zA,false) from if_neg fun h=>f h.2,if_pos (by simp [f])];exact ⟨rfl,rfl⟩
 have e':og a=some false:=by rw [(DK (yO c)).eq (yK (yO c)),e]
 rw [e,e',show zW a p=(zA,false) from if_neg fun h=>d h.1];exact ⟨rfl,rfl⟩
theorem ON:jK zA:=⟨by simp,⟨by simp,by simp⟩,⟨by simp,by simp⟩⟩
def JW (v:aD×Bool):Prop:=v.2=true→sa v.1∧jK v.1
theorem Bm {a:aD}(c:jK a)(p:List UInt8):Tot (ja p a.E_ a.z_ a.M_) JW∧Tot (jc p a.E_ a.z_ a.M_) JW:=by
 rw [(Pv c p).1,(Pv c p).2];exact ⟨ar fun h=>MR c h,ar fun h=>MR c h⟩
theorem wi {s:List UInt8}(e:s.length≤1048575)(c:UInt8):qm (gj c s):=by
 obtain ⟨h1,a⟩:=wj (c:=c) s;exact ⟨by omega,fun y d=>by have:=a y d;omega⟩
def Pa (i:Nat)(l:List Int):Prop:=l.length=i∧∀y∈l,I64 y
theorem HB {i:Nat}{l:List Int}{x:Int}(h:Pa i l)(a:I64 x):Pa (i+1) (l++[x]):=⟨by simp [h.1],fun y c=>by
 rcases List.mem_append.1 c with h1|h1
 ·exact h.2 y h1
 rw [List.mem_singleton.1 h1];exact a⟩
theorem IC {ws:List (List UInt8)}(c:qm ws){nm:List UInt8}(e:nm.length≤1048576)(p:List UInt8):Tot (ei ws p nm aY [] 0) JW:=by
 have g:=c.1;refine dj (σ:=List Int) (fun k l i=>ei ws p nm k l i) ws.length Pa (fun k l h=>?_) (fun k l i d h ih=>?_) (by omega) ⟨rfl,by simp⟩
 ·show Tot (ei ws p nm (k+1) l _) _;rw [ei,if_neg (by simp)];exact (Bm (a:=⟨nm,l,[]⟩) ⟨e,⟨by show l.length≤_;have:=h.1;omega,h.2⟩,⟨by simp,by simp⟩⟩ p).1
 show Tot (ei ws p nm (k+1) l _) _;rw [ei,if_pos (by rw [decide_eq_true_iff];omega),aH d];simp only [bS];refine (HX (c.2 _ (List.getElem_mem d))).1.bind fun v f=>aZ (fun _=>ar fun h=>by cases h) (fun _=>?_);rw [bC (by have:=h.1;simp;omega)];simp only [bS];rw [ax (by omega)];exact ih _ (HB h f)
theorem Ho {ws:List (List UInt8)}(c:qm ws){nm:List UInt8×List UInt8×Bool}(e:nm.1.length≤1048576)(p:List UInt8):Tot (el ws p nm aY 0 []) JW:=by
 have g:=c.1;refine dj (σ:=List Int) (fun k l i=>el ws p nm k i l) ws.length Pa (fun k l h=>?_) (fun k l i d h ih=>?_) (by omega) ⟨rfl,by simp⟩
 ·show Tot (el ws p nm (k+1) _ l) _;rw [el,if_neg (by simp)];exact (Bm (a:=⟨nm.1,l,[]⟩) ⟨e,⟨by show l.length≤_;have:=h.1;omega,h.2⟩,⟨by simp,by simp⟩⟩ p).2
 show Tot (el ws p nm (k+1) _ l) _;rw [el,if_pos (by rw [decide_eq_true_iff];omega),aH d];simp only [bS];refine (HX (c.2 _ (List.getElem_mem d))).2.bind fun v f=>aZ (fun _=>ar fun h=>by cases h) (fun _=>?_);rw [bC (by have:=h.1;simp;omega)];simp only [bS];rw [ax (by omega)];exact ih _ (HB h f)
theorem Oz (s:List UInt8)(c:UInt8):(Lib.cut s [c]).1.length≤s.length∧(Lib.cut s [c]).2.1.length≤s.length:=by
 unfold Lib.cut;split
 ·simp;omega
 simp
theorem Bw {s:List UInt8}(a:s.length≤1048576)(c:UInt8):PR s [c]=some (Lib.cut s [c]):=if_pos (by omega)
theorem Ig {s:List UInt8}(j:s.length≤1048575):Tot (qe s) JW∧Tot (pR s) JW:=by
 refine ⟨?_,?_⟩
 ·unfold qe;rw [(gM (p:=61) (s:=s) (by omega) 61 rfl).1,(gM (p:=58) (s:=s) (by omega) 58 rfl).1];simp only [bS];have d:=wj (c:=61) s;have e:=wj (c:=58) s;refine aZ (fun h=>?_) fun _=>aZ (fun h=>?_) fun _=>(Bm ON s).1
  ·rw [beq_iff_eq] at h;refine (ga (by omega)).bind fun v f=>(ga (by omega)).bind fun w g=>?_;have h1:=d.2 v f.1;have i:=d.2 w g.1;rw [(gM (p:=44) (s:=w) (by omega) 44 rfl).1];simp only [bS];exact (Bm (a:=⟨v,[],gj 44 w⟩) ⟨by show v.length≤_;omega,⟨by simp,by simp⟩,wi (by omega) 44⟩ s).1
  rw [beq_iff_eq] at h;refine (ga (by omega)).bind fun v f=>(ga (by omega)).bind fun w g=>?_;have h1:=e.2 v f.1;have i:=e.2 w g.1;rw [(gM (p:=44) (s:=w) (by omega) 44 rfl).1];simp only [bS];exact IC (wi (by omega) 44) (by omega) s
 unfold pR;rw [Bw (s:=s) (by omega) 61,Bw (s:=s) (by omega) 58];simp only [bS];have d:=Oz s 61;have e:=Oz s 58;refine aZ (fun h=>?_) fun _=>aZ (fun h=>?_) fun _=>(Bm ON s).2
 ·rw [(gM (p:=44) (s:=(Lib.cut s [61]).2.1) (by omega) 44 rfl).2];simp only [bS];exact (Bm (a:=⟨(Lib.cut s [61]).1,[],gj 44 (Lib.cut s [61]).2.1⟩) ⟨by show (Lib.cut s [61]).1.length≤_;omega,⟨by simp,by simp⟩,wi (by omega) 44⟩ s).2
 rw [(gM (p:=44) (s:=(Lib.cut s [58]).2.1) (by omega) 44 rfl).2];simp only [bS];exact Ho (wi (by omega) 44) (by omega) s
theorem ND {l:List Int}(u:l.length≤3)(g:Pp l){a:aD}(j:a.z_=l)(m:a.M_=[])(o:jK a)(p:List UInt8)(x:List UInt8×List UInt8×Bool)(q:x.1=a.E_) :
  ei (l.map Lib.itoa) p a.E_ aY [] 0=some (zW a p)∧el (l.map Lib.itoa) p x aY 0 []=some (zW a p):=by
 have d:(List.range (l.map Lib.itoa).length).map (fun i=>l.getD i 0)=l:=by
  apply List.ext_getElem (by simp);intro i h1 s;simp [s]
 have f:∀i,(h:i<(l.map Lib.itoa).length)→pW (l.map Lib.itoa)[i]=some (l.getD i 0,true)∧pI (l.map Lib.itoa)[i]=some (l.getD i 0,true):=fun i h=>by
  have h':i<l.length:=by simpa using h
  rw [List.getElem_map];have:=(g i (Nat.zero_le _) h' h').1;have e:l.getD i 0=l[i]:=by simp [h']
  rw [e];exact Mc (by omega)
 have c:=Pv o p;rw [j,m] at c;refine ⟨?_,?_⟩
 ·refine (wm (n:=(l.map Lib.itoa).length) (fun i=>l.getD i 0) (fun k r i=>ei (l.map Lib.itoa) p a.E_ k r i) (fun r=>ja p a.E_ r []) (fun k r=>?_) (fun k r i h t=>?_) (by simp;omega)).trans ?_
  ·show ei _ p _ (k+1) r _=_;rw [ei,if_neg (by simp)]
  ·show ei _ p _ (k+1) r _=_;rw [ei,if_pos (by rw [decide_eq_true_iff];omega),aH h];simp only [bS];rw [(f i h).1];simp only [cS];rw [bC (by simp at h ⊢;omega),ax (by simp at h;omega)];rfl
  rw [d];exact c.1
 refine (wm (n:=(l.map Lib.itoa).length) (fun i=>l.getD i 0) (fun k r i=>el (l.map Lib.itoa) p x k i r) (fun r=>jc p x.1 r []) (fun k r=>?_) (fun k r i h t=>?_) (by simp;omega)).trans ?_
 ·show el _ p _ (k+1) _ r=_;rw [el,if_neg (by simp)]
 ·show el _ p _ (k+1) _ r=_;rw [el,if_pos (by rw [decide_eq_true_iff];omega),aH h];simp only [bS];rw [(f i h).2];simp only [cS];rw [bC (by simp at h ⊢;omega),ax (by simp at h;omega)];rfl
 rw [d,q];exact c.2
theorem Ik {a:aD}(h:sa a):zW a (eA a)=(a,true):=if_pos ⟨h,rfl⟩
theorem NB {a:aD}(m:jK a)(h:sa a):qe (eA a)=some (a,true)∧pR (eA a)=some (a,true):=by
 have i:=(Ep m h).2.2;have j:=Pv m (eA a);rw [Ik h] at j;unfold qe pR;rw [(gM (p:=61) (s:=eA a) (by omega) 61 rfl).1,(gM (p:=58) (s:=eA a) (by omega) 58 rfl).1,Bw (s:=eA a) (by omega) 61,Bw (s:=eA a) (by omega) 58];simp only [bS];have c:(61:UInt8)∉a.E_:=Hi h.1 (.inl (by decide));have k:(58:UInt8)∉a.E_:=Hi h.1 (.inl (by decide));rcases h.2 with ⟨o,t,u⟩|⟨o,v,x⟩
 ·have e:eA a=a.E_++61::Lib.join a.M_ [44]:=by
   unfold eA;rw [if_neg (by omega)];simp
  have d:(61:UInt8)∉Lib.join a.M_ [44]:=xt (by decide) (AX u (.inl (by decide)));have q:gj 61 (eA a)=[a.E_,Lib.join a.M_ [44]]:=by rw [e,tR c,rN d]
  have r:Lib.cut (eA a) [61]=(a.E_,Lib.join a.M_ [44],true):=by rw [e,Ii c]
  have f:(Lib.join a.M_ [44]).length≤1048576:=by rw [e] at i;simp at i;omega
  have g:gj 44 (Lib.join a.M_ [44])=a.M_:=uN (fun h=>by rw [h] at t;simp at t) (AX u (.inl (by decide)));have ec:a.z_=[]:=List.length_eq_zero_iff.1 o;rw [ec] at j;rw [q,r];simp only [if_true];refine ⟨?_,?_⟩
  ·rw [if_pos (by simp)];show (ke (Lib.join a.M_ [44]) 44).bind _=_;rw [(gM (p:=44) f 44 rfl).1,g];exact j.1
  rw [(gM (p:=44) f 44 rfl).2,g];exact j.2
 have e:eA a=a.E_++58::Lib.join (a.z_.map Lib.itoa) [44]:=by
  unfold eA;rw [if_pos (by omega)];simp
 have d:(61:UInt8)∉Lib.join (a.z_.map Lib.itoa) [44]:=xt (by decide) (CY (by decide));have w:(58:UInt8)∉Lib.join (a.z_.map Lib.itoa) [44]:=xt (by decide) (CY (by decide))
 have l:(61:UInt8)∉eA a:=by
  rw [e];intro hm;rcases List.mem_append.1 hm with hm|hm
  ·exact c hm
  rcases List.mem_cons.1 hm with hm|hm
  ·exact absurd hm (by decide)
  exact d hm
 have q:gj 61 (eA a)=[eA a]:=rN l;have e1':gj 58 (eA a)=[a.E_,Lib.join (a.z_.map Lib.itoa) [44]]:=by rw [e,tR k,rN w]
 have r:Lib.cut (eA a) [61]=(eA a,[],false):=Qi l;have e2':Lib.cut (eA a) [58]=(a.E_,Lib.join (a.z_.map Lib.itoa) [44],true):=by rw [e,Ii k]
 have f:(Lib.join (a.z_.map Lib.itoa) [44]).length≤1048576:=by rw [e] at i;simp at i;omega
 have g:gj 44 (Lib.join (a.z_.map Lib.itoa) [44])=a.z_.map Lib.itoa:=uN (fun h=>by
  have:=congrArg List.length h;simp at this;rw [this] at v;simp at v) (CY (by decide))
 have ev:a.M_=[]:=List.length_eq_zero_iff.1 o;rw [q,e1',r,e2'];simp only [if_true,Bool.false_eq_true,if_false];obtain ⟨c1,c2⟩:=ND (by omega) x rfl ev m (eA a) (a.E_,Lib.join (a.z_.map Lib.itoa) [44],true) rfl;rw [Ik h] at c1 c2;refine ⟨?_,?_⟩
 ·rw [if_neg (by simp),if_pos (by simp)];show (ke (Lib.join (a.z_.map Lib.itoa) [44]) 44).bind _=_;rw [(gM (p:=44) f 44 rfl).1,g];exact c1
 rw [(gM (p:=44) f 44 rfl).2,g];exact c2
end Go.Vk
/- Schemas out of their texts. -/
namespace Go.Vk
open Go.Proofs
def Bl (v:ae×Bool):Prop:=v.2=true→fL v.1∧ba v.1
def Lk (i:Nat)(l:List aD):Prop:=l.length=i∧∀y∈l,jK y
theorem Gj {i:Nat}{l:List aD}{x:aD}(h:Lk i l)(a:jK x):Lk (i+1) (l++[x]):=⟨by simp [h.1],fun y c=>by
 rcases List.mem_append.1 c with h1|h1
 ·exact h.2 y h1
 rw [List.mem_singleton.1 h1];exact a⟩
theorem Id {s:ae}(c:ba s):Tot ((eR s).bind fun y=>if (!y) then some (zS,false) else some (s,true)) Bl∧Tot ((fj s).bind fun y=>if (!y) then some (zS,false) else some (s,true)) Bl:=by
 refine ⟨?_,?_⟩
 ·rcases (lP (kC c)).cases with ⟨e,a⟩|⟨e,a⟩
  ·rw [e];exact ar fun _=>⟨a,c⟩
  rw [e];exact ar fun h=>by cases h
 rcases (ox (kC c)).cases with ⟨e,a⟩|⟨e,a⟩
 ·rw [e];exact ar fun _=>⟨a,c⟩
 rw [e];exact ar fun h=>by cases h
theorem FM {ws cs:List (List UInt8)}(c:ws.length≤1048576∧∀w∈ws,w.length≤1048575)(f:qm cs):Tot (dO ws cs aY [] 0) Bl∧Tot (dP ws cs aY 0 []) Bl:=by
 have g:=c.1;refine ⟨?_,?_⟩
 ·refine dj (σ:=List aD) (fun k l i=>dO ws cs k l i) ws.length Lk (fun k l h=>?_) (fun k l i a h ih=>?_) (by omega) ⟨rfl,by simp⟩
  ·show Tot (dO ws cs (k+1) l _) _;rw [dO,if_neg (by simp)];exact (Id (s:=⟨l,cs⟩) ⟨⟨by show l.length≤_;have:=h.1;omega,h.2⟩,f⟩).1
  show Tot (dO ws cs (k+1) l _) _;rw [dO,if_pos (by rw [decide_eq_true_iff];omega),aH a];simp only [bS];refine (Ig (c.2 _ (List.getElem_mem a))).1.bind fun v d=>aZ (fun _=>ar fun h=>by cases h) (fun e=>?_);rw [bC (by have:=h.1;simp;omega)];simp only [bS];rw [ax (by omega)];exact ih _ (Gj h (d (by simpa using e)).2)
 refine dj (σ:=List aD) (fun k l i=>dP ws cs k i l) ws.length Lk (fun k l h=>?_) (fun k l i a h ih=>?_) (by omega) ⟨rfl,by simp⟩
 ·show Tot (dP ws cs (k+1) _ l) _;rw [dP,if_neg (by simp)];exact (Id (s:=⟨l,cs⟩) ⟨⟨by show l.length≤_;have:=h.1;omega,h.2⟩,f⟩).2
 show Tot (dP ws cs (k+1) _ l) _;rw [dP,if_pos (by rw [decide_eq_true_iff];omega),aH a];simp only [bS];refine (Ig (c.2 _ (List.getElem_mem a))).2.bind fun v d=>aZ (fun _=>ar fun h=>by cases h) (fun e=>?_);rw [bC (by have:=h.1;simp;omega)];simp only [bS];rw [ax (by omega)];exact ih _ (Gj h (d (by simpa using e)).2)
theorem LQ {s:List UInt8}(e:s.length≤1048575)(c:UInt8):(gj c s).length≤1048576∧∀w∈gj c s,w.length≤1048575:=by
 obtain ⟨h1,a⟩:=wj (c:=c) s;exact ⟨by omega,fun w d=>by have:=a w d;omega⟩
theorem DS {s:List UInt8}(f:s.length≤1048575):Tot (mX s) Bl∧Tot (na s) Bl:=by
 refine ⟨?_,?_⟩
 ·unfold mX;rw [(gM (p:=124) (s:=s) (by omega) 124 rfl).1];simp only [bS];have a:=wj (c:=124) s;refine aZ (fun _=>ar fun h=>by cases h) (fun h=>?_);have h:(gj 124 s).length=2:=by simp at h;omega
  refine (ga (by omega)).bind fun v d=>?_;have h1:=a.2 v d.1;rw [(gM (p:=44) (s:=v) (by omega) 44 rfl).1];simp only [bS];refine (ga (by omega)).bind fun w e=>?_;have g:=a.2 w e.1;rw [(gM (p:=59) (s:=w) (by omega) 59 rfl).1];simp only [bS];exact (FM (LQ (by omega) 59) (wi (by omega) 44)).1
 unfold na;rw [Bw (s:=s) (by omega) 124];simp only [bS];have a:=Oz s 124;refine aZ (fun _=>ar fun h=>by cases h) (fun h=>?_);rw [(gM (p:=44) (s:=(Lib.cut s [124]).2.1) (by omega) 44 rfl).2,(gM (p:=59) (s:=(Lib.cut s [124]).1) (by omega) 59 rfl).2];simp only [bS];exact (FM (LQ (by omega) 59) (wi (by omega) 44)).2
theorem LX {a:aD}(h:sa a){c:UInt8}(e:c=59∨c=124):c∉eA a:=by
 have g:c.toNat<97∨122<c.toNat:=by rcases e with rfl|rfl<;>decide
 have j:c.toNat≠45∧(c.toNat<48∨57<c.toNat):=by rcases e with rfl|rfl<;>decide
 have d:c≠44∧c≠58∧c≠61:=by rcases e with rfl|rfl<;>decide
 have i:c∉a.E_:=Hi h.1 g
 have k:c∉Lib.join a.M_ [44]:=by
  rcases h.2 with ⟨_,_,f⟩|⟨f,_⟩
  ·exact xt d.1 (AX f g)
  rw [List.length_eq_zero_iff.1 f];exact xt d.1 (by simp)
 have l:c∉Lib.join (a.z_.map Lib.itoa) [44]:=xt d.1 (CY j);unfold eA;split
 ·intro hm;rcases List.mem_append.1 hm with hm|hm
  ·rcases List.mem_append.1 hm with hm|hm
   ·exact i hm
   exact d.2.1 (List.mem_singleton.1 hm)
  exact l hm
 intro hm;rcases List.mem_append.1 hm with hm|hm
 ·rcases List.mem_append.1 hm with hm|hm
  ·exact i hm
  exact d.2.2 (List.mem_singleton.1 hm)
 exact k hm
theorem LC {s:ae}(f:ba s)(h:fL s):mX (kj s)=some (s,true)∧na (kj s)=some (s,true):=by
 have m:=(xA f h).2.2;have g:=h.1
 have o:∀w∈s.c_.map eA,(124:UInt8)∉w∧(59:UInt8)∉w:=fun w d=>by
  obtain ⟨a,g,rfl⟩:=List.mem_map.1 d;obtain ⟨i,c,rfl⟩:=List.getElem_of_mem g;exact ⟨LX (h.attr c) (.inr rfl),LX (h.attr c) (.inl rfl)⟩
 have e:kj s=Lib.join (s.c_.map eA) [59]++124::Lib.join s.f_ [44]:=by unfold kj;simp
 have nA:(124:UInt8)∉Lib.join (s.c_.map eA) [59]:=xt (by decide) fun w d=>(o w d).1;have nC:(124:UInt8)∉Lib.join s.f_ [44]:=xt (by decide) (AX h.2.2.1 (.inr (by decide)));have x:gj 124 (kj s)=[Lib.join (s.c_.map eA) [59],Lib.join s.f_ [44]]:=by rw [e,tR nA,rN nC]
 have A:Lib.cut (kj s) [124]=(Lib.join (s.c_.map eA) [59],Lib.join s.f_ [44],true):=by rw [e,Ii nA]
 have j:(Lib.join (s.c_.map eA) [59]).length≤1048576∧(Lib.join s.f_ [44]).length≤1048576:=by rw [e] at m;simp at m;omega
 have q:gj 44 (Lib.join s.f_ [44])=s.f_:=uN (fun l=>by have:=h.2.1;rw [l] at this;simp at this) (AX h.2.2.1 (.inl (by decide)))
 have t:gj 59 (Lib.join (s.c_.map eA) [59])=s.c_.map eA:=uN (fun l=>by
  have:=congrArg List.length l;simp at this;rw [this] at g;simp at g) fun w d=>(o w d).2
 have u:(List.range (s.c_.map eA).length).map (fun i=>s.c_.getD i zA)=s.c_:=by
  apply List.ext_getElem (by simp);intro i h1 C;simp [C]
 have v:∀i,(c:i<(s.c_.map eA).length)→qe (s.c_.map eA)[i]=some (s.c_.getD i zA,true)∧pR (s.c_.map eA)[i]=some (s.c_.getD i zA,true):=fun i c=>by
  have hi':i<s.c_.length:=by simpa using c
  rw [List.getElem_map];have e:s.c_.getD i zA=s.c_[i]:=by simp [hi']
  rw [e];exact NB (f.1.2 _ (List.getElem_mem hi')) (h.attr hi')
 have E:(s.c_.map eA).length≤5:=by simp;omega
 unfold mX na;rw [(gM (p:=124) (s:=kj s) (by omega) 124 rfl).1,Bw (s:=kj s) (by omega) 124,x,A];simp only [cS];refine ⟨?_,?_⟩
 ·rw [if_neg (by simp)];show (ke (Lib.join s.f_ [44]) 44).bind _=_;rw [(gM (p:=44) j.2 44 rfl).1,q];simp only [bS];show (ke (Lib.join (s.c_.map eA) [59]) 59).bind _=_;rw [(gM (p:=59) j.1 59 rfl).1,t];simp only [bS];refine (wm (n:=(s.c_.map eA).length) (fun i=>s.c_.getD i zA) (fun k r i=>dO (s.c_.map eA) s.f_ k r i) (fun r=>(eR (ae.mk r s.f_)).bind fun y=>if (!y) then some (zS,false) else some (⟨r,s.f_⟩,true)) (fun k r=>?_) (fun k r i c D=>?_) (by omega)).trans ?_
  ·show dO _ _ (k+1) r _=_;rw [dO,if_neg (by simp)]
  ·show dO _ _ (k+1) r _=_;rw [dO,if_pos (by rw [decide_eq_true_iff];omega),aH c];simp only [bS];rw [(v i c).1];simp only [cS];rw [bC (by simp;omega),ax (by omega)];rfl
  rw [u];show (eR s).bind _=_;rw [(lP (kC f)).val h];rfl
 rw [(gM (p:=44) j.2 44 rfl).2,q];simp only [bS];rw [(gM (p:=59) j.1 59 rfl).2,t];simp only [bS];refine (wm (n:=(s.c_.map eA).length) (fun i=>s.c_.getD i zA) (fun k r i=>dP (s.c_.map eA) s.f_ k i r) (fun r=>(fj (ae.mk r s.f_)).bind fun y=>if (!y) then some (zS,false) else some (⟨r,s.f_⟩,true)) (fun k r=>?_) (fun k r i c D=>?_) (by omega)).trans ?_
 ·show dP _ _ (k+1) _ r=_;rw [dP,if_neg (by simp)]
 ·show dP _ _ (k+1) _ r=_;rw [dP,if_pos (by rw [decide_eq_true_iff];omega),aH c];simp only [bS];rw [(v i c).2];simp only [cS];rw [bC (by simp;omega),ax (by omega)];rfl
 rw [u];show (fj s).bind _=_;rw [(ox (kC f)).val h];rfl
end Go.Vk
/- States, read: what is read, and that it answers. -/
namespace Go.Vk
abbrev zT:az:=⟨⟨⟨[],[]⟩,⟨0,0,0,0,0,0,false⟩,0,0,0,0,0⟩,⟨[]⟩,⟨[],[]⟩⟩
def Jv {α:Type}(p:List Int)(P:Pz α):Prop:=∀(a:Int) v (b:Int),0≤a→a≤p.length→P a=some (v,b)→a≤b∧b≤p.length
theorem wo.mono {α:Type}{p:List Int}(hp:p.length≤1048576){P:Pz α}{sz:α→Nat}(h:wo p P sz):Jv p P:=fun a v b d h1 e=>by
 obtain ⟨f,g,c,i⟩:=h a v b ⟨by omega,by omega⟩ e;exact ⟨by omega,c⟩
theorem JV {α:Type}{p:List Int}(x:α):Jv p (fun a=>some (x,a)):=fun a v b c h1 e=>by
 obtain ⟨rfl,rfl⟩:=Prod.mk.inj (Option.some.inj e);exact ⟨Int.le_refl _,h1⟩
theorem yw {α β:Type}{p:List Int}{P:Pz α}{Q:α→Pz β}(h:Jv p P)(k:∀v,Jv p (Q v)):Jv p (Pz.bind P Q):=fun a v b c h1 e=>by
 unfold Pz.bind at e;obtain ⟨y,d,f⟩:=cQ e;obtain ⟨j,g⟩:=h a y.1 y.2 c h1 d;obtain ⟨l,i⟩:=k y.1 y.2 v b (by omega) g f;exact ⟨by omega,i⟩
theorem LP {α β:Type}{p:List Int}{P:Pz α}(f:α→β)(h:Jv p P):Jv p (Pz.map f P):=fun a v b c h1 e=>by
 obtain ⟨y,d,g⟩:=Option.map_eq_some_iff.1 e;obtain ⟨rfl,rfl⟩:=Prod.mk.inj g;exact h a y.1 y.2 c h1 d
theorem FE {α β:Type}{p:List Int}{P:Pz α}{Q:α→Pz β}{sz:α→Nat}(h:wo p P sz)(k:∀v,Jv p (Q v)):wo p (Pz.bind P Q) (fun _=>1):=fun a v b c e=>by
 unfold Pz.bind at e;obtain ⟨y,d,f⟩:=cQ e;obtain ⟨g,l,i,m⟩:=h a y.1 y.2 c d;obtain ⟨o,j⟩:=k y.1 y.2 v b (by omega) i f;exact ⟨g,by show a+((1:Nat):Int)≤b;omega,j,Nat.le_refl _⟩
noncomputable abbrev Jq (p:List Int):Pz aw:=Pz.map aw.mk (cK p (cK p (gI p)))
noncomputable def zU (p:List Int):Pz av:=Pz.bind (xu p) fun t=>Pz.bind (gI p) fun h=>Pz.bind (xu p) fun y=>Pz.bind (Jq p) fun w=>Pz.bind (Jq p) fun d=>fun a=>some (⟨t,h==1,y,⟨w,d⟩⟩,a)
noncomputable def Nd (p:List Int):Pz av:=Pz.bind (xu p) fun t=>Pz.bind (yu p) fun h=>Pz.bind (xu p) fun y=>Pz.bind (Jq p) fun w=>Pz.bind (Jq p) fun d=>fun a=>some (⟨t,h,y,⟨w,d⟩⟩,a)
noncomputable def BP (p:List Int):Pz aC:=Pz.bind (gI p) fun t=>Pz.bind (gI p) fun s=>fun a=>some (⟨t,s⟩,a)
theorem oO {x:Int}(h:InR x) : -9223372036854775808≤x∧x≤9223372036854775807:=by
 unfold InR at h;exact ⟨by omega,by omega⟩
theorem Ic {x:List Int}(h:x.length≤1048576∧∀y∈x,InR y):sn x:=⟨h.1,fun y a=>oO (h.2 y a)⟩
section
variable {p:List Int} (hb:du p) (hp:p.length≤1048576)
include hb hp
theorem IL:wo p (xu p) (fun _=>1):=FE (Q:=fun v=>Pz.map (fun ns=>am.mk ns v) (cK p (uF p))) (iQ hb hp) fun v=>LP (fun ns=>am.mk ns v) ((yG hb hp (zn hb hp)).mono hp)
theorem Kq:Jv p (Jq p):=LP _ ((yG hb hp (oz hb hp)).mono hp)
theorem Pt:Jv p (gI p):=(iQ hb hp).mono hp
theorem Od:wo p (zU p) (fun _=>1):=FE (IL hb hp) fun _=>yw (Pt hb hp) fun _=>yw ((IL hb hp).mono hp) fun _=>yw (Kq hb hp) fun _=>yw (Kq hb hp) fun _=>JV _
theorem Iz:wo p (BP p) (fun _=>1):=FE (iQ hb hp) fun _=>yw (Pt hb hp) fun _=>JV _
theorem Ah:Sat (yu p) (fun _=>True):=fun a v b d e=>by
 unfold yu at e;obtain ⟨y,f,c⟩:=cQ e;split at c
 ·cases c
 obtain ⟨rfl,rfl⟩:=Prod.mk.inj (Option.some.inj c);exact ⟨(so hb hp a y.1 y.2 d f).1,trivial⟩
theorem xz:Sat (Jq p) yV:=OL (Qo hb hp) fun _ h=>⟨h.1,fun y a=>Ic (h.2 y a)⟩
theorem Tp:Sat (uF p) rg:=by
 have i:=so hb hp;have l:=Ba hb hp
 exact fI (Ah hb hp) fun v0 _=>fI i fun r h1=>fI i fun s d=>fI l fun t e=>fI i fun u f=>fI l fun v g=>fI (xz hb hp) fun w h=>fI i fun x j=>fI l fun A k=>fI i fun C m=>fI i fun o a=>fI i fun q c =>
  AE ⟨trivial,⟨oO h1,oO d⟩,Ic e,oO f,⟨Ic g,h⟩,oO j,Ic k,oO m,oO a,oO c⟩
theorem wA:Sat (xu p) iC:=fI (Q:=InR) (R:=fun v=>Pz.map (fun ns=>am.mk ns v) (cK p (uF p))) (so hb hp) fun _ a=>OL (Ds hb hp (zn hb hp) (Tp hb hp)) fun _ h=>⟨h,oO a⟩
theorem MO:Sat (zU p) rJ:=fI (wA hb hp) fun _ h1=>fI (so hb hp) fun _ _=>fI (wA hb hp) fun _ a=>fI (xz hb hp) fun _ c=>fI (xz hb hp) fun _ d=>AE ⟨h1,trivial,a,c,d⟩
theorem Mb:Sat (Nd p) rJ:=fI (wA hb hp) fun _ h1=>fI (Ah hb hp) fun _ _=>fI (wA hb hp) fun _ a=>fI (xz hb hp) fun _ c=>fI (xz hb hp) fun _ d=>AE ⟨h1,trivial,a,c,d⟩
theorem TI:Sat (BP p) LM:=fI (so hb hp) fun _ h1=>fI (so hb hp) fun _ a=>AE ⟨oO h1,oO a⟩
omit hb hp in
theorem Sat.i64 {α:Type}{P:Pz α}{Q:α→Prop}(h:Sat P Q):∀a v b,I64 a→P a=some (v,b)→I64 b:=fun a v b c e=>(h a v b c e).1
noncomputable def Vx (p:List Int):ao→Option (av×ao):=rb (ix p) fun t=>rb (gH p) fun h=>rb (ix p) fun y=>rb (ft p) fun w=>rb (ft p) fun d=>fun s=>some (⟨t,h,y,⟨w,d⟩⟩,s)
theorem VN:xi (Vx p) (Nd p):=tv (OM hb hp) (wA hb hp).i64 fun _=>tv (KB hb hp) (Ah hb hp).i64 fun _=>tv (OM hb hp) (wA hb hp).i64 fun _=>tv (CS hb hp) (xz hb hp).i64 fun _=>tv (CS hb hp) (xz hb hp).i64 fun _=>Lc _
noncomputable def Tb (p:List Int):ao→Option (aC×ao):=rb (aS p) fun t=>rb (aS p) fun u=>fun s=>some (⟨t,u⟩,s)
theorem US:xi (Tb p) (BP p):=tv (FT hb hp) (so hb hp).i64 fun _=>tv (FT hb hp) (so hb hp).i64 fun _=>Lc _
end
def Con (K:ao→Option (az×Bool))(G:Int→Option az):Prop :=
 (∀a,∃v,K ⟨a,true⟩=some (v,false))∧∀a,I64 a→(∀st,G a=some st→K ⟨a,false⟩=some (st,true))∧(G a=none→∃v,K ⟨a,false⟩=some (v,false))
theorem SM {α:Type}{op:ao→Option (α×ao)}{P:Pz α}{K:ao→α×ao→Option (az×Bool)}{G:α→Int→Option az}(h:xi op P)(f:∀a v b,I64 a→P a=some (v,b)→I64 b)(k:∀g v,Con (fun s=>K g (v,s)) (G v)):Con (fun s=>(op s).bind (K s)) (fun a=>(P a).bind fun y=>G y.1 y.2):=by
 refine ⟨fun a=>?_,fun a c=>?_⟩
 ·obtain ⟨v,a',e⟩:=h.1 a;show ∃v,(op ⟨a,true⟩).bind _=_;rw [e];exact (k _ v).1 a'
 show (∀st,((P a).bind fun y=>G y.1 y.2)=some st→(op ⟨a,false⟩).bind (K ⟨a,false⟩)=some (st,true))∧(((P a).bind fun y=>G y.1 y.2)=none→∃v,(op ⟨a,false⟩).bind (K ⟨a,false⟩)=some (v,false))
 cases d:P a with
 | none =>
  obtain ⟨v,a',e⟩:=(h.2 a c).2 d;rw [e];exact ⟨fun st e=>(by cases e),fun _=>(k _ v).1 a'⟩
 | some y =>
  obtain ⟨v,b⟩:=y;rw [(h.2 a c).1 v b d];exact (k _ v).2 b (f a v b c d)
theorem Vc (st:az):Con (fun s=>some (st,!s.N_)) (fun _=>some st):=⟨fun a=>⟨_,rfl⟩,fun a _=>⟨fun st' e=>by cases e;rfl,fun e=>by cases e⟩⟩
theorem Kg {α:Type}{op:ao→Option (α×ao)}{P:Pz α}(g:xi op P)(f:∀a v b,I64 a→P a=some (v,b)→I64 b){N:Int}(h:N≤1000000)(Lp:Nat→Int→Bool→List α→Int→Option (az×Bool))(fin:List α→ao→Option (az×Bool)){G:List α→Int→Option az}(step:∀k a q l i,Lp (k+1) a q l i=if decide (i<N) then (op ⟨a,q⟩).bind fun y=>(app l [y.1]).bind fun l'=>Lp k y.2.a_ y.2.N_ l' (IntKind.i64.wrap (i+1)) else fin l ⟨a,q⟩)(k:∀l,Con (fin l) (G l)):Con (fun s=>Lp aY s.a_ s.N_ [] 0) (fun a=>(P.many N.toNat a).bind fun y=>G y.1 y.2):=by
 have H:=fun a=>Td g f N Lp fin step N.toNat aY 0 a [] (by simp) (cx (by omega)) (by omega) h rfl;have j:∀(n:Nat) a v b,I64 a→P.many n a=some (v,b)→I64 b:=fun n a v b c e=>(pG (P:=P) (Q:=fun _=>True) (fun a v b c e=>⟨f a v b c e,trivial⟩) n a v b c e).1;refine ⟨fun a=>?_,fun a c=>?_⟩
 ·obtain ⟨l',a',e⟩:=(H a).1;show ∃v,Lp aY a true [] 0=_;rw [e];exact (k l').1 a'
 show (∀st,((P.many N.toNat a).bind fun y=>G y.1 y.2)=some st→Lp aY a false [] 0=some (st,true))∧(((P.many N.toNat a).bind fun y=>G y.1 y.2)=none→∃v,Lp aY a false [] 0=some (v,false))
 cases d:P.many N.toNat a with
 | none =>
  obtain ⟨l',a',e⟩:=((H a).2 c).2 d;rw [e];exact ⟨fun st e=>(by cases e),fun _=>(k l').1 a'⟩
 | some y =>
  obtain ⟨v,b⟩:=y;rw [((H a).2 c).1 v b d];exact (k v).2 b (j _ a v b c d)
theorem Tc {α:Type}{p:List Int}(hb:du p)(hp:p.length≤1048576){op:ao→Option (α×ao)}{P:Pz α}{sz:α→Nat}(m:xi op P)(f:wo p P sz)(Lp:Nat→Int→Bool→List α→Int→Option (az×Bool))(fin:List α→ao→Option (az×Bool)){G:List α→Int→Option az}(step:∀k a q l n,Lp (k+1) a q l n=if (decide (n>0)) && !q then (op ⟨a,q⟩).bind fun y=>(app l [y.1]).bind fun l'=>Lp k y.2.a_ y.2.N_ l' (IntKind.i64.wrap (n-1)) else fin l ⟨a,q⟩)(k:∀l,Con (fin l) (G l)):Con (fun s=>(cW p s).bind fun y=>Lp aY y.2.a_ y.2.N_ [] y.1) (fun a=>(cK p P a).bind fun y=>G y.1 y.2):=by
 refine ⟨fun a=>?_,fun a d=>?_⟩
 ·obtain ⟨v,a',e⟩:=(DR hb hp).1 a;show ∃v,(cW p ⟨a,true⟩).bind _=_;rw [e];simp only [bS];rw [DX (Lp:=Lp) (fin:=fin) step (cx (by omega))];exact (k []).1 a'
 show (∀st,((cK p P a).bind fun y=>G y.1 y.2)=some st→((cW p ⟨a,false⟩).bind fun y=>Lp aY y.2.a_ y.2.N_ [] y.1)=some (st,true))∧(((cK p P a).bind fun y=>G y.1 y.2)=none→∃v,((cW p ⟨a,false⟩).bind fun y=>Lp aY y.2.a_ y.2.N_ [] y.1)=some (v,false));have i:=(DR hb hp).2 a d;rw [PE hb hp f d]
 cases h:cIr p a with
 | none =>
  obtain ⟨v,a',e⟩:=i.2 h;rw [e];simp only [Option.bind_some,Option.bind_none];rw [DX (Lp:=Lp) (fin:=fin) step (cx (by omega))];exact ⟨fun st e=>(by cases e),fun _=>(k []).1 a'⟩
 | some y =>
  obtain ⟨n,b⟩:=y;rw [i.1 n b h];simp only [bS];obtain ⟨h1,o,u⟩:=Mq h;obtain ⟨w,x,r,_⟩:=iQ hb hp a n b d h1;have j:=(iQ hb hp).i64 hp d h1;obtain ⟨r1,t⟩:=PK m f hp Lp fin step n.toNat aY n b [] rfl (cx (by omega)) (by omega) o (by simp;omega) j
  cases g:P.many n.toNat b with
  | none =>
   obtain ⟨l',a',e⟩:=t g;rw [e];exact ⟨fun st e=>(by cases e),fun _=>(k l').1 a'⟩
  | some z =>
   obtain ⟨vs,c⟩:=z;rw [r1 vs c g];obtain ⟨A,C,D,E⟩:=Bs f hp _ _ vs c (by omega) r g;exact (k ([]++vs)).2 c ⟨by omega,by omega⟩
end Go.Vk
/- States, read by the program: alike what is read. -/
namespace Go.Vk
open Classical in
theorem VM {c:aU}{K:ao→Option (az×Bool)}{G:Int→Option az}{X:Option Bool}(d:Dec X (uy c))(k:uy c→Con K G) :
  Con (fun s=>(if s.N_ then some true else X.bind fun y=>some (!y)).bind fun u=>if u then some (zT,false) else K s) (fun a=>if uy c then G a else none):=by
 refine ⟨fun a=>⟨_,rfl⟩,fun a f=>?_⟩;rcases d.cases with ⟨e,h⟩|⟨e,h⟩
 ·have hk:=(k h).2 a f;rw [e];refine ⟨fun st e=>hk.1 st ?_,fun e=>hk.2 ?_⟩
  ·have e:(if uy c then G a else none)=some st:=e;rwa [if_pos h] at e
  have e:(if uy c then G a else none)=none:=e;rwa [if_pos h] at e
 rw [e];refine ⟨fun st e=>?_,fun _=>⟨_,rfl⟩⟩;have e:(if uy c then G a else none)=some st:=e;rw [if_neg h] at e;cases e
theorem mF {α:Type}{op:ao→Option (α×ao)}{P:Pz α}{K:ao→α×ao→Option (az×Bool)}{G:α×Int→Option az}(h:xi op P)(c:∀a v b,I64 a→P a=some (v,b)→I64 b)(k:∀d v,Con (fun s=>K d (v,s)) (fun b=>G (v,b))):Con (fun s=>(op s).bind (K s)) (fun a=>(P a).bind G):=SM (G:=fun v b=>G (v,b)) h c k
theorem Us {F:ao→ao→Option (az×Bool)}{G:Int→Option az}(h:∀c,Con (F c) G):Con (fun s=>F s s) G:=⟨fun a=>(h ⟨a,true⟩).1 a,fun a d=>(h ⟨a,false⟩).2 a d⟩
noncomputable def zJ (p:List Int)(M:Pz av)(L:Pz (List aC))(c:aU):Int→Option az:=fun a =>
 (M.many c.t_.toNat a).bind fun y1=>((cK p (gI p)).many (((c.w_.f_.length:Nat):Int)).toNat y1.2).bind fun y2=>(L y2.2).bind fun y3=>some ⟨c,⟨y1.1⟩,⟨y2.1,y3.1⟩⟩
open Classical in
noncomputable def zk (c:aU)(G:Int→Option az):Int→Option az:=fun a=>if uy c then G a else none
noncomputable def KK (p:List Int)(s:ae):Int→Option az:=fun a =>
 (gI p a).bind fun y0=>(gI p y0.2).bind fun y1=>(gI p y1.2).bind fun y2=>(gI p y2.2).bind fun y3=>(gI p y3.2).bind fun y4=>(gI p y4.2).bind fun y5=>(yu p y5.2).bind fun e=>(gI p e.2).bind fun f=>(gI p f.2).bind fun g=>(gI p g.2).bind fun h=>(gI p h.2).bind fun c=>(gI p c.2).bind fun d =>
  zk ⟨s,⟨y0.1,y1.1,y2.1,y3.1,y4.1,y5.1,e.1⟩,f.1,g.1,h.1,c.1,d.1⟩ (zJ p (Nd p) (cK p (BP p)) ⟨s,⟨y0.1,y1.1,y2.1,y3.1,y4.1,y5.1,e.1⟩,f.1,g.1,h.1,c.1,d.1⟩) d.2
section
variable {p:List Int} (hb:du p) (hp:p.length≤1048576)
include hb hp
theorem Wm (c:ae×Bool)(d e f g h i:Int×ao)(j:Bool×ao)(m o r t u:Int×ao)(ms:List av)(rows:List (List Int)) :
  Con (fun s=>(cW p s).bind fun y=>gX p c d e f g h i j m o r t u ms rows aY y.1 [] y.2.a_ y.2.N_)
   (fun a=>(cK p (BP p) a).bind fun y3=>some ⟨⟨c.1,⟨d.1,e.1,f.1,g.1,h.1,i.1,j.1⟩,m.1,o.1,r.1,t.1,u.1⟩,⟨ms⟩,⟨rows,y3.1⟩⟩) :=
 Tc hb hp (US hb hp) (Iz hb hp) (fun k a q l n=>gX p c d e f g h i j m o r t u ms rows k n l a q) (fun l s=>some (⟨⟨c.1,⟨d.1,e.1,f.1,g.1,h.1,i.1,j.1⟩,m.1,o.1,r.1,t.1,u.1⟩,⟨ms⟩,⟨rows,l⟩⟩,!s.N_))
  (fun k a q l n=>by
   show gX p c d e f g h i j m o r t u ms rows (k+1) n l a q=_;rw [gX];unfold Tb rb;simp only [Option.bind_assoc,Option.bind_some]) (fun l=>Vc _)
theorem Wq (c:ae×Bool)(w:c.1.f_.length≤1000000)(d e f g h j:Int×ao)(m:Bool×ao)(o r t u v:Int×ao)(ms:List av) :
  Con (fun s=>gU c p d e f g h j m o r t u v ms aY 0 [] s.a_ s.N_)
   (fun a=>((cK p (gI p)).many (((c.1.f_.length:Nat):Int)).toNat a).bind fun y2=>(cK p (BP p) y2.2).bind fun y3=>some ⟨⟨c.1,⟨d.1,e.1,f.1,g.1,h.1,j.1,m.1⟩,o.1,r.1,t.1,u.1,v.1⟩,⟨ms⟩,⟨y2.1,y3.1⟩⟩) :=
 Kg (HW hb hp) (Ba hb hp).i64 (by omega) (fun k a q l i=>gU c p d e f g h j m o r t u v ms k i l a q) (fun l s=>(cW p s).bind fun y=>gX p c d e f g h j m o r t u v ms l aY y.1 [] y.2.a_ y.2.N_)
  (G:=fun rows a=>(cK p (BP p) a).bind fun y3=>some ⟨⟨c.1,⟨d.1,e.1,f.1,g.1,h.1,j.1,m.1⟩,o.1,r.1,t.1,u.1,v.1⟩,⟨ms⟩,⟨rows,y3.1⟩⟩)
  (fun k a q l i=>by
   show gU c p d e f g h j m o r t u v ms (k+1) i l a q=_;rw [gU]) (fun l=>Wm hb hp c d e f g h j m o r t u v ms l)
theorem Wu (c:ae×Bool)(w:c.1.f_.length≤1000000)(e f g h j m:Int×ao)(o:Bool×ao)(d r t u v:Int×ao)(x:d.1≤1000000) :
  Con (fun s=>fX d p c e f g h j m o r t u v aY 0 [] s.a_ s.N_)
   (zJ p (Nd p) (cK p (BP p)) ⟨c.1,⟨e.1,f.1,g.1,h.1,j.1,m.1,o.1⟩,d.1,r.1,t.1,u.1,v.1⟩) :=
 Kg (VN hb hp) (Mb hb hp).i64 x (fun k a q l i=>fX d p c e f g h j m o r t u v k i l a q) (fun l s=>gU c p e f g h j m o d r t u v l aY 0 [] s.a_ s.N_)
  (G:=fun ms a=>((cK p (gI p)).many (((c.1.f_.length:Nat):Int)).toNat a).bind fun y2=>(cK p (BP p) y2.2).bind fun y3=>some ⟨⟨c.1,⟨e.1,f.1,g.1,h.1,j.1,m.1,o.1⟩,d.1,r.1,t.1,u.1,v.1⟩,⟨ms⟩,⟨y2.1,y3.1⟩⟩)
  (fun k a q l i=>by
   show fX d p c e f g h j m o r t u v (k+1) i l a q=_;rw [fX];unfold Vx rb;simp only [Option.bind_assoc,Option.bind_some]) (fun l=>Wq hb hp c w e f g h j m o d r t u v l)
noncomputable def Tl (p:List Int)(o:ae×Bool):ao→Option (az×Bool):=fun s =>
 (aS p s).bind fun c=>(aS p c.2).bind fun d=>(aS p d.2).bind fun e=>(aS p e.2).bind fun f=>(aS p f.2).bind fun g=>(aS p g.2).bind fun h=>(gH p h.2).bind fun i=>(aS p i.2).bind fun j=>(aS p j.2).bind fun k=>(aS p k.2).bind fun l=>(aS p l.2).bind fun m=>(aS p m.2).bind fun a =>
  (if a.2.N_ then some true else (qk (aU.mk o.1 (bA.mk c.1 d.1 e.1 f.1 g.1 h.1 i.1) j.1 k.1 l.1 m.1 a.1)).bind fun q=>some (!q)).bind fun r=>if r then some (zT,false) else fX j p o c d e f g h i k l m a aY 0 [] a.2.a_ a.2.N_
theorem SA (a:ae×Bool)(L:ba a.1):Con (Tl p a) (KK p a.1):=by
 have ri:=FT hb hp;have si:=(so hb hp).i64;unfold Tl KK;refine mF ri si fun P v0=>?_;dsimp only;refine mF ri si fun u i=>?_;dsimp only;refine mF ri si fun v j=>?_;dsimp only;refine mF ri si fun w k=>?_;dsimp only;refine mF ri si fun x l=>?_;dsimp only;refine mF ri si fun A m=>?_;dsimp only;refine mF (KB hb hp) (Ah hb hp).i64 fun C o=>?_;dsimp only;refine mF ri si fun D d=>?_;dsimp only;refine mF ri si fun E q=>?_;dsimp only;refine mF ri si fun G t=>?_;dsimp only;refine mF ri si fun g e=>?_;dsimp only;refine mF ri si fun h f=>?_;dsimp only;refine VM (c:=⟨a.1,⟨v0,i,j,k,l,m,o⟩,d,q,t,e,f⟩) (Hq L) fun H=>?_;have h1:a.1.f_.length≤1000000:=by have:(a.1.f_.length:Int)≤3:=H.1.2.1.2;omega
 have M:d≤1000000:=by have:d≤4:=H.2.2.1.2;omega
 exact Us (F:=fun r s=>fX (d,E) p a (v0,u) (i,v) (j,w) (k,x) (l,A) (m,C) (o,D) (q,G) (t,g) (e,h) (f,r) aY 0 [] s.a_ s.N_) fun r=>Wu hb hp a h1 (v0,u) (i,v) (j,w) (k,x) (l,A) (m,C) (o,D) (d,E) (q,G) (t,g) (e,h) (f,r) M
end
end Go.Vk
/- States, read by the reference: what is read. -/
namespace Go.Vk
abbrev zM:av:=⟨⟨[],0⟩,false,⟨[],0⟩,⟨⟨[]⟩,⟨[]⟩⟩⟩
def out (o:Option az):az×Bool:=match o with|some st=>(st,true)|none=>(zT,false)
def yQ (n:Nat)(l:List Int):List aC:=(List.range n).map fun i=>⟨l.getD (2*i) 0,l.getD (2*i+1) 0⟩
noncomputable def wu (p:List Int):Pz (List aC):=fun a=>(gI p a).bind fun y=>if 0≤y.1∧y.1≤20 then ((gI p).many (2*y.1.toNat) y.2).bind fun z=>some (yQ y.1.toNat z.1,z.2) else none
def cfL (s:ae)(l:List Int):aU:=⟨s,⟨l.getD 0 0,l.getD 1 0,l.getD 2 0,l.getD 3 0,l.getD 4 0,l.getD 5 0,l.getD 6 0==1⟩,l.getD 7 0,l.getD 8 0,l.getD 9 0,l.getD 10 0,l.getD 11 0⟩
noncomputable def NU (p:List Int)(s:ae):Int→Option az:=fun a=>((gI p).many 12 a).bind fun y=>zk (cfL s y.1) (zJ p (zU p) (wu p) (cfL s y.1)) y.2
section
variable {p:List Int} (hb:du p) (hp:p.length≤1048576)
include hb hp
theorem TG:Je (ql p) (Jq p) ⟨[]⟩:=fun a c=>by
 unfold ql Jq Pz.map;rw [Ks hb hp a c]
 cases cK p (cK p (gI p)) a with
 | none=>rfl
 | some y=>rfl
theorem VT:Je (sG p) (zU p) zM:=fun a c=>by
 have st:=(wA hb hp).i64;have sw:=(xz hb hp).i64;unfold sG zU Pz.bind;rw [OI hb hp a c];simp only [bS]
 cases g:xu p a with
 | none=>rfl
 | some y0 =>
 have d:=st a _ _ c g;simp only [cS];rw [Kl hb hp _ d];simp only [bS]
 cases h1:gI p y0.2 with
 | none=>rfl
 | some y1 =>
 have e:=(so hb hp).i64 _ _ _ d h1;simp only [cS];rw [OI hb hp _ e];simp only [bS]
 cases h:xu p y1.2 with
 | none=>rfl
 | some y2 =>
 have f:=st _ _ _ e h;simp only [cS];rw [TG hb hp _ f];simp only [bS]
 cases i:Jq p y2.2 with
 | none=>rfl
 | some y3 =>
 have j:=sw _ _ _ f i;simp only [cS];rw [TG hb hp _ j];simp only [bS]
 cases k:Jq p y3.2 with
 | none=>rfl
 | some y4=>rfl
omit hb hp in
theorem UU {n s t:Int}{u q1:Bool}{vs:List Int}(C:0≤n∧n≤20)(D:vs.length=2*n.toNat)(a:ae×Bool)(c d e f g h j m o p q r:Int)(ms:List av)(rows:List (List Int)) :
  fF (n,s,u) (vs,t,q1) a c d e f g h j m o p q r ms rows aY [] 0=some (⟨⟨a.1,⟨c,d,e,f,g,h,j==1⟩,m,o,p,q,r⟩,⟨ms⟩,⟨rows,yQ n.toNat vs⟩⟩,true):=by
 refine wm (n:=n.toNat) (fun i=>(⟨vs.getD (2*i) 0,vs.getD (2*i+1) 0⟩:aC)) (fun k l i=>fF (n,s,u) (vs,t,q1) a c d e f g h j m o p q r ms rows k l i) (fun l=>some (⟨⟨a.1,⟨c,d,e,f,g,h,j==1⟩,m,o,p,q,r⟩,⟨ms⟩,⟨rows,l⟩⟩,true)) (fun k l=>?_) (fun k l i E A=>?_) (by omega)
 ·show fF (n,s,u) (vs,t,q1) a c d e f g h j m o p q r ms rows (k+1) l _=_;rw [fF,if_neg (by rw [decide_eq_true_iff];show ¬((n.toNat:Int)<n);omega)]
 show fF (n,s,u) (vs,t,q1) a c d e f g h j m o p q r ms rows (k+1) l _=_;have x:IntKind.i64.wrap (2*(i:Int))=((2*i:Nat):Int):=by rw [aP (by omega) (by omega)];omega
 have v:2*i<vs.length:=by omega
 have w:2*i+1<vs.length:=by omega
 rw [fF,if_pos (by rw [decide_eq_true_iff];show (i:Int)<n;omega),x,ax (by omega),aH v,aH w];simp only [bS];rw [bC (by simp;omega),ax (by omega)];simp [v,w]
theorem Oe (e:ae×Bool)(f g i j k l m o q r s t:Int)(ms:List av)(rows:List (List Int)){a:Int}(D:I64 a) :
  ((ep p a).bind fun d=>(if (!d.2.2) then some true else (aM d.1 0 20).bind fun x=>some (!x)).bind fun A=>if A then some (zT,false) else (eX p d.2.1 (IntKind.i64.wrap (2*d.1))).bind fun u=>if (!u.2.2) then some (zT,false) else fF d u e f g i j k l m o q r s t ms rows aY [] 0) =
   some (out ((wu p a).bind fun y3=>some ⟨⟨e.1,⟨f,g,i,j,k,l,m==1⟩,o,q,r,s,t⟩,⟨ms⟩,⟨rows,y3.1⟩⟩)):=by
 unfold wu;rw [Kl hb hp a D];simp only [bS]
 cases F:gI p a with
 | none=>rfl
 | some y =>
 obtain ⟨n,b⟩:=y;have E:=(so hb hp).i64 _ _ _ D F;simp only [cS];by_cases v:0≤n∧n≤20
 ·have C:aM n 0 20=some true:=by unfold aM;rw [decide_eq_true v.1,decide_eq_true v.2];rfl
  have w:IntKind.i64.wrap (2*n)=((2*n.toNat:Nat):Int):=by rw [aP (by omega) (by omega)];omega
  rw [C,if_pos v,w];simp only [cS];rw [DL hb hp (2*n.toNat) b (by omega) E];simp only [bS]
  cases G:(gI p).many (2*n.toNat) b with
  | none=>rfl
  | some z =>
  obtain ⟨vs,c⟩:=z;obtain ⟨L,H,M⟩:=pG (so hb hp) _ _ _ _ E G;simp only [cS];exact UU v H e f g i j k l m o q r s t ms rows
 have C:aM n 0 20=some false:=by
  unfold aM;congr 1;rw [Bool.eq_false_iff];intro h;simp at h;omega
 rw [C,if_neg v];rfl
theorem TV (c:ae×Bool)(E:c.1.f_.length≤1000000)(e f g h j m o q r s t u:Int)(ms:List av){a:Int}(A:I64 a) :
  jy c p e f g h j m o q r s t u ms aY [] 0 a =
   some (out (((cK p (gI p)).many (((c.1.f_.length:Nat):Int)).toNat a).bind fun y2=>(wu p y2.2).bind fun y3=>some ⟨⟨c.1,⟨e,f,g,h,j,m,o==1⟩,q,r,s,t,u⟩,⟨ms⟩,⟨y2.1,y3.1⟩⟩)):=by
 have:=DQ (Ib hb hp) (oz hb hp) hp (n:=(c.1.f_.length:Int)) (by omega) (fun k l i a=>jy c p e f g h j m o q r s t u ms k l i a)
  (fun l a=>(ep p a).bind fun d=>(if (!d.2.2) then some true else (aM d.1 0 20).bind fun w=>some (!w)).bind fun x=>if x then some (zT,false) else (eX p d.2.1 (IntKind.i64.wrap (2*d.1))).bind fun v=>if (!v.2.2) then some (zT,false) else fF d v c e f g h j m o q r s t u ms l aY [] 0) (some (zT,false)) (fun k l i a=>by
   show jy c p e f g h j m o q r s t u ms (k+1) l i a=_;rw [jy]) (((c.1.f_.length:Nat):Int)).toNat aY 0 a [] (by omega) (cx (by omega)) (by omega) (by simp) (by omega) A
 refine this.trans ?_
 cases C:(cK p (gI p)).many (((c.1.f_.length:Nat):Int)).toNat a with
 | none=>rfl
 | some z =>
 have D:=(pG (Ba hb hp) _ _ _ _ A C).1;exact Oe hb hp c e f g h j m o q r s t u ms ([]++z.1) D
theorem TY (d:ae×Bool)(w:d.1.f_.length≤1000000)(e f g h j m o c q r s t:Int)(u:c≤1000000){a:Int}(v:I64 a) :
  jx c p d e f g h j m o q r s t aY [] 0 a=some (out (zJ p (zU p) (wu p) ⟨d.1,⟨e,f,g,h,j,m,o==1⟩,c,q,r,s,t⟩ a)):=by
 have:=DQ (VT hb hp) (Od hb hp) hp (n:=c) (by omega) (fun k l i a=>jx c p d e f g h j m o q r s t k l i a)
  (fun l a=>jy d p e f g h j m o c q r s t l aY [] 0 a) (some (zT,false)) (fun k l i a=>by
   show jx c p d e f g h j m o q r s t (k+1) l i a=_;rw [jx]) c.toNat aY 0 a [] (by omega) (cx (by omega)) (by omega) (by simp) (by omega) v
 refine this.trans ?_;unfold zJ
 cases u:(zU p).many c.toNat a with
 | none=>rfl
 | some z =>
 have x:=(pG (MO hb hp) _ _ _ _ v u).1;exact TV hb hp d w e f g h j m o c q r s t ([]++z.1) x
theorem PQ (a:ae×Bool)(C:ba a.1){vs:List Int}{b:Int}(Z:vs.length=12)(hb':I64 b) :
  ((idx vs 0).bind fun g=>(idx vs 1).bind fun j=>(idx vs 2).bind fun k=>(idx vs 3).bind fun l=>(idx vs 4).bind fun m=>(idx vs 5).bind fun o=>(idx vs 6).bind fun q=>(idx vs 7).bind fun r=>(idx vs 8).bind fun s=>(idx vs 9).bind fun t=>(idx vs 10).bind fun u=>(idx vs 11).bind fun v=>(lx (aU.mk a.1 (bA.mk g j k l m o (q==1)) r s t u v)).bind fun w=>if (!w) then some (zT,false) else jx r p a g j k l m o q s t u v aY [] 0 b) =
   some (out (zk (cfL a.1 vs) (zJ p (zU p) (wu p) (cfL a.1 vs)) b)):=by
 have d:∀i:Nat,i<12→idx vs (i:Int)=some (vs.getD i 0):=fun i hi=>by
  have h:i<vs.length:=by omega
  rw [aH h];simp [h]
 have D:idx vs 0=some (vs.getD 0 0):=d 0 (by omega);have h1:idx vs 1=some (vs.getD 1 0):=d 1 (by omega);have E:idx vs 2=some (vs.getD 2 0):=d 2 (by omega);have F:idx vs 3=some (vs.getD 3 0):=d 3 (by omega);have G:idx vs 4=some (vs.getD 4 0):=d 4 (by omega);have H:idx vs 5=some (vs.getD 5 0):=d 5 (by omega);have L:idx vs 6=some (vs.getD 6 0):=d 6 (by omega);have M:idx vs 7=some (vs.getD 7 0):=d 7 (by omega);have P:idx vs 8=some (vs.getD 8 0):=d 8 (by omega);have Q:idx vs 9=some (vs.getD 9 0):=d 9 (by omega);have x:idx vs 10=some (vs.getD 10 0):=d 10 (by omega);have A:idx vs 11=some (vs.getD 11 0):=d 11 (by omega);rw [D,h1,E,F,G,H,L,M,P,Q,x,A];simp only [bS];show (lx (cfL a.1 vs)).bind _=_;unfold zk;rcases (Aw (c:=cfL a.1 vs) C).cases with ⟨e,f⟩|⟨e,f⟩
 ·rw [e,if_pos f];simp only [cS];have R:a.1.f_.length≤1000000:=by have:(a.1.f_.length:Int)≤3:=f.1.2.1.2;omega
  have X:vs.getD 7 0≤1000000:=by have:vs.getD 7 0≤4:=f.2.2.1.2;omega
  exact TY hb hp a R _ _ _ _ _ _ _ _ _ _ _ _ X hb'
 rw [e,if_neg f];rfl
end
end Go.Vk
/- States are read as they were written. -/
namespace Go.Vk
theorem Rv {p:List Int}{a:Int}(hb:du p)(hp:p.length≤1048576)(t:0≤a)(h1:a≤1000000000):∀(d k i u:Nat),5-i=d→d<k→i≤5→u<128^i→∀r,fy a p k (u:Int) (i:Int)=some r→0≤r.1:=by
 intro d
 induction d with
 | zero =>
  intro k i u g hk h c r e;obtain ⟨k,rfl⟩:=kS k (by omega);rw [fy,if_neg (by simp;omega)] at e;obtain rfl:=Option.some.inj e;exact Int.le_refl 0
 | succ d ih =>
  intro k i u g hk h c r e;obtain ⟨k,rfl⟩:=kS k (by omega);have l:IntKind.i64.wrap ((p.length:Int)-(i:Int))=(p.length:Int)-i:=aP (by omega) (by omega);rw [fy,if_pos (by simp;omega),l] at e;by_cases v:a+i<p.length
  ·have m:IntKind.i64.wrap (a+(i:Int))=a+i:=aP (by omega) (by omega);obtain ⟨j,o⟩:∃j:Nat,a+(i:Int)=(j:Int):=⟨(a+i).toNat,by omega⟩;rw [m,if_neg (by simp;omega),o,aH (show j<p.length by omega)] at e;simp only [bS] at e;obtain ⟨n,q,s⟩:=FG hb (show j<p.length by omega);rw [q,fm (n:=n) (by omega),show Int.tmod (n:Int) 128=((n%128:Nat):Int) from qa n 128,Dm _ (show 0≤IntKind.i64.wrap (7*(i:Int)) by rw [aP (by omega) (by omega)];omega)] at e;simp only [bS] at e;have f:n%128<128:=Nat.mod_lt _ (by omega);rw [BZ f (by omega),Oi c f (by omega)] at e;split at e
   ·split at e
    ·obtain rfl:=Option.some.inj e;exact Int.le_refl 0
    obtain rfl:=Option.some.inj e;exact Int.natCast_nonneg _
   rw [ax (by omega)] at e;refine ih k (i+1) _ (by omega) (by omega) (by omega) ?_ r e;have:n%128*128^i≤127*128^i:=Nat.mul_le_mul_right _ (by omega);rw [Nat.pow_succ];omega
  rw [if_pos (by simp;omega)] at e;obtain rfl:=Option.some.inj e;exact Int.le_refl 0
theorem MD (l:List Int):(eU l).length=l.length:=by simp [eU]
theorem MN (w:List UInt8):eU (byS w)=w:=by
 unfold eU byS;rw [List.map_map];conv=>rhs;rw [←List.map_id w]
 refine List.map_congr_left fun b _=>?_;show UInt8.ofNat ((b.toNat:Int)).toNat=b;rw [Int.toNat_natCast];simp
theorem Sr {a b:Int}(c:0≤a∧a≤255)(hb:0≤b∧b≤255)(h:UInt8.ofNat a.toNat=UInt8.ofNat b.toNat):a=b:=by
 have:=congrArg UInt8.toNat h;simp only [UInt8.toNat_ofNat'] at this;omega
theorem Gc:∀{a b:List Int},du a→du b→eU a=eU b→a=b
 | [],[],_,_,_=>rfl
 | [],y::b,_,_,h=>by simp [eU] at h
 | x::a,[],_,_,h=>by simp [eU] at h
 | x::a,y::b,d,hb,h=>by
  simp only [eU,List.map_cons,List.cons.injEq] at h;rw [Sr (d x (by simp)) (hb y (by simp)) h.1,Gc (fun z c=>d z (by simp [c])) (fun z c=>hb z (by simp [c])) h.2]
theorem uL {a b:List Int}(c:du a)(hb:du b):(eU a==eU b)=decide (a=b):=by
 rw [Bool.eq_iff_iff,beq_iff_eq,decide_eq_true_iff];exact ⟨Gc c hb,fun h=>by rw [h]⟩
section
variable {p:List Int} (hb:du p) (hp:p.length≤1048576)
include hb hp
theorem zw:∃r,oy p 4=some r∧sB p 4=some r∧(r.2.2=true→r.1.length≤1048575∧I64 r.2.1):=by
 obtain ⟨y,c,d,h⟩:=FW hb hp (a:=4) ⟨by omega,by omega⟩;unfold oy sB;rw [c,d];simp only [bS];rcases h with ⟨h1,g,i,j⟩|rfl
 ·have k:0≤y.1:=Rv hb hp (a:=4) (by omega) (by omega) 5 aY 0 0 (by omega) (cx (by omega)) (by omega) (by simp) y c;rw [h1,aP (n:=(p.length:Int)-y.2.1) (by omega) (by omega)];by_cases f:y.1>(p.length:Int)-y.2.1
  ·rw [if_pos (by simp [f])];exact ⟨_,rfl,rfl,fun h=>by cases h⟩
  rw [if_neg (by simp;omega),aP (n:=y.2.1+y.1) (by omega) (by omega)];have e:sub p y.2.1 (y.2.1+y.1)=some ((p.drop y.2.1.toNat).take ((y.2.1+y.1).toNat-y.2.1.toNat)):=if_pos ⟨by omega,by omega,by omega⟩;rw [e];refine ⟨_,rfl,rfl,fun _=>⟨?_,?_,?_⟩⟩
  ·show (eU _).length≤_;rw [MD,List.length_take,List.length_drop];omega
  ·show -9223372036854775808≤y.2.1+y.1;omega
  show y.2.1+y.1≤_;omega
 exact ⟨_,rfl,rfl,fun h=>by cases h⟩
omit hb in
theorem LV {w:List UInt8}{pre post:List Int}(k:w.length≤3000)(d:pre.length=4)(e:p=pre++tA w++post):oy p 4=some (w,((pre.length+(tA w).length:Nat):Int),true):=by
 have c:=congrArg List.length e;simp only [List.length_append,tA,vM] at c;have:=Im (p:=p) (a:=pre.length) hp (n:=w.length) (by omega) 5 aY 0 (by omega) (cx (by omega)) (by omega) (by omega) ⟨byS w++post,by rw [e];simp [tA]⟩;simp only [Nat.pow_zero,Nat.mod_one,Nat.div_one,Nat.add_zero] at this;have f:qf p 4=some ((w.length:Int),((pre.length+(tw w.length).length:Nat):Int),true):=by rw [d] at this ⊢;exact this
 unfold oy;rw [f];simp only [bS];rw [aP (by omega) (by omega),if_neg (by simp;omega),aP (by omega) (by omega)];have g:((pre.length+(tw w.length).length:Nat):Int)+(w.length:Int)=((pre.length+(tw w.length).length+w.length:Nat):Int):=by omega
 have h:(p.drop (pre.length+(tw w.length).length)).take (pre.length+(tw w.length).length+w.length-(pre.length+(tw w.length).length))=byS w:=by
  have i:p=(pre++tw w.length)++(byS w++post):=by rw [e];simp [tA]
  have j:pre.length+(tw w.length).length=(pre++tw w.length).length:=by rw [List.length_append]
  rw [i,j,List.drop_left,Nat.add_sub_cancel_left,←vM w,List.take_left]
 rw [g,xZ (by omega) (by omega),h];simp only [Option.bind_some,tA,List.length_append,vM,MN,Nat.add_assoc]
end
def RdG (l:List Int)(G:Int→Option az)(B:List Int)(st:az):Prop:=∀pre post,l=pre++B++post→G (pre.length:Int)=some st
theorem kT {l:List Int}{α:Type}{P:Pz α}{G:α×Int→Option az}{B C:List Int}{x:α}{st:az}(h:ta l P B x)(k:RdG l (fun a=>G (x,a)) C st):RdG l (fun a=>(P a).bind G) (B++C) st:=fun pre post e=>by
 show (P _).bind G=_;rw [h pre (C++post) (by rw [e];simp)];simp only [bS];have:=k (pre++B) post (by rw [e];simp);rw [List.length_append] at this;exact this
theorem UM {l:List Int}(st:az):RdG l (fun _=>some st) [] st:=fun _ _ _=>rfl
theorem Mr {l B:List Int}{c:aU}{G:Int→Option az}{st:az}(a:uy c)(h:RdG l G B st):RdG l (zk c G) B st:=fun pre post e=>by
 unfold zk;rw [if_pos a];exact h pre post e
theorem NH {l:List Int}{α:Type}{P:Pz α}{B C:List Int}{x:α}(e:C=B)(h:ta l P B x):ta l P C x:=by rw [e];exact h
section
variable {l:List Int} (hp:l.length≤1048576)
include hp
theorem Sc {m:av}(h:Sw m):ta l (Nd l) (wd m) m:=by
 obtain ⟨⟨f,_,a,c⟩,⟨y1,_,y2,y3⟩,⟨g,d⟩,⟨i,e⟩⟩:=h;refine NH (B:=vu m.C_++(dZ (wI m.R_)++(vu m.u_++(Dn m.G_.x_++(Dn m.G_.y_++[]))))) (by unfold wd;simp) ?_;exact fp (Dw hp a c (by omega)) (fp (HI hp m.R_) (fp (Dw hp y2 y3 (by omega)) (fp (Hf hp d (by omega)) (fp (Hf hp e (by omega)) (DY m)))))
theorem TA {m:av}(h:Sw m):ta l (zU l) (wd m) m:=by
 obtain ⟨⟨g,_,a,c⟩,⟨y1,_,y2,y3⟩,⟨i,d⟩,⟨j,f⟩⟩:=h;refine NH (B:=vu m.C_++(dZ (wI m.R_)++(vu m.u_++(Dn m.G_.x_++(Dn m.G_.y_++[]))))) (by unfold wd;simp) ?_
 have e:m=⟨m.C_,wI m.R_==1,m.u_,⟨m.G_.x_,m.G_.y_⟩⟩:=by
  have:(wI m.R_==1)=m.R_:=by cases m.R_<;>rfl
  rw [this]
 have:ta l (zU l) (vu m.C_++(dZ (wI m.R_)++(vu m.u_++(Dn m.G_.x_++(Dn m.G_.y_++[]))))) ⟨m.C_,wI m.R_==1,m.u_,⟨m.G_.x_,m.G_.y_⟩⟩:=by
  unfold zU;refine fp (Dw hp a c (by omega)) ?_;refine fp (ng hp (Do m.R_)) ?_;refine fp (Dw hp y2 y3 (by omega)) ?_;refine fp (Hf hp d (by omega)) ?_;refine fp (Hf hp f (by omega)) ?_;exact DY _
 rw [←e] at this;exact this
theorem QZ {xs:List aC}(c:xs.length≤1000000)(h:∀x∈xs,InR x.aa_∧InR x.Y_):ta l (cK l (BP l)) (dZ xs.length++xs.flatMap qU) xs :=
 AO hp c fun x a=>NH (B:=dZ x.aa_++(dZ x.Y_++[])) (by unfold qU;simp) (fp (ng hp (h x a).1) (fp (ng hp (h x a).2) (DY x)))
def yp (xs:List aC):List Int:=xs.flatMap fun x=>[x.aa_,x.Y_]
omit hp in
theorem Ku:∀(xs:List aC)(i:Nat)(h:i<xs.length),(yp xs).getD (2*i) 0=xs[i].aa_∧(yp xs).getD (2*i+1) 0=xs[i].Y_
 | [],i,h=>by simp at h
 | x::xs,0,h=>⟨rfl,rfl⟩
 | x::xs,i+1,h=>by
  have:=Ku xs i (by simpa using h);have e:yp (x::xs)=x.aa_::x.Y_::yp xs:=rfl;rw [e,show 2*(i+1)=2*i+1+1 by omega];exact this
omit hp in
theorem Qr (xs:List aC):(yp xs).length=2*xs.length:=by
 induction xs with
 | nil=>rfl
 | cons x xs ih =>
  have e:yp (x::xs)=x.aa_::x.Y_::yp xs:=rfl;rw [e];simp only [List.length_cons,ih];omega
omit hp in
theorem FR (xs:List aC):(yp xs).flatMap dZ=xs.flatMap qU:=by
 induction xs with
 | nil=>rfl
 | cons x xs ih =>
  have e:yp (x::xs)=x.aa_::x.Y_::yp xs:=rfl;rw [e,List.flatMap_cons,List.flatMap_cons,ih,List.flatMap_cons,qU,List.append_assoc]
omit hp in
theorem Lo (xs:List aC):yQ xs.length (yp xs)=xs:=by
 apply List.ext_getElem (by simp [yQ]);intro i h1 a;obtain ⟨c,d⟩:=Ku xs i a;simp only [yQ,List.getElem_map,List.getElem_range,c,d]
theorem Rw {xs:List aC}(g:xs.length≤20)(h:∀x∈xs,InR x.aa_∧InR x.Y_):ta l (wu l) (dZ xs.length++xs.flatMap qU) xs:=fun pre post e=>by
 have f:∀x∈yp xs,InR x:=fun x a=>by
  obtain ⟨y,c,a⟩:=List.mem_flatMap.1 a;simp only [List.mem_cons,List.not_mem_nil,or_false] at a;rcases a with rfl|rfl
  ·exact (h y c).1
  exact (h y c).2
 have h1:=ng hp (By (n:=xs.length) (by omega)) pre (xs.flatMap qU++post) (by rw [e];simp);have d:=Ak (l:=l) (P:=gI l) (B:=dZ) (yp xs) (fun x a=>ng hp (f x a)) (pre++dZ xs.length) post (by rw [e,FR];simp);rw [Qr,FR,List.length_append] at d;unfold wu;rw [h1];simp only [bS];rw [if_pos ⟨by omega,by omega⟩,Int.toNat_natCast,d];simp only [Option.bind_some,Lo,List.length_append,Nat.add_assoc]
theorem Nf {st:az}(a:qR st)(h:StG st){M:Pz av}{L:Pz (List aC)}(d:∀m∈st.Z_.t_,ta l M (wd m) m)(f:ta l L (dZ st.I_.s_.length++st.I_.s_.flatMap qU) st.I_.s_) :
  RdG l (zJ l M L st.d_) (st.Z_.t_.flatMap wd++tB st) st:=by
 have g:st.d_.t_.toNat=st.Z_.t_.length:=by have:=a.1.2.1;omega
 have i:(((st.d_.w_.f_.length:Nat):Int)).toNat=st.I_.r_.length:=by
  have:=a.2.2.1;rw [Int.toNat_natCast];omega
 have k:RdG l (zJ l M L st.d_) (st.Z_.t_.flatMap wd++(st.I_.r_.flatMap kE++((dZ st.I_.s_.length++st.I_.s_.flatMap qU)++[]))) st:=by
  unfold zJ;rw [g,i];refine kT (Ak _ d) ?_;dsimp only;refine kT (Ak (B:=kE) _ fun r c=>yJ hp (by have:=(h.row r c).2;omega) (h.row r c).1) ?_;dsimp only;exact kT f (UM st)
 have e:tB st=st.I_.r_.flatMap kE++((dZ st.I_.s_.length++st.I_.s_.flatMap qU)++[]):=by unfold tB;simp
 rw [e];exact k
theorem Up {st:az}(a:qR st)(h:StG st):RdG l (KK l st.d_.w_) (mo (mS st++nf st)++(st.Z_.t_.flatMap wd++tB st)) st:=by
 have d:=h.numA;have f:=h.numC;simp only [mS,nf,List.mem_cons,List.not_mem_nil,or_false,forall_eq_or_imp,forall_eq] at d f;obtain ⟨g,i,j,k,o,p,r⟩:=d;obtain ⟨c0,c1,c2,c3,c4⟩:=f
 have e:mo (mS st++nf st)++(st.Z_.t_.flatMap wd++tB st)=dZ st.d_.e_.T_++(dZ st.d_.e_.S_++(dZ st.d_.e_.U_++(dZ st.d_.e_.o_++(dZ st.d_.e_.b_++(dZ st.d_.e_.L_++(dZ (wI st.d_.e_.P_)++(dZ st.d_.t_++(dZ st.d_.V_++(dZ st.d_.X_++(dZ st.d_.x_++(dZ st.d_.y_++(st.Z_.t_.flatMap wd++tB st)))))))))))):=by
  simp [mS,nf,mo]
 rw [e];unfold KK;refine kT (ng hp g) ?_;dsimp only;refine kT (ng hp i) ?_;dsimp only;refine kT (ng hp j) ?_;dsimp only;refine kT (ng hp k) ?_;dsimp only;refine kT (ng hp o) ?_;dsimp only;refine kT (ng hp p) ?_;dsimp only;refine kT (HI hp st.d_.e_.P_) ?_;dsimp only;refine kT (ng hp c0) ?_;dsimp only;refine kT (ng hp c1) ?_;dsimp only;refine kT (ng hp c2) ?_;dsimp only;refine kT (ng hp c3) ?_;dsimp only;refine kT (ng hp c4) ?_;dsimp only;exact Mr (c:=st.d_) a.1.1 (Nf hp a h (fun m q=>Sc hp (h.mem m q)) (QZ hp (by have:=h.lasts;omega) h.last))
theorem Vm {st:az}(c:qR st)(h:StG st):RdG l (NU l st.d_.w_) (mo (mS st++nf st)++(st.Z_.t_.flatMap wd++tB st)) st:=by
 have e:cfL st.d_.w_ (mS st++nf st)=st.d_:=by
  have:(wI st.d_.e_.P_==1)=st.d_.e_.P_:=by cases st.d_.e_.P_<;>rfl
  show (⟨st.d_.w_,⟨_,_,_,_,_,_,wI st.d_.e_.P_==1⟩,_,_,_,_,_⟩:aU)=_;rw [this];rfl
 have d:∀x∈mS st++nf st,InR x:=fun x a=>(List.mem_append.1 a).elim (h.numA x) (h.numC x);unfold NU;refine kT (Ak (B:=dZ) (mS st++nf st) fun x a=>ng hp (d x a)) ?_;show RdG l (zk (cfL st.d_.w_ (mS st++nf st)) (zJ l (zU l) (wu l) (cfL st.d_.w_ (mS st++nf st)))) _ st;rw [e];exact Mr c.1.1 (Nf hp c h (fun m f=>TA hp (h.mem m f)) (Rw hp h.lasts h.last))
end
end Go.Vk
/- States out of their bytes: alike. -/
namespace Go.Vk
def Ou (G:Int→Option az):Prop:=∀a st,I64 a→G a=some st→jP st
theorem jo {α:Type}{P:Pz α}{Q:α→Prop}{G:α×Int→Option az}(h:Sat P Q)(k:∀v,Q v→Ou (fun b=>G (v,b))):Ou (fun a=>(P a).bind G):=fun a st c e=>by
 obtain ⟨y,d,f⟩:=cQ e;obtain ⟨i,q⟩:=h a y.1 y.2 c d;exact k y.1 q y.2 st i f
theorem Kt {c:aU}{G:Int→Option az}(h:uy c→Ou G):Ou (zk c G):=fun a st d e=>by
 unfold zk at e;split at e
 ·rename_i f;exact h f a st d e
 cases e
theorem JJ {p:List Int}(hb:du p)(hp:p.length≤1048576){M:Pz av}{L:Pz (List aC)}{c:aU}(g:DH c)(d:uy c)(h:Sat M rJ)(i:Sat L Bj):Ou (zJ p M L c):=by
 unfold zJ;refine jo (pG h _) fun ms h1=>?_;dsimp only;refine jo (pG (Ba hb hp) _) fun rows f=>?_;dsimp only;refine jo i fun last j=>fun a st l e=>?_;obtain rfl:=Option.some.inj e;have m:c.t_≤4:=d.2.2.1.2;have o:(c.w_.f_.length:Int)≤3:=d.1.2.1.2;exact ⟨g,⟨by show ms.length≤_;have:=h1.1;omega,h1.2⟩,⟨by show rows.length≤_;have:=f.1;omega,fun y k=>Ic (f.2 y k)⟩,j⟩
section
variable {p:List Int} (hb:du p) (hp:p.length≤1048576)
include hb hp
theorem Qk:Sat (wu p) Bj:=fun a v b f e=>by
 unfold wu at e;obtain ⟨y,g,e⟩:=cQ e;have h:=(so hb hp).i64 _ _ _ f g;split at e
 ·rename_i o;obtain ⟨z,j,e⟩:=cQ e;obtain ⟨rfl,rfl⟩:=Prod.mk.inj (Option.some.inj e);obtain ⟨k,h1,l⟩:=pG (so hb hp) _ _ _ _ h j
  have d:∀i,InR (z.1.getD i 0):=fun i=>by
   by_cases c:i<z.1.length
   ·have e:z.1.getD i 0=z.1[i]:=by simp [c]
    rw [e];exact l _ (List.getElem_mem c)
   have e:z.1.getD i 0=0:=by simp [c]
   rw [e];exact ⟨by omega,by omega⟩
  refine ⟨k,by show (yQ _ _).length≤_;simp [yQ];omega,fun x m=>?_⟩;obtain ⟨i,_,rfl⟩:=List.mem_map.1 m;exact ⟨oO (d _),oO (d _)⟩
 cases e
theorem SJ {s:ae}(d:ba s):Ou (KK p s):=by
 have i:=so hb hp;unfold KK;refine jo i fun v0 e=>?_;dsimp only;refine jo i fun t h1=>?_;dsimp only;refine jo i fun u f=>?_;dsimp only;refine jo i fun v g=>?_;dsimp only;refine jo i fun w h=>?_;dsimp only;refine jo i fun x j=>?_;dsimp only;refine jo (Ah hb hp) fun A _=>?_;dsimp only;refine jo i fun C k=>?_;dsimp only;refine jo i fun D l=>?_;dsimp only;refine jo i fun E m=>?_;dsimp only;refine jo i fun q a=>?_;dsimp only;refine jo i fun r c=>?_;dsimp only;exact Kt fun o=>JJ hb hp ⟨d,⟨oO e,oO h1,oO f,oO g,oO h,oO j,trivial⟩,oO k,oO l,oO m,oO a,oO c⟩ o (Mb hb hp) (Ds hb hp (Iz hb hp) (TI hb hp))
theorem Sj {s:ae}(d:ba s):Ou (NU p s):=by
 unfold NU;refine jo (pG (so hb hp) 12) fun vs f=>?_;dsimp only
 have a:∀i,-9223372036854775808≤vs.getD i 0∧vs.getD i 0≤9223372036854775807:=fun i=>by
  by_cases c:i<vs.length
  ·have e:vs.getD i 0=vs[i]:=by simp [c]
   rw [e];exact oO (f.2 _ (List.getElem_mem c))
  have e:vs.getD i 0=0:=by simp [c]
  rw [e];exact ⟨by omega,by omega⟩
 exact Kt fun g=>JJ hb hp ⟨d,⟨a 0,a 1,a 2,a 3,a 4,a 5,trivial⟩,a 7,a 8,a 9,a 10,a 11⟩ g (MO hb hp) (Qk hb hp)
theorem Vw {w:List UInt8}{a:Int}{s:ae}(h1:oy p 4=some (w,a,true))(e:mX w=some (s,true))(f:ba s)(d:I64 a):km p=some (out (NU p s a)):=by
 have g:eX p a 12=some (match (gI p).many 12 a with|some (vs,c)=>(vs,c,true)|none=>([],0,false)):=DL hb hp 12 a (by omega) d;unfold km NU;rw [h1];simp only [cS];rw [e];simp only [Option.bind_some,Bool.not_true,Bool.false_or];rw [g];simp only [bS]
 cases h:(gI p).many 12 a with
 | none=>rfl
 | some z =>
 obtain ⟨vs,c⟩:=z;obtain ⟨i,j,k⟩:=pG (so hb hp) _ _ _ _ d h;exact PQ hb hp (s,true) f j i
theorem Qq:Tot (km p) (fun r=>r.2=true→jP r.1):=by
 obtain ⟨⟨w,a,q⟩,e,_,h⟩:=zw hb hp
 cases q with
 | false =>
  unfold km;rw [e];exact ar fun h=>by cases h
 | true =>
  obtain ⟨i,f⟩:=h rfl;obtain ⟨⟨s,q⟩,g,d⟩:=(DS i).1
  cases q with
  | true =>
   have d:=(d rfl).2;rw [Vw hb hp e g d f];refine ar ?_
   cases h:NU p s a with
   | none=>intro h;cases h
   | some st=>exact fun _=>Sj hb hp d a st f h
  | false =>
   unfold km;rw [e];simp only [cS];rw [g];simp only [Option.bind_some,Bool.not_false,Bool.true_or,if_true];have j:eX p a 12=some (match (gI p).many 12 a with|some (vs,c)=>(vs,c,true)|none=>([],0,false)):=DL hb hp 12 a (by omega) f;rw [j];exact ar fun h=>by cases h
theorem VC {w:List UInt8}{a:Int}{s:ae}(h1:sB p 4=some (w,a,true))(c:na w=some (s,true))(d:ba s)(f:I64 a) :
  (∀st,KK p s a=some st→fA p=some (st,true))∧(KK p s a=none→∃v,fA p=some (v,false)):=by
 have hk:=(SA hb hp (s,true) d).2 a f
 have e:fA p=Tl p (s,true) ⟨a,false⟩:=by
  unfold fA;rw [h1];simp only [cS];rw [c];simp only [cS];rfl
 rw [e];exact hk
theorem QH:Tot (fA p) (fun r=>r.2=true→jP r.1):=by
 obtain ⟨⟨w,a,q⟩,_,d,h⟩:=zw hb hp
 cases q with
 | false =>
  unfold fA;rw [d];exact ar fun h=>by cases h
 | true =>
  obtain ⟨i,f⟩:=h rfl;obtain ⟨⟨s,q⟩,g,c⟩:=(DS i).2
  cases q with
  | true =>
   have c:=(c rfl).2;obtain ⟨j,k⟩:=VC hb hp d g c f
   cases h:KK p s a with
   | none =>
    obtain ⟨v,e⟩:=k h;rw [e];exact ar fun h=>by cases h
   | some st =>
    rw [j st h];exact ar fun _=>SJ hb hp c a st f h
  | false =>
   unfold fA;rw [d];simp only [cS];rw [g];exact ar fun h=>by cases h
end
theorem NA {st:az}(a:jP st)(c:qR st):km (qM st)=some (st,true)∧fA (qM st)=some (st,true):=by
 have d:=stG a c;have q:=HL d;have hb:=za st;obtain ⟨_,_,g⟩:=xA a.1.1 c.1.1.1;have eB:qM st=[83,80,78,1]++tA (kj st.d_.w_)++(mo (mS st++nf st)++(st.Z_.t_.flatMap wd++tB st)):=by unfold qM zO;simp
 have e:=LV (p:=qM st) (by omega) g (pre:=[83,80,78,1]) rfl eB;obtain ⟨r,h,i,j⟩:=zw hb (p:=qM st) (by omega);obtain rfl:=Option.some.inj (e.symm.trans h);obtain ⟨_,f⟩:=j rfl;obtain ⟨m,o⟩:=LC a.1.1 c.1.1.1;have ePos:([83,80,78,1]++tA (kj st.d_.w_)).length=([83,80,78,1]:List Int).length+(tA (kj st.d_.w_)).length:=by rw [List.length_append]
 refine ⟨?_,?_⟩
 ·have k:=Vm (l:=qM st) (by omega) c d ([83,80,78,1]++tA (kj st.d_.w_)) [] (by rw [List.append_nil];exact eB);rw [ePos] at k;rw [Vw hb (by omega) e m a.1.1 f,k];rfl
 have k:=Up (l:=qM st) (by omega) c d ([83,80,78,1]++tA (kj st.d_.w_)) [] (by rw [List.append_nil];exact eB);rw [ePos] at k;exact (VC hb (by omega) i o a.1.1 f).1 st k
def SN (p:List Int)(st:az):Prop:=jP st∧qR st∧fb st=some p
theorem Ft {p:List Int}{st:az}(h:SN p st):p.take (p.length-4)=qM st∧gr st=some p:=by
 obtain ⟨s,_,_,a,c,d⟩:=DP h.1 h.2.1;obtain rfl:=Option.some.inj (c.symm.trans h.2.2);refine ⟨?_,d⟩;rw [List.length_append,a,Nat.add_sub_cancel,List.take_left]
theorem Qb {p:List Int}{st:az}(h:SN p st):km (p.take (p.length-4))=some (st,true)∧fA (p.take (p.length-4))=some (st,true):=by
 rw [(Ft h).1];exact NA h.1 h.2.1
theorem yF {p s:List Int}(h:gc p=some s):du s:=by
 have c:∀n:Int,0≤IntKind.u8.wrap n∧IntKind.u8.wrap n≤255:=fun n=>by
  show 0≤(if (false&&decide (n%(256:Int)≥(128:Int)))=true then n%(256:Int)-(256:Int) else n%(256:Int))∧(if (false&&decide (n%(256:Int)≥(128:Int)))=true then n%(256:Int)-(256:Int) else n%(256:Int))≤255;simp only [Bool.false_and,Bool.false_eq_true,if_false];omega
 unfold gc at h;obtain ⟨r,_,e⟩:=Option.bind_eq_some_iff.1 h;obtain rfl:=Option.some.inj e;intro x a;simp only [List.mem_cons,List.not_mem_nil,or_false] at a;rcases a with rfl|rfl|rfl|rfl<;>exact c _
theorem FK {st:az}(a:jP st){m:List Int}(h:fb st=some m):du m:=by
 by_cases c:qR st
 ·obtain ⟨s,h1,_,_,d,_⟩:=DP a c;obtain rfl:=Option.some.inj (d.symm.trans h);exact dm (za st) (yF h1)
 obtain rfl:=Option.some.inj ((Fv a c).1.symm.trans h);intro x e;cases e
theorem Qs {p:List Int}(hb:du p)(hp:p.length≤1048576)(v:8≤p.length):∃m,
  ((km (p.take (p.length-4))).bind fun d=>(if (!d.2) then some true else (qF d.1).bind fun j=>some (!j)).bind fun k=>if k then some (zT,(5:Int)) else (fb d.1).bind fun l=>if (!((eU l)==(eU p))) then some (zT,5) else some (d.1,0))=some m ∧
  ((fA (p.take (p.length-4))).bind fun g=>(if (!g.2) then some true else (gr g.1).bind fun w=>(kP w p).bind fun o=>some (!o)).bind fun A=>if A then some (zT,(5:Int)) else some (g.1,0))=some m∧(m=(zT,5)∨∃st,SN p st∧m=(st,0)):=by
 have hb':du (p.take (p.length-4)):=fun x F=>hb x (List.mem_of_mem_take F);have hp':(p.take (p.length-4)).length≤1048576:=by rw [List.length_take];omega
 obtain ⟨r,e,G⟩:=Qq hb' hp';obtain ⟨r',e',hr'⟩:=QH hb' hp'
 have fin:∀{st:az},jP st→∃m,fb st=some m∧gr st=some m∧(eU m==eU p)=decide (m=p)∧(m=p→qR st):=fun {st} a=>by
  by_cases f:qR st
  ·obtain ⟨s,h1,_,R,C,H⟩:=DP a f;exact ⟨_,C,H,uL (FK a C) hb,fun _=>f⟩
  obtain ⟨h1,L⟩:=Fv a f;refine ⟨[],h1,L,uL (FK a h1) hb,fun h=>?_⟩;rw [←h] at v;simp at v
 by_cases c:∃st,SN p st
 ·obtain ⟨st,c⟩:=c;obtain ⟨M,P⟩:=Qb c;have Q:=(Ft c).2;refine ⟨(st,0),?_,?_,.inr ⟨st,c,rfl⟩⟩
  ·rw [M];simp only [cS];rw [(yC c.1).val c.2.1];simp only [cS];rw [c.2.2];simp
  rw [P];simp only [cS];rw [Q];simp [kP]
 refine ⟨(zT,5),?_,?_,.inl rfl⟩
 ·rw [e];obtain ⟨st,q⟩:=r
  cases q with
  | false=>rfl
  | true =>
   have a:=G rfl;simp only [cS];rcases (yC a).cases with ⟨t,f⟩|⟨t,f⟩
   ·obtain ⟨m,i,D,u,E⟩:=fin a;rw [t];simp only [cS];rw [i];simp only [bS];rw [u,decide_eq_false fun h=>c ⟨st,a,f,by rw [i,h]⟩];rfl
   rw [t];rfl
 rw [e'];obtain ⟨st,q⟩:=r'
 cases q with
 | false=>rfl
 | true =>
  have a:=hr' rfl;simp only [cS];obtain ⟨m,i,D,u,E⟩:=fin a;rw [D];simp only [Option.bind_some,kP];rw [u,decide_eq_false fun h=>c ⟨st,a,E h,by rw [i,h]⟩];rfl
theorem Ky {p:List Int}(hb:du p)(hp:p.length≤1048576):∃m,vP p=some m∧vI p=some m∧((m.1=zT∧1≤m.2∧m.2≤5)∨(SN p m.1∧m.2=0)):=by
 unfold vP vI;by_cases q:p.length<8
 ·rw [if_pos (by simp;omega),if_pos (by simp;omega)];exact ⟨(zT,1),rfl,rfl,.inl ⟨rfl,by decide,by decide⟩⟩
 rw [if_neg (by simp;omega),if_neg (by simp;omega)];have t:=Qs hb hp (by omega);have u:IntKind.i64.wrap ((p.length:Int)-4)=((p.length-4:Nat):Int):=by rw [aP (by omega) (by omega)];omega
 have v:sub p 0 ((p.length-4:Nat):Int)=some (p.take (p.length-4)):=by
  have:=xZ (xs:=p) (f:=0) (i:=p.length-4) (by omega) (by omega);simpa using this
 have w:sub p ((p.length-4:Nat):Int) (p.length:Int)=some (p.drop (p.length-4)):=by
  rw [xZ (by omega) (Nat.le_refl _),List.take_of_length_le (by rw [List.length_drop];omega)]
 have hb':du (p.take (p.length-4)):=fun x a=>hb x (List.mem_of_mem_take a);have k:du (p.drop (p.length-4)):=fun x a=>hb x (List.mem_of_mem_drop a);obtain ⟨s,c1,c2,c3⟩:=Fo hb' (by rw [List.length_take];omega);rw [u,v,w];simp only [bS];rw [c1,c2];simp only [Option.bind_some,kP];rw [uL (yF c1) k,uL k (yF c1)]
 obtain ⟨x0,x1,x2,c,r,a⟩:∃x0 x1 x2 c r,p=x0::x1::x2::c::r:=by
  match p,q with
  | x0::x1::x2::c::r,_=>exact ⟨x0,x1,x2,c,r,rfl⟩
  | [],h=>simp at h
  | [_],h=>simp at h
  | [_,_],h=>simp at h
  | [_,_,_],h=>simp at h
 have A:idx p 0=some x0:=by rw [a];rfl
 have C:idx p 1=some x1:=by rw [a];rfl
 have D:idx p 2=some x2:=by rw [a];rfl
 have E:idx p 3=some c:=by rw [a];rfl
 have F:sub p 0 3=some [x0,x1,x2]:=by
  have:=xZ (xs:=p) (f:=0) (i:=3) (by omega) (by omega);have e:(p.drop 0).take (3-0)=[x0,x1,x2]:=by rw [a];rfl
  rw [e] at this;exact this
 have G:du [x0,x1,x2]:=fun x h=>hb x (by rw [a];simp only [List.mem_cons,List.not_mem_nil,or_false] at h ⊢;rcases h with rfl|rfl|rfl<;>simp);have H:(eU [x0,x1,x2]==([83,80,78]:List UInt8))=decide ([x0,x1,x2]=[83,80,78]):=uL (b:=[83,80,78]) G (fun x h=>by simp only [List.mem_cons,List.not_mem_nil,or_false] at h;omega);rw [A,C,D,E,F];simp only [bS];rw [H];by_cases l:x0=83∧x1=80∧x2=78
 ·obtain ⟨rfl,rfl,rfl⟩:=l;simp only [bne_self_eq_false,Bool.false_eq_true,if_false,Option.bind_some,decide_true,Bool.not_true];by_cases h1:c=1
  ·subst h1;simp only [bne_self_eq_false,Bool.false_eq_true,if_false];by_cases g:s=p.drop (p.length-4)
   ·rw [decide_eq_true g,decide_eq_true g.symm];simp only [Bool.not_true,Bool.false_eq_true,if_false];obtain ⟨m,L,M,P⟩:=t;refine ⟨m,L,M,?_⟩;rcases P with rfl|⟨st,Q,rfl⟩
    ·exact .inl ⟨rfl,by decide,by decide⟩
    exact .inr ⟨Q,rfl⟩
   rw [decide_eq_false g,decide_eq_false fun h=>g h.symm];exact ⟨(zT,4),rfl,rfl,.inl ⟨rfl,by decide,by decide⟩⟩
  have:(c != 1)=true:=by simpa using h1
  rw [this];exact ⟨(zT,3),rfl,rfl,.inl ⟨rfl,by decide,by decide⟩⟩
 have R:decide ([x0,x1,x2]=[83,80,78])=false:=decide_eq_false fun h=>l (by simpa using h);rw [R];refine ⟨(zT,2),?_,rfl,.inl ⟨rfl,by decide,by decide⟩⟩;by_cases j:x0=83
 ·by_cases o:x1=80
  ·have d:(x2 != 78)=true:=by
    have:x2≠78:=fun h=>l ⟨j,o,h⟩;simpa using this
   subst j o;simp only [bne_self_eq_false,Bool.false_eq_true,if_false,Option.bind_some,d,if_true]
  have d:(x1 != 80)=true:=by simpa using o
  subst j;simp only [bne_self_eq_false,Bool.false_eq_true,if_false,Option.bind_some,d,if_true]
 have d:(x0 != 83)=true:=by simpa using j
 simp only [Option.bind_some,d,if_true]
end Go.Vk
/- Windows that step, detectors: they are there, and CT. -/
namespace Go.Vk
theorem Em (w:aw):Tot (qA w) (fun l=>l.length≤24∧(0<l.length→Gq w∧w.k_≠[])):=by
 unfold qA;rcases (De w).cases with ⟨e,h⟩|⟨e,h⟩
 ·rw [e];simp only [sS];have c:=h.1;have d:=Tz h _ (Nat.le_refl _);rw [aP (by omega) (by omega),VK h _ _ _ (Nat.le_refl _) (cx (by omega)) (by simp;omega),List.nil_append];refine ar ⟨by omega,fun a=>⟨h,fun h1=>?_⟩⟩;rw [h1] at a;simp [bk] at a
 rw [e];simp only [sS];exact ar ⟨by simp,by simp⟩
theorem QR (n u m v k:Int):T (vQ n u m v k):=by
 unfold vQ;exact cz.t.bind fun _ _=>Tot.bind (P:=fun _=>True) (aZ (fun _=>bj _) (fun _=>cz.t.bind fun _ _=>bj _)) fun _ _=>Tot.bind (P:=fun _=>True) (aZ (fun _=>bj _) (fun _=>cz.t.bind fun _ _=>bj _)) fun _ _=>Tot.bind (P:=fun _=>True) (aZ (fun _=>bj _) (fun _=>cz.t.bind fun _ _=>bj _)) fun _ _=>Tot.bind (P:=fun _=>True) (aZ (fun _=>bj _) (fun _=>cz.t.bind fun _ _=>bj _)) fun _ _=>aZ (fun _=>bj _) (fun _=>(NQ _).bind fun _ _=>bj _)
theorem Ce (w:aw):T (lB w):=by
 unfold lB;refine (Em w).bind fun l a=>dj (fun k (n:Int) i=>fQ l k n i) l.length (fun _ _=>True) (fun k s _=>?_) (fun k s i c _ hk=>?_) (by have:=a.1;omega) trivial
 ·show Tot (fQ _ (k+1) _ _) _;rw [fQ,if_neg (by simp)];exact bj _
 show Tot (fQ _ (k+1) _ _) _;have:=a.1;rw [fQ,if_pos (by simp;omega),aH c,ax (by omega)];exact hk _ trivial
theorem Ej (w:aw):T (mI w):=by
 unfold mI;refine (Em w).bind fun l a=>dj (fun k (n:Int) i=>gb l k n i) l.length (fun _ _=>True) (fun k s _=>?_) (fun k s i c _ hk=>?_) (by have:=a.1;omega) trivial
 ·show Tot (gb _ (k+1) _ _) _;rw [gb,if_neg (by simp)];exact bj _
 show Tot (gb _ (k+1) _ _) _;have:=a.1;rw [gb,if_pos (by simp;omega),aH c,ax (by omega)];exact hk _ trivial
theorem UE (w:aw)(k:Int):Tot (zh w k) (fun v=>0<v→Gq w∧w.k_≠[]):=by
 unfold zh;refine (Em w).bind fun l d=>(Ce w).bind fun a _=>(Ej w).bind fun o _=>?_;have e:=d.1;refine dj (fun c (σ:Int×Int) i=>lm l a o k c i σ.1 σ.2) (l.length-1) (fun _ _=>True) (fun c σ _=>?_) (fun c σ i f _ hk=>?_) (by omega) (s:=(0,0)) trivial
 ·show Tot (lm _ _ _ _ (c+1) _ _ _) _;rw [lm,if_neg (by rw [aP (by omega) (by omega)];simp;omega)];exact ar (fun h=>by omega)
 show Tot (lm _ _ _ _ (c+1) _ _ _) _;rw [lm,if_pos (by rw [aP (by omega) (by omega)];simp;omega),aH (by omega:i<l.length)];simp only [bS];refine (QR _ _ _ _ _).bind fun b _=>aZ (fun _=>ar fun _=>d.2 (by omega)) (fun _=>?_);rw [ax (by omega)];exact hk (_,_) trivial
def BK (l:List (List Int)):Nat:=(l.map List.length).sum
theorem IS {l:List (List Int)}{r:List Int}:BK (l++[r])=BK l+r.length:=by simp [BK]
theorem WB {w:aw}(c:jH 8 12 w.k_)(k:Gq w)(m:w.k_≠[]):Tot (rD w) (fun y=>jH 8 12 y.1.k_∧BK y.1.k_<BK w.k_):=by
 obtain ⟨l⟩:=w;obtain ⟨l,r,rfl⟩:∃l' r,l=l'++[r]:=⟨l.dropLast,l.getLast m,(List.dropLast_concat_getLast m).symm⟩;have o:=c.2 r (by simp);have j:=c.1;simp only [List.length_append,List.length_cons,List.length_nil] at j
 have A:1≤r.length:=by
  have:=(k.2 l.length (by show l.length<(l++[r]).length;simp) (by show l.length<(l++[r]).length;simp)).1.1;simpa using this
 unfold rD;rw [tF (c.mono (by omega) (by omega))];simp only [bS];rcases (De ⟨l++[r]⟩).cases with ⟨e,_⟩|⟨_,g⟩
 ·rw [e];simp only [bS];rw [if_neg (by simp;omega)];have s:((l++[r]).length:Int)=l.length+1:=by simp
  have t:IntKind.i64.wrap (((l++[r]).length:Int)-1)=(l.length:Int):=by rw [s,aP (by omega) (by omega)];omega
  rw [t,aH (show l.length<(l++[r]).length by simp)];simp only [Option.bind_some,List.getElem_append_right (Nat.le_refl _),Nat.sub_self,List.getElem_cons_zero];refine (qu ⟨by omega,by omega,by omega⟩).bind fun a d=>?_;have i:smI 12 a:=⟨by rw [d];simp only [List.length_take,List.length_drop];have:=o.1;omega,fun x f=>o.2 x (by rw [d] at f;exact List.mem_of_mem_drop (List.mem_of_mem_take f))⟩;have C:a.length<r.length:=by rw [d];simp only [List.length_take,List.length_drop];simp;omega
  rw [bC (by have:=i.1;simp;omega)];simp only [Option.bind_some,List.nil_append];have es:(l++[r]).set (l.length:Int).toNat a=l++[a]:=by simp
  rw [es];have u:BK (l++[a])<BK (l++[r]):=by rw [IS,IS];omega
  have p:jH 8 12 (l++[a]):=by rw [←es];exact c.set i _
  refine aZ (fun _=>?_) (fun _=>ar ⟨p,u⟩);refine (qu ⟨by omega,by omega,by simp;omega⟩).bind fun h q=>ar ?_;have v:h=l:=by rw [q];simp
  subst v;refine ⟨⟨by show h.length≤8;omega,fun x f=>c.2 x (by simp [show x∈h from f])⟩,?_⟩;show BK h<_;rw [IS];omega
 exact absurd k g
theorem Si:∀{l:List (List Int)},(∀r∈l,smI 12 r)→BK l≤12*l.length
 | [],_=>by simp [BK]
 | r::l,h=>by
  have h1:=(h r (by simp)).1;have c:=Si (l:=l) (fun x a=>h x (List.mem_cons_of_mem _ a));simp only [BK,List.map_cons,List.sum_cons,List.length_cons] at *
  omega
theorem Sk {w:aw}{c:Int}(h:jH 8 12 w.k_):Tot (xn w c) (fun y=>jH 8 12 y.1.k_):=by
 unfold xn;rw [tF (h.mono (by omega) (by omega))];simp only [sS]
 have key:∀(d k:Nat)(l:List (List Int))(n:Int),BK l<d→d≤k→jH 8 12 l→Tot (pM c k l n) (fun y=>jH 8 12 y.1.k_):=by
  intro d
  induction d with
  | zero=>intro k l n h1;omega
  | succ d ih =>
   intro k l n h1 i e;obtain ⟨k,rfl⟩:=kS k (by omega);rw [pM];refine (UE ⟨l⟩ c).bind fun v a=>aZ (fun g=>?_) (fun _=>ar e);have a:=a (by simpa using g);refine (WB (w:=⟨l⟩) e a.1 a.2).bind fun y f=>ih _ _ _ ?_ (by omega) f.1;have:=f.2;have h1:BK l<d+1:=h1;have:BK y.1.k_<BK l:=this;omega
 have j:=Si h.2;have e:=h.1;exact key (BK w.k_+1) aY w.k_ 0 (by omega) (Nat.le_of_lt (cx (by omega))) h
theorem JH {w:aw}{b k:Int}(h:jH 8 12 w.k_):Tot (oU w b k) (fun y=>jH 8 12 y.1.k_):=by
 unfold oU;rw [tF (h.mono (by omega) (by omega))];refine (TR h).bind fun y a=>Tot.bind (P:=fun _=>True) (aZ (fun _=>bj _) (fun _=>cz.t.bind fun _ _=>bj _)) fun u _=>aZ (fun _=>ar h) (fun _=>(Sk a).bind fun z c=>Tot.bind (P:=fun _=>True) (aZ (fun _=>(Ej _).bind fun _ _=>(Ce _).bind fun _ _=>(Ej _).bind fun _ _=>(Ce _).bind fun _ _=>bj _) (fun _=>bj _)) fun _ _=>ar c)
def Tk (d:dd):Prop:=jH 8 12 d.x_.k_∧jH 8 12 d.y_.k_
theorem Bz (a b:Nat):jH a b []:=⟨by simp,fun x c=>by cases c⟩
theorem Is {d:dd}(h:Tk d):tn d=some d:=by
 unfold tn;rw [tF (h.1.mono (by omega) (by omega)),tF (h.2.mono (by omega) (by omega))];rfl
theorem Qn {d:dd}{b w k:Int}(h:Tk d):Tot (vY d b w k) (fun y=>Tk y.1):=by
 unfold vY;rw [Is h];exact (JH h.1).bind fun y a=>(JH h.2).bind fun z c=>aZ (fun _=>ar h) (fun _=>aZ (fun _=>ar ⟨Bz _ _,Bz _ _⟩) (fun _=>aZ (fun _=>ar ⟨a,c⟩) (fun _=>ar ⟨a,c⟩)))
section
variable {p:List Int} (hp:p.length≤1048576)
include hp
end
end Go.Vk
