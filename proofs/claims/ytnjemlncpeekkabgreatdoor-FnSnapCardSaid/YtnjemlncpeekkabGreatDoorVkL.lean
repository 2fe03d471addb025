/- Steps of the walk over structs, nested slices, callees that write. -/
import Derived.Test.YtnjemlncpeekkabGreatDoorVkG
import Derived.StillTail
import Derived.Laws.StructEq
import Derived.ChangeKeysEq
import Derived.MapKept
namespace Go.Vk
open Go.RowKit
variable {P:Program} {n:Nat} {C:World→Prop} {E:Env} {m:Md} {l rest:List Oper} {w0:World} {M:List Nat} {L:List Res} {Q:Exit→Act→World→Prop}
def Md.actual:Md→Bool
 | .any _=>false
 | _=>true
theorem tE {X:Type}{D:X→World→Prop}(f:m.actual=true)(h:∀w,C w→∃x,D x w)(k:∀x,OW P n l (D x) E m rest):OW P n l C E m rest:=by
 cases m with
 | lex Q=>exact λa w c d=>by obtain ⟨x,e⟩:=h w d;exact k x a w c e
 | any K=>cases f
 | held S Q fl=>exact λs h1 g a w c d i=>by obtain ⟨x,e⟩:=h w d;exact k x s h1 g a w c e i
theorem Rh {X:Type}{D:X→World→Prop}{c:Code}(h:∀w,C w→∃x,D x w)(k:∀x,CW P n (D x) E Q c):CW P n C E Q c:=λa w d e=>by
 obtain ⟨x,f⟩:=h w e;exact k x a w d f
theorem iX {X:Type}{D:X→World→Prop}{c:Exit}(h:∀w,C w→∃x,D x w)(k:∀x,XW n (D x) E Q c):XW n C E Q c:=λa w d e=>by
 obtain ⟨x,f⟩:=h w e;exact k x a w d f
theorem uR {d e:Type}{D:d→e→World→Prop}{c:Code}(h:∀w,C w→∃x0 x1,D x0 x1 w)(k:∀x0 x1,CW P n (D x0 x1) E Q c):CW P n C E Q c:=λa w f g=>by
 obtain ⟨x0,x1,i⟩:=h w g;exact k x0 x1 a w f i
theorem eY {f g i:Type}{D:f→g→i→World→Prop}(j:m.actual=true)(h:∀w,C w→∃x0 x1 x2,D x0 x1 x2 w)(k:∀x0 x1 x2,OW P n l (D x0 x1 x2) E m rest):OW P n l C E m rest:=by
 cases m with
 | lex Q=>exact λa w c d=>by obtain ⟨x0,x1,x2,e⟩:=h w d;exact k x0 x1 x2 a w c e
 | any K=>cases j
 | held S Q fl=>exact λs h1 o a w c d p=>by obtain ⟨x0,x1,x2,e⟩:=h w d;exact k x0 x1 x2 s h1 o a w c e p
theorem wG {d e f:Type}{D:d→e→f→World→Prop}{c:Code}(h:∀w,C w→∃x0 x1 x2,D x0 x1 x2 w)(k:∀x0 x1 x2,CW P n (D x0 x1 x2) E Q c):CW P n C E Q c:=λa w g i=>by
 obtain ⟨x0,x1,x2,j⟩:=h w i;exact k x0 x1 x2 a w g j
theorem wM {g i j o:Type}{D:g→i→j→o→World→Prop}(p:m.actual=true)(h:∀w,C w→∃x0 x1 x2 c,D x0 x1 x2 c w)(k:∀x0 x1 x2 c,OW P n l (D x0 x1 x2 c) E m rest):OW P n l C E m rest:=by
 cases m with
 | lex Q=>exact λa w d e=>by obtain ⟨x0,x1,x2,c,f⟩:=h w e;exact k x0 x1 x2 c a w d f
 | any K=>cases p
 | held S Q fl=>exact λs h1 q a w d e r=>by obtain ⟨x0,x1,x2,c,f⟩:=h w e;exact k x0 x1 x2 c s h1 q a w d f r
theorem rM {e f g i:Type}{D:e→f→g→i→World→Prop}{c:Code}(h:∀w,C w→∃x0 x1 x2 d,D x0 x1 x2 d w)(k:∀x0 x1 x2 d,CW P n (D x0 x1 x2 d) E Q c):CW P n C E Q c:=λa w j l=>by
 obtain ⟨x0,x1,x2,d,m⟩:=h w l;exact k x0 x1 x2 d a w j m
theorem cr {φ:Prop}(e:m.actual=true)(h:∀w,C w→φ)(k:φ→OW P n l C E m rest):OW P n l C E m rest:=by
 cases m with
 | lex Q=>exact λa w d c=>k (h w c) a w d c
 | any K=>cases e
 | held S Q fl=>exact λs h1 f a w d c g=>k (h w c) s h1 f a w d c g
theorem fI {φ:Prop}{c:Code}(h:∀w,C w→φ)(k:φ→CW P n C E Q c):CW P n C E Q c:=λa w e d=>k (h w d) a w e d
theorem dT {C':World→Prop}(e:m.actual=true)(h:∀w,C w→C' w)(k:OW P n l C' E m rest):OW P n l C E m rest:=by
 cases m with
 | lex Q=>exact λa w c d=>k a w c (h w d)
 | any K=>cases e
 | held S Q fl=>exact λs h1 f a w c d g=>k s h1 f a w c (h w d) g
theorem ca {C':World→Prop}{c:Exit}(h:∀w,C w→C' w)(k:XW n C' E Q c):XW n C E Q c:=λa w d e=>k a w d (h w e)
def rT:List Bool→List Res→List Res
 | true::bs,r::L=>r::rT bs L
 | false::bs,_::L=>Res.nil::rT bs L
 | _,_=>[]
theorem GI:∀(bs:List Bool)(L:List Res),(eh (rT bs L)).Sublist (eh L)
 | [],L=>by unfold rT;simp [eh]
 | true::bs,[]=>by unfold rT;simp
 | false::bs,[]=>by unfold rT;simp
 | true::bs,r::L=>by rw [show rT (true::bs) (r::L)=r::rT bs L from rfl,gP,gP];exact List.Sublist.append (List.Sublist.refl _) (GI bs L)
 | false::bs,r::L=>by
  rw [show rT (false::bs) (r::L)=Res.nil::rT bs L from rfl,gP,gP];exact (GI bs L).trans (List.sublist_append_right _ _)
theorem Kd:∀(bs:List Bool)(L:List Res){r:Res},r∈rT bs L→r∈L∨r=Res.nil
 | [],L,r,h=>by unfold rT at h;cases h
 | true::bs,[],r,h=>by unfold rT at h;cases h
 | false::bs,[],r,h=>by unfold rT at h;cases h
 | true::bs,s::L,r,h=>by
  rw [show rT (true::bs) (s::L)=s::rT bs L from rfl] at h
  cases h with
  | head=>exact .inl (by simp)
  | tail _ h =>
   rcases Kd bs L h with h1|h1
   ·exact .inl (by simp [h1])
   exact .inr h1
 | false::bs,s::L,r,h=>by
  rw [show rT (false::bs) (s::L)=Res.nil::rT bs L from rfl] at h
  cases h with
  | head=>exact .inr rfl
  | tail _ h =>
   rcases Kd bs L h with h1|h1
   ·exact .inl (by simp [h1])
   exact .inr h1
theorem St.mask {L':List Res}{w:World}(bs:List Bool)(d:rT bs L=L')(h:St w0 M L w):St w0 M L' w:=by
 subst d;have a:=GI bs L;exact ⟨h.ext,λr e=>h.ok' (Kd bs L e),a.nodup h.nd,λb c=>h.lt b (a.subset c),λb c=>h.new b (a.subset c)⟩
theorem St.push0 {w:World}(h:St w0 M L w)(r:Res)(a:r.F=[])(c:r.ok w):St w0 M (L++[r]) w:=by
 have:=h.re [] [r] rfl (by rw [iC,a];exact List.Perm.refl _) (λs d=>by rw [List.mem_singleton.1 d];exact c);exact this
theorem St.pushNil {α:Type}{e:Enc α}{T:TypeId}{w:World}(h:St w0 M L w):St w0 M (L++[Res.own (cn e T) [] [] [.slice none 0 0]]) w:=h.push0 _ rfl VQ
section
variable {ops:Array Oper} {md:Region.Mode}
def Eo (P:Program)(md:Region.Mode)(ops:Array Oper)(C:World→Prop)(nn:Nat)(K:Array Bool→Act→Prop):Nat→Array Bool→Act→Prop
 | 0,listed,a=>K listed a
 | f+1,listed,a =>
  Region.ready md ops listed≠[]∧∀i∈Region.ready md ops listed,i<nn∧qOp P ops C i (Eo P md ops C nn K f (listed.setIfInBounds i true)) a
theorem Cb {nn g:Nat}{K:Array Bool→Act→Prop}{Q':Exit→Act→World→Prop}(d:∀listed a w,C w→K listed a→wpAny P md ops Q' g listed a w):∀(f:Nat)(listed:Array Bool)(a:Act)(w:World),C w→Eo P md ops C nn K f listed a→wpAny P md ops Q' (f+g) listed a w
 | 0,listed,a,w,c,h=>by rw [Nat.zero_add];exact d _ _ _ c h
 | f+1,listed,a,w,c,h=>by
  rw [show f+1+g=(f+g)+1 by omega];exact ⟨λe=>absurd e h.1,λi j=>wpOp_of_qOp c (λa' w' hw' h'=>Cb d f _ a' w' hw' h') (h.2 i j).2⟩
theorem KD {nn i:Nat}{oi:Oper}{v:Value}{K:Array Bool→Act→Prop}(A:ops[i]?=some oi)(q:∀(j:Nat) (o:Oper) cs b,ops[j]?=some o→o.op≠.select cs b)(F:Region.sinkB md ops nn=true)(G:Region.chainB md ops nn=true)(L:nn<ops.size)(w:i<nn)(t:∀listed a,K listed a→∀j∈Region.ready md ops listed,nn≤j):∀(f:Nat)(listed:Array Bool)(a:Act),HeadInv md ops nn listed →
   (∀j oj,ops[j]?=some oj→j≠i→listed.getD j true=false→(∀e∈oj.after,Region.binds md e=true→e.on≠i)→oi.apart ops oj=true) →
   i∈Region.ready md ops listed→YieldsIn P ops C oi v a →
   Eo P md ops C nn K f (listed.setIfInBounds i true) (a.put oi.dst v)→Eo P md ops C nn K (f+1) listed a:=by
 intro f
 induction f with
 | zero =>
  intro listed a inv _ g u H;have d:=(mem_ready.1 g).1;refine ⟨λh=>(by rw [h] at g;cases g),λj l=>?_⟩
  have m:j<nn:=by
   rcases Nat.lt_or_ge j nn with h|h
   ·exact h
   exact absurd l (tail_waits F G L inv _ i rfl w d j h)
  refine ⟨m,?_⟩;by_cases c:j=i
  ·subst c;exact u.qOp A H
  have:=t _ _ H j (ready_mono l c);omega
 | succ f ih =>
  intro listed a inv p g u H;have d:=(mem_ready.1 g).1;refine ⟨λh=>(by rw [h] at g;cases g),λj l=>?_⟩
  have m:j<nn:=by
   rcases Nat.lt_or_ge j nn with h|h
   ·exact h
   exact absurd l (tail_waits F G L inv _ i rfl w d j h)
  refine ⟨m,?_⟩;by_cases c:j=i
  ·subst c;exact u.qOp A H
  have h1:=(H.2 j (ready_mono l c)).2;obtain ⟨r,oj,s,D⟩:=mem_ready.1 l
  have E:∀e∈oj.after,Region.binds md e=true→e.on≠i:=λe Z hb M=>by
   have h1:=D e Z hb;rw [M,getD_both d] at h1;cases h1
  have h2:=qOp_put s (p j oj s c r E) (λcs b=>q i oi cs b A) (λcs b=>q j oj cs b s) u h1
  have hfree':∀k ok,ops[k]?=some ok→k≠i→(listed.setIfInBounds j true).getD k true=false →
    (∀e∈ok.after,Region.binds md e=true→e.on≠i)→oi.apart ops ok=true:=λk ok hk Q d R=>by
   refine p k ok hk Q ?_ R;by_cases x:j=k
   ·subst x;exact r
   rw [getD_set_ne true x] at d;exact d
  refine qOp_mono (λa' X=>ih (listed.setIfInBounds j true) a' (inv.set l m) hfree' (ready_mono g (Ne.symm c)) X.1 ?_) h2;rw [Array.setIfInBounds_comm _ _ c];exact X.2
theorem Hk {nn g:Nat}{Lq:Act→Prop}(c:Region.noSelect ops=true)(i:Region.sinkB md ops nn=true)(m:Region.chainB md ops nn=true)(p:nn<ops.size):∀(l:List Oper)(k:Nat)(listed:Array Bool)(a:Act),(∀j,j<l.length→l[j]?=ops[k+j]?)→k+l.length=nn→HeadInv md ops nn listed →
  Region.lexHead md ops g l.length k listed=true→wpQuiet P ops C Lq l a →
  Eo P md ops C nn (λlisted' a'=>Region.seqB md ops g nn listed'=true∧Lq a') l.length listed a
 | [],k,listed,a,_,hk,_,d,h=>by
  have:k=nn:=by simpa using hk
  subst this;exact ⟨by simpa [Region.lexHead] using d,h⟩
 | o::l,k,listed,a,q,hk,inv,d,h=>by
  have e:ops[k]?=some o:=by simpa using (q 0 (by simp)).symm
  simp only [List.length_cons,Region.lexHead,Bool.and_eq_true] at d;obtain ⟨⟨s,t⟩,hB'⟩:=d;have f:k<nn:=by simp only [List.length_cons] at hk;omega
  have hr':k∈Region.ready md ops listed:=by simpa using s
  have r:qOp P ops C k (wpQuiet P ops C Lq l) a:=by unfold qOp;simp only [e];exact h
  obtain ⟨v,u,w⟩:=yieldsIn_of_qOp e r
  exact KD e (Region.noSelect_spec c) i m p f (λlisted' a' x=>seqB_ready x.1) l.length listed a inv (Region.free_spec e t) hr' u
   (Hk c i m p l (k+1) _ _ (λj A=>by have:=q (j+1) (by simp;omega);simpa [Nat.add_assoc,Nat.add_comm 1 j] using this) (by simp only [List.length_cons] at hk;omega) (inv.set hr' f) hB' w)
theorem Cn {id:Nat}{a:Act}{w:World}{l:List Oper}(nn:Nat)(r:P.follows .mixedOrders=true)(k:Region.lexTailB .any l.toArray nn=true)(s:C {w with drawn:=w.drawn+1})(h:wpQuiet P l.toArray C (λa'=>∀w',C w'→wpList P l.toArray Q (l.drop nn) a' w') (l.take nn) a):(Code.region id l.toArray true).wp P Q a w:=by
 simp only [Region.lexTailB,Bool.and_eq_true,decide_eq_true_eq] at k;obtain ⟨⟨⟨⟨e,m⟩,u⟩,v⟩,f⟩:=k;have hn':nn<l.length:=by simpa using m
 have c:(l.take nn).length=nn:=by simp;omega
 have d:(l.drop nn).length=l.toArray.size-nn:=by simp
 have i:HeadInv .any l.toArray nn (Array.replicate l.toArray.size false):=⟨by simp,λj oj _ o=>(by rw [getD_replicate_false] at o;cases o),λt _ x=>getD_in (by simpa using x) (getD_replicate_false _ _)⟩
 have H:=Hk (md:=.any) (g:=l.toArray.size-nn) e u v m (l.take nn) 0 _ a (λj p=>by
  have hj':j<nn:=by rw [c] at p;exact p
  simp [hj']) (by simpa using c) i (by rw [c];exact f) h
 refine wp_region_any r ?_
 have:=Cb (C:=C) (Q':=Q) (g:=l.toArray.size-nn) (λlisted a' w' hw' q=>by
  have:=wpAny_of_seq (md:=.any) (Q':=Q) (l.drop nn) nn listed a' w' (λj=>by simp [List.getElem?_drop]) (by rw [d];exact q.1) (q.2 w' hw');rwa [d] at this) _ _ _ _ s H
 rw [c,show nn+(l.toArray.size-nn)=l.toArray.size by omega] at this;exact this
end
theorem Ba {id:Nat}{l:List Oper}(nn:Nat)(c:P.follows .mixedOrders=true)(d:Region.lexTailB .any l.toArray nn=true)(h:OW P n l (St w0 M L) E (.any (λE'=>OW P n l (St w0 M L) E' (.lex Q) (l.drop nn))) (l.take nn)):CW P n (St w0 M L) E Q (.region id l.toArray true):=λa w e f =>
 Cn (C:=St w0 M L) nn c d f.drew (by
  refine xt ?_ _ _ (h a e);rintro a' ⟨E',hF',g⟩ w' hC';exact g a' w' hF' hC')
def Mt {α:Type}(e:Enc α)(T:TypeId)(b cap:Nat)(xs:List α)(i:Nat)(G:List Nat)(c:List Value)(w:World):Prop:=∃cur a d c1 c2,tq w b cur T∧xs.length≤cap∧cap≤maxLen∧cur.size=cap*e.sz∧cur.toList.take (xs.length*e.sz)=c1++(c++c2)∧c1.length=i*e.sz∧c.length=e.sz∧i<xs.length ∧
  G=a++d∧jX e w a (xs.take i) c1∧jX e w d (xs.drop (i+1)) c2
def Res.hole {α:Type}(e:Enc α)(T:TypeId)(b cap:Nat)(xs:List α)(i:Nat)(G:List Nat)(c:List Value):Res:=⟨b::G,Mt e T b cap xs i G c,λw w' h ok=>by
  obtain ⟨cur,f,g,c1,c2,h1,j,k,l,m,o,p,q,rfl,r,d⟩:=ok;exact ⟨cur,f,g,c1,c2,h1.ext (h b (by simp)),j,k,l,m,o,p,q,rfl,qP r (λc a=>h c (by simp [a])),qP d (λc a=>h c (by simp [a]))⟩⟩
theorem EU {α:Type}{e:Enc α}{w:World}:∀{xs:List α}{F:List Nat}{cs:List Value}{i:Nat}{x:α},jX e w F xs cs→xs[i]?=some x →
  ∃c Fi d c1 ci c2,F=c++(Fi++d)∧cs=c1++(ci++c2)∧c1.length=i*e.sz∧ci.length=e.sz∧jX e w c (xs.take i) c1∧e.own w Fi x ci∧jX e w d (xs.drop (i+1)) c2
 | [],_,_,i,x,_,a=>by simp at a
 | y::xs,F,cs,0,x,h,a=>by
  obtain ⟨f,k,c1,c2,rfl,rfl,h1,g,j⟩:=h;simp at a;subst a;exact ⟨[],f,k,[],c1,c2,rfl,rfl,by simp,h1,⟨rfl,rfl⟩,g,by simpa using j⟩
 | y::xs,F,cs,i+1,x,h,a=>by
  obtain ⟨f,k,c1,c2,rfl,rfl,h1,g,j⟩:=h;simp only [List.getElem?_cons_succ] at a;obtain ⟨c,Fi,d,l,di,m,rfl,rfl,o,p,q,r,s⟩:=EU j a;refine ⟨f++c,Fi,d,c1++l,di,m,by simp,by simp,?_,p,⟨f,c,c1,l,rfl,rfl,h1,g,q⟩,r,by simpa using s⟩;rw [List.length_append,h1,o,Nat.add_mul];omega
theorem OH {α:Type}{e:Enc α}{w:World}{xs:List α}{i:Nat}{x:α}(d:i<xs.length){c Fi a:List Nat}{c1 ci c2:List Value}(h1:jX e w c (xs.take i) c1)(f:e.own w Fi x ci)(g:ci.length=e.sz)(h:jX e w a (xs.drop (i+1)) c2):jX e w (c++(Fi++a)) (xs.set i x) (c1++(ci++c2)):=by
 rw [List.set_eq_take_append_cons_drop,if_pos d];exact Dn h1 ⟨Fi,a,ci,c2,rfl,rfl,g,f,h⟩
theorem foc {α:Type}{e:Enc α}{T:TypeId}{w:World}{F:List Nat}{xs:List α}{a:Option Addr}{nn c:Nat}{j:Int}{x:α}{r:Nat}(h:St w0 M L w)(l:L[r]?=some (Res.own (cn e T) F xs [.slice a nn c]))(o:idx xs j=some x):∃(b:Nat)(G Fi:List Nat)(ci:List Value),(a=some ⟨b,0,none⟩∧nn=xs.length)∧St w0 M (nO L [r]++[Res.hole e T b c xs j.toNat G ci,Res.own e Fi x ci]) w:=by
 obtain ⟨Q,i,p⟩:=cD o;obtain ⟨m,_,_⟩:=h.one l;rcases m with ⟨rfl,_,_⟩|⟨b,cap,cur,R,ds,rfl,k,q,h1,t,u,v,A⟩
 ·simp at i
 simp only [List.cons.injEq,Value.slice.injEq,and_true] at k;obtain ⟨rfl,rfl,rfl⟩:=k;obtain ⟨d,Fi,f,c1,ci,c2,rfl,rfl,C,D,E,H,P⟩:=EU A p;refine ⟨b,d++f,Fi,ci,⟨rfl,rfl⟩,h.re [r] _ rfl ?_ ?_⟩
 ·have g:jM L [r]=[Res.own (cn e T) (b::(d++(Fi++f))) xs [.slice (some ⟨b,0,none⟩) xs.length c]]:=by
   simp only [nc,wx,l]
  rw [g,iC];show (eh [Res.hole e T b c xs j.toNat (d++f) ci,Res.own e Fi x ci]).Perm (b::(d++(Fi++f)));rw [gP,iC];show (b::((d++f)++Fi)).Perm (b::(d++(Fi++f)));refine List.Perm.cons _ ?_;rw [List.append_assoc];exact List.Perm.append_left _ List.perm_append_comm
 intro s g;simp only [List.mem_cons,List.not_mem_nil,or_false] at g;rcases g with rfl|rfl
 ·exact ⟨cur,d,f,c1,c2,q,h1,t,u,v,C,D,i,rfl,E,P⟩
 exact H
theorem unf {α:Type}{e:Enc α}{T:TypeId}{w:World}{b cap i:Nat}{xs:List α}{G Fi:List Nat}{c:List Value}{x':α}{nn p q:Nat}(h:St w0 M L w)(j:L[p]?=some (Res.hole e T b cap xs i G c))(k:L[q]?=some (Res.own e Fi x' c))(l:qA [p,q]=true)(o:nn=xs.length){a:Option Addr}(r:a=some ⟨b,0,none⟩):∃F',St w0 M (nO L [p,q]++[Res.own (cn e T) F' (xs.set i x') [.slice a nn cap]]) w:=by
 subst r;obtain ⟨cur,d,f,c1,c2,h1,t,u,v,x,F,A,C,rfl,D,m⟩:=h.ok _ (List.mem_of_getElem? j);have E:e.own w Fi x' c:=h.ok _ (List.mem_of_getElem? k);have g:jM L [p,q]=[Res.hole e T b cap xs i (d++f) c,Res.own e Fi x' c]:=by simp only [nc,wx,j,k]
 refine ⟨b::(d++(Fi++f)),h.re [p,q] _ l ?_ ?_⟩
 ·rw [g,iC,gP,iC];show (b::(d++(Fi++f))).Perm (b::((d++f)++Fi));refine List.Perm.cons _ ?_;rw [List.append_assoc];exact List.Perm.append_left _ List.perm_append_comm
 intro s g;rw [List.mem_singleton.1 g];refine .inr ⟨b,cap,cur,_,_,rfl,by rw [o,List.length_set],h1,by rw [List.length_set];exact t,u,v,by rw [List.length_set];exact x,OH C D E A m⟩
theorem uV {α:Type}{e:Enc α}{T:TypeId}{w:World}{F:List Nat}{xs:List α}{cs:List Value}{i:Nat}(h:St w0 M L w)(d:L[i]?=some (Res.own (cn e T) F xs cs)):∃(a:Option Addr)(c:Nat),cs=[.slice a xs.length c]∧St w0 M L w:=by
 obtain ⟨a,c,f⟩:=tU (h.ok _ (List.mem_of_getElem? d));exact ⟨a,c,f,h⟩
theorem Vi {α:Type}{f:α→List Value}{k:Nat}{hk:∀x,(f x).length=k}{h1:∀x,∀u∈f x,u.oneCell'=true}{w:World}{F:List Nat}{x:α}{cs:List Value}{i:Nat}(h:St w0 M L w)(a:L[i]?=some (Res.own (pz f k hk h1) F x cs)):(F=[]∧cs=f x):=h.ok _ (List.mem_of_getElem? a)
theorem RD {α:Type}{e:Enc α}{T:TypeId}{S:World→Prop}{b cap i:Nat}{xs:List α}{G:List Nat}{c:List Value}(f:∀w,S w→Mt e T b cap xs i G c w):∀w,S w→At w [] ⟨b,i*e.sz,none⟩ c:=λw g=>by
 obtain ⟨cur,m,o,c1,c2,h1,p,q,r,h,k,s,t,_⟩:=f w g;refine ⟨λ_=>by simp,λj v d=>?_⟩;have l:j<c.length:=(List.getElem?_eq_some_iff.1 d).1;rw [fh,h1.cell]
 have a:(c1++(c++c2))[i*e.sz+j]?=some v:=by
  rw [←k,List.getElem?_append_right (by omega),show c1.length+j-c1.length=j by omega,List.getElem?_append_left l];exact d
 rw [←h,List.getElem?_take] at a;split at a
 ·simpa using a
 cases a
theorem eE {α:Type}{e:Enc α}{T:TypeId}{b cap i:Nat}{xs:List α}{G:List Nat}{c:List Value}{p:Nat}(a:L[p]?=some (Res.hole e T b cap xs i G c)):∀w,St w0 M L w→Mt e T b cap xs i G c w:=λ_ d=>d.ok _ (List.mem_of_getElem? a)
theorem Rc {S:World→Prop}{p:Addr}{cs ds:List Value}(h:∀w,S w→At w [] p cs)(o:Nat)(a:(cs.drop o).take ds.length=ds):∀w,S w→At w [] (p.add o) ds:=λw c=>Yd (h w c) o a
theorem pU {w:World}{X:List Nat}{p:Addr}{cs:List Value}(h:At w X p cs)(o k:Nat):At w X (p.add o) ((cs.drop o).take k):=by
 refine ⟨λc=>?_,λj v a=>?_⟩
 ·rw [uX];refine h.1 (λe=>c ?_);subst e;simp
 rw [gN];refine h.2 _ v ?_;rw [List.getElem?_take] at a;split at a
 ·simpa using a
 cases a
theorem ER {S:World→Prop}{p:Addr}{cs:List Value}(h:∀w,S w→At w [] p cs)(o k:Nat):∀w,S w→At w [] (p.add o) ((cs.drop o).take k):=λw a=>pU (h w a) o k
theorem iY {S:World→Prop}{p q:Addr}{cs:List Value}(h:∀w,S w→At w [] p cs)(a:q=p):∀w,S w→At w [] q cs:=a▸h
theorem SU {α:Type}{e:Enc α}{o:Oper}{t:TypeId}{x y:Operand}{q:Addr}{b cap i off:Nat}{v:Value}(vs:List Value){agg:Bool}{sz by_:Nat}{z:List Value}{p:Nat}{T:TypeId}{xs:List α}{G:List Nat}{c:List Value}(ho:o.op=.store t x y)(hm:m.here (o::rest)=true)(hw:wt l E o.guard=some true)(hd:fo n o.dst=true)(hx:ev E x=some (.pointer (some q)))(hq:q=⟨b,i*e.sz+off,none⟩)(hy:ev E y=some v)(ht:eN P t agg sz by_ z)(hv:v.cells=vs.toArray)(hl:vs.length=sz)(h1:∀u∈vs,u.oneCell'=true)(F:L[p]?=some (Res.hole e T b cap xs i G c))(j:Nat.ble (off+sz) e.sz=true){c':List Value}(hc':ir c off vs=c')(hS:Kp m (St w0 M (L.set p (Res.hole e T b cap xs i G c'))))(hk:OW P n l (St w0 M (L.set p (Res.hole e T b cap xs i G c'))) (upd E o.dst undef) m rest):OW P n l (St w0 M L) E m (o::rest):=nX hm hw λa w k H _ _ hK=>by
  subst hq hc';obtain ⟨Q,f,R⟩:=H.one F;obtain ⟨cur,r,s,c1,c2,A,X,h3,h4,Z,h6,h7,h8,rfl,h9,a2⟩:=Q;have hfit':=Nat.le_of_ble_eq_true j;have C:(i+1)*e.sz≤xs.length*e.sz:=Nat.mul_le_mul_right _ h8;have a5:xs.length*e.sz≤cap*e.sz:=Nat.mul_le_mul_right _ X;rw [Nat.add_mul,Nat.one_mul] at C;have D:=CH ht A hv hl (off:=i*e.sz+off) (by omega) h1
  have g:b∉r++s:=by
   have:=f;simp only [Res.hole] at this;exact (List.nodup_cons.1 this).1
  have h:St w0 M (L.set p (Res.hole e T b cap xs i (r++s) (ir c off vs))) (w.setRow b (ir cur.toList (i*e.sz+off) vs).toArray):=by
   refine H.upd F (Ext.mono (Hh A) (by simp [Res.hole])) _ ?_ f (λd hd'=>⟨by have:=R d hd';simpa using this,.inl hd'⟩);refine ⟨_,r,s,c1,c2,A.set (by simp only [List.size_toArray];rw [vq (by simp;omega)];simp),X,h3,?_,?_,h6,?_,h8,rfl,?_,?_⟩
   ·simp only [List.size_toArray];rw [vq (by simp;omega)];simpa using h4
   ·have a3:(cur.toList.take (xs.length*e.sz)).length=xs.length*e.sz:=by simp;omega
    have c4:c1.length+(c.length+c2.length)=xs.length*e.sz:=by rw [←a3,Z];simp
    have key:ir (cur.toList.take (xs.length*e.sz)) (i*e.sz+off) vs=c1++(ir c off vs++c2):=by
     rw [Z];simp only [ir];have hA:i*e.sz+off=c1.length+off:=by rw [h6]
     rw [hA,List.take_length_add_append,List.take_append_of_le_length (by omega),show c1.length+off+vs.length=c1.length+(off+vs.length) by omega,List.drop_length_add_append,List.drop_append_of_le_length (by omega)];simp [List.append_assoc]
    rw [←key];show (ir cur.toList (i*e.sz+off) vs).take (xs.length*e.sz)=_;simp only [ir];rw [List.take_append,List.take_append,List.take_take,List.take_take,List.drop_take];have e1:min (xs.length*e.sz) (i*e.sz+off)=i*e.sz+off:=by omega
    have e2:(cur.toList.take (i*e.sz+off)).length=i*e.sz+off:=by simp;omega
    rw [e1,show min (i*e.sz+off) (xs.length*e.sz)=i*e.sz+off by omega,e2,List.take_of_length_le (l:=vs) (by omega)];congr 2;rw [List.length_append,e2]
   ·rw [vq (by omega)];exact h7
   ·exact qP h9 (λd hd'=>setRow_other w b d _ (λe=>g (by rw [←e];simp [hd'])))
   exact qP a2 (λd hd'=>setRow_other w b d _ (λe=>g (by rw [←e];simp [hd'])))
  refine CR ?_ (hK _ _ _ _ hk (k.put _ _ (aj hd)) h (hS _ h));unfold execOp;simp only [ho,k.ev hx,k.ev hy,Sem.run_bind,D];rfl
end Go.Vk
/- Flat structs in slices, elements moved, calls with state, results in cells. -/
namespace Go.Vk
open Go.RowKit
variable {P:Program} {n:Nat} {C:World→Prop} {E:Env} {m:Md} {l rest:List Oper} {w0:World} {M:List Nat} {L:List Res} {Q:Exit→Act→World→Prop}
theorem eJ {α:Type}{e:Enc α}{o:Oper}{t et:TypeId}{x i:Operand}{agg:Bool}{sz by_:Nat}{z:List Value}{xs:List α}{k:IntKind}{j:Int}{y:α}{a:Option Addr}{nn cap:Nat}(h:o.op=.indexAddr t x i)(r:wt l E o.guard=some true)(s:fo n o.dst=true)(u:ev E x=some (.slice a nn cap))(A:ev E i=some (.int k j))(D:isSl P t et)(F:eN P et agg sz by_ z)(_hsz:e.sz=sz)(G:∀w,m.cls C w→mS e w [] xs [.slice a nn cap])(H:idx xs j=some y){q:Addr}(L:q=Dg a (j.toNat*sz))(hk:OW P n l C (upd E o.dst (.pointer (some q))) m rest):OW P n l C E m (o::rest):=by
 subst L;obtain ⟨M,c,Q⟩:=cD H;refine Lb r (aj s) (v:=.pointer (some (Dg a (j.toNat*sz)))) (λfr d w hw'=>?_) hk;obtain ⟨a',cap',f,_,_,g⟩:=G w hw';simp only [List.cons.injEq,Value.slice.injEq,and_true] at f;obtain ⟨rfl,rfl,rfl⟩:=f;obtain ⟨p,rfl,R⟩:=g (λe=>by subst e;simp at c);unfold execOp;simp only [h,d.ev u,d.ev A,Sem.run_bind,wg D F p xs.length cap k j M c w,Dg,Option.getD_some];rfl
theorem kE {α:Type}{e:Enc α}{S:World→Prop}{xs:List α}{a:Option Addr}{nn cap:Nat}{j:Int}{y:α}{cs:List Value}(f:∀w,S w→mS e w [] xs [.slice a nn cap])(g:idx xs j=some y)(h:∀w ds,e.rd w [] y ds→ds=cs):∀w,S w→At w [] (Dg a (j.toNat*e.sz)) cs:=λw i=>by
 obtain ⟨r,k,l⟩:=cD g;obtain ⟨a',cap',c,_,_,d⟩:=f w i;simp only [List.cons.injEq,Value.slice.injEq,and_true] at c;obtain ⟨rfl,rfl,rfl⟩:=c;obtain ⟨p,rfl,m⟩:=d (λe=>by subst e;simp at k);obtain ⟨ds,o,q⟩:=m _ y l;rw [←h w ds o];exact q
theorem eO {α:Type}{e:Enc α}{o:Oper}{t et:TypeId}{x i:Operand}{agg:Bool}{sz by_:Nat}{z:List Value}{k:IntKind}{j:Int}{nn b cap cap':Nat}{a:Option Addr}{T:TypeId}{xs:List α}{G:List Nat}{c:List Value}(g:o.op=.indexAddr t x i)(h:wt l E o.guard=some true)(p:fo n o.dst=true)(q:ev E x=some (.slice a nn cap'))(r:ev E i=some (.int k j))(s:isSl P t et)(u:eN P et agg sz by_ z)(_hsz:e.sz=sz)(A:∀w,m.cls C w→Mt e T b cap xs j.toNat G c w)(H:nn=xs.length)(D:a=some ⟨b,0,none⟩)(F:0≤j)(hk:OW P n l C (upd E o.dst (.pointer (some ⟨b,j.toNat*sz,none⟩))) m rest):OW P n l C E m (o::rest):=by
 subst D;refine Lb h (aj p) (v:=.pointer (some ⟨b,j.toNat*sz,none⟩)) (λfr d w hw'=>?_) hk;obtain ⟨cur,M,Q,c1,c2,_,_,_,_,_,_,_,L,_⟩:=A w hw';have f:=wg (P:=P) s u ⟨b,0,none⟩ nn cap' k j F (by omega) w;rw [fh,Nat.zero_add] at f;unfold execOp;simp only [g,d.ev q,d.ev r,Sem.run_bind,f];rfl
theorem yF {α:Type}{val:α→Value}{h1:∀x,(val x).oneCell'=true}{S:World→Prop}{xs:List α}{a:Option Addr}{nn cap:Nat}{j:Int}{y:α}(c:∀w,S w→mS (nV val h1) w [] xs [.slice a nn cap])(d:idx xs j=some y):∀w,S w→At w [] (Dg a j.toNat) [val y]:=λw f=>by
 have:=kE (e:=nV val h1) c d (cs:=[val y]) (λ_ _ h=>h) w f;rwa [show (nV val h1).sz=1 from rfl,Nat.mul_one] at this
def NY (a:Option Addr)(cap i sz:Nat):Option Addr:=if cap=i then a else a.map (·.add (i*sz))
theorem Ha {α:Type}{e:Enc α}{S:World→Prop}{xs ys:List α}{a:Option Addr}{nn cap:Nat}{i j:Int}(m:∀w,S w→mS e w [] xs [.slice a nn cap])(h:sub xs i j=some ys):∀w,S w→mS e w [] ys [.slice (NY a cap i.toNat e.sz) ys.length (cap-i.toNat)]:=λw o=>by
 obtain ⟨v,h1,A,rfl⟩:=CE h;obtain ⟨a',cap',g,t,C,k⟩:=m w o;simp only [List.cons.injEq,Value.slice.injEq,and_true] at g;obtain ⟨rfl,rfl,rfl⟩:=g;refine ⟨_,cap-i.toNat,rfl,by simp only [List.length_take,List.length_drop];omega,by omega,λd=>?_⟩;have l:xs≠[]:=λe=>by subst e;simp at d
 obtain ⟨p,rfl,r⟩:=k l
 have u:i.toNat<cap:=by
  have:0<((xs.drop i.toNat).take (j.toNat-i.toNat)).length:=List.length_pos_iff.2 d;simp only [List.length_take,List.length_drop] at this;omega
 unfold NY;rw [Q6];refine ⟨p.add (i.toNat*e.sz),rfl,λq x c=>?_⟩;rw [List.getElem?_take] at c;split at c
 ·rw [List.getElem?_drop] at c;obtain ⟨ds,hd',s⟩:=r _ x c;refine ⟨ds,hd',?_⟩;have f:i.toNat*e.sz+q*e.sz=(i.toNat+q)*e.sz:=by rw [Nat.add_mul]
  rw [gN,f];exact s
 cases c
theorem vw {α:Type}{e:Enc α}{o:Oper}{t et:TypeId}{x:Operand}{lo c:Option Operand}{xs ys:List α}{a:Option Addr}{nn cap:Nat}{i j:Int}{agg:Bool}{sz by_:Nat}{z:List Value}(A:o.op=.slice t x lo c none)(D:wt l E o.guard=some true)(F:fo n o.dst=true)(G:ev E x=some (.slice a nn cap))(H:isSl P t et)(L:eN P et agg sz by_ z)(_hsz:e.sz=sz)(hi':bnd E lo 0=some i)(hj':bnd E c nn=some j)(h:sub xs i j=some ys)(M:∀w,m.cls C w→mS e w [] xs [.slice a nn cap])(hk:OW P n l C (upd E o.dst (.slice (NY a cap i.toNat sz) ys.length (cap-i.toNat))) m rest):OW P n l C E m (o::rest):=by
 obtain ⟨Q,h1,R,rfl⟩:=CE h;obtain ⟨ti,zv,p,X,_,_,_⟩:=L.info;have ht':P.underlying t=some (.slice et):=H;have d:((xs.drop i.toNat).take (j.toNat-i.toNat)).length=j.toNat-i.toNat:=by simp;omega
 refine Lb D (aj F) (v:=.slice (NY a cap i.toNat sz) ((xs.drop i.toNat).take (j.toNat-i.toNat)).length (cap-i.toNat)) (λfr f w hw'=>?_) hk;obtain ⟨a',cap',q,r,hc,a0⟩:=M w hw';simp only [List.cons.injEq,Value.slice.injEq,and_true] at q;obtain ⟨rfl,rfl,rfl⟩:=q
 have s:(lo.map fr.eval=none∧i=0)∨∃k,lo.map fr.eval=some (.int k i):=by
  rcases Gb f hi' with ⟨rfl,rfl⟩|⟨y,k,rfl,g⟩
  ·exact .inl ⟨rfl,rfl⟩
  exact .inr ⟨k,by simp [g]⟩
 have u:(c.map fr.eval=none∧j=xs.length)∨∃k,c.map fr.eval=some (.int k j):=by
  rcases Gb f hj' with ⟨rfl,rfl⟩|⟨y,k,rfl,g⟩
  ·exact .inl ⟨rfl,rfl⟩
  exact .inr ⟨k,by simp [g]⟩
 have Z:=DM (P:=P) (isSl:=true) (len:=xs.length) (cap:=cap) s u Q h1 R r (λh=>by cases h) w;unfold execOp;simp [A,f.ev G,Instr.sliceAt,Instr.slice,run_underlying ht',Z,sizeOf,typeInfo,p,X,NY,d]
theorem eC {α:Type}{xs zs:List α}{y:α}{ys:List α}(h:app xs (y::ys)=some zs):zs≠[]:=by
 rw [(Cu h).1];simp
theorem Wo {o:Oper}{t et u:TypeId}{x:Operand}{a:Option Addr}{nn cap:Nat}{b:Bool}(c:o.op=.binOp .eql t x (.const (.slice none 0 0)) u)(d:ev E x=some (.slice a nn cap))(e:isSl P t et)(f:a.isNone=b):Ry P n C E o (.bool b):=f▸XX c d e
theorem UQ {o:Oper}{t et u:TypeId}{x:Operand}{a:Option Addr}{nn cap:Nat}{b:Bool}(c:o.op=.binOp .neq t x (.const (.slice none 0 0)) u)(d:ev E x=some (.slice a nn cap))(e:isSl P t et)(f:a.isNone=b):Ry P n C E o (.bool (!b)):=f▸VP c d e
def fsB (P:Program)(s:TypeId)(tab:List (Nat×Nat)):Bool:=match P.underlying s with
 | some (.struct fs)=>(match fs.toList.mapM (λf=>(P.info? f.type).map λi=>(f.offset,i.size)) with|some t=>t==tab|none=>false)
 | _=>false
theorem jI {s:TypeId}{tab:List (Nat×Nat)}(h:fsB P s tab=true:=by kernel_rfl):vo P s tab:=by
 unfold fsB at h;split at h
 ·rename_i fs a;refine ⟨fs,a,?_⟩;split at h
  ·rename_i t c;rw [c];simp only [beq_iff_eq] at h;rw [h]
  cases h
 cases h
theorem aY {o:Oper}{t:TypeId}{ps:List (Nat×Operand)}{vs:List Value}(qs:List (Nat×List Value))(cs:List Value){tab:List (Nat×Nat)}{sz by_:Nat}{z:List Value}(a:o.op=.build t ps.toArray)(c:evs E (ps.map (·.2))=some vs)(d:eN P t true sz by_ z)(e:vo P t tab)(f:z.length=sz)(g:Hj (tab.toArray[·]?) sz ((ps.map (·.1)).zip vs) qs)(h:GX z qs=cs):Ry P n C E o (.agg cs.toArray):=h▸UR qs a c d e f g
theorem aT {S:World→Prop}{fl:List (Nat×Bool)}{l:List Oper}{o:Oper}{rest:List Oper}{v:Value}(a:wt l E o.guard=some true)(c:∀t,o.dst=some t→t<n)(d:Ry P n S E o v)(h:OW P n l C (upd E o.dst v) (.held S Q fl) rest):OW P n l C E (.held S Q fl) (o::rest):=Lb (m:=.held S Q fl) a c d h
theorem ja {α:Type}{e:Enc α}{o:Oper}{t:TypeId}{x:Operand}{q:Addr}{b cap i:Nat}{T:TypeId}{xs:List α}{G:List Nat}{c:List Value}{v:Value}{sz by_:Nat}{z:List Value}(p off:Nat)(a:L[p]?=some (Res.hole e T b cap xs i G c))(d:o.op=.load t x)(f:ev E x=some (.pointer (some q)))(g:eN P t false sz by_ z)(h:q=⟨b,i*e.sz+off,none⟩)(j:c[off]?=some v):Ry P n (St w0 M L) E o v:=bw d f g (by
  subst h
  have h1:=Rc (RD (eE (w0:=w0) (M:=M) a)) off (ds:=[v]) (by
   obtain ⟨h1,k⟩:=List.getElem?_eq_some_iff.1 j;rw [List.drop_eq_getElem_cons h1,k];rfl)
  rwa [fh] at h1)
theorem TS {α:Type}{e:Enc α}{o:Oper}{t:TypeId}{x:Operand}{q:Addr}{b cap i:Nat}{T:TypeId}{xs:List α}{G:List Nat}{c:List Value}(ds:List Value){sz by_:Nat}{z:List Value}(p off:Nat)(a:L[p]?=some (Res.hole e T b cap xs i G c))(d:o.op=.load t x)(f:ev E x=some (.pointer (some q)))(g:eN P t true sz by_ z)(h:q=⟨b,i*e.sz+off,none⟩)(j:(c.drop off).take ds.length=ds)(k:ds.length=sz):Ry P n (St w0 M L) E o (.agg ds.toArray):=cC d f g (by
  subst h;have h1:=Rc (RD (eE (w0:=w0) (M:=M) a)) off (ds:=ds) j;rwa [fh] at h1) k
theorem LC {o:Oper}{t:TypeId}{x y:Operand}{b off:Nat}{v:Value}(vs cs':List Value){agg:Bool}{sz by_:Nat}{z:List Value}{i:Nat}{T:TypeId}{cs:List Value}(c:o.op=.store t x y)(d:m.here (o::rest)=true)(e:wt l E o.guard=some true)(f:fo n o.dst=true)(g:ev E x=some (.pointer (some ⟨b,off,none⟩)))(h:ev E y=some v)(j:eN P t agg sz by_ z)(k:v.cells=vs.toArray)(p:vs.length=sz)(h1:∀u∈vs,u.oneCell'=true)(q:L[i]?=some (Res.box b T cs))(a:Nat.ble (off+sz) cs.length=true)(r:ir cs off vs=cs')(s:Kp m (St w0 M (L.set i (Res.box b T cs'))))(hk:OW P n l (St w0 M (L.set i (Res.box b T cs'))) (upd E o.dst undef) m rest):OW P n l (St w0 M L) E m (o::rest):=by
 subst r;exact Uk vs c d e f g h j k p h1 q a s hk
section
variable {α:Type} {f:α→List Value} {k:Nat} {hk:∀x,(f x).length=k} {h1:∀x,∀u∈f x,u.oneCell'=true}
theorem Bm {w:World}:∀(ys:List α),jX (pz f k hk h1) w [] ys (ys.flatMap f)
 | []=>⟨rfl,rfl⟩
 | y::ys=>⟨[],[],f y,ys.flatMap f,rfl,rfl,hk y,⟨rfl,rfl⟩,Bm ys⟩
theorem SZ {w:World}{X:List Nat}{xs:List α}{p:Addr}{nn cap:Nat}(h:mS (pz f k hk h1) w X xs [.slice (some p) nn cap]):nn=xs.length∧At w X p (xs.flatMap f):=by
 obtain ⟨a,cap',c,G,H,d⟩:=h;simp only [List.cons.injEq,Value.slice.injEq,and_true] at c;obtain ⟨rfl,rfl,rfl⟩:=c;refine ⟨rfl,?_⟩;by_cases m:xs=[]
 ·subst m;exact ⟨λh=>absurd rfl h,λj v c=>by simp at c⟩
 obtain ⟨q,D,E⟩:=d m;cases D
 have s:∀(ys:List α)(o:Nat),(∀i x,ys[i]?=some x→∃ds,(pz f k hk h1).rd w X x ds∧At w X (p.add ((o+i)*k)) ds)→∀j v,(ys.flatMap f)[j]?=some v→p.block∉X∧w.cell? (p.add (o*k+j))=some v:=by
  intro ys
  induction ys with
  | nil=>intro o _ j v c;simp at c
  | cons y ys ih =>
   intro o d j v c;rw [List.flatMap_cons] at c;by_cases t:j<(f y).length
   ·rw [List.getElem?_append_left t] at c;obtain ⟨ds,F,u⟩:=d 0 y rfl;have hd':ds=f y:=F;subst hd';have A:=u.2 j v c;have C:=u.1 (λe=>by rw [e] at c;simp at c);rw [uX] at C;rw [gN,Nat.add_zero] at A;exact ⟨C,A⟩
   rw [List.getElem?_append_right (by omega)] at c
   have:=ih (o+1) (λi x g=>by
    have:=d (i+1) x (by simpa using g);rwa [show o+(i+1)=o+1+i by omega] at this) _ v c
   rw [hk y] at this t;refine ⟨this.1,?_⟩;rw [←this.2];congr 2;rw [Nat.add_mul];omega
 have l:=s xs 0 (λi x g=>by have:=E i x g;rwa [show (0+i)*k=i*(pz f k hk h1).sz by rw [Nat.zero_add];rfl]);refine ⟨λr=>?_,λj v c=>by have:=(l j v c).2;simpa using this⟩;obtain ⟨v,c⟩:∃v,(xs.flatMap f)[0]?=some v:=by cases g:xs.flatMap f with|nil=>exact absurd g r|cons v _=>exact ⟨v,rfl⟩
 exact (l 0 v c).1
theorem TB {b:Nat}{T:TypeId}{w:World}(xs:List α)(c:xs.length≤maxLen)(h:(Res.box b T (xs.flatMap f)).ok w):(Res.own (cn (pz f k hk h1) T) [b] xs [.slice (some ⟨b,0,none⟩) xs.length xs.length]).ok w:=by
 have a:∀ys:List α,(ys.flatMap f).length=ys.length*k:=by
  intro ys
  induction ys with
  | nil=>simp
  | cons y ys ih=>rw [List.flatMap_cons,List.length_append,hk,ih,List.length_cons,Nat.add_mul];omega
 refine .inr ⟨b,xs.length,_,[],xs.flatMap f,rfl,rfl,.of h,Nat.le_refl _,c,?_,?_,Bm xs⟩
 ·simp only [List.size_toArray];exact a xs
 exact List.take_of_length_le (by simp only [a];exact Nat.le_refl _)
theorem rO {o:Oper}{t et:TypeId}{len:Nat}{ps:List (Nat×Operand)}{vs:List Value}(xs:List α)(qs:List (Nat×List Value)){agg:Bool}{sz by_:Nat}{z:List Value}(e:o.op=.buildSlice t len ps.toArray)(r:m.here (o::rest)=true)(A:wt l E o.guard=some true)(C:fo n o.dst=true)(D:evs E (ps.map (·.2))=some vs)(F:isSl P t et)(G:eN P et agg sz by_ z)(g:Nat.blt 0 (len*sz)=true)(u:Nat.ble (len*sz) 16777216=true)(j:Nat.ble len 16777216=true)(c:xs.length=len)(H:Hj (λi=>some (i*sz,sz)) (len*sz) ((ps.map (·.1)).zip vs) qs)(v:GX ((List.range (len*sz)).map λi=>z[i%z.length]!) qs=xs.flatMap f)(R:∀b,Kp m (St w0 M (L++[Res.own (cn (pz f k hk h1) et) [b] xs [.slice (some ⟨b,0,none⟩) xs.length len]])))(hk':∀b,OW P n l (St w0 M (L++[Res.own (cn (pz f k hk h1) et) [b] xs [.slice (some ⟨b,0,none⟩) xs.length len]])) (upd E o.dst (.slice (some ⟨b,0,none⟩) xs.length len)) m rest):OW P n l (St w0 M L) E m (o::rest):=by
 have d:∀b w,St w0 M (L++[Res.box b et (xs.flatMap f)]) w→St w0 M (L++[Res.own (cn (pz f k hk h1) et) [b] xs [.slice (some ⟨b,0,none⟩) xs.length len]]) w:=λb w h=>by
  have X:(L++[Res.box b et (xs.flatMap f)])[L.length]?=some (Res.box b et (xs.flatMap f)):=by simp
  have:=h.recast (r':=Res.own (cn (pz f k hk h1) et) [b] xs [.slice (some ⟨b,0,none⟩) xs.length len]) X rfl (λe=>by
   have x:xs.length≤maxLen:=by
    rw [c];have:=Nat.le_of_ble_eq_true j;simp only [maxLen];omega
   have:=TB (hk:=hk) (h1:=h1) xs x e;rwa [←c])
  simpa using this
 subst c;refine dP qs e r A C D F G g u H _ v (λb w hw'=>R b w (d b w hw')) (λb=>?_);have:=hk' b
 cases m with
 | lex Q=>exact λa w p q=>this a w p (d b w q)
 | any K=>cases r
 | held S Q fl=>exact λs h1 Z a w p q=>this s h1 Z a w p (d b w q)
theorem qh {o:Oper}{t et:TypeId}{x y:Operand}{agg:Bool}{sz by_:Nat}{z:List Value}{r:Nat}{F:List Nat}{xs ys zs:List α}{a:Option Addr}{nn cap:Nat}{v:Option Addr}{q c:Nat}(ho:o.op=.call {callee:=.builtin .append,args := #[x,y],argTypes := #[t,t]})(hm:m.here (o::rest)=true)(hw:wt l E o.guard=some true)(hd:fo n o.dst=true)(hx:ev E x=some (.slice a nn cap))(hy:ev E y=some (.slice v q c))(H:isSl P t et)(he:eN P et agg sz by_ z)(a4:Nat.ble by_ 2048=true)(a5:k=sz)(Q:Nat.blt 0 sz=true)(a6:z.length=sz)(hr:L[r]?=some (Res.own (cn (pz f k hk h1) et) F xs [.slice a nn cap]))(hA:∀w,St w0 M L w→mS (pz f k hk h1) w [] ys [.slice v q c])(hz:app xs ys=some zs)(hS:∀a' c' F',Kp m (St w0 M (L.set r (Res.own (cn (pz f k hk h1) et) F' zs [.slice a' zs.length c']))))(hk':∀a' c' F',OW P n l (St w0 M (L.set r (Res.own (cn (pz f k hk h1) et) F' zs [.slice a' zs.length c']))) (upd E o.dst (.slice a' zs.length c')) m rest):OW P n l (St w0 M L) E m (o::rest):=by
 obtain ⟨rfl,R⟩:=Cu hz;refine nX hm hw λfr w Z hC _ _ hK=>?_;obtain ⟨s,A,a8⟩:=hC.one hr;have C:=hA w hC;obtain ⟨i,zv,hi,hs,u,c6,c7⟩:=he.info
 have fin:∀v' w' F',(Builtin.append_ #[t,t] o.type #[.slice a nn cap,.slice v q c]).run P w=.ok v' w'→vF (pz f k hk h1) et w' F' (xs++ys) [v']→Ext F w w'→F'.Nodup→(∀b∈F',b<w'.heap.size∧(b∈F∨w.heap.size≤b)) →
   o.wp P fr w _ m.ends:=λv' w' F' d g j hnd' hF'=>by
  obtain ⟨a',c',h,_⟩:=(cn (pz f k hk h1) et).own_rd (X:=[]) g (by simp);simp only [List.cons.injEq,and_true] at h;subst h;have D:St w0 M (L.set r (Res.own (cn (pz f k hk h1) et) F' (xs++ys) [.slice a' (xs++ys).length c'])) w':=hC.upd hr j _ g hnd' hF';refine rS ?_ (hK _ _ _ _ (hk' a' c' F') (Z.put _ _ (aj hd)) D (hS a' c' F' _ D));unfold execOp;simp only [ho,resolve,invoke,builtin,Sem.run_bind,Sem.run_pure,Result.andThen_ok,List.map_toArray,List.map_cons,List.map_nil,Z.ev hx,Z.ev hy,d]
 cases v with
 | none =>
  have a9:ys=[]∧q=0:=by
   obtain ⟨a',cap',h,_,_,b0⟩:=C;simp only [List.cons.injEq,Value.slice.injEq,and_true] at h;obtain ⟨rfl,rfl,rfl⟩:=h;by_cases G:ys=[]
   ·subst G;exact ⟨rfl,rfl⟩
   obtain ⟨p,hp,_⟩:=b0 G;cases hp
  obtain ⟨rfl,rfl⟩:=a9
  have b1:nn≤cap:=by
   obtain ⟨a',cap',h,h2,_⟩:=(cn (pz f k hk h1) et).own_rd (X:=[]) s (by simp);simp only [List.cons.injEq,Value.slice.injEq,and_true] at h;obtain ⟨rfl,rfl,rfl⟩:=h;exact h2
  have d:=run_append_nothing (P:=P) w t t o.type et i H hi a nn cap b1 (.slice none 0 c) (Src.ofNil w H c);exact fin _ _ F d (by rw [List.append_nil];exact s) (Ext.refl _ _) A (λb u=>⟨a8 b u,.inl u⟩)
 | some p =>
  obtain ⟨hn,b2⟩:=SZ C;obtain ⟨v',w',F',d,g,j,hnd',hF'⟩:=Cg (ty:=o.type) H he a4 (e:=pz f k hk h1) a5 Q a6 (F:=F) (Fy:=[]) s (mm:=q) (cap:=c) hn b2 (Bm ys) R (by rw [List.append_nil];exact A) (by simp)
  exact fin v' w' F' d g j hnd' (λb u=>by
   obtain ⟨h2,h3⟩:=hF' b u;refine ⟨h2,?_⟩;rcases h3 with h3|h3|h3
   ·exact .inl h3
   ·cases h3
   exact .inr h3)
end
theorem gV {α:Type}{e:Enc α}{o:Oper}{t et:TypeId}{x y:Operand}{agg:Bool}{sz by_:Nat}{z:List Value}{r j:Nat}{F Fy:List Nat}{xs ys zs:List α}{a D:Option Addr}{nn cap G f:Nat}(ho:o.op=.call {callee:=.builtin .append,args := #[x,y],argTypes := #[t,t]})(hm:m.here (o::rest)=true)(hw:wt l E o.guard=some true)(hd:fo n o.dst=true)(hx:ev E x=some (.slice a nn cap))(hy:ev E y=some (.slice D G f))(ht:isSl P t et)(he:eN P et agg sz by_ z)(b9:Nat.ble by_ 2048=true)(c0:e.sz=sz)(a7:Nat.blt 0 sz=true)(c1:z.length=sz)(hr:L[r]?=some (Res.own (cn e et) F xs [.slice a nn cap]))(hj:L[j]?=some (Res.own (cn e et) Fy ys [.slice D G f]))(H:qA [r,j]=true)(hz:app xs ys=some zs)(hS:∀a' c' F',Kp m (St w0 M (nO L [r,j]++[Res.own (cn e et) F' zs [.slice a' zs.length c']])))(hk:∀a' c' F',OW P n l (St w0 M (nO L [r,j]++[Res.own (cn e et) F' zs [.slice a' zs.length c']])) (upd E o.dst (.slice a' zs.length c')) m rest):OW P n l (St w0 M L) E m (o::rest):=by
 obtain ⟨rfl,b0⟩:=Cu hz;refine nX hm hw λfr w hF Q _ _ hK=>?_
 have c2:r≠j:=by
  simp only [qA,List.all_cons,List.all_nil,Bool.and_true,Bool.not_eq_true'] at H;exact Nat.ne_of_beq_eq_false H
 obtain ⟨C,a0,c3⟩:=Q.one hr;obtain ⟨b2,b3,d6⟩:=Q.one hj;have a1:∀b,b∈F→b∈Fy→False:=λb g R=>LH Q.nd c2 hr hj (r:=Res.own (cn e et) F xs [.slice a nn cap]) (s:=Res.own (cn e et) Fy ys [.slice D G f]) g R;have hL:jM L [r,j]=[Res.own (cn e et) F xs [.slice a nn cap],Res.own (cn e et) Fy ys [.slice D G f]]:=by simp only [nc,wx,hr,hj]
 obtain ⟨i,zv,hi,R,g,e2,e3⟩:=he.info
 have fin:∀v' w' F',(Builtin.append_ #[t,t] o.type #[.slice a nn cap,.slice D G f]).run P w=.ok v' w'→vF e et w' F' (xs++ys) [v']→Ext F w w'→F'.Nodup→(∀b∈F',b<w'.heap.size∧(b∈F∨b∈Fy∨w.heap.size≤b)) →
   o.wp P fr w _ m.ends:=λv' w' F' h p A hnd' hF'=>by
  obtain ⟨a',c',u⟩:=tU (e:=e) (T:=et) p;simp only [List.cons.injEq,and_true] at u;subst u
  have a3:St w0 M (nO L [r,j]++[Res.own (cn e et) F' (xs++ys) [.slice a' (xs++ys).length c']]) w':=by
   refine Q.comp [r,j] hL H ⟨A.mono (λb g=>.inl (by rw [gP,iC];simp [Res.own,g])),?_,?_,?_,?_⟩
   ·intro s R;rw [List.mem_singleton.1 R];exact p
   ·rw [iC];exact hnd'
   ·intro b g;rw [iC] at g;exact (hF' b g).1
   intro b g;rw [iC] at g;rw [gP,iC];rcases (hF' b g).2 with h3|h3|h3
   ·exact .inr (by simp [Res.own,h3])
   ·exact .inr (by simp [Res.own,h3])
   exact .inl h3
  refine rS ?_ (hK _ _ _ _ (hk a' c' F') (hF.put _ _ (aj hd)) a3 (hS a' c' F' _ a3));unfold execOp;simp only [ho,resolve,invoke,builtin,Sem.run_bind,Sem.run_pure,Result.andThen_ok,List.map_toArray,List.map_cons,List.map_nil,hF.ev hx,hF.ev hy,h]
 rcases b2 with ⟨rfl,rfl,k⟩|⟨b,cap',cur,F1,ds,rfl,k,hh,k1,k2,k3,k4,k5⟩
 ·simp only [List.cons.injEq,Value.slice.injEq,and_true] at k;obtain ⟨rfl,rfl,rfl⟩:=k
  have c4:nn≤cap:=by
   obtain ⟨a',cap',u,h2,_⟩:=(cn e et).own_rd (X:=[]) C (by simp);simp only [List.cons.injEq,Value.slice.injEq,and_true] at u;obtain ⟨rfl,rfl,rfl⟩:=u;exact h2
  have h:=run_append_nothing (P:=P) w t t o.type et i ht hi a nn cap c4 (.slice none 0 0) (Src.ofNil w ht 0);exact fin _ _ F h (by rw [List.append_nil];exact C) (Ext.refl _ _) a0 (λb g=>⟨c3 b g,.inl g⟩)
 simp only [List.cons.injEq,Value.slice.injEq,and_true] at k;obtain ⟨rfl,rfl,rfl⟩:=k
 have c5:At w [] ⟨b,0,none⟩ ds:=by
  refine ⟨λ_=>by simp,λq c Z=>?_⟩;rw [fh,hh.cell];rw [←k4,List.getElem?_take] at Z;split at Z
  ·simpa using Z
  cases Z
 have b6:(F++F1).Nodup:=by
  rw [List.nodup_append];exact ⟨a0,(List.nodup_cons.1 b3).2,λc v d hd e=>by subst e;exact a1 c v (by simp [hd])⟩
 have b7:∀c,(Value.slice a nn cap).ownBlock=some c→c∉F1:=by
  intro c v c6
  have c7:c∈F:=by
   rcases C with ⟨_,_,u⟩|⟨c',cap',cur',F1',ds',rfl,a4,_⟩
   ·simp only [List.cons.injEq,and_true] at u;rw [u] at v;cases v
   simp only [List.cons.injEq,and_true] at a4;rw [a4] at v;cases v;simp
  exact a1 c c7 (by simp [c6])
 obtain ⟨v',w',F',h,p,A,hnd',hF'⟩:=Cg (ty:=o.type) ht he b9 c0 a7 c1 (F:=F) (Fy:=F1) C (mm:=ys.length) (cap:=f) rfl c5 k5 b0 b6 b7
 exact fin v' w' F' h p A hnd' (λc v=>by
  obtain ⟨h2,h3⟩:=hF' c v;refine ⟨h2,?_⟩;rcases h3 with h3|h3|h3
  ·exact .inl h3
  ·exact .inr (.inl (by simp [h3]))
  exact .inr (.inr h3))
theorem uy {α:Type}{e:Enc α}{w:World}{b p q:Nat}{T:TypeId}{Fy:List Nat}{u:α}{cs:List Value}(h:St w0 M L w)(c:L[p]?=some (Res.box b T cs))(d:L[q]?=some (Res.own e Fy u cs))(f:qA [p,q]=true):St w0 M (nO L [p,q]++[Res.own (cn e T) (b::Fy) [u] [.slice (some ⟨b,0,none⟩) 1 1]]) w:=by
 have h1:w.heap[b]?=some (.cells cs.toArray T (0,0)):=h.ok _ (List.mem_of_getElem? c);have g:e.own w Fy u cs:=h.ok _ (List.mem_of_getElem? d);have a:cs.length=e.sz:=e.rd_len (e.own_rd (X:=[]) g (by simp));refine h.re [p,q] _ f ?_ ?_
 ·simp only [nc,wx,c,d];rw [iC,gP,iC];exact List.Perm.refl _
 intro s i;rw [List.mem_singleton.1 i];exact .inr ⟨b,1,_,Fy,cs,rfl,rfl,.of h1,Nat.le_refl _,by simp [maxLen],by simp [a],by simp only [List.length_singleton,Nat.one_mul];exact List.take_of_length_le (Nat.le_of_eq a),⟨Fy,[],cs,[],by simp,by simp,a,g,rfl,rfl⟩⟩
theorem cy {o:Oper}{f:FuncId}{xs:List Operand}{ts:Array TypeId}{vs:List Value}{R:Value→World→World→Prop}(a:o.op=.call {callee:=.value (.func f),args:=xs.toArray,argTypes:=ts})(c:Ns P f)(d:m.here (o::rest)=true)(g:wt l E o.guard=some true)(h:fo n o.dst=true)(i:evs E xs=some vs)(j:∀w,C w→Calls P f vs.toArray w λe w'=>∃v,e=.returned v∧R v w w')(hk:∀v w w',C w→R v w w'→∃C':World→Prop,C' w'∧(∀u,C' u→m.keeps u)∧OW P n l C' (upd E o.dst v) m rest):OW P n l C E m (o::rest):=XF a c d g h i j hk
def BN:List Value→Value
 | [v]=>v
 | vs=>.tuple vs.toArray
def PR (P:Program)(C:World→Prop)(E:Env):List ResultVar→List Value→Prop
 | [],[]=>True
 | .tmp t::rs,v::vs=>kA E t=some v∧PR P C E rs vs
 | .cell t T::rs,v::vs=>(∃p cs sz by_ z,kA E t=some (.pointer (some p))∧eN P T true sz by_ z∧(∀w,C w→At w [] p cs)∧cs.length=sz∧v=.agg cs.toArray)∧PR P C E rs vs
 | _,_=>False
def HA (a:Act):ResultVar→Sem Value
 | .tmp t=>pure (a.tmps.getD t undef)
 | .cell p t=>do loadVar t (←asAddr (a.tmps.getD p undef))
theorem Pn (fn:Func)(a:Act):results fn a.tmps=(do let vs←fn.results.mapM (HA a);pure (if h:vs.size=1 then vs[0] else .tuple vs)):=by
 unfold results
 have:(λx=>(match x with | .tmp t=>pure (a.tmps.getD t undef) | .cell p t=>do loadVar t (←asAddr (a.tmps.getD p undef)):Sem Value))=HA a:=by
  funext x;cases x<;>rfl
 rw [←this];rfl
theorem JS {a:Act}{w:World}(c:Fr n E a)(d:C w):∀{rs:List ResultVar}{vs:List Value},PR P C E rs vs→(rs.mapM (HA a)).run P w=.ok vs w
 | [],[],_=>rfl
 | .tmp t::rs,v::vs,h=>by
  have ih:=JS c d h.2;have e:(HA a (.tmp t)).run P w=.ok v w:=by simp only [HA,Sem.run_pure,c.b_ t v h.1]
  rw [List.mapM_cons];simp only [Sem.run_bind,Sem.run_pure,Result.andThen_ok,e,ih]
 | .cell t T::rs,v::vs,h=>by
  have ih:=JS c d h.2;obtain ⟨p,cs,sz,by_,z,h1,g,i,j,rfl⟩:=h.1;have f:=DZ g (i w d) j
  have e:(HA a (.cell t T)).run P w=.ok (.agg cs.toArray) w:=by
   simp only [Instr.loadAt,Instr.sureAddr,Sem.run_bind,Sem.run_pure,Result.andThen_ok,if_true] at f;simp only [HA,Sem.run_bind,Sem.run_pure,Result.andThen_ok,c.b_ t _ h1,asAddr,f]
  rw [List.mapM_cons];simp only [Sem.run_bind,Sem.run_pure,Result.andThen_ok,e,ih]
 | [],_::_,h=>h.elim
 | .tmp _::_,[],h=>h.elim
 | .cell _ _::_,[],h=>h.elim
theorem Hy {fn:Func}{a:Act}{w:World}{rs:List ResultVar}{vs:List Value}(c:fn.results=rs.toArray)(d:Fr n E a)(e:C w)(h:PR P C E rs vs):(results fn a.tmps).run P w=.ok (BN vs) w:=by
 have h1:=JS d e h
 have f:(rs.toArray.mapM (HA a)).run P w=.ok vs.toArray w:=by
  rw [List.mapM_toArray,map_eq_pure_bind];simp only [Sem.run_bind,h1,Result.andThen_ok,Sem.run_pure]
 rw [Pn,c];simp only [Sem.run_bind,f,Result.andThen_ok,Sem.run_pure];congr 1
 match vs with
 | []=>rfl
 | [v]=>rfl
 | v::u::vs=>rfl
theorem Bg {fn:Func}{R:Ending→World→Prop}{rs:List ResultVar}{vs:List Value}(d:fn.results=rs.toArray)(e:PR P C E rs vs)(f:∀w,C w→R (.returned (BN vs)) w):XW n C E (bodyPost P fn R) .ret:=λ_ w a c =>
 ⟨a.df,BN vs,Hy d a c e,f w c⟩
theorem Nv {fn:Func}{R:Ending→World→Prop}{rs:List ResultVar}{vs:List Value}(d:fn.results=rs.toArray)(e:PR P C E rs vs)(f:∀w,C w→R (.returned (BN vs)) w):XW n C E (bodyPost P fn R) .normal:=λ_ w a c =>
 ⟨a.df,BN vs,Hy d a c e,f w c⟩
end Go.Vk
/- Regions whose head makes and reads memory, and whose tail comes in one order. -/
namespace Go.Vk
open Go.RowKit
variable {P:Program} {n:Nat} {C:World→Prop} {E:Env} {m:Md} {l rest:List Oper} {w0:World} {M:List Nat} {L:List Res} {Q:Exit→Act→World→Prop}
def QT (P:Program)(l:List Oper)(nn:Nat)(Q:Exit→Act→World→Prop):Exit→Act→World→Prop
 | .normal,a,w=>wpList P l.toArray Q (l.drop nn) a w
 | e,a,w=>Q e a w
theorem Ye {Q1 i:Exit→Act→World→Prop}(h:∀e a w,e≠.normal→Q1 e a w→i e a w){o:Oper}{a:Act}{K:Act→World→Prop}{r:Result Next}(d:o.upon P a K Q1 r):o.upon P a K i r:=by
 cases r with
 | ok x w' =>
  cases x<;>simp only [Oper.upon] at d ⊢
  case value=>exact d
  case skip=>exact d
  case defer=>exact d
  case enter f args =>
   refine d.mono λe w'' g=>?_
   cases e with
   | returned v=>exact g
   | panicked c=>exact h _ _ _ (by simp) g
   | outgrown=>obtain ⟨a,w,j⟩:=(show LetsOut Q1 from g);exact ⟨a,w,h _ _ _ (by simp) j⟩
  case row=>exact d
 | halt x w' =>
  cases x<;>simp only [Oper.upon] at d ⊢;exact h _ _ _ (by simp) d
theorem Gt {Q1 f:Exit→Act→World→Prop}{ops:Array Oper}(h:∀e a w,e≠.normal→Q1 e a w→f e a w){i:Nat}{K:Act→World→Prop}{a:Act}{w:World}(c:wpOp P ops Q1 i K a w):wpOp P ops f i K a w:=by
 unfold wpOp at c ⊢
 cases g:ops[i]? with
 | none=>rw [g] at c;exact c
 | some o =>
  rw [g] at c;simp only at c ⊢;split at c
  ·rename_i d;rw [if_pos d];rcases c with c|⟨h1,j⟩
   ·exact .inl (Ye h c)
   obtain ⟨a,w,k⟩:=j;exact .inr ⟨h1,a,w,h _ _ _ (by simp) k⟩
  rename_i d;rw [if_neg d];exact c
section
variable {ops:Array Oper} {md:Region.Mode} {S:World→Prop}
def xC (P:Program)(md:Region.Mode)(ops:Array Oper)(Q:Exit→Act→World→Prop)(S:World→Prop)(nn:Nat)(K:Array Bool→Act→World→Prop):Nat→Array Bool→Act→World→Prop
 | 0,listed,a,w=>K listed a w
 | f+1,listed,a,w =>
  Region.ready md ops listed≠[]∧∀i∈Region.ready md ops listed,i<nn∧wpOp P ops Q i (λa' w'=>S w'∧xC P md ops Q S nn K f (listed.setIfInBounds i true) a' w') a w
theorem ye {nn g:Nat}{K:Array Bool→Act→World→Prop}(c:∀listed a w,K listed a w→wpAny P md ops Q g listed a w):∀(f:Nat)(listed:Array Bool)(a:Act)(w:World),xC P md ops Q S nn K f listed a w→wpAny P md ops Q (f+g) listed a w
 | 0,listed,a,w,h=>by rw [Nat.zero_add];exact c _ _ _ h
 | f+1,listed,a,w,h=>by
  rw [show f+1+g=(f+g)+1 by omega];exact ⟨λd=>absurd d h.1,λi e=>wpOp_mono (λa' w' h'=>ye c f _ a' w' h'.2) (h.2 i e).2⟩
theorem Dm {nn i:Nat}{oi:Oper}{v:Value}{K:Array Bool→Act→World→Prop}(F:ops[i]?=some oi)(r:∀(j:Nat) (o:Oper) cs b,ops[j]?=some o→o.op≠.select cs b)(M:Region.sinkB md ops nn=true)(R:Region.chainB md ops nn=true)(X:nn<ops.size)(D:i<nn)(hQ:nW Q)(x:∀listed a w,K listed a w→∀j∈Region.ready md ops listed,nn≤j):∀(f:Nat)(listed:Array Bool)(a:Act)(w:World),HeadInv md ops nn listed →
   (∀j oj,ops[j]?=some oj→j≠i→listed.getD j true=false→(∀e∈oj.after,Region.binds md e=true→e.on≠i)→oi.apart ops oj=true) →
   i∈Region.ready md ops listed→YieldsIf P ops S oi v a→S w →
   xC P md ops Q S nn K f (listed.setIfInBounds i true) (a.put oi.dst v) w→xC P md ops Q S nn K (f+1) listed a w:=by
 intro f
 induction f with
 | zero =>
  intro listed a w inv _ l A s H;have g:=(mem_ready.1 l).1;refine ⟨λh=>(by rw [h] at l;cases l),λj m=>?_⟩
  have p:j<nn:=by
   rcases Nat.lt_or_ge j nn with h|h
   ·exact h
   exact absurd m (tail_waits M R X inv _ i rfl D g j h)
  refine ⟨p,?_⟩;by_cases d:j=i
  ·subst d;exact A.wpOp F s ⟨s,H⟩
  have:=x _ _ _ H j (ready_mono m d);omega
 | succ f ih =>
  intro listed a w inv q l A s H;have g:=(mem_ready.1 l).1;refine ⟨λh=>(by rw [h] at l;cases l),λj m=>?_⟩
  have p:j<nn:=by
   rcases Nat.lt_or_ge j nn with h|h
   ·exact h
   exact absurd m (tail_waits M R X inv _ i rfl D g j h)
  refine ⟨p,?_⟩;by_cases d:j=i
  ·subst d;exact A.wpOp F s ⟨s,H⟩
  have h1:=(H.2 j (ready_mono m d)).2;obtain ⟨t,oj,u,G⟩:=mem_ready.1 m
  have L:∀e∈oj.after,Region.binds md e=true→e.on≠i:=λe he hb Z=>by
   have h1:=G e he hb;rw [Z,getD_both g] at h1;cases h1
  have h2:=wpOp_putIf u (q j oj u d t L) (λcs b=>r i oi cs b F) (λcs b=>r j oj cs b u) (λc a w=>hQ c a oi.dst v w) A h1
  have hfree':∀k ok,ops[k]?=some ok→k≠i→(listed.setIfInBounds j true).getD k true=false →
    (∀e∈ok.after,Region.binds md e=true→e.on≠i)→oi.apart ops ok=true:=λk ok hk a0 g a1=>by
   refine q k ok hk a0 ?_ a1;by_cases E:j=k
   ·subst E;exact t
   rw [getD_set_ne true E] at g;exact g
  refine wpOp_mono (λa' w' C=>⟨C.2.1,ih (listed.setIfInBounds j true) a' w' (inv.set m p) hfree' (ready_mono l (Ne.symm d)) C.1 C.2.1 ?_⟩) h2;rw [Array.setIfInBounds_comm _ _ d];exact C.2.2
def Lj (ops:Array Oper)(nn g:Nat):List (Nat×Bool)→Array Bool→Bool
  | [],listed=>Region.seqB .any ops g nn listed
  | (i,q)::s,listed =>
    Nat.blt i nn&&(match q with
     | true=>Region.free .any ops listed i&&(Region.ready .any ops listed).contains i
     | false=>Region.ready .any ops listed==[i])&&Lj ops nn g s (listed.setIfInBounds i true)
theorem xX {nn g:Nat}{K:Act→World→Prop}(f:Region.noSelect ops=true)(p:Region.sinkB .any ops nn=true)(q:Region.chainB .any ops nn=true)(r:nn<ops.size)(t:nW Q){Q1:Exit→Act→World→Prop}(k:∀e a w,e≠.normal→Q1 e a w→Q e a w)(l:∀a w,Q1 .normal a w→K a w):∀(s:List (Nat×Bool))(listed:Array Bool)(a:Act)(w:World),HeadInv .any ops nn listed →
  Lj ops nn g s listed=true→pB P ops S Q1 s a w→xC P .any ops Q S nn (λlisted' a' w'=>Region.seqB .any ops g nn listed'=true∧K a' w') s.length listed a w
 | [],listed,a,w,_,d,h=>by
  rw [pB] at h;exact ⟨by simpa [Lj] using d,l _ _ h⟩
 | (i,true)::s,listed,a,w,inv,d,h=>by
  simp only [Lj,Bool.and_eq_true] at d;obtain ⟨⟨c,A,m⟩,d⟩:=d;have c:=Nat.le_of_ble_eq_true c;rw [pB] at h;obtain ⟨o,v,u,C,D,h⟩:=h;have hr':i∈Region.ready .any ops listed:=by simpa using m
  exact Dm u (Region.noSelect_spec f) p q r c t (λlisted' a' w' E=>seqB_ready E.1) s.length listed a w inv (Region.free_spec u A) hr' C D
   (xX f p q r t k l s _ _ _ (inv.set hr' c) d h)
 | (i,false)::s,listed,a,w,inv,d,h=>by
  simp only [Lj,Bool.and_eq_true,beq_iff_eq] at d;obtain ⟨⟨c,m⟩,d⟩:=d;have c:=Nat.le_of_ble_eq_true c;rw [pB] at h;have hr':i∈Region.ready .any ops listed:=by rw [m];simp
  refine ⟨by rw [m];simp,λj x=>?_⟩;rw [m] at x;obtain rfl:=List.mem_singleton.1 x;exact ⟨c,wpOp_mono (λa' w' h'=>⟨h'.1,xX f p q r t k l s _ _ _ (inv.set hr' c) d h'.2⟩) (Gt k h)⟩
end
theorem bW {id:Nat}{l:List Oper}(nn:Nat)(fl:List (Nat×Bool))(S:World→Prop)(s:P.follows .mixedOrders=true)(m:(Region.noSelect l.toArray&&decide (nn<l.toArray.size)&&Region.sinkB .any l.toArray nn&&Region.chainB .any l.toArray nn&&Lj l.toArray nn (l.toArray.size-nn) fl (Array.replicate l.length false)&&inB l fl&&Nat.beq fl.length nn)=true)(u:nW Q)(v:∀w,St w0 M L w→S w)(h:OW P n l (St w0 M L) E (.held S (QT P l nn Q) fl) (rK l fl)):CW P n (St w0 M L) E Q (.region id l.toArray true):=λa w x o=>by
 simp only [Bool.and_eq_true,decide_eq_true_eq] at m;obtain ⟨⟨⟨⟨⟨⟨d,p⟩,A⟩,C⟩,D⟩,F⟩,G⟩:=m;have f:fl.length=nn:=Nat.eq_of_beq_eq_true G;have hn':nn<l.length:=by simpa using p
 refine wp_region_any s ?_
 have i:HeadInv .any l.toArray nn (Array.replicate l.toArray.size false):=⟨by simp,λj oj _ q=>(by rw [getD_replicate_false] at q;cases q),λt _ R=>getD_in (by simpa using R) (getD_replicate_false _ _)⟩
 have k:=h fl ⟨[],rfl⟩ (pT F) a _ x o.drew (v _ o.drew)
 have H:=xX (P:=P) (S:=S) (Q:=Q) (Q1:=QT P l nn Q) (K:=λa w=>wpList P l.toArray Q (l.drop nn) a w) (g:=l.toArray.size-nn) d A C p u
  (λe a w X h=>by cases e<;>first|exact absurd rfl X|exact h) (λa w h=>h) fl (Array.replicate l.toArray.size false) a _ i (by simpa using D) k
 have c:(l.drop nn).length=l.toArray.size-nn:=by simp
 have:=ye (Q:=Q) (g:=l.toArray.size-nn) (λlisted a' w' r=>by
  have:=wpAny_of_seq (md:=.any) (Q':=Q) (l.drop nn) nn listed a' w' (λj=>by simp [List.getElem?_drop]) (by rw [c];exact r.1) r.2;rwa [c] at this) _ _ _ _ H
 rw [f,show nn+(l.toArray.size-nn)=l.toArray.size by omega] at this;exact this
theorem fK {l:List Oper}{nn:Nat}(h:OW P n l C E (.lex Q) (l.drop nn)):XW n C E (QT P l nn Q) .normal:=λa w c d=>h a w c d
end Go.Vk
/- Calls of function values. -/
namespace Go.Vk
section
variable {P:Program} {n:Nat} {E:Env} {w0:World} {M:List Nat} {L:List Res}
theorem SG {o:Oper}{y:Operand}{f:FuncId}{xs:List Operand}{ts:Array TypeId}{vs cap:List Value}{a:Act}(e:o.op=.call {callee:=.value y,args:=xs.toArray,argTypes:=ts})(g:Ns P f)(d:Fr n E a)(h:ev E y=some (.func (.func f) #[] cap.toArray))(i:evs E xs=some vs)(w:World):(execOp a.eval o).run P w=.ok (.enter f (vs++cap).toArray) w:=by
 obtain ⟨fn,h1,j,k⟩:=g;obtain ⟨c,l⟩:=Option.isSome_iff_exists.1 j;have m:(xs.toArray.map a.eval)=vs.toArray:=by rw [←d.evs i];simp
 unfold execOp;simp only [e,resolve,d.ev h,Deferred.ofValue,m];simp [invoke,callFunc,h1,k,l]
theorem sd {o:Oper}{y:Operand}{f:FuncId}{xs:List Operand}{ts:Array TypeId}{vs cap:List Value}{v:Value}(d:o.op=.call {callee:=.value y,args:=xs.toArray,argTypes:=ts})(g:Ns P f)(h:ev E y=some (.func (.func f) #[] cap.toArray))(i:evs E xs=some vs)(j:∀w,St w0 M L w→Calls P f (vs++cap).toArray w λe w'=>e=.returned v∧Ext [] w w'):Qy P n (St w0 M L) E o v:=λa k w c=>by
 unfold Oper.quietAt;rw [SG d g k h i w];exact ⟨rfl,(j w c).mono λe w' ⟨l,m⟩=>⟨l,c.step m⟩⟩
end
end Go.Vk
/- Structs compared, min, maps that the call makes. -/
namespace Go.Vk
open Go.RowKit
section
variable {P:Program} {n:Nat} {S C:World→Prop} {E:Env} {m:Md} {l rest:List Oper} {w0:World} {M:List Nat} {L:List Res}
def Ja (d:TypeDesc)(x y:Value):Option Bool:=match d,x,y with
 | .int _,.int k a,.int k' b=>bif Dz k k' then some (a==b) else none
 | .bool,.bool a,.bool b=>some (a==b)
 | .string,.string a,.string b=>some (a.data.toList==b.data.toList)
 | _,_,_=>none
def SF (P:Program)(xs ys:List Value):List Field→Option Bool
 | []=>some true
 | f::fs =>
  match decide (f.name = "_"),P.underlying f.type,xs[f.offset]?,ys[f.offset]? with
  | false,some d,some x,some y =>
   match Ja d x y,SF P xs ys fs with
   | some b,some r=>some (b&&r)
   | _,_=>none
  | _,_,_,_=>none
def IR (P:Program)(t:TypeId)(xs ys:List Value):Option Bool:=match P.underlying t with
 | some (.struct fs)=>bif P.stoodInHeld t||P.eqGuardType P.depth t then none else SF P xs ys fs.toList
 | _=>none
theorem Jb {d:Nat}{t:TypeId}{td:TypeDesc}{x y:Value}{b:Bool}(c:P.underlying t=some td)(h:Ja td x y=some b)(w:World):(Op.equalIn (d+1) t x y).run P w=.ok b w∧P.plainKey t=true:=by
 unfold Ja at h;split at h
 ·rename_i k a k' b'
  cases hk:Dz k k' with
  | false=>rw [hk] at h;cases h
  | true =>
   rw [hk] at h;obtain rfl:=CT hk;cases h;exact ⟨run_equalIn_int w d t _ _ _ _ c,by simp [Program.plainKey,c]⟩
 ·cases h;exact ⟨run_equalIn_bool' w d t _ _ c,by simp [Program.plainKey,c]⟩
 ·cases h;exact ⟨by rw [run_equalIn_string w d t _ _ c,ByteArray.toList_eq,ByteArray.toList_eq],by simp [Program.plainKey,c]⟩
 cases h
theorem Ud {d:Nat}{xs ys:List Value}(w:World):∀{fs:List Field}{b:Bool},SF P xs ys fs=some b→(Op.eqFields (d+1) xs.toArray ys.toArray fs).run P w=.ok b w:=by
 intro fs
 induction fs with
 | nil=>intro b h;cases h;simp [Op.eqFields]
 | cons f fs ih =>
  intro b h;unfold SF at h;split at h
  ·rename_i o d' x y h1 e g i;split at h
   ·rename_i j r k l;cases h;obtain ⟨m,a⟩:=Jb (d:=d) e k w;have c:f.name ≠ "_" := by simpa using h1
    have px:=run_part_plain w a (xs:=xs.toArray) (off:=f.offset) (by simpa using g);have py:=run_part_plain w a (xs:=ys.toArray) (off:=f.offset) (by simpa using i);simp only [Op.eqFields,c,ne_eq,not_false_eq_true,if_true,Sem.run_bind,px,py,m,Result.andThen_ok];cases j
    ·simp
    simp [ih l]
   cases h
  cases h
theorem Kk {d:Nat}{t:TypeId}{xs ys:List Value}{b:Bool}(h:IR P t xs ys=some b)(w:World):(Op.equalIn (d+2) t (.agg xs.toArray) (.agg ys.toArray)).run P w=.ok b w∧P.eqGuardType P.depth t=false:=by
 unfold IR at h;split at h
 ·rename_i fs c
  cases a:P.stoodInHeld t with
  | true=>rw [a] at h;cases h
  | false =>
   cases e:P.eqGuardType P.depth t with
   | true=>rw [a,e] at h;cases h
   | false =>
    rw [a,e] at h;have f:P.fieldsOf t=fs:=by unfold Program.fieldsOf;rw [c]
    refine ⟨?_,rfl⟩;rw [run_equalIn_struct w (d+1) t _ _ (by rw [f];exact c) a,f];exact Ud w h
 cases h
theorem EN {o:Oper}{t u:TypeId}{x y:Operand}{xs ys:List Value}{b:Bool}(e:o.op=.binOp .eql t x y u)(f:ev E x=some (.agg xs.toArray))(g:ev E y=some (.agg ys.toArray))(h:IR P t xs ys=some b):Ry P n S E o (.bool b):=λa c w _=>by
 obtain ⟨h1,i⟩:=Kk (d:=9998) h w;unfold execOp;simp only [e,c.ev f,c.ev g,Sem.run_bind,run_eqGuard_agg w _ _ _ _ _ _ i,Result.andThen_ok,run_eql_struct,h1,Sem.run_pure]
theorem Ms {o:Oper}{t u:TypeId}{x y:Operand}{xs ys:List Value}{b:Bool}(e:o.op=.binOp .neq t x y u)(f:ev E x=some (.agg xs.toArray))(g:ev E y=some (.agg ys.toArray))(h:IR P t xs ys=some b):Ry P n S E o (.bool (!b)):=λa c w _=>by
 obtain ⟨h1,i⟩:=Kk (d:=9998) h w;unfold execOp;simp only [e,c.ev f,c.ev g,Sem.run_bind,run_eqGuard_agg w _ _ _ _ _ _ i,Result.andThen_ok,run_neq_struct,h1,Sem.run_pure]
theorem Yl {o:Oper}{x y:Operand}{ts:Array TypeId}{k k':IntKind}{a b:Int}(d:o.op=.call {callee:=.builtin .min,args := #[x,y],argTypes:=ts})(e:ev E x=some (.int k a))(f:ev E y=some (.int k' b)):Ry P n S E o (.int k (if b<a then b else a)):=λfr c w _=>by
 unfold execOp;simp [d,resolve,invoke,builtin,c.ev e,c.ev f,Builtin.min_,Builtin.min2,List.foldlM]
variable {κ:Type}
section
variable [DecidableEq κ]
def lb:List (κ×Int)→κ→Int
 | [],_=>0
 | (k',v)::es,k=>if k=k' then v else lb es k
def qt:List (κ×Int)→κ→Option Nat
 | [],_=>none
 | (k',_)::es,k=>if k=k' then some 0 else (qt es k).map (· + 1)
def Bf (es:List (κ×Int))(k:κ):List (κ×Int)×Nat:=match qt es k with
 | some i=>(es,i)
 | none=>(es++[(k,0)],es.length)
def EJ (es:List (κ×Int))(k:κ)(x:Int):List (κ×Int):=(Bf es k).1.modify (Bf es k).2 (λe=>(e.1,x))
end
def rP (f:κ→List Value):Nat→List (κ×Int)→List MapEntry
 | _,[]=>[]
 | i,(k,v)::es=>{key:=.agg (f k).toArray,val:=.int .i64 v,born:=i}::rP f (i+1) es
def Res.map (f:κ→List Value)(b:Nat)(es:List (κ×Int)):Res:=⟨[b],λw=>w.heap[b]?=some (.map (rP f 0 es).toArray es.length),λ_ _ h ok=>(h b (by simp)).trans ok⟩
theorem NW {f:κ→List Value}{b:Nat}{es:List (κ×Int)}{i:Nat}(a:L[i]?=some (Res.map f b es)):∀w,St w0 M L w→w.heap[b]?=some (.map (rP f 0 es).toArray es.length):=λ_ c=>c.ok _ (List.mem_of_getElem? a)
theorem OJ {f:κ→List Value}:∀{es:List (κ×Int)}{i q:Nat}{e:κ×Int},es[q]?=some e→(rP f i es)[q]?=some {key:=.agg (f e.1).toArray,val:=.int .i64 e.2,born:=i+q}
 | (k,v)::es,i,0,e,h=>by cases h;rfl
 | (k,v)::es,i,q+1,e,h=>by
  have:=OJ (f:=f) (i:=i+1) (q:=q) (e:=e) (by simpa using h);simp only [rP,List.getElem?_cons_succ,this];congr 2;omega
 | [],_,_,_,h=>by cases h
theorem NH {f:κ→List Value}:∀(es ds:List (κ×Int))(i:Nat),rP f i (es++ds)=rP f i es++rP f (i+es.length) ds
 | [],_,_=>rfl
 | (k,v)::es,ds,i=>by
  simp only [List.cons_append,rP,NH es,List.length_cons];rw [show i+1+es.length=i+(es.length+1) by omega]
theorem Hw {f:κ→List Value}(x:Int):∀(es:List (κ×Int))(i q:Nat),rP f i (es.modify q λe=>(e.1,x))=(rP f i es).modify q λe=>{e with val:=.int .i64 x}
 | [],_,_=>by simp [rP]
 | (k,v)::es,i,0=>rfl
 | (k,v)::es,i,q+1=>by simp [rP,Hw x es]
theorem LR {f:κ→List Value}:∀(es:List (κ×Int))(i q:Nat),q<es.length→(rP f i es).findIdx? (λe=>(e.born:Int)==((i+q:Nat):Int))=some q
 | [],_,_,h=>by simp at h
 | (k,v)::es,i,0,_=>by simp [rP,List.findIdx?_cons]
 | (k,v)::es,i,q+1,h=>by
  have:=LR (f:=f) es (i+1) q (by simpa using h);rw [show i+1+q=i+(q+1) by omega] at this;simp only [rP,List.findIdx?_cons];rw [Q4,this];rfl
section
variable [DecidableEq κ]
structure Lr (P:Program)(kt:TypeId)(f:κ→List Value):Prop where
 eq:∀(a b:κ)(w:World),(Op.equal kt (.agg (f a).toArray) (.agg (f b).toArray)).run P w=.ok (decide (a=b)) w
 chk:∀(e:Bool)(a:κ)(w:World),(Instr.checkKey e 10000 kt (.agg (f a).toArray)).run P w=.ok () w
 wide:(match P.underlying kt with|some (.array _ _)|some (.struct _)=>true|_=>false)=true
 same:∀a:κ,Instr.sameBits 10000 (.agg (f a).toArray) (.agg (f a).toArray)=true
def Vt (P:Program)(t kt et:TypeId):Prop:=P.underlying t=some (.map kt et)
theorem TW {f:κ→List Value}{kt:TypeId}(a:Lr P kt f)(k:κ)(w:World):∀(es:List (κ×Int))(i j:Nat),
  (Instr.findAsking kt (.agg (f k).toArray) (rP f i es) j).run P w=.ok ((qt es k).map λq=>(j+q,.int .i64 (lb es k))) w:=by
 intro es
 induction es with
 | nil=>intro i j;simp [rP,Instr.findAsking,qt]
 | cons e es ih =>
  intro i j;obtain ⟨k',v⟩:=e;simp only [rP,Instr.findAsking,Sem.run_bind,a.eq,Result.andThen_ok];by_cases h:k=k'
  ·simp [h,qt,lb]
  simp only [h,decide_false,Bool.false_eq_true,if_false,ih,qt,lb]
  cases qt es k with
  | none=>rfl
  | some q=>simp [Nat.add_comm,Nat.add_left_comm]
theorem Do {f:κ→List Value}{kt:TypeId}(d:Lr P kt f)(k:κ)(w:World)(es:List (κ×Int)):(Instr.findKey kt (.agg (f k).toArray) (rP f 0 es)).run P w=.ok ((qt es k).map λq=>(q,.int .i64 (lb es k))) w:=by
 have g:=d.wide;have key:=TW d k w es 0 0
 cases a:P.underlying kt with
 | none=>simp [a] at g
 | some kd =>
  cases c:rP f 0 es with
  | nil =>
   rw [c] at key;rw [show (λq=>(0+q,Value.int .i64 (lb es k)))=(λq=>(q,Value.int .i64 (lb es k))) by funext q;rw [Nat.zero_add]] at key;rw [←key];simp [Instr.findKey,run_underlying a,Instr.findNow,Instr.findAsking]
  | cons e es' =>
   rw [c] at key;rw [show (λq=>(0+q,Value.int .i64 (lb es k)))=(λq=>(q,Value.int .i64 (lb es k))) by funext q;rw [Nat.zero_add]] at key;rw [←key];cases kd<;>simp [a] at g<;>simp [Instr.findKey,run_underlying a,Instr.findNow,Instr.sameNow]
theorem Li {es:List (κ×Int)}{k:κ}(h:qt es k=none):lb es k=0:=by
 induction es with
 | nil=>rfl
 | cons e es ih =>
  obtain ⟨k',v⟩:=e;unfold qt at h;unfold lb;by_cases hk:k=k'
  ·simp [hk] at h
  rw [if_neg hk] at h ⊢;exact ih (by simpa using h)
theorem Oo {es:List (κ×Int)}{k:κ}{i:Nat}(h:qt es k=some i):i<es.length∧∃v,es[i]?=some (k,v):=by
 induction es generalizing i with
 | nil=>cases h
 | cons e es ih =>
  obtain ⟨k',v⟩:=e;unfold qt at h;by_cases hk:k=k'
  ·rw [if_pos hk] at h;cases h;exact ⟨by simp,v,by simp [hk]⟩
  rw [if_neg hk] at h
  cases a:qt es k with
  | none=>rw [a] at h;cases h
  | some q =>
   rw [a] at h;cases h;obtain ⟨h1,v',c⟩:=ih a;exact ⟨by simp;omega,v',by simpa using c⟩
theorem Wt (es:List (κ×Int))(k:κ):(Bf es k).2<(Bf es k).1.length:=by
 unfold Bf
 cases h:qt es k with
 | none=>simp
 | some i=>exact (Oo h).1
theorem OM {xs:List MapEntry}{i:Nat}{e:MapEntry}(h:xs[i]?=some e)(g:MapEntry→MapEntry)(c:g e=e):xs.modify i g=xs:=by
 apply List.ext_getElem?;intro j;rw [List.getElem?_modify];by_cases a:i=j
 ·subst a;rw [h];simp [c]
 simp [a]
end
def World.setMap (w:World)(b:Nat)(o:Obj):World:={w with heap:=w.heap.setIfInBounds b o}
theorem Qf {w:World}{b:Nat}{o:Obj}:Ext [b] w (World.setMap w b o):=⟨rfl,rfl,rfl,by simp [World.setMap],λc d a=>by
  have:b≠c:=λe=>a (by simp [e]);simp [World.setMap,this]⟩
theorem Vx {f:κ→List Value}{b:Nat}{es es':List (κ×Int)}{i:Nat}{w:World}(a:St w0 M L w)(d:L[i]?=some (Res.map f b es)):St w0 M (L.set i (Res.map f b es')) (World.setMap w b (.map (rP f 0 es').toArray es'.length)):=a.upd d Qf (Res.map f b es') (Go.MapKept.heap_set (NW d w a)).1 (by simp [Res.map]) (λc g=>by
  have e:c=b:=by simpa [Res.map] using g
  subst e;exact ⟨by simpa [World.setMap] using (Array.getElem?_eq_some_iff.1 (NW d w a)).1,.inl (by simp [Res.map])⟩)
theorem Qg {o:Oper}{T:TypeId}(f:κ→List Value)(d:o.op=.makeMap T none)(e:m.here (o::rest)=true)(g:wt l E o.guard=some true)(h:fo n o.dst=true)(i:∀b,Kp m (St w0 M (L++[Res.map f b []])))(hk:∀b,OW P n l (St w0 M (L++[Res.map f b []])) (upd E o.dst (.map (some b))) m rest):OW P n l (St w0 M L) E m (o::rest):=nX e g λa w j k _ _ p=>by
  have c:St w0 M (L++[Res.map f w.heap.size []]) (w.alloc (.map #[] 0)):=k.push (GQ w _) _ (Go.MapKept.heap_alloc w _).1 (by simp [Res.map]) (by simp [Res.map]);exact rS (by unfold execOp;simp [d,Instr.makeMap]) (p _ _ _ _ (hk w.heap.size) (j.put _ _ (aj h)) c (i _ _ c))
def XS (P:Program)(t:TypeId):Bool:=match P.info? t with
 | some i=>(match i.zero with|some (.int .i64 (.ofNat 0))=>true|_=>false)
 | none=>false
def Wn (P:Program)(t:TypeId):Prop:=∀w:World,(zeroValue t).run P w=.ok (.int .i64 0) w
theorem Wb {t:TypeId}(h:XS P t=true):Wn P t:=λw=>by
 unfold XS at h;split at h
 ·rename_i i a;split at h
  ·rename_i c;simp [zeroValue,typeInfo,a,c]
  cases h
 cases h
section
variable [DecidableEq κ]
theorem Ly {f:κ→List Value}{o:Oper}{t kt et:TypeId}{x y:Operand}{b:Nat}{es:List (κ×Int)}{k:κ}(e:o.op=.lookup t x y false)(g:ev E x=some (.map (some b)))(h:ev E y=some (.agg (f k).toArray))(i:Vt P t kt et)(j:Wn P et)(c:Lr P kt f)(l:∀w,S w→∃es',w.heap[b]?=some (.map (rP f 0 es').toArray es'.length)∧∀q,lb es' q=lb es q):Ry P n S E o (.int .i64 (lb es k)):=λa d w m=>by
 obtain ⟨es',p,r⟩:=l w m;rw [←r k];have ht':P.underlying t=some (.map kt et):=i;unfold execOp;simp only [e,d.ev g,d.ev h];simp only [Instr.lookup,Sem.run_bind,run_underlying ht',Result.andThen_ok,Go.MapKept.run_getObj_map p,Sem.run_pure,c.chk,Do c]
 cases s:qt es' k with
 | none =>
  simp [j w,Li s]
 | some q=>simp
theorem Tk (es:List (κ×Int))(k k':κ):lb (Bf es k).1 k'=lb es k':=by
 unfold Bf
 cases qt es k with
 | some i=>rfl
 | none =>
  show lb (es++[(k,0)]) k'=_
  induction es with
  | nil=>simp [lb]
  | cons e es ih =>
   obtain ⟨a,c⟩:=e;simp only [List.cons_append,lb,ih]
def Res.mapG (f:κ→List Value)(b:Nat)(es:List (κ×Int)):Res:=⟨[b],λw=>∃es',w.heap[b]?=some (.map (rP f 0 es').toArray es'.length)∧∀q,lb es' q=lb es q,λ_ _ h ok=>by
  obtain ⟨es',h1,a⟩:=ok;exact ⟨es',(h b (by simp)).trans h1,a⟩⟩
theorem St.toG {f:κ→List Value}{b:Nat}{a es:List (κ×Int)}{w:World}(i:Nat)(c:L[i]?=some (Res.map f b a))(d:∀q,lb a q=lb es q)(h:St w0 M L w):St w0 M (L.set i (Res.mapG f b es)) w:=h.recast c rfl (λe=>⟨a,e,d⟩)
theorem Ym {f:κ→List Value}{b:Nat}{es:List (κ×Int)}{i:Nat}(a:L[i]?=some (Res.map f b es)):∀w,St w0 M L w→∃es',w.heap[b]?=some (.map (rP f 0 es').toArray es'.length)∧∀q,lb es' q=lb es q:=λw c=>⟨es,NW a w c,λ_=>rfl⟩
theorem YE {f:κ→List Value}{b:Nat}{es:List (κ×Int)}{i:Nat}(a:L[i]?=some (Res.mapG f b es)):∀w,St w0 M L w→∃es',w.heap[b]?=some (.map (rP f 0 es').toArray es'.length)∧∀q,lb es' q=lb es q:=λ_ c=>c.ok _ (List.mem_of_getElem? a)
theorem Oy {f:κ→List Value}{o:Oper}{t kt et:TypeId}{x y:Operand}{b r:Nat}{es:List (κ×Int)}{k:κ}(F:o.op=.mapEntry t x y)(G:m.here (o::rest)=true)(H:wt l E o.guard=some true)(Q:fo n o.dst=true)(R:ev E x=some (.map (some b)))(X:ev E y=some (.agg (f k).toArray))(Z:Vt P t kt et)(he:Wn P et)(g:Lr P kt f)(s:L[r]?=some (Res.map f b es))(hS:Kp m (St w0 M (L.set r (Res.map f b (Bf es k).1))))(hk:OW P n l (St w0 M (L.set r (Res.map f b (Bf es k).1))) (upd E o.dst (.tuple #[.int .i64 (lb es k),.int .i64 ((Bf es k).2:Int)])) m rest):OW P n l (St w0 M L) E m (o::rest):=nX G H λa w h u _ _ A=>by
  have j:=NW s w u;have ht':P.underlying t=some (.map kt et):=Z;have d:=Vx (es':=(Bf es k).1) u s;refine rS ?_ (A _ _ _ _ hk (h.put _ _ (aj Q)) d (hS _ d));unfold execOp;simp only [F,h.ev R,h.ev X];simp only [Instr.mapEntry,Sem.run_bind,run_underlying ht',Result.andThen_ok,Go.MapKept.run_getObj_map j,g.chk,Do g]
  cases c:qt es k with
  | none =>
   have p:(rP f 0 (es++[(k,0)])).toArray=(rP f 0 es).toArray.push {key:=.agg (f k).toArray,val:=.int .i64 0,born:=es.length}:=by
    rw [NH];simp [rP]
   simp [he w,Li c,Bf,c,Go.MapKept.run_setObj_map _ j,World.setMap,goInt,p]
  | some q =>
   obtain ⟨hq,v,hv⟩:=Oo c;have C:=OJ (f:=f) (i:=0) hv;simp only [Nat.zero_add] at C;have D:(rP f 0 es)[q]?=some {key:=.agg (f k).toArray,val:=.int .i64 v,born:=q}:=C;have p:(rP f 0 es).modify q (λe=>{key:=.agg (f k).toArray,val:=e.val,born:=e.born})=rP f 0 es:=OM D _ rfl;simp only [Option.map_some,List.getElem?_toArray,D,Option.getD_some,Instr.keyThatStays,g.same,if_true,Sem.run_pure,Sem.run_bind,Result.andThen_ok,Go.MapKept.run_setObj_map _ j,Bf,c,goInt,List.modify_toArray];rw [p];rfl
theorem KU {f:κ→List Value}{o:Oper}{t:TypeId}{x y u:Operand}{b r:Nat}{es:List (κ×Int)}{k:κ}{v:Int}(p:o.op=.entryStore t x y u)(q:m.here (o::rest)=true)(s:wt l E o.guard=some true)(A:fo n o.dst=true)(C:ev E x=some (.map (some b)))(D:ev E y=some (.int .i64 ((Bf es k).2:Int)))(F:ev E u=some (.int .i64 v))(g:L[r]?=some (Res.map f b (Bf es k).1))(G:Kp m (St w0 M (L.set r (Res.map f b (EJ es k v)))))(hk:OW P n l (St w0 M (L.set r (Res.map f b (EJ es k v)))) (upd E o.dst undef) m rest):OW P n l (St w0 M L) E m (o::rest):=nX q s λa w c h _ _ i=>by
  have j:=NW g w h;have d:=Vx (es':=EJ es k v) h g;refine CR ?_ (i _ _ _ _ hk (c.put _ _ (aj A)) d (G _ d));unfold execOp;simp only [p,c.ev C,c.ev D,c.ev F];have e:=LR (f:=f) (Bf es k).1 0 (Bf es k).2 (Wt es k);simp only [Nat.zero_add] at e;have H:(EJ es k v).length=(Bf es k).1.length:=by simp [EJ]
  simp only [Instr.entryStore,Sem.run_bind,Go.MapKept.run_getObj_map j,Result.andThen_ok,asInt,asIntOf,Sem.run_pure,List.findIdx?_toArray,e,Go.MapKept.run_setObj_map _ j,World.setMap,List.modify_toArray,H];rw [EJ,Hw]
end
theorem Oa [DecidableEq κ](es:List (κ×Int))(k:κ)(v:Int)(k':κ):lb (EJ es k v) k'=if k'=k then v else lb es k':=by
 have app:∀es:List (κ×Int),qt es k=none→lb ((es++[(k,0)]).modify es.length λe=>(e.1,v)) k'=if k'=k then v else lb es k':=by
  intro es
  induction es with
  | nil=>intro _;simp [lb]
  | cons e es ih =>
   intro h;obtain ⟨c,g⟩:=e;unfold qt at h;by_cases hk:k=c
   ·simp [hk] at h
   rw [if_neg hk] at h;have:=ih (by simpa using h);simp only [List.cons_append,List.length_cons,List.modify_succ_cons,lb];rw [this];by_cases a:k'=c
   ·have:k'≠k:=λe=>hk (e▸a);simp [a];intro d;exact absurd d.symm hk
   simp [a]
 have found:∀(es:List (κ×Int))(i:Nat),qt es k=some i→lb (es.modify i λe=>(e.1,v)) k'=if k'=k then v else lb es k':=by
  intro es
  induction es with
  | nil=>intro i h;cases h
  | cons e es ih =>
   intro i h;obtain ⟨c,g⟩:=e;unfold qt at h;by_cases hk:k=c
   ·rw [if_pos hk] at h;cases h;simp only [List.modify_zero_cons,lb];subst hk;by_cases a:k'=k<;>simp [a]
   rw [if_neg hk] at h
   cases f:qt es k with
   | none=>rw [f] at h;cases h
   | some q =>
    rw [f] at h;cases h;simp only [List.modify_succ_cons,lb,ih q f];by_cases a:k'=c
    ·have:k'≠k:=λe=>hk (e▸a);simp [a];intro d;exact absurd d.symm hk
    simp [a]
 unfold EJ Bf
 cases h:qt es k with
 | none=>exact app es h
 | some i=>exact found es i h
theorem JR {e:TypeId}(v:Value)(em:Bool)(n:Nat)(w:World)(f:∃d,P.underlying e=some d∧∃b,Ja d v v=some b):(Instr.checkKey em (n+1) e v).run P w=.ok () w:=by
 obtain ⟨d,a,b,c⟩:=f;unfold Ja at c;split at c
 ·simp [Instr.checkKey,run_underlying a]
 ·simp [Instr.checkKey,run_underlying a]
 ·simp [Instr.checkKey,run_underlying a]
 cases c
theorem HW {xs:List Value}{n:Nat}{em:Bool}(w:World):∀{fs:List Field}{b:Bool},SF P xs xs fs=some b →
  (forIn fs PUnit.unit (λf (_:PUnit)=>(if f.name ≠ "_" then (part f.type xs.toArray f.offset) >>= (λx=>Instr.checkKey em (n+1) f.type x >>= λ_=>pure (ForInStep.yield PUnit.unit)) else pure (ForInStep.yield PUnit.unit):Sem (ForInStep PUnit))):Sem PUnit).run P w=.ok PUnit.unit w:=by
 intro fs
 induction fs with
 | nil=>intro b _;simp
 | cons f fs ih =>
  intro b h;unfold SF at h;split at h
  ·rename_i m d' x y h1 a c e;rw [c] at e;cases e;split at h
   ·rename_i o r g j;obtain ⟨p,k⟩:=Jb (d:=0) a g w;have i:f.name ≠ "_" := by simpa using h1
    have px:=run_part_plain w k (xs:=xs.toArray) (off:=f.offset) (by simpa using c);have l:=JR x em n w ⟨_,a,_,g⟩;simp only [List.forIn_cons,i,ne_eq,not_false_eq_true,if_true,Sem.run_bind,px,l,Result.andThen_ok,Sem.run_pure];exact ih j
   cases h
  cases h
theorem Py {t:TypeId}{xs:List Value}{b em:Bool}{n:Nat}(h:IR P t xs xs=some b)(w:World):(Instr.checkKey em (n+2) t (.agg xs.toArray)).run P w=.ok () w:=by
 unfold IR at h;split at h
 ·rename_i fs d
  cases a:P.stoodInHeld t with
  | true=>rw [a] at h;cases h
  | false =>
   cases c:P.eqGuardType P.depth t with
   | true=>rw [a,c] at h;cases h
   | false =>
    rw [a,c] at h;have:=HW (n:=n) (em:=em) w h;unfold Instr.checkKey;simp only [Sem.run_bind,run_underlying d,Result.andThen_ok];rw [←Array.forIn_toList];exact (congrArg (λr=>Result.andThen r λ_ w'=>Result.ok () w') this).trans rfl
 cases h
theorem Vl [DecidableEq κ]{kt:TypeId}{f:κ→List Value}{g:κ→κ→Bool}(c:∀a b,IR P kt (f a) (f b)=some (g a b))(h:∀a b,g a b=decide (a=b))(i:∀a:κ,Instr.sameBits 10000 (.agg (f a).toArray) (.agg (f a).toArray)=true)(j:(match P.underlying kt with|some (.array _ _)|some (.struct _)=>true|_=>false)=true):Lr P kt f:=⟨λa b w=>by rw [←h];exact (Kk (d:=9998) (c a b) w).1,λe a w=>Py (n:=9998) (c a a) w,j,i⟩
theorem BZ {o:Oper}{f:FuncId}{xs:List Operand}{vs:List Value}(c:o.op=.makeFunc (.func f) #[] xs.toArray)(d:evs E xs=some vs):Ry P n S E o (.func (.func f) #[] vs.toArray):=λa e w _=>by
 have g:(xs.toArray.map a.eval)=vs.toArray:=by rw [←e.evs d];simp
 unfold execOp;simp [c,g,Instr.makeFunc]
end
end Go.Vk
/- Elements deleted from a slice of the call's own: what stands behind moved up, the rest cleared. -/
namespace Go.Vk
open Go.RowKit
section
variable {α:Type} {e:Enc α} {f:α→List Value}
end
section
variable {P:Program} {n:Nat} {C:World→Prop} {E:Env} {m:Md} {l rest:List Oper} {w0:World} {M:List Nat} {L:List Res}
end
end Go.Vk
