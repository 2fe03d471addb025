/- Regions whose head comes in several orders: a tree of orders. -/
import Derived.Test.YtnjemlncpeekkabGreatDoorVkL
import Derived.Test.YtnjemlncpeekkabGreatDoorVkG
import Derived.IntWalk
import Derived.Deep.Slices
import Derived.ReadAgain
import Derived.ChangeSame
import Derived.ChangeMaps5
import Derived.ProofKit
namespace Go.Vk
open Go.RowKit
variable {P:Program} {n:Nat} {C:World→Prop} {E:Env} {l rest:List Oper} {w0:World} {M:List Nat} {L:List Res} {Q:Exit→Act→World→Prop}
inductive Br where
 | done:Br
 | q (i:Nat) (t:Br):Br
 | l (i:Nat) (t:Br):Br
 | alt (i:Nat) (t u:Br):Br
def Br.depth:Br→Nat
 | .done=>0
 | .q _ t=>t.depth+1
 | .l _ t=>t.depth+1
 | .alt _ t _=>t.depth+1
def Br.heads:Br→List Nat
 | .alt i _ u=>i::u.heads
 | .l i _=>[i]
 | _=>[]
def Br.pre:List (Nat×Bool)→Br→Br
 | [],b=>b
 | (i,true)::s,b=>.q i (Br.pre s b)
 | (i,false)::s,b=>.l i (Br.pre s b)
def BT (ops:Array Oper)(nn g:Nat):Bool→Br→Array Bool→Bool
 | top,.done,listed=>top&&Region.seqB .any ops g nn listed
 | top,.q i t,listed=>top&&Nat.blt i nn&&(ops[i]?).isSome&&Region.free .any ops listed i&&(Region.ready .any ops listed).contains i&&BT ops nn g true t (listed.setIfInBounds i true)
 | top,.l i t,listed=>(!top||Region.ready .any ops listed==[i])&&Nat.blt i nn&&BT ops nn g true t (listed.setIfInBounds i true)
 | top,.alt i t u,listed=>(!top||Region.ready .any ops listed==i::u.heads)&&Nat.blt i nn&&Nat.beq u.depth (t.depth+1)&&BT ops nn g true t (listed.setIfInBounds i true)&&BT ops nn g false u listed
def ED (P:Program)(ops:Array Oper)(S:World→Prop)(Q:Exit→Act→World→Prop):Br→Act→World→Prop
 | .done,a,w=>Q .normal a w
 | .q i t,a,w=>∃o v,ops[i]?=some o∧YieldsIf P ops S o v a∧S w∧ED P ops S Q t (a.put o.dst v) w
 | .l i t,a,w=>wpOp P ops Q i (λa' w'=>S w'∧ED P ops S Q t a' w') a w
 | .alt i t u,a,w=>wpOp P ops Q i (λa' w'=>S w'∧ED P ops S Q t a' w') a w∧ED P ops S Q u a w
section
variable {ops:Array Oper} {S:World→Prop}
theorem KG {nn g:Nat}{K:Act→World→Prop}(r:Region.noSelect ops=true)(A:Region.sinkB .any ops nn=true)(C:Region.chainB .any ops nn=true)(D:nn<ops.size)(E:nW Q){Q1:Exit→Act→World→Prop}(p:∀e a w,e≠.normal→Q1 e a w→Q e a w)(s:∀a w,Q1 .normal a w→K a w):∀(b:Br)(listed:Array Bool)(a:Act)(w:World),HeadInv .any ops nn listed→ED P ops S Q1 b a w →
   (BT ops nn g true b listed=true→xC P .any ops Q S nn (λlisted' a' w'=>Region.seqB .any ops g nn listed'=true∧K a' w') b.depth listed a w) ∧
   (BT ops nn g false b listed=true→∀j∈b.heads,j∈Region.ready .any ops listed→j<nn∧wpOp P ops Q j (λa' w'=>S w'∧xC P .any ops Q S nn (λlisted' a' w'=>Region.seqB .any ops g nn listed'=true∧K a' w') (b.depth-1) (listed.setIfInBounds j true) a' w') a w):=by
 intro b
 induction b with
 | done =>
  intro listed a w _ h;refine ⟨λc=>⟨by simpa [BT] using c,s _ _ h⟩,λc=>?_⟩;simp [BT] at c
 | q i t ih =>
  intro listed a w inv h;refine ⟨λc=>?_,λc=>?_⟩
  ·simp only [BT,Bool.and_eq_true] at c;obtain ⟨⟨⟨⟨⟨_,d⟩,_⟩,F⟩,f⟩,c⟩:=c;have d:=Nat.le_of_ble_eq_true d;obtain ⟨o,v,x,G,H,h⟩:=h;have hr':i∈Region.ready .any ops listed:=by simpa using f
   exact Dm x (Region.noSelect_spec r) A C D d E (λlisted' a' w' L=>seqB_ready L.1) t.depth listed a w inv (Region.free_spec x F) hr' G H
    ((ih _ _ _ (inv.set hr' d) h).1 c)
  simp [BT] at c
 | l i t ih =>
  intro listed a w inv h
  have key:∀j∈[i],j∈Region.ready .any ops listed→i<nn→BT ops nn g true t (listed.setIfInBounds i true)=true→j<nn∧wpOp P ops Q j (λa' w'=>S w'∧xC P .any ops Q S nn (λlisted' a' w'=>Region.seqB .any ops g nn listed'=true∧K a' w') t.depth (listed.setIfInBounds j true) a' w') a w:=by
   intro j hj f d c;obtain rfl:=List.mem_singleton.1 hj;exact ⟨d,wpOp_mono (λa' w' h'=>⟨h'.1,(ih _ _ _ (inv.set f d) h'.2).1 c⟩) (Gt p h)⟩
  refine ⟨λc=>?_,λc=>?_⟩
  ·simp only [BT,Bool.and_eq_true,Bool.not_true,Bool.false_or,beq_iff_eq] at c;obtain ⟨⟨f,d⟩,c⟩:=c;have d:=Nat.le_of_ble_eq_true d;refine ⟨by rw [f];simp,λj hj=>?_⟩;have hj':=hj;rw [f] at hj;exact key j hj hj' d c
  simp only [BT,Bool.and_eq_true] at c;obtain ⟨⟨_,d⟩,c⟩:=c;intro j hj f;exact key j hj f (Nat.le_of_ble_eq_true d) c
 | alt i t u iht ihu =>
  intro listed a w inv h
  have key:i<nn→u.depth=t.depth+1→BT ops nn g true t (listed.setIfInBounds i true)=true→BT ops nn g false u listed=true→∀j∈i::u.heads,j∈Region.ready .any ops listed→j<nn∧wpOp P ops Q j (λa' w'=>S w'∧xC P .any ops Q S nn (λlisted' a' w'=>Region.seqB .any ops g nn listed'=true∧K a' w') t.depth (listed.setIfInBounds j true) a' w') a w:=by
   intro d k c m j hj f;rcases List.mem_cons.1 hj with rfl|hj
   ·exact ⟨d,wpOp_mono (λa' w' h'=>⟨h'.1,(iht _ _ _ (inv.set f d) h'.2).1 c⟩) (Gt p h.1)⟩
   have:=(ihu listed a w inv h.2).2 m j hj f;rwa [k,Nat.add_sub_cancel] at this
  refine ⟨λc=>?_,λc=>?_⟩
  ·simp only [BT,Bool.and_eq_true,Bool.not_true,Bool.false_or,beq_iff_eq] at c;obtain ⟨⟨⟨⟨f,d⟩,k⟩,c⟩,m⟩:=c;refine ⟨by rw [f];simp,λj hj=>?_⟩;exact key (Nat.le_of_ble_eq_true d) (Nat.eq_of_beq_eq_true k) c m j (by rw [f] at hj;exact hj) hj
  simp only [BT,Bool.and_eq_true] at c;obtain ⟨⟨⟨⟨_,d⟩,k⟩,c⟩,m⟩:=c;exact key (Nat.le_of_ble_eq_true d) (Nat.eq_of_beq_eq_true k) c m
def QBr (P:Program)(ops:Array Oper)(S:World→Prop)(Q1:Exit→Act→World→Prop)(b:Br):Exit→Act→World→Prop
 | .normal,a,w=>ED P ops S Q1 b a w
 | e,a,w=>Q1 e a w
theorem ZU {Q1:Exit→Act→World→Prop}{b:Br}(e:Exit)(a:Act)(w:World)(c:e≠.normal)(h:QBr P ops S Q1 b e a w):Q1 e a w:=by
 cases e<;>first|exact absurd rfl c|exact h
theorem tQ {Q1:Exit→Act→World→Prop}{b:Br}:∀(s:List (Nat×Bool))(a:Act)(w:World),pB P ops S (QBr P ops S Q1 b) s a w→ED P ops S Q1 (Br.pre s b) a w
 | [],a,w,h=>h
 | (i,true)::s,a,w,h=>by
  rw [pB] at h;obtain ⟨o,v,c,d,e,h⟩:=h;exact ⟨o,v,c,d,e,tQ s _ _ h⟩
 | (i,false)::s,a,w,h=>by
  rw [pB] at h;exact wpOp_mono (λa' w' h'=>⟨h'.1,tQ s _ _ h'.2⟩) (Gt ZU h)
end
theorem pY {id:Nat}{l:List Oper}(nn:Nat)(fl:List (Nat×Bool))(b:Br)(S:World→Prop)(s:P.follows .mixedOrders=true)(m:(Region.noSelect l.toArray&&decide (nn<l.toArray.size)&&Region.sinkB .any l.toArray nn&&Region.chainB .any l.toArray nn&&BT l.toArray nn (l.toArray.size-nn) true (Br.pre fl b) (Array.replicate l.length false)&&inB l fl&&Nat.beq (Br.pre fl b).depth nn)=true)(u:nW Q)(v:∀w,St w0 M L w→S w)(h:OW P n l (St w0 M L) E (.held S (QBr P l.toArray S (QT P l nn Q) b) fl) (rK l fl)):CW P n (St w0 M L) E Q (.region id l.toArray true):=λa w x o=>by
 simp only [Bool.and_eq_true,decide_eq_true_eq] at m;obtain ⟨⟨⟨⟨⟨⟨d,p⟩,A⟩,C⟩,D⟩,F⟩,G⟩:=m;have f:(Br.pre fl b).depth=nn:=Nat.eq_of_beq_eq_true G;have hn':nn<l.length:=by simpa using p
 refine wp_region_any s ?_
 have i:HeadInv .any l.toArray nn (Array.replicate l.toArray.size false):=⟨by simp,λj oj _ q=>(by rw [getD_replicate_false] at q;cases q),λt _ R=>getD_in (by simpa using R) (getD_replicate_false _ _)⟩
 have k:=tQ fl a _ (h fl ⟨[],rfl⟩ (pT F) a _ x o.drew (v _ o.drew))
 have H:=(KG (P:=P) (S:=S) (Q:=Q) (Q1:=QT P l nn Q) (K:=λa w=>wpList P l.toArray Q (l.drop nn) a w) (g:=l.toArray.size-nn) d A C p u
  (λe a w X h=>by cases e<;>first|exact absurd rfl X|exact h) (λa w h=>h) (Br.pre fl b) (Array.replicate l.toArray.size false) a _ i k).1 (by simpa using D)
 have c:(l.drop nn).length=l.toArray.size-nn:=by simp
 have:=ye (Q:=Q) (g:=l.toArray.size-nn) (λlisted a' w' r=>by
  have:=wpAny_of_seq (md:=.any) (Q':=Q) (l.drop nn) nn listed a' w' (λj=>by simp [List.getElem?_drop]) (by rw [c];exact r.1) r.2;rwa [c] at this) _ _ _ _ H
 rw [f,show nn+(l.toArray.size-nn)=l.toArray.size by omega] at this;exact this
theorem LI {S:World→Prop}{Q1:Exit→Act→World→Prop}{i:Nat}{s:List (Nat×Bool)}{b u:Br}(e:∀w,C w→S w)(f:inB l ((i,false)::s)=true)(h:OW P n l C E (.held S (QBr P l.toArray S Q1 b) ((i,false)::s)) (rK l ((i,false)::s)))(h':XW n C E (QBr P l.toArray S Q1 u) .normal):XW n C E (QBr P l.toArray S Q1 (.alt i (Br.pre s b) u)) .normal:=λa w d c =>
 ⟨tQ ((i,false)::s) a w (h _ ⟨[],rfl⟩ (pT f) a w d c (e w c)),h' a w d c⟩
theorem Gc {S:World→Prop}{Q1:Exit→Act→World→Prop}{s:List (Nat×Bool)}{b:Br}(d:∀w,C w→S w)(e:inB l s=true)(h:OW P n l C E (.held S (QBr P l.toArray S Q1 b) s) (rK l s)):XW n C E (QBr P l.toArray S Q1 (Br.pre s b)) .normal:=λa w f c =>
 tQ s a w (h _ ⟨[],rfl⟩ (pT e) a w f c (d w c))
theorem pZ {S:World→Prop}{nn:Nat}(h:OW P n l C E (.lex Q) (l.drop nn)):XW n C E (QBr P l.toArray S (QT P l nn Q) .done) .normal:=λa w c d=>h a w c d
end Go.Vk
namespace Go.Vk
open Go.RowKit
variable {P:Program} {n:Nat} {C:World→Prop} {E:Env} {m:Md} {l rest:List Oper} {w0:World} {M:List Nat} {L:List Res} {Q:Exit→Act→World→Prop}
def BU (ops:Array Oper):Bool→Br→Array Bool→Bool
 | top,.done,listed=>top&&(Region.ready .any ops listed).isEmpty
 | top,.q i t,listed=>top&&Region.free .any ops listed i&&(Region.ready .any ops listed).contains i&&BU ops true t (listed.setIfInBounds i true)
 | top,.l i t,listed=>(!top||Region.ready .any ops listed==[i])&&BU ops true t (listed.setIfInBounds i true)
 | top,.alt i t u,listed=>(!top||Region.ready .any ops listed==i::u.heads)&&Nat.beq u.depth (t.depth+1)&&BU ops true t (listed.setIfInBounds i true)&&BU ops false u listed
theorem Nd {ops:Array Oper}{S:World→Prop}(g:Region.noSelect ops=true)(m:nW Q):∀(b:Br)(listed:Array Bool)(a:Act)(w:World),ED P ops S Q b a w →
   (BU ops true b listed=true→wpAnyH P .any ops Q S b.depth listed a w) ∧
   (BU ops false b listed=true→∀j∈b.heads,wpOp P ops Q j (λa' w'=>S w'∧wpAnyH P .any ops Q S (b.depth-1) (listed.setIfInBounds j true) a' w') a w):=by
 intro b
 induction b with
 | done =>
  intro listed a w h;refine ⟨λd=>wpAnyH_done (by simpa [BU] using d) h 0,λd=>?_⟩;simp [BU] at d
 | q i t ih =>
  intro listed a w h;refine ⟨λd=>?_,λd=>?_⟩
  ·simp only [BU,Bool.and_eq_true] at d;obtain ⟨⟨⟨_,p⟩,k⟩,d⟩:=d;obtain ⟨o,v,r,s,x,h⟩:=h;exact wpAnyH_take r g p k (λc a' w'=>m c a' o.dst v w') s x ((ih _ _ _ h).1 d)
  simp [BU] at d
 | l i t ih =>
  intro listed a w h
  have key:∀j∈[i],BU ops true t (listed.setIfInBounds i true)=true→wpOp P ops Q j (λa' w'=>S w'∧wpAnyH P .any ops Q S t.depth (listed.setIfInBounds j true) a' w') a w:=by
   intro j hj d;obtain rfl:=List.mem_singleton.1 hj;exact wpOp_mono (λa' w' h'=>⟨h'.1,(ih _ _ _ h'.2).1 d⟩) h
  refine ⟨λd=>?_,λd=>?_⟩
  ·simp only [BU,Bool.and_eq_true,Bool.not_true,Bool.false_or,beq_iff_eq] at d;exact wpAnyH_all d.1 (by simp) (λj hj=>key j hj d.2)
  simp only [BU,Bool.and_eq_true] at d;exact λj hj=>key j hj d.2
 | alt i t u iht ihu =>
  intro listed a w h
  have key:u.depth=t.depth+1→BU ops true t (listed.setIfInBounds i true)=true→BU ops false u listed=true→∀j∈i::u.heads,wpOp P ops Q j (λa' w'=>S w'∧wpAnyH P .any ops Q S t.depth (listed.setIfInBounds j true) a' w') a w:=by
   intro e d f j hj;rcases List.mem_cons.1 hj with rfl|hj
   ·exact wpOp_mono (λa' w' h'=>⟨h'.1,(iht _ _ _ h'.2).1 d⟩) h.1
   have:=(ihu listed a w h.2).2 f j hj;rwa [e,Nat.add_sub_cancel] at this
  refine ⟨λd=>?_,λd=>?_⟩
  ·simp only [BU,Bool.and_eq_true,Bool.not_true,Bool.false_or,beq_iff_eq] at d;obtain ⟨⟨⟨k,e⟩,d⟩,f⟩:=d;exact wpAnyH_all k (by simp) (key (Nat.eq_of_beq_eq_true e) d f)
  simp only [BU,Bool.and_eq_true] at d;obtain ⟨⟨⟨_,e⟩,d⟩,f⟩:=d;exact key (Nat.eq_of_beq_eq_true e) d f
theorem FB {id:Nat}{l:List Oper}(fl:List (Nat×Bool))(b:Br)(S:World→Prop)(g:P.follows .mixedOrders=true)(e:(Region.noSelect l.toArray&&BU l.toArray true (Br.pre fl b) (Array.replicate l.length false)&&inB l fl&&Nat.beq (Br.pre fl b).depth l.length)=true)(i:nW Q)(j:∀w,St w0 M L w→S w)(h:OW P n l (St w0 M L) E (.held S (QBr P l.toArray S Q b) fl) (rK l fl)):CW P n (St w0 M L) E Q (.region id l.toArray true):=λa w k f=>by
 simp only [Bool.and_eq_true] at e;obtain ⟨⟨⟨h1,m⟩,o⟩,p⟩:=e;refine wp_region_held (S:=S) g ?_;have c:(Br.pre fl b).depth=l.toArray.size:=by simpa using Nat.eq_of_beq_eq_true p
 have d:=tQ fl a _ (h fl ⟨[],rfl⟩ (pT o) a _ k f.drew (j _ f.drew));rw [←c];exact (Nd h1 i (Br.pre fl b) _ a _ d).1 (by rw [c];simpa using m)
theorem tG {S:World→Prop}(h:XW n C E Q .normal):XW n C E (QBr P l.toArray S Q .done) .normal:=λa w c d=>h a w c d
theorem Ak {o:Oper}{v:Value}(e:m.here (o::rest)=true)(f:wt l E o.guard=some true)(g:∀t,o.dst=some t→t<n)(i:Ry P n C E o v)(h:OW P n l C (upd E o.dst v) m rest):OW P n l C E m (o::rest):=nX e f λa w c d j _ k=>rS (i a c w d) (k _ _ _ _ h (c.put _ _ g) d j)
theorem XG {α:Type}{e:Enc α}{o:Oper}{t et:TypeId}{x i:Operand}{agg:Bool}{sz by_:Nat}{z:List Value}{xs:List α}{k:IntKind}{j:Int}{y:α}{a:Option Addr}{nn cap:Nat}(h:o.op=.indexAddr t x i)(r:m.here (o::rest)=true)(s:wt l E o.guard=some true)(u:fo n o.dst=true)(A:ev E x=some (.slice a nn cap))(D:ev E i=some (.int k j))(F:isSl P t et)(G:eN P et agg sz by_ z)(_hsz:e.sz=sz)(H:∀w,C w→mS e w [] xs [.slice a nn cap])(L:idx xs j=some y){q:Addr}(M:q=Dg a (j.toNat*sz))(hk:OW P n l C (upd E o.dst (.pointer (some q))) m rest):OW P n l C E m (o::rest):=by
 subst M;obtain ⟨Q,c,R⟩:=cD L;refine Ak r s (aj u) (v:=.pointer (some (Dg a (j.toNat*sz)))) (λfr d w hw'=>?_) hk;obtain ⟨a',cap',f,_,_,g⟩:=H w hw';simp only [List.cons.injEq,Value.slice.injEq,and_true] at f;obtain ⟨rfl,rfl,rfl⟩:=f;obtain ⟨p,rfl,X⟩:=g (λe=>by subst e;simp at c);unfold execOp;simp only [h,d.ev A,d.ev D,Sem.run_bind,wg F G p xs.length cap k j Q c w,Dg,Option.getD_some];rfl
end Go.Vk
/- Regions with one chain of operations, beside which some new blocks are made at any time. -/
namespace Go.Vk
open Go.RowKit
structure Sg where
 i:Nat
 d:Nat
 v:Nat→Value
 r:Nat→Res
abbrev mT:=Value ⊕ Nat
def sv (g:Sg):mT→Value
 | .inl u=>u
 | .inr b=>g.v b
def sr (g:Sg):mT→Res
 | .inl _=>Res.nil
 | .inr b=>g.r b
structure Mn where
 i:Nat
 q:List (Nat×Bool)
 k:List Nat
def pnd:List Sg→List mT→List Nat
 | g::gs,.inl _::ss=>g.i::pnd gs ss
 | _::gs,.inr _::ss=>pnd gs ss
 | _,_=>[]
def sgE:List Sg→List mT→Env
 | g::gs,s::ss=>(g.d,sv g s)::sgE gs ss
 | _,_=>[]
def sgR:List Sg→List mT→List Res
 | g::gs,s::ss=>sr g s::sgR gs ss
 | _,_=>[]
def Ww:List (Nat×Br)→Br
 | []=>.done
 | [x]=>.l x.1 x.2
 | x::y::r=>.alt x.1 x.2 (Ww (y::r))
def NU (x:Nat×Br):List (Nat×Br)→List (Nat×Br)
 | []=>[x]
 | y::r=>bif Nat.blt x.1 y.1 then x::y::r else y::NU x r
def tr:Nat→List Mn→List Nat→Br
 | 0,_,_=>.done
 | f+1,ms,ks =>
  Ww (match ms with
   | []=>ks.map λk=>(k,tr f [] (ks.erase k))
   | m::ms'=>bif m.k.any (λk=>ks.any (Nat.beq k)) then ks.map λk=>(k,tr f (m::ms') (ks.erase k))
    else NU (m.i,Br.pre m.q (tr f ms' ks)) (ks.map λk=>(k,tr f (m::ms') (ks.erase k))))
theorem Of {x y:Nat×Br}:∀{l:List (Nat×Br)},y∈NU x l→y=x∨y∈l
 | [],h=>by simp [NU] at h;exact .inl h
 | z::r,h=>by
  unfold NU at h
  cases a:Nat.blt x.1 z.1 with
  | true=>rw [a,cond_true] at h;simpa using h
  | false =>
   rw [a,cond_false] at h;rcases List.mem_cons.1 h with rfl|h
   ·exact .inr (by simp)
   rcases Of h with h|h
   ·exact .inl h
   exact .inr (List.mem_cons_of_mem _ h)
theorem WR {x:Nat×Br}:∀{l:List (Nat×Br)},NU x l≠[]
 | []=>by simp [NU]
 | z::r=>by unfold NU;cases Nat.blt x.1 z.1<;>simp
section
variable {P:Program} {n:Nat} {C:World→Prop} {E:Env} {l:List Oper} {w0:World} {M:List Nat} {S:World→Prop} {Q1:Exit→Act→World→Prop}
theorem Aw {ops:Array Oper}{a:Act}{w:World}:∀{xs:List (Nat×Br)},xs≠[]→(∀x∈xs,wpOp P ops Q1 x.1 (λa' w'=>S w'∧ED P ops S Q1 x.2 a' w') a w)→ED P ops S Q1 (Ww xs) a w
 | [],h,_=>absurd rfl h
 | [x],_,h=>h x (by simp)
 | x::y::r,_,h=>⟨h x (by simp),Aw (by simp) λz c=>h z (List.mem_cons_of_mem _ c)⟩
def Mi (P:Program)(n:Nat)(l:List Oper)(w0:World)(M:List Nat)(g:Sg):Prop:=inB l [(g.i,false)]=true∧∀(L:List Res)(E:Env)(S:World→Prop)(Qx:Exit→Act→World→Prop),(∀b w,St w0 M (L++[g.r b]) w→S w) →
  (∀b,XW n (St w0 M (L++[g.r b])) (upd E (some g.d) (g.v b)) Qx .normal)→OW P n l (St w0 M L) E (.held S Qx [(g.i,false)]) (rK l [(g.i,false)])
def QP (P:Program)(n:Nat)(l:List Oper)(w0:World)(M:List Nat)(S:World→Prop)(Q1:Exit→Act→World→Prop)(gs:List Sg)(ms:List Mn)(ss:List mT):Exit→Act→World→Prop
 | .normal,a,w=>(∀g∈gs,Mi P n l w0 M g)→ED P l.toArray S Q1 (tr (ms.length+(pnd gs ss).length) ms (pnd gs ss)) a w
 | e,a,w=>Q1 e a w
theorem Na {k:Nat}:∀(gs:List Sg)(ss:List mT),(gs.map Sg.d).Nodup→k∈pnd gs ss→∃(g:Sg)(ss':Nat→List mT),g∈gs∧g.i=k ∧
  ∃f j,sgR gs ss=f++Res.nil::j∧∃a l u,sgE gs ss=a++(g.d,u)::l∧(∀x∈a,x.1≠g.d) ∧
  ∀b:Nat,(ss' b).length=ss.length∧sgR gs (ss' b)=f++g.r b::j∧sgE gs (ss' b)=a++(g.d,g.v b)::l∧pnd gs (ss' b)=(pnd gs ss).erase k
 | [],ss,_,h=>by simp [pnd] at h
 | g::gs,[],_,h=>by simp [pnd] at h
 | g::gs,.inl u::ss,m,h=>by
  have hd':=List.nodup_cons.1 (show (g.d::gs.map Sg.d).Nodup from m);by_cases hk:g.i=k
  ·exact ⟨g,λb=>.inr b::ss,by simp,hk,[],sgR gs ss,rfl,[],sgE gs ss,u,rfl,(λx hx=>by cases hx),λb=>⟨rfl,rfl,rfl,by simp [pnd,hk]⟩⟩
  have h:k∈pnd gs ss:=by
   rcases List.mem_cons.1 (show k∈g.i::pnd gs ss from h) with h|h
   ·exact absurd h.symm hk
   exact h
  obtain ⟨g',ss',h1,o,f,j,p,a,l,v,q,s,t⟩:=Na gs ss hd'.2 h;refine ⟨g',λb=>.inl u::ss' b,List.mem_cons_of_mem _ h1,o,Res.nil::f,j,by simp [sgR,sr,p],(g.d,u)::a,l,v,by simp [sgE,sv,q],λx hx=>?_,λb=>?_⟩
  ·rcases List.mem_cons.1 hx with rfl|hx
   ·exact λe=>hd'.1 (List.mem_map.2 ⟨g',h1,e.symm⟩)
   exact s x hx
  obtain ⟨w,A,C,D⟩:=t b
  exact ⟨by simp [w],by simp [sgR,sr,A],by simp [sgE,sv,C],by
   show g.i::pnd gs (ss' b)=(g.i::pnd gs ss).erase k;rw [List.erase_cons_tail (by simpa using hk),D]⟩
 | g::gs,.inr c::ss,m,h=>by
  have hd':=List.nodup_cons.1 (show (g.d::gs.map Sg.d).Nodup from m);obtain ⟨g',ss',h1,o,f,j,p,a,l,v,q,s,t⟩:=Na gs ss hd'.2 (show k∈pnd gs ss from h);refine ⟨g',λb=>.inr c::ss' b,List.mem_cons_of_mem _ h1,o,g.r c::f,j,by simp [sgR,sr,p],(g.d,g.v c)::a,l,v,by simp [sgE,sv,q],λx hx=>?_,λb=>?_⟩
  ·rcases List.mem_cons.1 hx with rfl|hx
   ·exact λe=>hd'.1 (List.mem_map.2 ⟨g',h1,e.symm⟩)
   exact s x hx
  obtain ⟨w,A,C,D⟩:=t b
  exact ⟨by simp [w],by simp [sgR,sr,A],by simp [sgE,sv,C],by
   show pnd gs (ss' b)=(pnd gs ss).erase k;exact D⟩
theorem Lc {d t:Nat}{u v x:Value}{B:Env}:∀{A:Env},(∀y∈A,y.1≠d)→kA (A++(d,v)::B) t=some x→kA ((d,v)::(A++(d,u)::B)) t=some x
 | [],_,h=>by
  simp only [List.nil_append,kA] at h ⊢
  cases a:Nat.beq d t with
  | true=>rw [a] at h;exact h
  | false=>rw [a] at h;simpa [a] using h
 | (k,y)::A,c,h=>by
  have hk:k≠d:=c (k,y) (by simp);simp only [List.cons_append,kA] at h ⊢
  cases a:Nat.beq k t with
  | true =>
   have:=Nat.eq_of_beq_eq_true a;subst this
   have e:Nat.beq d k=false:=by
    cases f:Nat.beq d k with
    | true=>exact absurd (Nat.eq_of_beq_eq_true f).symm hk
    | false=>rfl
   rw [a] at h;simpa [e,a] using h
  | false =>
   rw [a] at h;have:=Lc (u:=u) (λz g=>c z (List.mem_cons_of_mem _ g)) (show kA (A++(d,v)::B) t=some x by simpa using h);simpa only [kA,a,cond_false] using this
theorem ZJ {A B:List Res}{r:Res}{w:World}(h:St w0 M ((A++Res.nil::B)++[r]) w):St w0 M (A++r::B) w:=by
 have a:(eh ((A++Res.nil::B)++[r])).Perm (eh (A++r::B)):=by
  rw [show eh ((A++Res.nil::B)++[r])=eh A++(eh B++r.F) by simp [eh,Res.nil],show eh (A++r::B)=eh A++(r.F++eh B) by simp [eh]];exact List.Perm.append_left _ List.perm_append_comm
 exact ⟨h.ext,λs hs=>h.ok s (by
  rcases List.mem_append.1 hs with hs|hs
  ·simp [hs]
  rcases List.mem_cons.1 hs with rfl|hs
  ·simp
  simp [hs]),a.nodup_iff.1 h.nd,λb c=>h.lt b (a.mem_iff.2 c),λb c=>h.new b (a.mem_iff.2 c)⟩
theorem Mo {gs:List Sg}{ms:List Mn}{F G:Env}{c j:List Res}{ss:List mT}{a:Act}{w:World}{k f:Nat}(L:(gs.map Sg.d).Nodup)(s:∀x∈F,∀g∈gs,x.1≠g.d)(C:∀ss,ss.length=gs.length→∀w,St w0 M (c++(sgR gs ss++j)) w→S w)(q:ss.length=gs.length)(D:∀g∈gs,Mi P n l w0 M g)(hk:k∈pnd gs ss)(hf:ms.length+(pnd gs ss).length=f+1)(ih:∀ss',ss'.length=gs.length→(pnd gs ss').length<(pnd gs ss).length→XW n (St w0 M (c++(sgR gs ss'++j))) (F++(sgE gs ss'++G)) (QP P n l w0 M S Q1 gs ms ss') .normal)(Q:Fr n (F++(sgE gs ss++G)) a)(E:St w0 M (c++(sgR gs ss++j)) w):wpOp P l.toArray Q1 k (λa' w'=>S w'∧ED P l.toArray S Q1 (tr f ms ((pnd gs ss).erase k)) a' w') a w:=by
 obtain ⟨g,ss',h1,rfl,R,X,Z,N1,N2,u,h4,h5,o⟩:=Na gs ss L hk;obtain ⟨hi,ho⟩:=D g h1;have p:=List.length_erase_of_mem hk;have a6:0<(pnd gs ss).length:=List.length_pos_of_mem hk
 have m:∀b w,St w0 M (c++(sgR gs ss++j)++[g.r b]) w→St w0 M (c++(sgR gs (ss' b)++j)) w:=λb w h=>by
  rw [Z] at h;rw [(o b).2.1];have:=ZJ (A:=c++R) (B:=X++j) (r:=g.r b) (w:=w) (by simpa using h);simpa using this
 have:=ho (c++(sgR gs ss++j)) (F++(sgE gs ss++G)) S (QBr P l.toArray S Q1 (tr f ms ((pnd gs ss).erase g.i))) (λb w h=>C _ ((o b).1.trans q) w (m b w h)) (λb a' w' hF' hC'=>by
  have e:=(o b).2.2.2
  have:=ih (ss' b) ((o b).1.trans q) (by rw [e,p];omega) a' w' ⟨hF'.sz,hF'.df,λt x H=>hF'.b_ t x (by
   rw [(o b).2.2.1] at H;rw [h4]
   have:=Lc (A:=F++N1) (B:=N2++G) (d:=g.d) (u:=u) (v:=g.v b) (t:=t) (x:=x) (λy hy=>by
    rcases List.mem_append.1 hy with hy|hy
    ·exact s y hy g h1
    exact h5 y hy) (by simpa using H)
   simpa [upd] using this)⟩ (m b w' hC') D
  rw [e,p,show ms.length+((pnd gs ss).length-1)=f by omega] at this;exact this)
 have:=tQ [(g.i,false)] a w (this _ ⟨[],rfl⟩ (pT hi) a w Q E (C _ q w E));exact this
theorem Ei {gs:List Sg}{ms:List Mn}{i:Nat}{q:List (Nat×Bool)}{ks:List Nat}{F G:Env}{r t:List Res}(D:(gs.map Sg.d).Nodup)(p:∀x∈F,∀g∈gs,x.1≠g.d)(u:∀ss,ss.length=gs.length→∀w,St w0 M (r++(sgR gs ss++t)) w→S w)(E:inB l ((i,false)::q)=true)(h:∀ss,ss.length=gs.length→OW P n l (St w0 M (r++(sgR gs ss++t))) (F++(sgE gs ss++G)) (.held S (QP P n l w0 M S Q1 gs ms ss) ((i,false)::q)) (rK l ((i,false)::q))):∀(N:Nat)(ss:List mT),ss.length=gs.length→(pnd gs ss).length<N→XW n (St w0 M (r++(sgR gs ss++t))) (F++(sgE gs ss++G)) (QP P n l w0 M S Q1 gs (⟨i,q,ks⟩::ms) ss) .normal
 | 0,_,_,H=>absurd H (Nat.not_lt_zero _)
 | N+1,ss,A,H=>λa w L C Q=>by
  have e:(Mn.mk i q ks::ms).length+(pnd gs ss).length=(ms.length+(pnd gs ss).length)+1:=by simp only [List.length_cons];omega
  rw [e,tr]
  have single:∀x∈(pnd gs ss).map (λk=>(k,tr (ms.length+(pnd gs ss).length) (⟨i,q,ks⟩::ms) ((pnd gs ss).erase k))),wpOp P l.toArray Q1 x.1 (λa' w'=>S w'∧ED P l.toArray S Q1 x.2 a' w') a w:=λx hx=>by
   obtain ⟨k,hk,rfl⟩:=List.mem_map.1 hx;exact Mo D p u A Q hk e (λss' h1 R=>Ei D p u E h N ss' h1 (by omega)) L C
  have main:wpOp P l.toArray Q1 i (λa' w'=>S w'∧ED P l.toArray S Q1 (Br.pre q (tr (ms.length+(pnd gs ss).length) ms (pnd gs ss))) a' w') a w:=by
   have:=h ss A _ ⟨[],rfl⟩ (pT E) a w L C (u _ A w C);rw [pB] at this
   have key:∀(s:List (Nat×Bool))(a:Act)(w:World),pB P l.toArray S (QP P n l w0 M S Q1 gs ms ss) s a w→pB P l.toArray S (QBr P l.toArray S Q1 (tr (ms.length+(pnd gs ss).length) ms (pnd gs ss))) s a w:=by
    intro s
    induction s with
    | nil=>intro a w h;rw [pB] at h ⊢;exact h Q
    | cons y s ihs =>
     obtain ⟨j,c⟩:=y;intro a w h
     cases c with
     | true =>
      rw [pB] at h ⊢;obtain ⟨o,v,h1,R,Z,h4⟩:=h;exact ⟨o,v,h1,R,Z,ihs _ _ h4⟩
     | false =>
      rw [pB] at h ⊢;exact wpOp_mono (λa' w' h'=>⟨h'.1,ihs _ _ h'.2⟩) (Gt (λe a w f h=>by cases e<;>first|exact absurd rfl f|exact h) h)
   exact wpOp_mono (λa' w' h'=>⟨h'.1,tQ q a' w' (key _ _ _ h'.2)⟩) (Gt (λe a w f h=>by cases e<;>first|exact absurd rfl f|exact h) this)
  have X:∀{g:Nat→Nat×Br},(ks.any λk=>(pnd gs ss).any (Nat.beq k))=true→(pnd gs ss).map g≠[]:=λm f=>by
   rw [List.map_eq_nil_iff] at f;rw [f] at m;simp at m
  dsimp only
  cases m:ks.any (λk=>(pnd gs ss).any (Nat.beq k)) with
  | true=>exact Aw (by rw [cond_true];exact X m) (by rw [cond_true];exact single)
  | false =>
   refine Aw (by rw [cond_false];exact WR) λx hx=>?_;rw [cond_false] at hx;rcases Of hx with rfl|hx
   ·exact main
   exact single x hx
theorem QN {gs:List Sg}{F G:Env}{j m:List Res}(o:(gs.map Sg.d).Nodup)(i:∀x∈F,∀g∈gs,x.1≠g.d)(p:∀ss,ss.length=gs.length→∀w,St w0 M (j++(sgR gs ss++m)) w→S w)(h:∀ss,ss.length=gs.length→pnd gs ss=[]→XW n (St w0 M (j++(sgR gs ss++m))) (F++(sgE gs ss++G)) (QBr P l.toArray S Q1 .done) .normal):∀(N:Nat)(ss:List mT),ss.length=gs.length→(pnd gs ss).length<N→XW n (St w0 M (j++(sgR gs ss++m))) (F++(sgE gs ss++G)) (QP P n l w0 M S Q1 gs [] ss) .normal
 | 0,_,_,q=>absurd q (Nat.not_lt_zero _)
 | N+1,ss,r,q=>λa w s t u=>by
  by_cases c:pnd gs ss=[]
  ·rw [c];exact h ss r c a w s t
  obtain ⟨f,v⟩:∃f,(pnd gs ss).length=f+1:=⟨(pnd gs ss).length-1,by have:=List.length_pos_iff.2 c;omega⟩;have e:([]:List Mn).length+(pnd gs ss).length=f+1:=by simpa using v
  rw [e,tr];refine Aw (by simpa using c) λx A=>?_;obtain ⟨k,hk,rfl⟩:=List.mem_map.1 A;exact Mo o i p r u hk e (λss' h1 C=>QN o i p h N ss' h1 (by omega)) s t
theorem Ce {gs:List Sg}{ms:List Mn}{i:Nat}{q:List (Nat×Bool)}{ks:List Nat}{F G:Env}{j m:List Res}(o:(gs.map Sg.d).Nodup)(f:∀x∈F,∀g∈gs,x.1≠g.d)(p:∀ss,ss.length=gs.length→∀w,St w0 M (j++(sgR gs ss++m)) w→S w)(h:∀ss,ss.length=gs.length→(ks.any λk=>(pnd gs ss).any (Nat.beq k))=false→XW n (St w0 M (j++(sgR gs ss++m))) (F++(sgE gs ss++G)) (QP P n l w0 M S Q1 gs (⟨i,q,ks⟩::ms) ss) .normal):∀(N:Nat)(ss:List mT),ss.length=gs.length→(pnd gs ss).length<N→XW n (St w0 M (j++(sgR gs ss++m))) (F++(sgE gs ss++G)) (QP P n l w0 M S Q1 gs (⟨i,q,ks⟩::ms) ss) .normal
 | 0,_,_,r=>absurd r (Nat.not_lt_zero _)
 | N+1,ss,s,r=>by
  cases c:ks.any (λk=>(pnd gs ss).any (Nat.beq k)) with
  | false=>exact h ss s c
  | true =>
   intro a w u v A;have e:(Mn.mk i q ks::ms).length+(pnd gs ss).length=(ms.length+(pnd gs ss).length)+1:=by simp only [List.length_cons];omega
   rw [e,tr]
   have t:pnd gs ss≠[]:=λC=>by
    rw [C] at c;simp at c
   dsimp only;rw [c,cond_true];refine Aw (by simpa using t) λx D=>?_;obtain ⟨k,hk,rfl⟩:=List.mem_map.1 D;exact Mo o f p s A hk e (λss' h1 E=>Ce o f p h N ss' h1 (by omega)) u v
def Pb:List Mn→List (Nat×Bool)
 | []=>[]
 | m::ms=>(m.i,false)::(m.q++Pb ms)
theorem Nm:∀(x y:List (Nat×Bool))(b:Br),Br.pre (x++y) b=Br.pre x (Br.pre y b)
 | [],_,_=>rfl
 | (i,true)::x,y,b=>by show Br.q i (Br.pre (x++y) b)=_;rw [Nm x y b];rfl
 | (i,false)::x,y,b=>by show Br.l i (Br.pre (x++y) b)=_;rw [Nm x y b];rfl
theorem Ro:∀(ms:List Mn),tr ms.length ms []=Br.pre (Pb ms) .done
 | []=>rfl
 | m::ms=>by
  have:(m.k.any λk=>([]:List Nat).any (Nat.beq k))=false:=by simp
  show Ww (bif m.k.any (λk=>([]:List Nat).any (Nat.beq k)) then _ else _)=_;rw [this,cond_false,Ro ms];show Br.l m.i (Br.pre m.q (Br.pre (Pb ms) .done))=_;rw [←Nm];rfl
theorem xfd {L:List Res}{ms:List Mn}(fl:List (Nat×Bool))(d:Pb ms=fl)(f:inB l fl=true)(g:∀w,St w0 M L w→S w)(h:OW P n l (St w0 M L) E (.held S (QBr P l.toArray S Q1 .done) fl) (rK l fl)):XW n (St w0 M L) E (QP P n l w0 M S Q1 [] ms []) .normal:=λa w i c _=>by
 subst d;have e:ms.length+(pnd [] []).length=ms.length:=rfl;rw [e,show pnd [] []=[] from rfl,Ro];exact tQ (Pb ms) a w (h _ ⟨[],rfl⟩ (pT f) a w i c (g w c))
theorem QP.drop {gs gs':List Sg}{ms:List Mn}{ss ss':List mT}{C:World→Prop}{E:Env}(c:pnd gs' ss'=pnd gs ss)(d:∀g∈gs',g∈gs)(h:XW n C E (QP P n l w0 M S Q1 gs' ms ss') .normal):XW n C E (QP P n l w0 M S Q1 gs ms ss) .normal:=λa w e f i=>by
 have:=h a w e f (λg h=>i g (d g h));rwa [c] at this
variable {L:List Res}
theorem mA {L L':List Res}(bs:List Bool)(a:rT bs L=L'):∀w,St w0 M L w→St w0 M L' w:=λ_ h=>St.mask bs a h
def ndB:List Nat→Bool
 | []=>true
 | x::r => !(r.any (Nat.beq x))&&ndB r
theorem Ti:∀{l:List Nat},ndB l=true→l.Nodup
 | [],_=>List.nodup_nil
 | x::r,h=>by
  simp only [ndB,Bool.and_eq_true,Bool.not_eq_true'] at h;refine List.nodup_cons.2 ⟨λa=>?_,Ti h.2⟩;have:=List.any_eq_false.1 h.1 x a;simp at this
def fok (F:Env)(gs:List Sg):Bool:=ndB (gs.map Sg.d)&&F.all λx=>gs.all λg => !(Nat.beq x.1 g.d)
theorem BV {F:Env}{gs:List Sg}(h:fok F gs=true):(gs.map Sg.d).Nodup∧∀x∈F,∀g∈gs,x.1≠g.d:=by
 simp only [fok,Bool.and_eq_true] at h;refine ⟨Ti h.1,λx a g c e=>?_⟩;have:=List.all_eq_true.1 (List.all_eq_true.1 h.2 x a) g c;rw [e] at this;simp at this
abbrev uS:mT:=.inl undef
theorem xq1 {d:Sg}{ms:List Mn}{i:Nat}{q:List (Nat×Bool)}{ks:List Nat}{E:mT→Env}{L:mT→List Res}(c p:Nat)(h:((∀a,E a=(E uS).take c++(sgE [d] [a]++(E uS).drop (c+1)))∧(∀a,L a=(L uS).take p++(sgR [d] [a]++(L uS).drop (p+1)))∧fok ((E uS).take c) [d]=true))(g:∀a w,St w0 M (L a) w→S w)(j:inB l ((i,false)::q)=true)(hk:∀a,OW P n l (St w0 M (L a)) (E a) (.held S (QP P n l w0 M S Q1 [d] ms [a]) ((i,false)::q)) (rK l ((i,false)::q))):∀a,XW n (St w0 M (L a)) (E a) (QP P n l w0 M S Q1 [d] (⟨i,q,ks⟩::ms) [a]) .normal:=by
 intro a;obtain ⟨h1,e,k⟩:=h;obtain ⟨m,o⟩:=BV k;rw [h1 a,e a];refine Ei m o (λss f w r=>?_) j (λss f=>?_) _ [a] rfl (Nat.lt_succ_self _)
 ·match ss,f with
  | [a],_=>exact g a w (by rw [e];exact r)
 match ss,f with
 | [a],_ =>
  have:=hk a;rwa [h1 a,e a] at this
theorem xe1 {d:Sg}{E:mT→Env}{L:mT→List Res}(c p:Nat)(h:((∀a,E a=(E uS).take c++(sgE [d] [a]++(E uS).drop (c+1)))∧(∀a,L a=(L uS).take p++(sgR [d] [a]++(L uS).drop (p+1)))∧fok ((E uS).take c) [d]=true))(i:∀a w,St w0 M (L a) w→S w)(hk:∀e,XW n (St w0 M (L (.inr e))) (E (.inr e)) (QBr P l.toArray S Q1 .done) .normal):∀a,XW n (St w0 M (L a)) (E a) (QP P n l w0 M S Q1 [d] [] [a]) .normal:=by
 intro a;obtain ⟨h1,f,j⟩:=h;obtain ⟨k,m⟩:=BV j;rw [h1 a,f a];refine QN k m (λss g w o=>?_) (λss g q=>?_) _ [a] rfl (Nat.lt_succ_self _)
 ·match ss,g with
  | [a],_=>exact i a w (by rw [f];exact o)
 match ss,g with
 | [a],_ =>
  obtain u|e:=a
  ·simp [pnd] at q
  have:=hk e;rwa [h1,f] at this
theorem xs1 (c:Sg){ms:List Mn}{ids:List Nat}{f:Nat}(o:ids=[c.i])(q:f=ms.length+1)(r:Mi P n l w0 M c)(h:∀k,XW n (St w0 M (L++[sr c k])) ((c.d,sv c k)::E) (QP P n l w0 M S Q1 [c] ms [k]) .normal):XW n (St w0 M L) E (QBr P l.toArray S Q1 (tr f ms ids)) .normal:=by
 subst o;subst q;intro a w m s;refine h (Sum.inl (a.tmps.getD c.d undef)) a w ?_ ?_ (λg p=>?_)
 ·exact ⟨m.sz,m.df,λt v e=>by
   rw [kA] at e
   cases j:Nat.beq c.d t with
   | true =>
    rw [j,cond_true] at e;rw [←Nat.eq_of_beq_eq_true j];exact Option.some.inj e
   | false =>
   rw [j,cond_false] at e;exact m.b_ t v e⟩
 ·have:=s;have:=this.push0 Res.nil rfl trivial;simpa [sr] using this
 simp only [List.mem_cons,List.not_mem_nil,or_false] at p;rcases p with rfl;exact r
theorem xq2 {e f:Sg}{ms:List Mn}{i:Nat}{q:List (Nat×Bool)}{ks:List Nat}{E:mT→mT→Env}{L:mT→mT→List Res}(c p:Nat)(h:((∀a d,E a d=(E uS uS).take c++(sgE [e,f] [a,d]++(E uS uS).drop (c+2)))∧(∀a d,L a d=(L uS uS).take p++(sgR [e,f] [a,d]++(L uS uS).drop (p+2)))∧fok ((E uS uS).take c) [e,f]=true))(k:∀a d w,St w0 M (L a d) w→S w)(m:inB l ((i,false)::q)=true)(hk:∀a d,OW P n l (St w0 M (L a d)) (E a d) (.held S (QP P n l w0 M S Q1 [e,f] ms [a,d]) ((i,false)::q)) (rK l ((i,false)::q))):∀a d,XW n (St w0 M (L a d)) (E a d) (QP P n l w0 M S Q1 [e,f] (⟨i,q,ks⟩::ms) [a,d]) .normal:=by
 intro a d;obtain ⟨h1,g,o⟩:=h;obtain ⟨r,s⟩:=BV o;rw [h1 a d,g a d];refine Ei r s (λss j w t=>?_) m (λss j=>?_) _ [a,d] rfl (Nat.lt_succ_self _)
 ·match ss,j with
  | [a,d],_=>exact k a d w (by rw [g];exact t)
 match ss,j with
 | [a,d],_ =>
  have:=hk a d;rwa [h1 a d,g a d] at this
theorem xs2 (e j:Sg){ms:List Mn}{ids:List Nat}{f:Nat}(r:ids=[e.i,j.i])(u:f=ms.length+2)(x:Mi P n l w0 M e)(o1:Mi P n l w0 M j)(h:∀o p,XW n (St w0 M (L++[sr e o,sr j p])) ((e.d,sv e o)::(j.d,sv j p)::E) (QP P n l w0 M S Q1 [e,j] ms [o,p]) .normal):XW n (St w0 M L) E (QBr P l.toArray S Q1 (tr f ms ids)) .normal:=by
 subst r;subst u;intro a w q A;refine h (Sum.inl (a.tmps.getD e.d undef)) (Sum.inl (a.tmps.getD j.d undef)) a w ?_ ?_ (λg s=>?_)
 ·exact ⟨q.sz,q.df,λt v c=>by
   rw [kA] at c
   cases k:Nat.beq e.d t with
   | true =>
    rw [k,cond_true] at c;rw [←Nat.eq_of_beq_eq_true k];exact Option.some.inj c
   | false =>
   rw [k,cond_false] at c;rw [kA] at c
   cases m:Nat.beq j.d t with
   | true =>
    rw [m,cond_true] at c;rw [←Nat.eq_of_beq_eq_true m];exact Option.some.inj c
   | false =>
   rw [m,cond_false] at c;exact q.b_ t v c⟩
 ·have:=A;have:=this.push0 Res.nil rfl trivial;have:=this.push0 Res.nil rfl trivial;simpa [sr] using this
 simp only [List.mem_cons,List.not_mem_nil,or_false] at s;rcases s with rfl|rfl
 ·exact x
 exact o1
theorem xq3 {f g j:Sg}{ms:List Mn}{i:Nat}{q:List (Nat×Bool)}{ks:List Nat}{E:mT→mT→mT→Env}{L:mT→mT→mT→List Res}(c p:Nat)(h:((∀a d e,E a d e=(E uS uS uS).take c++(sgE [f,g,j] [a,d,e]++(E uS uS uS).drop (c+3)))∧(∀a d e,L a d e=(L uS uS uS).take p++(sgR [f,g,j] [a,d,e]++(L uS uS uS).drop (p+3)))∧fok ((E uS uS uS).take c) [f,g,j]=true))(o:∀a d e w,St w0 M (L a d e) w→S w)(r:inB l ((i,false)::q)=true)(hk:∀a d e,OW P n l (St w0 M (L a d e)) (E a d e) (.held S (QP P n l w0 M S Q1 [f,g,j] ms [a,d,e]) ((i,false)::q)) (rK l ((i,false)::q))):∀a d e,XW n (St w0 M (L a d e)) (E a d e) (QP P n l w0 M S Q1 [f,g,j] (⟨i,q,ks⟩::ms) [a,d,e]) .normal:=by
 intro a d e;obtain ⟨h1,k,s⟩:=h;obtain ⟨t,u⟩:=BV s;rw [h1 a d e,k a d e];refine Ei t u (λss m w v=>?_) r (λss m=>?_) _ [a,d,e] rfl (Nat.lt_succ_self _)
 ·match ss,m with
  | [a,d,e],_=>exact o a d e w (by rw [k];exact v)
 match ss,m with
 | [a,d,e],_ =>
  have:=hk a d e;rwa [h1 a d e,k a d e] at this
theorem xs3 (e j k:Sg){ms:List Mn}{ids:List Nat}{f:Nat}(x:ids=[e.i,j.i,k.i])(C:f=ms.length+3)(D:Mi P n l w0 M e)(o1:Mi P n l w0 M j)(F:Mi P n l w0 M k)(h:∀q r s,XW n (St w0 M (L++[sr e q,sr j r,sr k s])) ((e.d,sv e q)::(j.d,sv j r)::(k.d,sv k s)::E) (QP P n l w0 M S Q1 [e,j,k] ms [q,r,s]) .normal):XW n (St w0 M L) E (QBr P l.toArray S Q1 (tr f ms ids)) .normal:=by
 subst x;subst C;intro a w u G;refine h (Sum.inl (a.tmps.getD e.d undef)) (Sum.inl (a.tmps.getD j.d undef)) (Sum.inl (a.tmps.getD k.d undef)) a w ?_ ?_ (λg A=>?_)
 ·exact ⟨u.sz,u.df,λt v c=>by
   rw [kA] at c
   cases m:Nat.beq e.d t with
   | true =>
    rw [m,cond_true] at c;rw [←Nat.eq_of_beq_eq_true m];exact Option.some.inj c
   | false =>
   rw [m,cond_false] at c;rw [kA] at c
   cases o:Nat.beq j.d t with
   | true =>
    rw [o,cond_true] at c;rw [←Nat.eq_of_beq_eq_true o];exact Option.some.inj c
   | false =>
   rw [o,cond_false] at c;rw [kA] at c
   cases p:Nat.beq k.d t with
   | true =>
    rw [p,cond_true] at c;rw [←Nat.eq_of_beq_eq_true p];exact Option.some.inj c
   | false =>
   rw [p,cond_false] at c;exact u.b_ t v c⟩
 ·have:=G;have:=this.push0 Res.nil rfl trivial;have:=this.push0 Res.nil rfl trivial;have:=this.push0 Res.nil rfl trivial;simpa [sr] using this
 simp only [List.mem_cons,List.not_mem_nil,or_false] at A;rcases A with rfl|rfl|rfl
 ·exact D
 ·exact o1
 exact F
theorem UZ {d:Sg}{ms:List Mn}{i:Nat}{q:List (Nat×Bool)}{ks:List Nat}{E:mT→Env}{L:mT→List Res}(c p:Nat)(h:((∀a,E a=(E uS).take c++(sgE [d] [a]++(E uS).drop (c+1)))∧(∀a,L a=(L uS).take p++(sgR [d] [a]++(L uS).drop (p+1)))∧fok ((E uS).take c) [d]=true))(r:∀a w,St w0 M (L a) w→S w)(m:ks.any (Nat.beq d.i)=true)(k:∀(e:Nat),XW n (St w0 M (L (.inr e))) (E (.inr e)) (QP P n l w0 M S Q1 [] (⟨i,q,ks⟩::ms) []) .normal):∀a,XW n (St w0 M (L a)) (E a) (QP P n l w0 M S Q1 [d] (⟨i,q,ks⟩::ms) [a]) .normal:=by
 intro a;obtain ⟨h1,f,s⟩:=h;obtain ⟨t,v⟩:=BV s;rw [h1 a,f a];refine Ce t v (λss g w A=>?_) (λss g j=>?_) _ [a] rfl (Nat.lt_succ_self _)
 ·match ss,g with
  | [a],_=>exact r a w (by rw [f];exact A)
 match ss,g with
 | [a],_ =>
  obtain u|e:=a
  ·exact absurd j (by
    obtain ⟨x,C,o⟩:=List.any_eq_true.1 m;have:=Nat.eq_of_beq_eq_true o;subst this;intro j;have:=List.any_eq_false.1 j _ C;rw [List.any_eq_true] at this;exact this ⟨d.i,by simp [pnd],by simp⟩)
  have:=k e;rw [h1,f] at this;exact QP.drop (by rfl) (by simp) this
theorem Xy {e f:Sg}{ms:List Mn}{i:Nat}{q:List (Nat×Bool)}{ks:List Nat}{E:mT→mT→Env}{L:mT→mT→List Res}(c p:Nat)(h:((∀a d,E a d=(E uS uS).take c++(sgE [e,f] [a,d]++(E uS uS).drop (c+2)))∧(∀a d,L a d=(L uS uS).take p++(sgR [e,f] [a,d]++(L uS uS).drop (p+2)))∧fok ((E uS uS).take c) [e,f]=true))(C:∀a d w,St w0 M (L a d) w→S w)(v:ks.any (Nat.beq e.i)=true)(A:ks.any (Nat.beq f.i)=true)(k:∀(m o:Nat),XW n (St w0 M (L (.inr m) (.inr o))) (E (.inr m) (.inr o)) (QP P n l w0 M S Q1 [] (⟨i,q,ks⟩::ms) []) .normal):∀a d,XW n (St w0 M (L a d)) (E a d) (QP P n l w0 M S Q1 [e,f] (⟨i,q,ks⟩::ms) [a,d]) .normal:=by
 intro a d;obtain ⟨h1,r,D⟩:=h;obtain ⟨F,G⟩:=BV D;rw [h1 a d,r a d];refine Ce F G (λss s w H=>?_) (λss s g=>?_) _ [a,d] rfl (Nat.lt_succ_self _)
 ·match ss,s with
  | [a,d],_=>exact C a d w (by rw [r];exact H)
 match ss,s with
 | [a,d],_ =>
  obtain u|m:=a
  ·exact absurd g (by
    obtain ⟨x,t,j⟩:=List.any_eq_true.1 v;have:=Nat.eq_of_beq_eq_true j;subst this;intro g;have:=List.any_eq_false.1 g _ t;rw [List.any_eq_true] at this;exact this ⟨e.i,by simp [pnd],by simp⟩)
  obtain u|o:=d
  ·exact absurd g (by
    obtain ⟨x,t,j⟩:=List.any_eq_true.1 A;have:=Nat.eq_of_beq_eq_true j;subst this;intro g;have:=List.any_eq_false.1 g _ t;rw [List.any_eq_true] at this;exact this ⟨f.i,by simp [pnd],by simp⟩)
  have:=k m o;rw [h1,r] at this;exact QP.drop (by rfl) (by simp) this
theorem ZF {e f:Sg}{ms:List Mn}{i:Nat}{q:List (Nat×Bool)}{ks:List Nat}{E:mT→mT→Env}{L:mT→mT→List Res}(c p:Nat)(h:((∀d a,E d a=(E uS uS).take c++(sgE [e,f] [d,a]++(E uS uS).drop (c+2)))∧(∀d a,L d a=(L uS uS).take p++(sgR [e,f] [d,a]++(L uS uS).drop (p+2)))∧fok ((E uS uS).take c) [e,f]=true))(t:∀d a w,St w0 M (L d a) w→S w)(r:ks.any (Nat.beq e.i)=true)(k:∀(g:Nat)(a:mT),XW n (St w0 M (L (.inr g) a)) (E (.inr g) a) (QP P n l w0 M S Q1 [f] (⟨i,q,ks⟩::ms) [a]) .normal):∀d a,XW n (St w0 M (L d a)) (E d a) (QP P n l w0 M S Q1 [e,f] (⟨i,q,ks⟩::ms) [d,a]) .normal:=by
 intro d a;obtain ⟨h1,j,v⟩:=h;obtain ⟨A,C⟩:=BV v;rw [h1 d a,j d a];refine Ce A C (λss m w D=>?_) (λss m o=>?_) _ [d,a] rfl (Nat.lt_succ_self _)
 ·match ss,m with
  | [d,a],_=>exact t d a w (by rw [j];exact D)
 match ss,m with
 | [d,a],_ =>
  obtain u|g:=d
  ·exact absurd o (by
    obtain ⟨x,F,s⟩:=List.any_eq_true.1 r;have:=Nat.eq_of_beq_eq_true s;subst this;intro o;have:=List.any_eq_false.1 o _ F;rw [List.any_eq_true] at this;exact this ⟨e.i,by simp [pnd],by simp⟩)
  have:=k g a;rw [h1,j] at this;exact QP.drop (by rcases a with _|_<;>rfl) (by simp) this
theorem ZM {j m o:Sg}{ms:List Mn}{i:Nat}{q:List (Nat×Bool)}{ks:List Nat}{E:mT→mT→mT→Env}{L:mT→mT→mT→List Res}(c p:Nat)(h:((∀a d e,E a d e=(E uS uS uS).take c++(sgE [j,m,o] [a,d,e]++(E uS uS uS).drop (c+3)))∧(∀a d e,L a d e=(L uS uS uS).take p++(sgR [j,m,o] [a,d,e]++(L uS uS uS).drop (p+3)))∧fok ((E uS uS uS).take c) [j,m,o]=true))(H:∀a d e w,St w0 M (L a d e) w→S w)(D:ks.any (Nat.beq j.i)=true)(F:ks.any (Nat.beq m.i)=true)(G:ks.any (Nat.beq o.i)=true)(k:∀(s t v:Nat),XW n (St w0 M (L (.inr s) (.inr t) (.inr v))) (E (.inr s) (.inr t) (.inr v)) (QP P n l w0 M S Q1 [] (⟨i,q,ks⟩::ms) []) .normal):∀a d e,XW n (St w0 M (L a d e)) (E a d e) (QP P n l w0 M S Q1 [j,m,o] (⟨i,q,ks⟩::ms) [a,d,e]) .normal:=by
 intro a d e;obtain ⟨h1,A,Q⟩:=h;obtain ⟨R,X⟩:=BV Q;rw [h1 a d e,A a d e];refine Ce R X (λss C w Z=>?_) (λss C f=>?_) _ [a,d,e] rfl (Nat.lt_succ_self _)
 ·match ss,C with
  | [a,d,e],_=>exact H a d e w (by rw [A];exact Z)
 match ss,C with
 | [a,d,e],_ =>
  obtain u|s:=a
  ·exact absurd f (by
    obtain ⟨x,r,g⟩:=List.any_eq_true.1 D;have:=Nat.eq_of_beq_eq_true g;subst this;intro f;have:=List.any_eq_false.1 f _ r;rw [List.any_eq_true] at this;exact this ⟨j.i,by simp [pnd],by simp⟩)
  obtain u|t:=d
  ·exact absurd f (by
    obtain ⟨x,r,g⟩:=List.any_eq_true.1 F;have:=Nat.eq_of_beq_eq_true g;subst this;intro f;have:=List.any_eq_false.1 f _ r;rw [List.any_eq_true] at this;exact this ⟨m.i,by simp [pnd],by simp⟩)
  obtain u|v:=e
  ·exact absurd f (by
    obtain ⟨x,r,g⟩:=List.any_eq_true.1 G;have:=Nat.eq_of_beq_eq_true g;subst this;intro f;have:=List.any_eq_false.1 f _ r;rw [List.any_eq_true] at this;exact this ⟨o.i,by simp [pnd],by simp⟩)
  have:=k s t v;rw [h1,A] at this;exact QP.drop (by rfl) (by simp) this
theorem sgA {i d:Nat}{o:Oper}{T:TypeId}{agg:Bool}{sz by_:Nat}{z:List Value}(c:inB l [(i,false)]=true)(e:rK l [(i,false)]=[o])(f:o.op=.alloc T)(g:o.guard=none)(a:o.dst=some d)(j:fo n (some d)=true)(m:eN P T agg sz by_ z):Mi P n l w0 M ⟨i,d,λb=>.pointer (some ⟨b,0,none⟩),λb=>Res.box b T z⟩:=⟨c,λL E S Qx h k=>by
 rw [e];refine JX f ?_ (by rw [g];rfl) (by rw [a];exact j) m h λb=>aM ?_
 ·rfl
 rw [a];exact k b⟩
end
end Go.Vk
/- Plain laws of the loops that copy, compare, mark and weigh. No program in sight. -/
namespace Go.Vk
theorem aV {n:Int}(a : -9223372036854775808≤n:=by omega)(h1:n≤9223372036854775807:=by omega):IntKind.i64.wrap n=n:=IntWalk.i64_in n ⟨a,h1⟩
theorem fQ {n:Nat}(h:n<9223372036854775808:=by omega):IntKind.i64.wrap (n:Int)=n:=aV
theorem ax {i:Nat}(h:i<9223372036854775807:=by omega):IntKind.i64.wrap ((i:Int)+1)=((i+1:Nat):Int):=by rw [aV];simp
theorem aH {α:Type}{xs:List α}{i:Nat}(h:i<xs.length):idx xs (i:Int)=some xs[i]:=by simp [idx,h]
theorem bA {α:Type}{xs ys:List α}(h:xs.length+ys.length≤68719476736:=by simp;omega):app xs ys=some (xs++ys):=if_pos h
theorem qm (a b:Nat):Int.tmod (a:Int) (b:Int)=((a%b:Nat):Int):=by rw [Int.tmod_eq_emod_of_nonneg (by omega)];simp
theorem yH (a b:Nat):Int.tdiv (a:Int) (b:Int)=((a / b:Nat):Int):=by rw [Int.tdiv_eq_ediv_of_nonneg (by omega)];simp
theorem QI {α:Type}(z:α){n:Nat}(h:n≤68719476736):mk z (n:Int)=some (List.replicate n z):=by
 unfold mk;rw [Q3];simp
def Zf {α:Type}(Mk:α→Int→Option (Int×α))(Hd:α→Int→Option Int)(c:Nat)(x:α):Prop:=∀m:Nat,m+c<4611686018427387904→∃(m':Nat)(x':α),Mk x (m:Int)=some ((m':Int),x')∧Hd x' (m:Int)=some (m':Int)∧m≤m'∧m'≤m+c
end Go.Vk
/- Bits of words that are not negative; truth of tests. No program in sight. -/
namespace Go.Vk
theorem vk (n:Nat)(h:n<9223372036854775808):(BitVec.ofInt 64 (n:Int)).toNat=n:=by
 rw [BitVec.ofInt_natCast,BitVec.toNat_ofNat];omega
theorem CX (x y:Nat)(a:x<9223372036854775808)(c:y<9223372036854775808):gS .xor .i64 x y=((x ^^^ y:Nat):Int)∧x ^^^ y<9223372036854775808:=by
 have d:x ^^^ y<2^63:=Nat.xor_lt_two_pow (by omega) (by omega);refine ⟨?_,by omega⟩;unfold gS;show IntKind.i64.wrap _=_;rw [BitVec.toNat_xor];show IntKind.i64.wrap (((BitVec.ofInt 64 (x:Int)).toNat ^^^ (BitVec.ofInt 64 (y:Int)).toNat:Nat):Int)=_;rw [vk x a,vk y c];exact fQ
theorem Rt (x y:Nat)(a:x<9223372036854775808)(c:y<9223372036854775808):gS .and .i64 x y=((x &&& y:Nat):Int):=by
 have d:x &&& y≤x:=Nat.and_le_left;unfold gS;show IntKind.i64.wrap _=_;rw [BitVec.toNat_and];show IntKind.i64.wrap (((BitVec.ofInt 64 (x:Int)).toNat &&& (BitVec.ofInt 64 (y:Int)).toNat:Nat):Int)=_;rw [vk x a,vk y c];exact fQ
theorem Tu (x:Nat):wW .i64 (x:Int) 1=((x / 2:Nat):Int):=by
 unfold wW;show (x:Int).fdiv (2^1)=_;rw [Int.fdiv_eq_ediv_of_nonneg _ (by decide)];simp
theorem Tl (n:Nat)(h:n<9223372036854775808):gS .and .i64 (n:Int) 127=((n%128:Nat):Int):=by
 rw [show (127:Int)=((127:Nat):Int) from rfl,Rt n 127 h (by omega),show 127=2^7-1 from rfl,Nat.and_two_pow_sub_one_eq_mod]
theorem UH (x y:Nat)(a:x<9223372036854775808)(c:y<9223372036854775808):gS .or .i64 x y=((x ||| y:Nat):Int):=by
 have d:x ||| y<2^63:=Nat.or_lt_two_pow (by omega) (by omega)
 unfold gS;show IntKind.i64.wrap _=_;rw [BitVec.toNat_or];show IntKind.i64.wrap (((BitVec.ofInt 64 (x:Int)).toNat ||| (BitVec.ofInt 64 (y:Int)).toNat:Nat):Int)=_;rw [vk x a,vk y c];exact fQ
theorem Zy (n:Nat)(h:n<128):gS .or .i64 (n:Int) 128=((n+128:Nat):Int):=by
 rw [show (128:Int)=((128:Nat):Int) from rfl,UH n 128 (by omega) (by omega),Nat.or_comm,show 128=2^7*1 from rfl,←Nat.two_pow_add_eq_or_of_lt (by omega)];simp;omega
theorem ZP (n:Nat):wW .i64 (n:Int) 7=((n / 128:Nat):Int):=by
 unfold wW;show (n:Int).fdiv (2^7)=_;rw [Int.fdiv_eq_ediv_of_nonneg _ (by decide)];simp
theorem qj {x a b:Int}(h:a≤x∧x≤b):(decide (x≥a)&&decide (x≤b))=true:=by simp;omega
theorem rY {x a b:Int}(h:¬(a≤x∧x≤b)):(decide (x≥a)&&decide (x≤b))=false:=by
 simp only [Bool.and_eq_false_iff,decide_eq_false_iff_not];omega
end Go.Vk
/- Loops over a list, as recursion over the list. No program in sight. -/
namespace Go.Vk
def run {α σ ρ:Type}(f:σ→α→Option ρ ⊕ σ)(fin:σ→Option ρ):σ→List α→Option ρ
 | s,[]=>fin s
 | s,x::xs=>match f s x with
  | .inl r=>r
  | .inr s'=>run f fin s' xs
theorem EO {α σ ρ:Type}{p:List α}(Lp:Nat→σ→Int→Option ρ)(f:σ→α→Option ρ ⊕ σ)(fin:σ→Option ρ)(I:Nat→σ→Prop)(e:∀k s,I p.length s→Lp (k+1) s (p.length:Int)=fin s)(g:∀k s (i:Nat) (h:i<p.length),I i s→(Lp (k+1) s (i:Int)=match f s p[i] with | .inl r=>r | .inr s'=>Lp k s' ((i+1:Nat):Int))∧∀s',f s p[i]=.inr s'→I (i+1) s')(o:p.length<1000000000000):∀s,I 0 s→Lp bc s 0=run f fin s p:=by
 have key:∀(d k i:Nat)(s:σ),p.length-i=d→d<k→i≤p.length→I i s→Lp k s (i:Int)=run f fin s (p.drop i):=by
  intro d
  induction d with
  | zero =>
   intro k i s j hk l a;obtain ⟨k,rfl⟩:∃q,k=q+1:=⟨k-1,by omega⟩;have:i=p.length:=by omega
   subst this;rw [e _ _ a,List.drop_length];rfl
  | succ d ih =>
   intro k i s j hk l a;obtain ⟨k,rfl⟩:∃q,k=q+1:=⟨k-1,by omega⟩;have c:i<p.length:=by omega
   obtain ⟨h1,m⟩:=g k s i c a;rw [h1,List.drop_eq_getElem_cons c];unfold run
   cases h:f s p[i] with
   | inl r=>rfl
   | inr s'=>exact ih k (i+1) s' (by omega) (by omega) (by omega) (m s' h)
 intro s a;have:=key p.length bc 0 s (by omega) cN (by omega) a;simpa using this
theorem NB {α:Type}{p:List α}{P:α→Prop}[DecidablePred P](Lp:Nat→Int→Option Bool)(a:∀k,Lp (k+1) (p.length:Int)=some true)(c:∀k (i:Nat) (h:i<p.length),Lp (k+1) (i:Int)=if P p[i] then Lp k ((i+1:Nat):Int) else some false)(d:p.length<1000000000000):Lp bc 0=some (decide (∀x∈p,P x)):=by
 rw [EO (p:=p) (σ:=Unit) (λk _ i=>Lp k i) (λ_ x=>if P x then .inr () else .inl (some false)) (λ_=>some true) (λ_ _=>True) (λk _ _=>a k) (λk _ i h _=>⟨by
  show Lp _ _=_;rw [c k i h];split<;>rfl,λ_ _=>trivial⟩) d () trivial]
 clear a c d Lp
 induction p with
 | nil=>simp [run]
 | cons x p ih =>
  unfold run;by_cases h:P x
  ·simp only [h,if_true,ih];simp [h]
  simp [h]
theorem Me {α ρ:Type}{p:List α}{P:α→Prop}[DecidablePred P]{fin bad:Option ρ}(Lp:Nat→Int→Option ρ)(a:∀k,Lp (k+1) (p.length:Int)=fin)(c:∀k (i:Nat) (h:i<p.length),Lp (k+1) (i:Int)=if P p[i] then Lp k ((i+1:Nat):Int) else bad)(d:p.length<1000000000000):Lp bc 0=if ∀x∈p,P x then fin else bad:=by
 rw [EO (p:=p) (σ:=Unit) (λk _ i=>Lp k i) (λ_ x=>if P x then .inr () else .inl bad) (λ_=>fin) (λ_ _=>True) (λk _ _=>a k) (λk _ i h _=>⟨by
  show Lp _ _=_;rw [c k i h];split<;>rfl,λ_ _=>trivial⟩) d () trivial]
 clear a c d Lp
 induction p with
 | nil=>simp [run]
 | cons x p ih =>
  unfold run;by_cases h:P x
  ·simp only [h,if_true,ih];simp [h]
  simp [h]
theorem NQ {α σ ρ:Type}{p:List α}(B:α→List Int)(u:σ→α→σ)(Lp:Nat→List Int→σ→Int→Option ρ)(fin:List Int→σ→Option ρ)(e:∀k l q,Lp (k+1) l q (p.length:Int)=fin l q)(f:∀k l q (i:Nat) (h:i<p.length),l.length+(B p[i]).length≤800000000→Lp (k+1) l q (i:Int)=Lp k (l++B p[i]) (u q p[i]) ((i+1:Nat):Int))(m:p.length<1000000000000)(l:List Int)(q:σ)(a:l.length+(p.flatMap B).length≤800000000):Lp bc l q 0=fin (l++p.flatMap B) (p.foldl u q):=by
 have key:∀(d k i:Nat)(l:List Int)(q:σ),p.length-i=d→d<k→i≤p.length→l.length+((p.drop i).flatMap B).length≤800000000→Lp k l q (i:Int)=fin (l++(p.drop i).flatMap B) ((p.drop i).foldl u q):=by
  intro d
  induction d with
  | zero =>
   intro k i l q g hk j a;obtain ⟨k,rfl⟩:∃q,k=q+1:=⟨k-1,by omega⟩;have:i=p.length:=by omega
   subst this;rw [e,List.drop_length];simp
  | succ d ih =>
   intro k i l q g hk j a;obtain ⟨k,rfl⟩:∃q,k=q+1:=⟨k-1,by omega⟩;have c:i<p.length:=by omega
   rw [List.drop_eq_getElem_cons c] at a ⊢;simp only [List.flatMap_cons,List.length_append,List.foldl_cons] at a ⊢;rw [f k l q i c (by omega),ih k (i+1) _ _ (by omega) (by omega) (by omega) (by simp only [List.length_append];omega),List.append_assoc]
 have:=key p.length bc 0 l q (by omega) cN (by omega) (by simpa using a);simpa using this
theorem LB {α:Type}{P:α→Prop}[DecidablePred P](p:List α)(q:Bool):p.foldl (λq x=>q||decide (¬P x)) q=(q||decide (¬ ∀x∈p,P x)):=by
 induction p generalizing q with
 | nil=>simp
 | cons x p ih =>
  rw [List.foldl_cons,ih];by_cases h:P x<;>simp [h]
end Go.Vk
/- Tests that are answered alike. No program in sight. -/
namespace Go.Vk
def Dec (o:Option Bool)(P:Prop):Prop:=∃b,o=some b∧(b=true↔P)
theorem Dec.eq {o o':Option Bool}{P:Prop}(h:Dec o P)(h':Dec o' P):o=o':=by
 obtain ⟨b,rfl,h1⟩:=h;obtain ⟨c,rfl,a⟩:=h';rw [Bool.eq_iff_iff.2 (h1.trans a.symm)]
theorem Dec.of_iff {o:Option Bool}{P Q:Prop}(h:Dec o P)(e:P↔Q):Dec o Q:=by
 obtain ⟨b,rfl,h1⟩:=h;exact ⟨b,rfl,h1.trans e⟩
theorem Dec.cases {o:Option Bool}{P:Prop}(h:Dec o P):(o=some true∧P)∨(o=some false∧¬P):=by
 obtain ⟨b,rfl,h1⟩:=h;cases b
 ·exact .inr ⟨rfl,λp=>by have:=h1.2 p;cases this⟩
 exact .inl ⟨rfl,h1.1 rfl⟩
theorem qS {P:Prop}(h:P):Dec (some true) P:=⟨true,rfl,by simp [h]⟩
theorem ct {P:Prop}(h:¬P):Dec (some false) P:=⟨false,rfl,by simp [h]⟩
theorem Uf {x a b:Int}:Dec (some (decide (x≥a)&&decide (x≤b))) (a≤x∧x≤b):=⟨_,rfl,by simp⟩
theorem rk {Lp:Nat→Int→Option Bool}{n:Nat}{Q:Nat→Prop}(a:Nat)(l:∀k (i:Nat),n≤i→Lp (k+1) (i:Int)=some true)(m:∀k (i:Nat),a≤i→i<n→(Q i∧Lp (k+1) (i:Int)=Lp k ((i+1:Nat):Int))∨(¬Q i∧Lp (k+1) (i:Int)=some false))(r:n<1000000000000):Dec (Lp bc (a:Int)) (∀i,a≤i→i<n→Q i):=by
 have key:∀(d k i:Nat),n-i=d→d<k→a≤i→Dec (Lp k (i:Int)) (∀j,i≤j→j<n→Q j):=by
  intro d
  induction d with
  | zero =>
   intro k i o hk g;obtain ⟨k,rfl⟩:∃q,k=q+1:=⟨k-1,by omega⟩;rw [l k i (by omega)];exact qS λj h1 c=>by omega
  | succ d ih =>
   intro k i o hk g;obtain ⟨k,rfl⟩:∃q,k=q+1:=⟨k-1,by omega⟩;rcases m k i g (by omega) with ⟨f,e⟩|⟨f,e⟩
   ·rw [e];refine (ih k (i+1) (by omega) (by omega) (by omega)).of_iff ⟨λh j h1 c=>?_,λh j h1 c=>h j (by omega) c⟩;by_cases p:j=i
    ·rw [p];exact f
    exact h j (by omega) c
   rw [e];exact ct λh=>f (h i (Nat.le_refl _) (by omega))
 exact key (n-a) bc a rfl cN (Nat.le_refl _)
theorem ww {Lp:Nat→Int→Option Int}{n:Nat}{Q:Nat→Prop}(g:∀k (i:Nat),n≤i→Lp (k+1) (i:Int)=some (-1))(h:∀k (i:Nat),i<n→(Q i∧Lp (k+1) (i:Int)=some (i:Int))∨(¬Q i∧Lp (k+1) (i:Int)=Lp k ((i+1:Nat):Int)))(o:n<1000000000000):Dec ((Lp bc 0).bind λy=>some (decide (y≥0))) (∃i,i<n∧Q i):=by
 have key:∀(d k i:Nat),n-i=d→d<k→Dec ((Lp k (i:Int)).bind λy=>some (decide (y≥0))) (∃j,i≤j∧j<n∧Q j):=by
  intro d
  induction d with
  | zero =>
   intro k i l hk;obtain ⟨k,rfl⟩:∃q,k=q+1:=⟨k-1,by omega⟩;rw [g k i (by omega)];exact ct λ⟨j,h1,c,_⟩=>by omega
  | succ d ih =>
   intro k i l hk;obtain ⟨k,rfl⟩:∃q,k=q+1:=⟨k-1,by omega⟩;rcases h k i (by omega) with ⟨f,e⟩|⟨f,e⟩
   ·rw [e];exact ⟨true,by simp,by simp;exact ⟨i,Nat.le_refl _,by omega,f⟩⟩
   rw [e];refine (ih k (i+1) (by omega) (by omega)).of_iff ⟨λ⟨j,h1,c,a⟩=>⟨j,by omega,c,a⟩,λ⟨j,h1,c,a⟩=>⟨j,?_,c,a⟩⟩;by_cases m:j=i
   ·rw [m] at a;exact absurd a f
   omega
 refine (key n bc 0 rfl cN).of_iff ⟨λ⟨j,_,c,a⟩=>⟨j,c,a⟩,λ⟨j,c,a⟩=>⟨j,Nat.zero_le _,c,a⟩⟩
end Go.Vk
/- The statement's frame: arguments opened, the row's last step. -/
namespace Go.Vk
open Go.RowKit Go.WideShapes Go.ChangeShapes Go.Deep
section
variable {H:Type} {enc:TypeId×Value→H} {P:Program}
theorem PZ {W W':World}(a:Below W.heap.size W W'){sp:Nat→Bool}{held:Bool}{n:Nat}{t:TypeId}{cs:List Value}{x:DataW H×List MemPlace}(h:DataW.trod enc P W 0 sp held n t cs=some x):DataW.trod enc P W' 0 sp held n t cs=some x:=DataW.trod_carry n t cs x h (λp c=>a.same (DataW.trod_lt n t cs x h p c))
theorem Dt {W W':World}(a:Below W.heap.size W W'){sp:Nat→Bool}{held:Bool}:∀{ts:List TypeId}{vs:List Value}{ds:List (DataW H)}{ps:List MemPlace},DataW.TrodAll enc P W 0 sp held ts vs ds ps→DataW.TrodAll enc P W' 0 sp held ts vs ds ps
 | [],[],[],_,h=>h
 | _::_,_::_,_::_,_,⟨p,q,⟨n,h1⟩,c,e⟩=>⟨p,q,⟨n,PZ a h1⟩,Dt a c,e⟩
def XL (P:Program):Bool:=(List.range P.types.size).all λt=>match P.underlying t with|some (.slice e)=>decide (0<P.cellsOf e)|_=>true
theorem Va {f:Func}{s:ChangeSpec}{apart fresh handsOn again:Bool}{W W':World}{args:Array Value}{ds gs:List (DataW H)}{before:List MemPlace}{tb:TypeId}(j:DataW.Whole enc P f.params.toList s.vars apart W args.toList ds gs before)(k:s.vars=[])(w:laidOutB P=true)(x:mapsRowed P=true)(A:XL P=true)(C:∀t∈f.params.toList,t<P.types.size)(m:f.resultTypes = #[tb])(d:P.underlying tb=some .bool)(o:s.fn H ds={results:=[.lit (.bool true)],args:=ds})(l:Below W.heap.size W W'):s.post enc P f apart fresh handsOn again W args (.bool true) W':=by
 have e:∀p∈before,p.block<W.heap.size:=λp a=>j.lt p a;have hW':=j;obtain ⟨pa,pv,D,q,rfl,r,u⟩:=hW';rw [k] at q;obtain ⟨rfl,rfl⟩:=trodVars_none q;have hfn':s.fn H (ds++[])={results:=[.lit (.bool true)],args:=ds}:=by rw [List.append_nil];exact o
 have hA':=Dt l D
 have g:∀sp:Nat→Bool,(∀p∈pa,sp p.block=true)→DataW.TrodAll enc P W' 0 sp true f.params.toList args.toList ds pa:=λsp h =>
  DataW.TrodAll.respare (kids_rows w x) (slices_full_of P A) C hA' h
 have c:∀(b:Nat)(sp:Nat→Bool)(v:Bool),DataW.TrodAll enc P W' b sp v f.resultTypes.toList ((Value.bool true).resultList f.resultTypes.size) [.lit (.bool true)] []:=λb sp v=>by
  rw [m];exact trodAll_mk1 (shut_bool d _)
 refine ⟨ds,[],pa++[],[],pa,[],j,?_,?_,?_,World.keptBut_mono (λp a=>⟨a,?_⟩) (l.frame (· ∈ pa++[])),λ_=>?_⟩
 ·rw [hfn'];exact c _ _ _
 ·rw [hfn'];exact g _ (λp a=>by simpa using e p (by simpa using a))
 ·rw [hfn',k];exact rfl
 ·simpa using a
 refine ⟨?_,_,[],([]++pa)++[],⟨[]++pa,[],trodAll_append (g _ (λ_ _=>rfl)) (c _ _ _),?_,rfl,?_,?_⟩,?_⟩
 ·exact ok_one m rfl (okWide_bool_mk d _)
 ·rw [k];exact rfl
 ·intro b off a;have i:MemPlace.cell b off∈pa:=by simpa using a
  rw [l.frozen (e _ (by simpa using i))];exact r b off (by simpa using i)
 ·intro E;have:=u E;simpa using this
 intro p a _;simpa using a
def Opn {α:Type}(P:Program)(t:TypeId)(e:Enc α)(Ok:α→Prop):Prop:=∀{H:Type}{enc:TypeId×Value→H}{w:World}{sp:Nat→Bool}{n:Nat}{cs:List Value}{x:DataW H×List MemPlace},DataW.trod enc P w 0 sp true n t cs=some x→∃a,e.rd w [] a cs∧Ok a
def Od (k:IntKind)(n:Int):Prop:=(Lit.int k n).wf=true
theorem Xe {t:TypeId}{k:IntKind}(a:Es P t k):Opn P t (nV (Value.int k) (λ_=>rfl)) (Od k):=λ{H enc w sp n cs x} h=>by
 have ht':P.underlying t=some (.int k):=a
 cases n with
 | zero=>simp [DataW.trod] at h
 | succ n =>
  unfold DataW.trod at h;rw [ht'] at h;split at h<;>simp_all
  case h_2 d =>
   obtain ⟨⟨rfl,c⟩,_⟩:=h;exact ⟨_,rfl,c⟩
theorem TL {w:World}{a:Addr}{n:Nat}{cs:List Value}(h:w.cells? 0 a n=some cs):At w [] a cs∧cs.length=n:=by
 unfold World.cells? at h;rw [if_pos (Nat.zero_le _)] at h;have c:cs.length=n:=by simpa using mapM_some_length h
 refine ⟨⟨λ_=>by simp,λj v d=>?_⟩,c⟩;have e:j<n:=by rw [←c];exact (List.getElem?_eq_some_iff.1 d).1
 have:=mapM_some_get h j j (by simp [e]);rw [this,d]
theorem Tm {α:Type}{e:Enc α}{Ok:α→Prop}{t et:TypeId}(u:isSl P t et)(v:Opn P et e Ok)(A:P.cellsOf et=e.sz):Opn P t (cn e et) (λxs=>xs.length≤maxLen∧∀x∈xs,Ok x):=λ{H enc w sp n cs x} h=>by
 rcases open_slice u h with ⟨rfl,_⟩|⟨a,len,cap,m,n',D,Pl,rfl,_,C,q,f,_,g⟩
 ·exact ⟨[],Rp,by simp,by simp⟩
 have j:∀i,i<len→∃y,(∃ds,e.rd w [] y ds∧At w [] (a.add (i*e.sz)) ds)∧Ok y:=λi d=>by
  obtain ⟨cs',h1,o⟩:=g i (by rw [f];split<;>omega);obtain ⟨y,E,F⟩:=v o;exact ⟨y,⟨cs',E,by rw [←A];exact (TL h1).1⟩,F⟩
 have:∃xs:List α,xs.length=len∧∀i x,xs[i]?=some x→(∃ds,e.rd w [] x ds∧At w [] (a.add (i*e.sz)) ds)∧Ok x:=by
  clear C q f g h;rename_i r;clear r
  induction len with
  | zero=>exact ⟨[],rfl,by simp⟩
  | succ k ih =>
   obtain ⟨xs,h1,o⟩:=ih (λi d=>j i (by omega));obtain ⟨y,G⟩:=j k (by omega);refine ⟨xs++[y],by simp [h1],λi x c=>?_⟩;by_cases d:i<k
   ·rw [List.getElem?_append_left (by omega)] at c;exact o i x c
   have s:i=k:=by
    have:=(List.getElem?_eq_some_iff.1 c).1;simp [h1] at this;omega
   subst s;rw [List.getElem?_append_right (by omega),h1] at c;simp at c;subst c;exact G
 obtain ⟨xs,p,l⟩:=this;refine ⟨xs,⟨some a,cap,by rw [p],by omega,q,λ_=>⟨a,rfl,λi x c=>(l i x c).1⟩⟩,by omega,λx c=>?_⟩;obtain ⟨i,d⟩:=List.mem_iff_getElem?.1 c;exact (l i x d).2
theorem Ug {w:World}{r:Reach}{a:Nat}{t et:TypeId}{v:Value}(c:isSl P t et)(h:Value.okWide P w r a t v):v.cells.toList=[v]:=by
 have ht':P.underlying t=some (.slice et):=c
 cases v with
 | agg cs=>simp [Value.okWide,ht',Cell.okWide,Cell.ok] at h
 | _=>rfl
theorem YD {α:Type}{e:Enc α}{Ok:α→Prop}{w:World}{r:Reach}{f:Nat}{t et:TypeId}{v:Value}{d:DataW H}{ps:List MemPlace}(g:isSl P t et)(i:Opn P t e Ok)(h:Value.okWide P w r f t v)(c:DataW.Trod enc P w 0 (λ_=>true) true t v d ps):∃a,e.rd w [] a [v]∧Ok a:=by
 obtain ⟨n,c⟩:=c;rw [Ug g h] at c;exact i c
end
end Go.Vk
/- Arguments that are structs, opened. -/
namespace Go.Vk
open Go.RowKit Go.WideShapes Go.ChangeShapes Go.Deep
section
variable {H:Type} {enc:TypeId×Value→H} {P:Program}
def Zt (P:Program)(t:TypeId):Option (List (TypeId×Nat)):=match P.underlying t with
 | some (.struct fs)=>some (fs.toList.map λf=>(f.type,f.offset))
 | _=>none
end
end Go.Vk
/- What the statement's frame says of whole numbers. -/
namespace Go.Vk
end Go.Vk
/- Loops by index; sums. No program in sight. -/
namespace Go.Vk
theorem RI {α:Type}{f:α→Nat}{p:List α}{x:α}(h:x∈p):f x≤(p.map f).sum:=by
 induction p with
 | nil=>cases h
 | cons y p ih =>
  simp only [List.map_cons,List.sum_cons];rcases List.mem_cons.1 h with rfl|h
  ·omega
  have:=ih h;omega
theorem Co {ρ:Type}{Lp:Nat→Nat→Option ρ}{n:Nat}{Q:Nat→Prop}{fin bad:Option ρ}(e:∀k,(∀j,j<n→Q j)→Lp (k+1) n=fin)(f:∀k i,i<n→(∀j,j<i→Q j)→(Q i∧Lp (k+1) i=Lp k (i+1))∨(¬Q i∧Lp (k+1) i=bad))(l:n<1000000000000):((∀j,j<n→Q j)∧Lp bc 0=fin)∨((¬ ∀j,j<n→Q j)∧Lp bc 0=bad):=by
 have key:∀(d k i:Nat),n-i=d→d<k→i≤n→(∀j,j<i→Q j)→((∀j,j<n→Q j)∧Lp k i=fin)∨((¬ ∀j,j<n→Q j)∧Lp k i=bad):=by
  intro d
  induction d with
  | zero =>
   intro k i m hk o a;obtain ⟨k,rfl⟩:∃q,k=q+1:=⟨k-1,by omega⟩;have:i=n:=by omega
   subst this;exact .inl ⟨a,e k a⟩
  | succ d ih =>
   intro k i m hk o a;obtain ⟨k,rfl⟩:∃q,k=q+1:=⟨k-1,by omega⟩;rcases f k i (by omega) a with ⟨h1,c⟩|⟨h1,c⟩
   ·rw [c]
    exact ih k (i+1) (by omega) (by omega) (by omega) (λj p=>by
     by_cases h:j=i
     ·subst h;exact h1
     exact a j (by omega))
   exact .inr ⟨λg=>h1 (g i (by omega)),c⟩
 exact key n bc 0 rfl (cN l) (Nat.zero_le _) (λj p=>by omega)
theorem jg {ρ:Type}{Lp:Nat→Nat→Option ρ}{n:Nat}{fin:Option ρ}(a:∀k,Lp (k+1) n=fin)(c:∀k i,i<n→Lp (k+1) i=Lp k (i+1))(d:n<1000000000000):Lp bc 0=fin:=by
 rcases Co (Lp:=Lp) (n:=n) (Q:=λ_=>True) (fin:=fin) (bad:=none) (λk _=>a k) (λk i e _=>.inl ⟨trivial,c k i e⟩) d with ⟨_,h⟩|⟨h,_⟩
 ·exact h
 exact absurd (λ_ _=>trivial) h
theorem xj {Lp:Nat→Nat→Option Bool}{n:Nat}{Q:Nat→Prop}{F:Prop}(e:∀k,(∀j,j<n→Q j)→Dec (Lp (k+1) n) F)(f:∀k i,i<n→(∀j,j<i→Q j)→(Q i∧Lp (k+1) i=Lp k (i+1))∨(¬Q i∧Lp (k+1) i=some false))(l:n<1000000000000):Dec (Lp bc 0) ((∀j,j<n→Q j)∧F):=by
 have key:∀(d k i:Nat),n-i=d→d<k→i≤n→(∀j,j<i→Q j)→Dec (Lp k i) ((∀j,j<n→Q j)∧F):=by
  intro d
  induction d with
  | zero =>
   intro k i m hk o a;obtain ⟨k,rfl⟩:∃q,k=q+1:=⟨k-1,by omega⟩;have:i=n:=by omega
   subst this;exact (e k a).of_iff ⟨λh=>⟨a,h⟩,λh=>h.2⟩
  | succ d ih =>
   intro k i m hk o a;obtain ⟨k,rfl⟩:∃q,k=q+1:=⟨k-1,by omega⟩;rcases f k i (by omega) a with ⟨h1,c⟩|⟨h1,c⟩
   ·rw [c]
    exact ih k (i+1) (by omega) (by omega) (by omega) (λj p=>by
     by_cases h:j=i
     ·subst h;exact h1
     exact a j (by omega))
   rw [c];exact ct λg=>h1 (g.1 i (by omega))
 exact key n bc 0 rfl (cN l) (Nat.zero_le _) (λj p=>by omega)
theorem Ey {p:List Int}{i:Nat}(h:i<p.length):(p.take (i+1)).sum=(p.take i).sum+p[i]:=by
 rw [List.take_succ_eq_append_getElem h,List.sum_append];simp
theorem tx {p:List Int}{b:Int}(a:∀x∈p,0≤x∧x≤b):0≤p.sum∧p.sum≤b*p.length:=by
 induction p with
 | nil=>simp
 | cons x p ih =>
  have h1:=a x (by simp);have d:=ih (λy c=>a y (by simp [c]));simp only [List.sum_cons,List.length_cons];have:b*((p.length+1:Nat):Int)=b*p.length+b:=by rw [Int.natCast_add,Int.mul_add];simp
  omega
theorem NT {α:Type}{p:List α}{i:Nat}{x:α}(h:x∈p.take i):x∈p:=List.mem_of_mem_take h
theorem Ft {α ρ:Type}{p:List α}(v:α→Int)(Lp:Nat→Int→Int→Option ρ)(fin:Int→Option ρ)(d:∀k s,Lp (k+1) s (p.length:Int)=fin s)(e:∀k s (i:Nat) (h:i<p.length),Lp (k+1) s (i:Int)=Lp k (IntKind.i64.wrap (s+v p[i])) ((i+1:Nat):Int))(f:∀x∈p,0≤v x∧v x≤1000000000)(j:p.length≤1000000000):Lp bc 0 0=fin (p.map v).sum:=by
 have hb':∀x∈p.map v,0≤x∧x≤1000000000:=λx a=>by
  obtain ⟨y,g,rfl⟩:=List.mem_map.1 a;exact f y g
 have:=jg (Lp:=λk i=>Lp k ((p.map v).take i).sum (i:Int)) (n:=p.length) (fin:=fin (p.map v).sum) (λk=>by
  show Lp _ _ _=_
  rw [d,List.take_of_length_le (by simp)]) (λk i c=>by
  show Lp _ _ _=Lp _ _ _;have h1:=tx (p:=(p.map v).take (i+1)) (b:=1000000000) (λx a=>hb' x (NT a));rw [e _ _ _ c];rw [Ey (by simpa using c)] at h1 ⊢;rw [List.getElem_map] at h1 ⊢;have l:((p.map v).take (i+1)).length≤1000000000:=by simp;omega
  rw [aV]) (by omega)
 simpa using this
theorem Qm {α:Type}[BEq α][LawfulBEq α]{p:List α}{a:α}(h:a∈p):∃q,∃d:q<p.length,p[q]=a∧(p.take (q+1)).count a=p.count a:=by
 induction p with
 | nil=>cases h
 | cons x p ih =>
  by_cases c:a∈p
  ·obtain ⟨q,d,h1,e⟩:=ih c;refine ⟨q+1,by simp;omega,by simpa using h1,?_⟩;rw [List.take_succ_cons,List.count_cons,List.count_cons,e]
  have f:a=x:=by
   rcases List.mem_cons.1 h with h|h
   ·exact h
   exact absurd h c
  subst f;refine ⟨0,by simp,rfl,?_⟩;rw [List.take_succ_cons,List.take_zero,List.count_cons,List.count_cons,List.count_eq_zero.2 c];simp
theorem Dec.and {o o':Option Bool}{P Q:Prop}(h:Dec o P)(h':P→Dec o' Q):Dec (o.bind λy=>if y then o' else some false) (P∧Q):=by
 rcases h.cases with ⟨rfl,p⟩|⟨rfl,p⟩
 ·exact (h' p).of_iff ⟨λq=>⟨p,q⟩,λq=>q.2⟩
 exact ct λq=>p q.1
end Go.Vk
/- Zf, step by step. No program in sight. -/
namespace Go.Vk
end Go.Vk
namespace Go.Vk
end Go.Vk
/- What always answers. No program in sight. -/
namespace Go.Vk
def Tot {α:Type}(o:Option α)(Q:α→Prop):Prop:=∃v,o=some v∧Q v
theorem Tot.mono {α:Type}{o:Option α}{P Q:α→Prop}(h:Tot o P)(k:∀v,P v→Q v):Tot o Q:=by
 obtain ⟨v,e,h⟩:=h;exact ⟨v,e,k v h⟩
theorem ap {α:Type}{v:α}{Q:α→Prop}(h:Q v):Tot (some v) Q:=⟨v,rfl,h⟩
theorem Tot.bind {α β:Type}{o:Option α}{f:α→Option β}{P:α→Prop}{Q:β→Prop}(h:Tot o P)(k:∀v,P v→Tot (f v) Q):Tot (o.bind f) Q:=by
 obtain ⟨v,rfl,h⟩:=h;exact k v h
theorem aP {α:Type}{c:Prop}[Decidable c]{a b:Option α}{Q:α→Prop}(h:c→Tot a Q)(h':¬c→Tot b Q):Tot (if c then a else b) Q:=by
 split
 ·exact h (by assumption)
 exact h' (by assumption)
theorem kD {α:Type}{xs:List α}{i:Int}(h:0≤i∧i<xs.length):Tot (idx xs i) (λv=>v∈xs∧∃j:Nat,i=j∧∃h:j<xs.length,v=xs[j]):=by
 obtain ⟨j,rfl⟩:∃j:Nat,i=j:=⟨i.toNat,by omega⟩;have a:j<xs.length:=by omega
 rw [aH a];exact ap ⟨List.getElem_mem a,j,rfl,a,rfl⟩
theorem rn {α:Type}{xs ys:List α}(h:xs.length+ys.length≤68719476736:=by simp;omega):Tot (app xs ys) (λv=>v=xs++ys):=by
 rw [bA h];exact ap rfl
theorem MU {α:Type}{z:α}{n:Int}(h:0≤n∧n≤68719476736):Tot (mk z n) (λv=>v=List.replicate n.toNat z):=by
 unfold mk;rw [if_pos h];exact ap rfl
theorem sJ {α:Type}{xs:List α}{lo a:Int}(h:0≤lo∧lo≤a∧a≤xs.length):Tot (sub xs lo a) (λv=>v=(xs.drop lo.toNat).take (a.toNat-lo.toNat)):=by
 unfold sub;rw [if_pos h];exact ap rfl
theorem dh {σ ρ:Type}(Lp:Nat→σ→Int→Option ρ)(n:Nat)(I:Nat→σ→Prop){Q:ρ→Prop}(a:∀k s,I n s→Tot (Lp (k+1) s (n:Int)) Q)(c:∀k s i,i<n→I i s→(∀s',I (i+1) s'→Tot (Lp k s' ((i+1:Nat):Int)) Q)→Tot (Lp (k+1) s (i:Int)) Q)(e:n<1000000000000){s:σ}(f:I 0 s):Tot (Lp bc s 0) Q:=by
 have key:∀(d k i:Nat)(s:σ),n-i=d→d<k→i≤n→I i s→Tot (Lp k s (i:Int)) Q:=by
  intro d
  induction d with
  | zero =>
   intro k i s g hk j h;obtain ⟨k,rfl⟩:∃q,k=q+1:=⟨k-1,by omega⟩;have:i=n:=by omega
   subst this;exact a k s h
  | succ d ih =>
   intro k i s g hk j h;obtain ⟨k,rfl⟩:∃q,k=q+1:=⟨k-1,by omega⟩;exact c k s i (by omega) h (λs' h'=>ih k (i+1) s' (by omega) (by omega) (by omega) h')
 exact key n bc 0 s (by omega) (cN e) (Nat.zero_le _) f
theorem qH {α β ρ:Type}{p:List α}(g:α→β)(Lp:Nat→List β→Int→Option ρ)(fin:List β→Option ρ)(c:∀k l,Lp (k+1) l (p.length:Int)=fin l)(e:∀k l (i:Nat) (h:i<p.length),l.length=i→Lp (k+1) l (i:Int)=Lp k (l++[g p[i]]) ((i+1:Nat):Int))(f:p.length<1000000000000):Lp bc [] 0=fin (p.map g):=by
 have key:∀(d k i:Nat),p.length-i=d→d<k→i≤p.length→Lp k ((p.take i).map g) (i:Int)=fin (p.map g):=by
  intro d
  induction d with
  | zero =>
   intro k i j hk m;obtain ⟨k,rfl⟩:∃q,k=q+1:=⟨k-1,by omega⟩;have:i=p.length:=by omega
   subst this;rw [c,List.take_length]
  | succ d ih =>
   intro k i j hk m;obtain ⟨k,rfl⟩:∃q,k=q+1:=⟨k-1,by omega⟩;have a:i<p.length:=by omega
   rw [e k _ i a (by simp;omega),←ih k (i+1) (by omega) (by omega) (by omega),List.take_succ_eq_append_getElem a,List.map_append];rfl
 exact key p.length bc 0 (by omega) (cN f) (Nat.zero_le _)
theorem yc {β ρ:Type}{n:Nat}(G:Nat→β)(Lp:Nat→List β→Int→Option ρ)(fin:List β→Option ρ)(a:∀k l,Lp (k+1) l (n:Int)=fin l)(c:∀k l (i:Nat),i<n→l.length=i→Lp (k+1) l (i:Int)=Lp k (l++[G i]) ((i+1:Nat):Int))(e:n<1000000000000):Lp bc [] 0=fin ((List.range n).map G):=by
 have key:∀(d k i:Nat),n-i=d→d<k→i≤n→Lp k ((List.range i).map G) (i:Int)=fin ((List.range n).map G):=by
  intro d
  induction d with
  | zero =>
   intro k i f hk g;obtain ⟨k,rfl⟩:∃q,k=q+1:=⟨k-1,by omega⟩;have:i=n:=by omega
   subst this;exact a _ _
  | succ d ih =>
   intro k i f hk g;obtain ⟨k,rfl⟩:∃q,k=q+1:=⟨k-1,by omega⟩;rw [c k _ i (by omega) (by simp),←ih k (i+1) (by omega) (by omega) (by omega),List.range_succ,List.map_append];rfl
 exact key n bc 0 (by omega) (cN e) (Nat.zero_le _)
theorem UC (x:Int):0≤gS .and .i64 x 255∧gS .and .i64 x 255≤255:=by
 unfold gS;show 0≤IntKind.i64.wrap ((BitVec.ofInt 64 x &&& BitVec.ofInt 64 255).toNat:Int)∧IntKind.i64.wrap ((BitVec.ofInt 64 x &&& BitVec.ofInt 64 255).toNat:Int)≤255
 have h:(BitVec.ofInt 64 x &&& BitVec.ofInt 64 255).toNat≤255:=by
  rw [BitVec.toNat_and];exact Nat.and_le_right
 rw [fQ];omega
theorem Ru {x n:Int}(a:0≤x)(c:0<n):Tot (rem x n) (λr=>0≤r∧r<n):=by
 unfold rem;rw [Q6,Int.tmod_eq_emod_of_nonneg a];exact ap ⟨Int.emod_nonneg _ (by omega),Int.emod_lt_of_pos _ c⟩
end Go.Vk
/- A slice whose elements were handed over, and that is read on. A literal that holds what is borrowed. -/
namespace Go.Vk
open Go.RowKit
variable {P:Program} {n:Nat} {C:World→Prop} {E:Env} {m:Md} {l rest:List Oper} {w0 w:World} {M:List Nat} {L:List Res} {Q:Exit→Act→World→Prop}
end Go.Vk
