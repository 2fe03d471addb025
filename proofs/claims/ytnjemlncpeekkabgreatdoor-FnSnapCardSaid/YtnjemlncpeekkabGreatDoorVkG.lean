/- Operations that make or write memory. -/
import Derived.Test.YtnjemlncpeekkabGreatDoorVkA
import Derived.Lib.AppendStr
import Derived.WalkSpells
import Derived.Deep.Upon
import Derived.Lib.Bytealg
namespace Go.Vk
open Go.RowKit
variable {P:Program} {n:Nat} {C:World→Prop} {E:Env} {m:Md} {l rest:List Oper} {w0:World} {M:List Nat} {L:List Res} {Q:Exit→Act→World→Prop}
def Kp (m:Md)(C:World→Prop):Prop:=∀w,C w→m.keeps w
theorem kp {Q:Exit→Act→World→Prop}:Kp (.lex Q) C:=λ_ _=>trivial
theorem rS {o:Oper}{a:Act}{K:Act→World→Prop}{w w':World}{v:Value}(c:(execOp a.eval o).run P w=.ok (.value v) w')(d:K (a.put o.dst v) w'):o.wp P a w K Q:=by
 unfold Oper.wp;rw [c];exact d
theorem CR {o:Oper}{a:Act}{K:Act→World→Prop}{w w':World}(c:(execOp a.eval o).run P w=.ok .skip w')(d:K (a.put o.dst undef) w'):o.wp P a w K Q:=by
 unfold Oper.wp;rw [c];exact d
theorem GQ (w:World)(o:Obj):Ext [] w (w.alloc o):=⟨rfl,rfl,rfl,by simp,λb a _=>Below.heap_alloc w o b a⟩
theorem TH {w:World}(h:St w0 M L w)(T:TypeId)(cs:List Value):St w0 M (L++[Res.box w.heap.size T cs]) (w.alloc (.cells cs.toArray T)):=h.push (GQ w _) _ (heap_alloc_new w _) (by simp [Res.box]) (by simp [Res.box])
theorem Mw {o:Oper}{v:Nat→Value}{T:TypeId}{cs:List Value}(e:m.here (o::rest)=true)(f:wt l E o.guard=some true)(g:fo n o.dst=true)(h:∀a w,Fr n E a→(execOp a.eval o).run P w=.ok (.value (v w.heap.size)) (w.alloc (.cells cs.toArray T)))(i:∀b,Kp m (St w0 M (L++[Res.box b T cs])))(hk:∀b,OW P n l (St w0 M (L++[Res.box b T cs])) (upd E o.dst (v b)) m rest):OW P n l (St w0 M L) E m (o::rest):=nX e f λa w c d _ _ j=>rS (h a w c) (j _ _ _ _ (hk w.heap.size) (c.put _ _ (aj g)) (TH d T cs) (i _ _ (TH d T cs)))
theorem YQ {o:Oper}{T:TypeId}{x:Operand}{v:Value}{cs:List Value}(c:o.op=.box T x)(d:m.here (o::rest)=true)(e:wt l E o.guard=some true)(f:fo n o.dst=true)(g:ev E x=some v)(h:v.cells=cs.toArray)(i:∀b,Kp m (St w0 M (L++[Res.box b T cs])))(hk:∀b,OW P n l (St w0 M (L++[Res.box b T cs])) (upd E o.dst (.pointer (some ⟨b,0,none⟩))) m rest):OW P n l (St w0 M L) E m (o::rest):=Mw (v:=λb=>.pointer (some ⟨b,0,none⟩)) d e f (λa w j=>by unfold execOp;simp [c,j.ev g,Instr.box,newVar,newRow,h]) i hk
theorem JX {o:Oper}{T:TypeId}{agg:Bool}{sz by_:Nat}{z:List Value}(d:o.op=.alloc T)(e:m.here (o::rest)=true)(f:wt l E o.guard=some true)(g:fo n o.dst=true)(h:eN P T agg sz by_ z)(j:∀b,Kp m (St w0 M (L++[Res.box b T z])))(hk:∀b,OW P n l (St w0 M (L++[Res.box b T z])) (upd E o.dst (.pointer (some ⟨b,0,none⟩))) m rest):OW P n l (St w0 M L) E m (o::rest):=by
 obtain ⟨i,zv,k,_,_,p,c⟩:=h.info;exact Mw (v:=λb=>.pointer (some ⟨b,0,none⟩)) e f g (λa w q=>by unfold execOp;simp [d,Instr.alloc,zeroValue,typeInfo,k,p,newVar,newRow,c]) j hk
def ir (cs:List Value)(off:Nat)(vs:List Value):List Value:=cs.take off++vs++cs.drop (off+vs.length)
theorem Se (vs:List Value):∀(k off:Nat)(cs:Array Value),off+k+vs.length≤cs.size →
  (vs.zipIdx k).foldl (λ(a:Array Value)(x:Value×Nat)=>a.setIfInBounds (off+x.2) x.1) cs=(ir cs.toList (off+k) vs).toArray:=by
 induction vs with
 | nil=>intro k off cs _;simp [ir]
 | cons v vs ih =>
  intro k off cs h;simp only [List.length_cons] at h;rw [List.zipIdx_cons,List.foldl_cons,ih (k+1) off _ (by simp;omega)];apply Array.ext';simp only [Array.toList_setIfInBounds];simp only [ir,List.length_cons];apply List.ext_getElem?;intro j;have h1:(cs.toList.set (off+k) v).length=cs.size:=by simp
  have c:cs.toList.length=cs.size:=by simp
  simp only [List.append_assoc,List.getElem?_append,List.length_take,List.getElem?_take,List.getElem?_set,List.getElem?_drop,h1,c,List.length_cons];by_cases c1:j<off+k
  ·have:j<off+(k+1):=by omega
   simp [Nat.min_eq_left (show off+k≤cs.size by omega),Nat.min_eq_left (show off+(k+1)≤cs.size by omega),c1,this,show ¬off+k=j by omega]
  by_cases c2:j=off+k
  ·subst c2;simp [Nat.min_eq_left (show off+k≤cs.size by omega),Nat.min_eq_left (show off+(k+1)≤cs.size by omega),show off+k<off+(k+1) by omega,show off+k<cs.size by omega]
  have d:¬j<off+(k+1):=by omega
  simp only [Nat.min_eq_left (show off+k≤cs.size by omega),Nat.min_eq_left (show off+(k+1)≤cs.size by omega),c1,d,if_false];rw [show j-(off+k)=(j-(off+(k+1)))+1 by omega];simp only [List.getElem?_cons_succ];by_cases c3:j-(off+(k+1))<vs.length
  ·rw [if_pos c3,Q3]
  rw [if_neg c3,Q6,Q6];congr 1;omega
def GX:List Value→List (Nat×List Value)→List Value
 | cs,[]=>cs
 | cs,(off,vs)::r=>GX (ir cs off vs) r
theorem vq {cs vs:List Value}{off:Nat}(h:off+vs.length≤cs.length):(ir cs off vs).length=cs.length:=by
 simp [ir];omega
def Hj (place:Nat→Option (Nat×Nat))(len:Nat):List (Nat×Value)→List (Nat×List Value)→Prop
 | [],[]=>True
 | (i,v)::r,(off,vs)::s=>place i=some (off,vs.length)∧v.cells=vs.toArray∧off+vs.length≤len∧Hj place len r s
 | _,_=>False
theorem Gp {place:Nat→Option (Nat×Nat)}{len:Nat}:∀{ps:List (Nat×Value)}{qs:List (Nat×List Value)}{cs:List Value},cs.length=len→Hj place len ps qs →
  Instr.fill place cs.toArray ps=some (GX cs qs).toArray
 | [],[],cs,_,_=>rfl
 | (i,v)::r,(off,vs)::s,cs,c,h=>by
  obtain ⟨h1,f,g,j⟩:=h;simp only [Instr.fill,h1,f,List.size_toArray];rw [Q4];have d:=Se vs 0 off cs.toArray (by simpa [c] using g);simp only [Nat.add_zero] at d;have k:(vs.toArray.zipIdx)=(vs.zipIdx).toArray:=by simp
  rw [k];have e:List.foldl (λ(a:Array Value)(x:Value×Nat)=>a.setIfInBounds (off+x.2) x.1) cs.toArray vs.zipIdx=(ir cs off vs).toArray:=d;simp only [List.foldl_toArray];rw [e];exact Gp (by rw [vq (by omega)];exact c) j
 | [],_::_,_,_,h=>h.elim
 | _::_,[],_,_,h=>h.elim
def vo (P:Program)(s:TypeId)(tab:List (Nat×Nat)):Prop:=∃fs,P.underlying s=some (.struct fs)∧fs.toList.mapM (λf=>(P.info? f.type).map λi=>(f.offset,i.size))=some tab
theorem Oj {a:Act}(e:Fr n E a):∀{ps:List (Nat×Operand)}{vs:List Value},evs E (ps.map (·.2))=some vs→(ps.toArray.map λ(i,x)=>(i,a.eval x)).toList=(ps.map (·.1)).zip vs:=by
 intro ps vs d;have c:=e.evs d;rw [←c];clear c d;simp only [List.map_toArray]
 induction ps with
 | nil=>rfl
 | cons p ps ih=>simp at ih ⊢;exact ih
theorem UR {o:Oper}{t:TypeId}{ps:List (Nat×Operand)}{vs:List Value}(qs:List (Nat×List Value)){tab:List (Nat×Nat)}{sz by_:Nat}{z:List Value}(e:o.op=.build t ps.toArray)(f:evs E (ps.map (·.2))=some vs)(g:eN P t true sz by_ z)(h:vo P t tab)(j:z.length=sz)(k:Hj (tab.toArray[·]?) sz ((ps.map (·.1)).zip vs) qs):Ry P n C E o (.agg (GX z qs).toArray):=λa l w _=>by
 obtain ⟨i,zv,m,_,_,c,d⟩:=g.info;obtain ⟨fs,p,q⟩:=h
 have r:P.built t (ps.toArray.map λ(i,x)=>(i,a.eval x)).toList=some (GX z qs).toArray:=by
  rw [Oj l f];simp only [Program.built,m,p,c,q,d];exact Gp j k
 unfold execOp;simp only [e,Sem.run_bind,run_build w t _ _ r];rfl
theorem dP {o:Oper}{t et:TypeId}{len:Nat}{ps:List (Nat×Operand)}{vs:List Value}(qs:List (Nat×List Value)){agg:Bool}{sz by_:Nat}{z:List Value}(k:o.op=.buildSlice t len ps.toArray)(p:m.here (o::rest)=true)(q:wt l E o.guard=some true)(r:fo n o.dst=true)(s:evs E (ps.map (·.2))=some vs)(u:isSl P t et)(A:eN P et agg sz by_ z)(d:Nat.blt 0 (len*sz)=true)(e:Nat.ble (len*sz) 16777216=true)(C:Hj (λi=>some (i*sz,sz)) (len*sz) ((ps.map (·.1)).zip vs) qs)(ds:List Value)(f:GX ((List.range (len*sz)).map λi=>z[i%z.length]!) qs=ds)(D:∀b,Kp m (St w0 M (L++[Res.box b et ds])))(hk:∀b,OW P n l (St w0 M (L++[Res.box b et ds])) (upd E o.dst (.slice (some ⟨b,0,none⟩) len len)) m rest):OW P n l (St w0 M L) E m (o::rest):=by
 obtain ⟨i,zv,F,c,_,g,h⟩:=A.info;have G:¬len*i.size=0:=by have:=Nat.le_of_ble_eq_true d;rw [c];omega
 have h1:¬len*i.size>2^24:=by have:=Nat.le_of_ble_eq_true e;rw [c];omega
 subst f;refine Mw (v:=λb=>.slice (some ⟨b,0,none⟩) len len) (cs:=GX _ qs) p q r (λa w H=>?_) D hk
 have Q:Instr.fill (λj=>some (j*i.size,i.size)) ((Array.range (len*i.size)).map (zv.cells[· % zv.cells.size]!)) (ps.toArray.map λ(i,x)=>(i,a.eval x)).toList =
   some (GX ((List.range (len*sz)).map λi=>z[i%z.length]!) qs).toArray:=by
  rw [Oj H s,c,h];have:=Gp (cs:=(List.range (len*sz)).map λi=>z[i%z.length]!) (by simp) C;rw [←this];congr 1;apply Array.ext';simp
 unfold execOp;simp only [k,Sem.run_bind,run_buildSlice w t et len _ _ i zv u F g h1 G Q];rfl
theorem Pt {o:Oper}{t et:TypeId}{agg:Bool}{sz by_:Nat}{z:List Value}(c:o.op=.buildSlice t 0 #[])(d:m.here (o::rest)=true)(e:wt l E o.guard=some true)(f:fo n o.dst=true)(g:isSl P t et)(h:eN P et agg sz by_ z)(j:∀b,Kp m (St w0 M (L++[Res.box b et []])))(hk:∀b,OW P n l (St w0 M (L++[Res.box b et []])) (upd E o.dst (.slice (some ⟨b,0,none⟩) 0 0)) m rest):OW P n l (St w0 M L) E m (o::rest):=by
 obtain ⟨i,zv,k,p,_,q,r⟩:=h.info;have ht':P.underlying t=some (.slice et):=g;refine Mw (v:=λb=>.slice (some ⟨b,0,none⟩) 0 0) (cs:=[]) d e f (λa w s=>?_) j hk;unfold execOp;simp [c,Instr.buildSlice,run_underlying ht',sizeOf,typeInfo,k,Instr.fill,newRow,Array.range_zero']
theorem Sc {α:Type}{e:Enc α}{b:Nat}{T:TypeId}{w:World}(h:(Res.box b T []).ok w):(Res.own (cn e T) [b] [] [.slice (some ⟨b,0,none⟩) 0 0]).ok w:=.inr ⟨b,0,#[],[],[],rfl,rfl,.of h,Nat.le_refl _,by simp [maxLen],by simp,by simp,rfl,rfl⟩
theorem VQ {α:Type}{e:Enc α}{T:TypeId}{w:World}:(Res.own (cn e T) [] [] [.slice none 0 0]).ok w:=.inl ⟨rfl,rfl,rfl⟩
theorem Xr {α:Type}{val:α→Value}{h1:∀x,(val x).oneCell'=true}{b:Nat}{T:TypeId}{w:World}(xs:List α)(a:xs.length≤maxLen)(h:(Res.box b T (xs.map val)).ok w):(Res.own (cn (nV val h1) T) [b] xs [.slice (some ⟨b,0,none⟩) xs.length xs.length]).ok w:=OO ⟨_,.of h,Nat.le_refl _,a,by simp,by rw [List.take_of_length_le (by simp)]⟩
def mk {α:Type}(z:α)(n:Int):Option (List α):=if 0≤n∧n≤68719476736 then some (List.replicate n.toNat z) else none
theorem cyc (z:List Value)(c:0<z.length):∀(N s:Nat),(List.range' (s*z.length) (N*z.length)).map (λi=>z[i%z.length]!)=(List.replicate N z).flatten
 | 0,s=>by simp
 | N+1,s=>by
  have h:(N+1)*z.length=z.length+N*z.length:=by rw [Nat.add_mul];omega
  rw [h,←List.range'_append_1,List.map_append,List.replicate_succ,List.flatten_cons];congr 1
  ·apply List.ext_getElem?;intro q;by_cases a:q<z.length
   ·simp [a,Nat.add_mod,Nat.mod_eq_of_lt]
   simp [a]
  have:=cyc z c N (s+1);rw [Nat.add_mul,Nat.one_mul] at this;exact this
theorem KP (z:List Value)(N:Nat)(a:0<z.length):(madeCells z.toArray (N*z.length)).toList=(List.replicate N z).flatten:=by
 have:=cyc z a N 0;rw [←this];simp [madeCells,List.range_eq_range']
theorem Ke {α:Type}{e:Enc α}{zero:α}{z:List Value}{w:World}(a:z.length=e.sz)(c:e.own w [] zero z):∀N,jX e w [] (List.replicate N zero) (List.replicate N z).flatten
 | 0=>⟨rfl,rfl⟩
 | N+1=>⟨[],[],z,_,rfl,by rw [List.replicate_succ,List.flatten_cons],a,c,Ke a c N⟩
theorem yS {α:Type}{e:Enc α}{zero:α}{o:Oper}{t et:TypeId}{x y:Operand}{k k':IntKind}{j:Int}{agg:Bool}{sz by_:Nat}{z:List Value}{xs:List α}(H:o.op=.makeSlice t x y)(Q:m.here (o::rest)=true)(R:wt l E o.guard=some true)(X:fo n o.dst=true)(Z:ev E x=some (.int k j))(hy:ev E y=some (.int k' j))(ht:isSl P t et)(he:eN P et agg sz by_ z)(v:Nat.ble by_ 2048=true)(d:e.sz=sz)(f:z.length=sz)(q:Nat.blt 0 sz=true)(hz:∀w,e.own w [] zero z)(c:mk zero j=some xs)(hS:∀b,Kp m (St w0 M (L++[Res.own (cn e et) [b] xs [.slice (some ⟨b,0,none⟩) xs.length xs.length]])))(hk:∀b,OW P n l (St w0 M (L++[Res.own (cn e et) [b] xs [.slice (some ⟨b,0,none⟩) xs.length xs.length]])) (upd E o.dst (.slice (some ⟨b,0,none⟩) xs.length xs.length)) m rest):OW P n l (St w0 M L) E m (o::rest):=by
 obtain ⟨i,zv,hi,r,hb,A,C⟩:=he.info;unfold mk at c;split at c
 ·rename_i D;obtain ⟨F,h1⟩:=D;simp only [Option.some.injEq] at c;have g:xs.length=j.toNat:=by rw [←c];simp
  have hby':=Nat.le_of_ble_eq_true v;refine nX Q R λa w s hC _ _ hK=>?_
  have hbytes:(i.bytes:Int)*j≤281474976710656:=by
   rw [hb];have h2:(by_:Int)≤2048:=by omega
   have:(by_:Int)*j≤2048*68719476736:=Int.mul_le_mul h2 h1 F (by omega);omega
  have h:=run_make (P:=P) w t et i zv ht hi A k k' j j F (Int.le_refl _) hbytes (by omega);rw [←g] at h
  have u:(Res.own (cn e et) [w.heap.size] xs [.slice (some ⟨w.heap.size,0,none⟩) xs.length xs.length]).ok (w.alloc (.cells (madeCells zv.cells (xs.length*i.size)) et)):=by
   refine .inr ⟨_,_,_,[],_,rfl,rfl,.of (heap_alloc_new w _),Nat.le_refl _,by simp only [maxLen];omega,by rw [size_madeCells,r,d],rfl,?_⟩;have G:0<z.length:=by rw [f];exact Nat.le_of_ble_eq_true q
   rw [List.take_of_length_le (by simp [size_madeCells,r,d]),r,C,←f,KP z _ G];have:=Ke (e:=e) (zero:=zero) (w:=w.alloc (.cells (madeCells z.toArray (xs.length*z.length)) et)) (by rw [f,d]) (hz _) xs.length;rw [show List.replicate xs.length zero=xs from by rw [g,c]] at this;exact this
  have p:=hC.push (GQ w (.cells (madeCells zv.cells (xs.length*i.size)) et)) _ u (by simp [Res.own]) (by simp [Res.own]);refine rS (w':=w.alloc (.cells (madeCells zv.cells (xs.length*i.size)) et)) ?_ (hK _ _ _ _ (hk w.heap.size) (s.put _ _ (aj X)) p (hS _ _ p));unfold execOp;simp only [H,s.ev Z,s.ev hy,Sem.run_bind,h];rfl
 cases c
theorem ue (P:Program)(g o:Nat)(t:TypeId)(fz:Nat×Nat):∀(vs:List Value)(i:Nat)(cur:Array Value)(w:World),w.heap[g]?=some (.cells cur t fz)→(fz.1=fz.2∨o+i+vs.length≤fz.1)→o+i+vs.length≤cur.size→(∀v∈vs,v.oneCell'=true) →
  (storeCells ⟨g,o,none⟩ vs i).run P w=.ok () (w.setRow g (cur.toList.take (o+i)++vs++cur.toList.drop (o+i+vs.length)).toArray)
 | [],i,cur,w,a,_,_,_=>by
  simp only [storeCells,List.append_nil,List.length_nil,Nat.add_zero,List.take_append_drop,Array.toArray_toList];rw [setRow_self w g cur t fz a];rfl
 | v::rest,i,cur,w,a,d,f,h1=>by
  have l:o+i<cur.size:=by simp at f;omega
  have h:(⟨g,o,none⟩:Addr).add i=⟨g,o+i,none⟩:=by unfold Addr.add;split<;>simp_all
  have c:w.cell? ⟨g,o+i,none⟩=some cur[o+i]:=by simp [World.cell?,a,l]
  have j:w.frozen? ⟨g,o+i,none⟩=false:=by
   obtain ⟨lo,hi'⟩:=fz;simp only [World.frozen?,a,Bool.and_eq_false_iff,decide_eq_false_iff_not];simp only [List.length_cons] at d;omega
  have k:(store ((⟨g,o,none⟩:Addr).add i) v).run P w=.ok () (w.setRow g (cur.setIfInBounds (o+i) v)):=by
   rw [h,run_store P w _ v _ (h1 v (by simp)),c];simp [j,setCell_eq_setRow w g (o+i) cur t fz v a]
  have ih:=ue P g o t fz rest (i+1) (cur.setIfInBounds (o+i) v) (w.setRow g (cur.setIfInBounds (o+i) v)) (setRow_heap w g cur _ t _ a) (by simp only [List.length_cons] at d;omega) (by simp at f ⊢;omega) (λx m=>h1 x (by simp [m]));simp only [storeCells,Sem.run_bind,k,Result.andThen_ok,ih,setRow_setRow];congr 3;have e:=list_seg_step cur.toList (o+i) v rest (by simp at f ⊢;omega);simpa [Array.toList_setIfInBounds,Nat.add_assoc] using e
theorem CH {t:TypeId}{agg:Bool}{sz by_:Nat}{z:List Value}(j:eN P t agg sz by_ z){w:World}{b off:Nat}{T:TypeId}{cur:Array Value}{v:Value}{vs:List Value}(c:tq w b cur T)(k:v.cells=vs.toArray)(d:vs.length=sz)(e:off+sz≤cur.size)(h1:∀u∈vs,u.oneCell'=true):(Instr.storeAt t (.pointer (some ⟨b,off,none⟩)) v).run P w=.ok () (w.setRow b (ir cur.toList off vs).toArray):=by
 obtain ⟨i,zv,l,f,_,_,_⟩:=j.info;obtain ⟨fr,c,h⟩:=c;have a:=ue P b off T fr vs 0 cur w c (h.imp id (λg=>by omega)) (by simpa [d] using e) h1;simp only [Nat.add_zero] at a;have m:¬(vs.length≠i.size):=by rw [d,f];simp
 simp [Instr.storeAt,Instr.sureAddr,storeVar,sizeOf,typeInfo,l,k,d,f,a,ir]
theorem Hh {w:World}{b:Nat}{cur cs:Array Value}{T:TypeId}(_hb:tq w b cur T):Ext [b] w (w.setRow b cs):=⟨rfl,rfl,rfl,by simp,λk _ hk=>setRow_other w b k _ (by simpa using hk)⟩
theorem Qj {w:World}{b:Nat}{cur cs:Array Value}{T:TypeId}{fr:Nat×Nat}(_hb:w.heap[b]?=some (.cells cur T fr)):Ext [b] w (w.setRow b cs):=⟨rfl,rfl,rfl,by simp,λk _ hk=>setRow_other w b k _ (by simpa using hk)⟩
theorem Uk {o:Oper}{t:TypeId}{x y:Operand}{b off:Nat}{v:Value}(vs:List Value){agg:Bool}{sz by_:Nat}{z:List Value}{i:Nat}{T:TypeId}{cs:List Value}(p:o.op=.store t x y)(q:m.here (o::rest)=true)(r:wt l E o.guard=some true)(s:fo n o.dst=true)(A:ev E x=some (.pointer (some ⟨b,off,none⟩)))(C:ev E y=some v)(D:eN P t agg sz by_ z)(F:v.cells=vs.toArray)(G:vs.length=sz)(h1:∀u∈vs,u.oneCell'=true)(j:L[i]?=some (Res.box b T cs))(g:Nat.ble (off+sz) cs.length=true)(H:Kp m (St w0 M (L.set i (Res.box b T (ir cs off vs)))))(hk:OW P n l (St w0 M (L.set i (Res.box b T (ir cs off vs)))) (upd E o.dst undef) m rest):OW P n l (St w0 M L) E m (o::rest):=nX q r λa w h k _ _ Q=>by
  have e:w.heap[b]?=some (.cells cs.toArray T (0,0)):=k.ok _ (List.mem_of_getElem? j);have d:=CH D (.of e) F G (by simpa using Nat.le_of_ble_eq_true g) h1;simp only at d
  have f:St w0 M (L.set i (Res.box b T (ir cs off vs))) (w.setRow b (ir cs off vs).toArray):=k.upd j (Qj e) (Res.box b T (ir cs off vs)) (setRow_heap w b _ _ T _ e) (by simp [Res.box])
    (λc R=>by
     have:c=b:=by simpa [Res.box] using R
     subst this;exact ⟨by simpa using (Array.getElem?_eq_some_iff.1 e).1,.inl (by simp [Res.box])⟩)
  refine CR ?_ (Q _ _ _ _ hk (h.put _ _ (aj s)) f (H _ f));unfold execOp;simp only [p,h.ev A,h.ev C,Sem.run_bind,d];rfl
end Go.Vk
/- append, strings, slices of slices. -/
namespace Go.Vk
open Go.RowKit
variable {P:Program} {n:Nat} {C:World→Prop} {E:Env} {m:Md} {l rest:List Oper} {w0:World} {M:List Nat} {L:List Res} {Q:Exit→Act→World→Prop}
def app {α:Type}(xs ys:List α):Option (List α):=if xs.length+ys.length≤68719476736 then some (xs++ys) else none
theorem Cu {α:Type}{xs ys zs:List α}(h:app xs ys=some zs):zs=xs++ys∧xs.length+ys.length≤68719476736:=by
 unfold app at h;split at h
 ·exact ⟨(Option.some.inj h).symm,‹_›⟩
 cases h
def wj (w:World)(e:TypeId)(size:Nat)(v:Value)(n:Nat)(xs:List Value):Prop:=xs.length=n*size∧((v=.slice none 0 0∧n=0)∨∃g cap cur,v=.slice (some ⟨g,0,none⟩) n cap∧0≤g∧tq w g cur e∧n≤cap∧cap≤maxLen∧cur.size=cap*size∧cur.toList.take (n*size)=xs)
theorem wj.cells {w:World}{e:TypeId}{size:Nat}{v:Value}{n:Nat}{xs:List Value}(h:wj w e size v n xs){g n' cap:Nat}(a:v=.slice (some ⟨g,0,none⟩) n' cap):∀j u,xs[j]?=some u→w.cell? ((⟨g,0,none⟩:Addr).add j)=some u:=by
 intro j u c;rcases h.2 with ⟨h1,_⟩|⟨g',cap',cur,h1,_,d,_,_,_,f⟩
 ·rw [h1] at a;cases a
 rw [h1] at a;cases a;rw [fh,Nat.zero_add,d.cell];rw [←f,List.getElem?_take] at c;split at c
 ·simpa using c
 cases c
theorem Av {P:Program}(w:World)(t ty e:TypeId)(i:TypeInfo)(p:P.underlying t=some (.slice e))(r:P.info? e=some i)(g sLen sCap:Nat)(cur:Array Value)(k:tq w g cur e)(a:Addr)(m c:Nat)(news:List Value)(s:news.length=m*i.size)(d:∀j u,news[j]?=some u→w.cell? (a.add j)=some u)(h1:∀u∈news,u.oneCell'=true)(f:sLen+m≤sCap)(l:sLen*i.size+news.length≤cur.size):(Builtin.append_ #[t,t] ty #[.slice (some ⟨g,0,none⟩) sLen sCap,.slice (some a) m c]).run P w =
   .ok (.slice (some ⟨g,0,none⟩) (sLen+m) sCap) (w.setRow g (cur.toList.take (sLen*i.size)++news++cur.toList.drop (sLen*i.size+news.length)).toArray):=by
 obtain ⟨fz,k,o⟩:=k;have v:=run_firstCells_some (P:=P) w i.size m a m c news s d;have h:=ue P g (sLen*i.size) e fz news 0 cur w k (by rcases o with q|q;exact .inl q;exact .inr (by omega)) (by simpa using l) h1;simp only [Nat.add_zero] at h;simp [Builtin.append_,run_underlying p,sizeOf,typeInfo,r,Builtin.lenOf,f,v,Addr.add_lit,h]
theorem Ib {P:Program}(w:World)(t ty e:TypeId)(i:TypeInfo)(z:Value)(size bytes:Nat)(E:P.underlying t=some (.slice e))(F:P.info? e=some i)(M:i.zero=some z)(o:i.size=size)(A:i.bytes=bytes)(C:z.cells.size=size)(Q:0<size)(v:Value)(n:Nat)(xs:List Value)(d:wj w e size v n xs)(a:Addr)(m c:Nat)(news:List Value)(p:news.length=m*size)(f:∀j u,news[j]?=some u→w.cell? (a.add j)=some u)(h1:∀u∈news,u.oneCell'=true)(r:n+m≤maxLen)(hbytes:(n+m)*bytes≤140737488355328):∃v' w',(Builtin.append_ #[t,t] ty #[v,.slice (some a) m c]).run P w=.ok v' w'∧wj w' e size v' (n+m) (xs++news)∧w.grownBy w' v.ownBlock ∧
   (v'=.slice none 0 0↔v=.slice none 0 0∧m=0):=by
 rcases d.2 with ⟨rfl,rfl⟩|⟨g,cap,cur,rfl,R,X,a7,Z,D,x⟩
 ·obtain ⟨v',w',r1,r2,r3,r4⟩:=run_append_own (P:=P) w 0 t ty e i z size bytes E F M o A C Q (.slice none 0 0) 0 xs ⟨d.1,.inl ⟨rfl,rfl⟩⟩ a m c news p f h1 r hbytes (Nat.zero_le _);refine ⟨v',w',r1,⟨r2.1,?_⟩,r3,r4⟩;rcases r2.2 with q|⟨g,cap,cur,q1,q2,q3,q4⟩
  ·exact .inl q
  exact .inr ⟨g,cap,cur,q1,q2,.of q3,q4⟩
 subst o;subst A;have hsmall:n+m≤9223372036854775807:=by simp only [maxLen] at r;omega
 have h:(xs++news).length=(n+m)*i.size:=by rw [List.length_append,d.1,p,Nat.add_mul]
 by_cases l:n+m≤cap
 ·have G:n*i.size+news.length≤cur.size:=by rw [p,D,←Nat.add_mul];exact Nat.mul_le_mul_right _ l
  have H:=Av (P:=P) w t ty e i E F g n cap cur X a m c news p f h1 l G
  have s:(cur.toList.take (n*i.size)++news++cur.toList.drop (n*i.size+news.length)).toArray.size=cur.size:=by
   simp only [List.size_toArray,List.length_append,List.length_take,List.length_drop,Array.length_toList];omega
  refine ⟨_,_,H,⟨h,.inr ⟨g,cap,_,rfl,R,X.set s,l,Z,?_,?_⟩⟩,⟨rfl,rfl,rfl,by simp,λk _ hk=>setRow_other w g k _ (λe=>hk (by simp [Value.ownBlock,e]))⟩,by simp⟩
  ·rw [s];exact D
  rw [x,←h];exact List.take_left
 have holds:∀j u,xs[j]?=some u→w.cell? ((⟨g,0,none⟩:Addr).add j)=some u:=d.cells (g:=g) rfl;have H:=run_append_grow (P:=P) w t ty e i z E F M ⟨g,0,none⟩ n cap xs d.1 holds a m c news p f (by omega) (by omega) (growslice_fits (by omega) hbytes);have a1:=grownCap_ge w (n+m) cap e;have L:grownCap w (n+m) cap e≤maxLen:=grownCap_le_maxLen w (n+m) cap e r;refine ⟨_,_,H,⟨h,.inr ⟨w.heap.size,_,_,rfl,Nat.zero_le _,.of (heap_alloc_new w.drew _),a1,L,?_,?_⟩⟩,⟨rfl,rfl,rfl,by simp,λk hk _=>heap_alloc_old w.drew _ hk⟩,by simp⟩
 ·simp only [Array.size_append,List.size_toArray,size_zeroCells,C,d.1,p,←Nat.add_mul];congr 1;omega
 simp only [Array.toList_append,List.append_assoc];rw [←List.append_assoc,←h];exact List.take_left
theorem Rb {α:Type}{e:Enc α}{T:TypeId}{w:World}{F:List Nat}{xs:List α}{v:Value}(h:vF e T w F xs [v]):∃ds a,wj w T e.sz v xs.length ds∧jX e w a xs ds∧((F=[]∧a=[]∧xs=[]∧v=.slice none 0 0)∨∃b,F=b::a∧v.ownBlock=some b):=by
 rcases h with ⟨rfl,rfl,d⟩|⟨b,cap,cur,a,ds,rfl,c,g,h1,i,j,k,f⟩
 ·simp only [List.cons.injEq,and_true] at d;subst d;exact ⟨[],[],⟨by simp,.inl ⟨rfl,rfl⟩⟩,⟨rfl,rfl⟩,.inl ⟨rfl,rfl,rfl,rfl⟩⟩
 simp only [List.cons.injEq,and_true] at c;subst c;exact ⟨ds,a,⟨DD f,.inr ⟨b,cap,cur,rfl,Nat.zero_le _,g,h1,i,j,k⟩⟩,f,.inr ⟨b,rfl,rfl⟩⟩
theorem QG {α:Type}{e:Enc α}{T:TypeId}{w:World}{a:List Nat}{xs:List α}{v:Value}{ds:List Value}(h:wj w T e.sz v xs.length ds)(c:jX e w a xs ds)(d:v=.slice none 0 0→a=[]):∃F,vF e T w F xs [v]∧((F=[]∧v=.slice none 0 0)∨∃b,F=b::a∧v.ownBlock=some b):=by
 rcases h.2 with ⟨rfl,f⟩|⟨b,cap,cur,rfl,_,g,h1,i,j,k⟩
 ·have l:=List.eq_nil_of_length_eq_zero f;subst l;exact ⟨[],.inl ⟨rfl,rfl,rfl⟩,.inl ⟨rfl,rfl⟩⟩
 exact ⟨b::a,.inr ⟨b,cap,cur,a,ds,rfl,rfl,g,h1,i,j,k,c⟩,.inr ⟨b,rfl,rfl⟩⟩
theorem Cg {α:Type}{e:Enc α}{t ty et:TypeId}{agg:Bool}{sz by_:Nat}{z:List Value}(R:isSl P t et)(he:eN P et agg sz by_ z)(b1:Nat.ble by_ 2048=true)(l:e.sz=sz)(a5:Nat.blt 0 sz=true)(b2:z.length=sz){w:World}{F Fy:List Nat}{xs ys:List α}{v:Value}(u:vF e et w F xs [v]){p:Addr}{mm cap:Nat}{news:List Value}(k:mm=ys.length)(X:At w [] p news)(f:jX e w Fy ys news)(a6:xs.length+ys.length≤68719476736)(x:(F++Fy).Nodup)(A:∀b,v.ownBlock=some b→b∉Fy):∃v' w' F',(Builtin.append_ #[t,t] ty #[v,.slice (some p) mm cap]).run P w=.ok v' w'∧vF e et w' F' (xs++ys) [v']∧Ext F w w'∧F'.Nodup∧(∀b∈F',b<w'.heap.size∧(b∈F∨b∈Fy∨w.heap.size≤b)):=by
 obtain ⟨i,zv,Z,r,a,C,b3⟩:=he.info;obtain ⟨ds,F1,m,D,E⟩:=Rb u;have hby':=Nat.le_of_ble_eq_true b1;have b4:0<i.size:=by rw [r];exact Nat.le_of_ble_eq_true a5
 have hbytes:(xs.length+ys.length)*i.bytes≤140737488355328:=by
  rw [a]
  calc (xs.length+ys.length)*by_≤68719476736*2048:=Nat.mul_le_mul a6 hby'
   _≤140737488355328:=by omega
 have hl':news.length=ys.length*e.sz:=DD f
 obtain ⟨v',w',d,hown',h,G⟩:=Ib (P:=P) w t ty et i zv e.sz i.bytes R Z C (by rw [r,l]) rfl (by rw [b3];simp [b2,l]) (by rw [l,←r];exact b4) v xs.length ds m p mm cap news
  (by rw [k];exact hl') X.2 (Jc f) (by rw [k];simp only [maxLen];omega) (by rw [k];exact hbytes)
 have a1:v'=.slice none 0 0∨v'.ownBlock=v.ownBlock∨v'.ownBlock=some w.heap.size:=by
  have o:news.length=mm*i.size:=by rw [k,r,←l];exact hl'
  rcases m.2 with ⟨s,c1⟩|⟨g,cp,cur,s,_,hg,h1,h2,h3,h4⟩
  ·by_cases h0:mm=0
   ·exact .inl (G.2 ⟨s,h0⟩)
   subst s
   have H:=run_append_nil (P:=P) w t ty et i zv R Z C p mm cap news o X.2 (by omega) (by rw [k];omega) (by
    have:ys.length*i.bytes≤(xs.length+ys.length)*i.bytes:=Nat.mul_le_mul_right _ (by omega);rw [k];omega)
   rw [H] at d;cases d;exact .inr (.inr rfl)
  subst s;by_cases q:xs.length+mm≤cp
  ·have a7:xs.length*i.size+news.length≤cur.size:=by
    rw [o,h3,r,l,←Nat.add_mul];exact Nat.mul_le_mul_right _ q
   have H:=Av (P:=P) w t ty et i R Z g xs.length cp cur hg p mm cap news o X.2 (Jc f) q a7;rw [H] at d;cases d;exact .inr (.inl rfl)
  have H:=run_append_grow (P:=P) w t ty et i zv R Z C ⟨g,0,none⟩ xs.length cp ds (by rw [DD D,r,l]) (m.cells (g:=g) rfl) p mm cap news o X.2 (by omega) (by rw [k];omega) (growslice_fits (by omega) (by rw [k];exact hbytes));rw [H] at d;cases d;exact .inr (.inr rfl)
 have a2:∀b,v.ownBlock=some b→b∈F:=by
  intro b a;rcases E with ⟨_,_,_,rfl⟩|⟨c,rfl,j⟩
  ·cases a
  rw [j] at a;cases a;simp
 have a8:Ext F w w':=⟨h.os,h.tape,h.output,h.size,λb a hn=>h.block b a (λe=>hn (a2 b e.symm))⟩
 have L:∀b∈F1,b∈F:=by
  intro b a;rcases E with ⟨_,rfl,_,_⟩|⟨c,rfl,_⟩
  ·cases a
  exact List.mem_cons_of_mem _ a
 have a9:F.Nodup:=(List.nodup_append.1 x).1
 have M:∀b∈F1,some b≠v.ownBlock:=by
  intro b a e;rcases E with ⟨_,rfl,_,_⟩|⟨c,rfl,j⟩
  ·cases a
  rw [j] at e;cases e;exact (List.nodup_cons.1 a9).1 a
 have a3:∀b∈F,b<w.heap.size:=λb a=>(cn e et).own_lt u b a;have Q:=Le f
 have hall':jX e w' (F1++Fy) (xs++ys) (ds++news):=Dn (qP D (λb a=>h.block b (a3 b (L b a)) (M b a))) (qP f (λb a=>h.block b (Q b a) (λe=>A b e.symm a)))
 rw [k] at hown';rw [←List.length_append] at hown'
 obtain ⟨F',ho,hF'⟩:=QG hown' hall' (λs=>by
  obtain ⟨h1,h2⟩:=G.1 s;rw [k] at h2;have:=List.eq_nil_of_length_eq_zero h2;subst this;rcases E with ⟨_,rfl,_,_⟩|⟨c,_,j⟩
  ·rw [f.1];rfl
  rw [h1] at j;cases j)
 refine ⟨v',w',F',d,ho,a8,?_,?_⟩
 ·rcases hF' with ⟨rfl,_⟩|⟨b,rfl,a⟩
  ·simp
  have b0:(F1++Fy).Nodup:=by
   rcases E with ⟨_,rfl,_,_⟩|⟨c,rfl,_⟩
   ·exact (List.nodup_append.1 x).2.1
   exact (List.nodup_cons.1 x).2
  refine List.nodup_cons.2 ⟨λa4=>?_,b0⟩;rcases a1 with h1|h1|h1
  ·rw [h1] at a;cases a
  ·rw [a] at h1;rcases List.mem_append.1 a4 with h2|h2
   ·exact M b h2 h1
   exact A b h1.symm h2
  rw [a] at h1;cases h1;rcases List.mem_append.1 a4 with h2|h2
  ·have:=a3 _ (L _ h2);omega
  have:=Q _ h2;omega
 intro b a;refine ⟨(cn e et).own_lt ho b a,?_⟩;rcases hF' with ⟨rfl,_⟩|⟨c,rfl,j⟩
 ·cases a
 cases a with
 | head =>
  rcases a1 with h1|h1|h1
  ·rw [h1] at j;cases j
  ·rw [j] at h1;exact .inl (a2 b h1.symm)
  rw [j] at h1;cases h1;exact .inr (.inr (Nat.le_refl _))
 | tail _ a =>
  rcases List.mem_append.1 a with h2|h2
  ·exact .inl (L b h2)
  exact .inr (.inl h2)
def oc (xs:List Int):List UInt8:=xs.map λn=>UInt8.ofNat n.toNat
theorem NR {α:Type}{val:α→Value}{h1:∀x,(val x).oneCell'=true}{w:World}{X:List Nat}{xs:List α}{p:Addr}{nn cap:Nat}(h:mS (nV val h1) w X xs [.slice (some p) nn cap]):nn=xs.length∧At w X p (xs.map val):=by
 obtain ⟨a,cap',c,m,o,i⟩:=h;simp only [List.cons.injEq,Value.slice.injEq,and_true] at c;obtain ⟨rfl,rfl,rfl⟩:=c;refine ⟨rfl,?_⟩;by_cases d:xs=[]
 ·subst d;exact ⟨λh=>absurd rfl h,λj v c=>by simp at c⟩
 obtain ⟨q,l,k⟩:=i d;cases l;refine ⟨λ_=>?_,λj v c=>?_⟩
 ·obtain ⟨x,e⟩:∃x,xs[0]?=some x:=by cases xs with|nil=>exact absurd rfl d|cons x _=>exact ⟨x,rfl⟩
  obtain ⟨ds,f,g⟩:=k 0 x e;have hd':ds=[val x]:=f;subst hd';have:=g.1 (by simp);rwa [uX] at this
 rw [List.getElem?_map] at c
 cases e:xs[j]? with
 | none=>rw [e] at c;cases c
 | some x =>
  rw [e] at c;obtain ⟨ds,f,g⟩:=k j x e;have hd':ds=[val x]:=f;subst hd';have:=g.2 0 (val x) rfl;simp only [nV,Nat.mul_one,fp] at this;rw [this,←c];rfl
theorem MB {o:Oper}{s t et:TypeId}{x:Operand}{xs:List Int}{v:Value}(k:o.op=.convert s t x)(l:ev E x=some v)(m:isSl P s et)(q:Es P et .u8)(r:JK P t)(d:Rds C (cn eU8 et) xs [v]):Ry P n C E o (vS (oc xs)):=λa u w e=>by
 obtain ⟨ad,cap,rfl⟩:∃ad cap,v=.slice ad xs.length cap:=by
  obtain ⟨ad,cap,f,_⟩:=d w e;exact ⟨ad,cap,by simpa using f⟩
 have ht':P.underlying t=some .string:=r;have A:=run_convert_bytes_string (P:=P) w s t et ad xs.length cap m q ht';unfold execOp;simp only [k,u.ev l,Sem.run_bind,A]
 cases ad with
 | none =>
  obtain ⟨ad',cap',f,G,_,h⟩:=d w e
  have i:xs=[]:=by
   by_cases c:xs=[]
   ·exact c
   obtain ⟨p,D,_⟩:=h c;subst D;simp at f
  subst i;simp [Conv.bytesToString,vS,oc];rfl
 | some p =>
  obtain ⟨_,F⟩:=NR (d w e);have j:=run_loadCells_list (P:=P) w p (xs.map (Value.int .u8)) F.2;rw [List.length_map] at j;have g:=run_bytesToString (P:=P) w p xs.length cap xs j;rw [g,foldl_push_bytes];simp [vS,oc]
def sg (a b:List UInt8):Option (List UInt8):=if a.length+b.length≤68719476736 then some (a++b) else none
theorem CO {o:Oper}{t u:TypeId}{x y:Operand}{a b c:List UInt8}(e:o.op=.binOp .add t x y u)(f:ev E x=some (vS a))(g:ev E y=some (vS b))(h:sg a b=some c):Ry P n C E o (vS c):=λfr d w _=>by
 unfold sg at h;split at h
 ·rename_i j;simp only [Option.some.injEq] at h;subst h;have i:=run_string_add_sum (P:=P) w ⟨a.toArray⟩ ⟨b.toArray⟩ (by simp [ByteArray.size];omega);unfold execOp;simp only [e,d.ev f,d.ev g,vS,eqGuard_at_string,binOp_string_add,Sem.run_bind,Sem.run_pure,Result.andThen_ok,i,ByteArray.mk_append_mk]
 cases h
def sub {α:Type}(xs:List α)(lo a:Int):Option (List α):=if 0≤lo∧lo≤a∧a≤xs.length then some ((xs.drop lo.toNat).take (a.toNat-lo.toNat)) else none
theorem CE {α:Type}{xs ys:List α}{lo a:Int}(h:sub xs lo a=some ys):0≤lo∧lo≤a∧a≤xs.length∧ys=(xs.drop lo.toNat).take (a.toNat-lo.toNat):=by
 unfold sub at h;split at h
 ·rename_i c;exact ⟨c.1,c.2.1,c.2.2,(Option.some.inj h).symm⟩
 cases h
def bnd (E:Env):Option Operand→Int→Option Int
 | none,d=>some d
 | some x,_=>match ev E x with|some (.int _ j)=>some j|_=>none
theorem Gb {a:Act}(c:Fr n E a){x:Option Operand}{d j:Int}(h:bnd E x d=some j):(x=none∧j=d)∨∃y k,x=some y∧a.eval y=.int k j:=by
 cases x with
 | none=>exact .inl ⟨rfl,(Option.some.inj h).symm⟩
 | some y =>
  simp only [bnd] at h;split at h
  ·rename_i k q e;simp only [Option.some.injEq] at h;subst h;exact .inr ⟨y,k,rfl,c.ev e⟩
  cases h
theorem DM {isSl:Bool}{len cap:Nat}{lo d:Option Value}{i j:Int}(a:(lo=none∧i=0)∨∃k,lo=some (.int k i))(f:(d=none∧j=len)∨∃k,d=some (.int k j))(g:0≤i)(h1:i≤j)(p:j≤len)(r:len≤cap)(_hs:isSl=false→cap=len)(w:World):(Instr.sliceBounds isSl len cap lo d none).run P w=.ok (i.toNat,j.toNat,cap) w:=by
 have e:∀(k:IntKind)(q:Int)(y:Nat)(c:BoundsCode),0≤q→q≤y→(Instr.sliceBound (.int k q) y c).run P w=.ok q.toNat w:=by
  intro k q y c l m;simp [Instr.sliceBound,asIntOf,l,m]
 rcases f with ⟨rfl,rfl⟩|⟨k,rfl⟩
 ·rcases a with ⟨rfl,rfl⟩|⟨k',rfl⟩
  ·simp [Instr.sliceBounds]
  simp [Instr.sliceBounds,e k' i len .sliceB g h1]
 have h:=e k j cap (if isSl=true then BoundsCode.sliceAcap else BoundsCode.sliceAlen) (by omega) (by omega);rcases a with ⟨rfl,rfl⟩|⟨k',rfl⟩
 ·simp [Instr.sliceBounds,h]
 have o:=e k' i j.toNat .sliceB g (by omega);simp [Instr.sliceBounds,h,o]
theorem Qn {o:Oper}{t:TypeId}{x:Operand}{lo c:Option Operand}{s r:List UInt8}{i j:Int}(m:o.op=.slice t x lo c none)(p:ev E x=some (vS s))(q:JK P t)(hi':bnd E lo 0=some i)(hj':bnd E c s.length=some j)(h:sub s i j=some r):Ry P n C E o (vS r):=λa d w _=>by
 obtain ⟨u,h1,v,rfl⟩:=CE h;have ht':P.underlying t=some .string:=q
 have f:(lo.map a.eval=none∧i=0)∨∃k,lo.map a.eval=some (.int k i):=by
  rcases Gb d hi' with ⟨rfl,rfl⟩|⟨y,k,rfl,e⟩
  ·exact .inl ⟨rfl,rfl⟩
  exact .inr ⟨k,by simp [e]⟩
 have g:(c.map a.eval=none∧j=s.length)∨∃k,c.map a.eval=some (.int k j):=by
  rcases Gb d hj' with ⟨rfl,rfl⟩|⟨y,k,rfl,e⟩
  ·exact .inl ⟨rfl,rfl⟩
  exact .inr ⟨k,by simp [e]⟩
 have A:=DM (P:=P) (isSl:=false) (len:=s.length) (cap:=s.length) f g u h1 v (Nat.le_refl _) (λ_=>rfl) w;have l:(⟨s.toArray⟩:ByteArray).size=s.length:=rfl;unfold execOp;simp [m,d.ev p,Instr.sliceAt,Instr.slice,run_underlying ht',vS,l,A,ByteArray.extract_mk]
theorem Bl {α:Type}{e:Enc α}{o:Oper}{t et:TypeId}{x:Operand}{lo f:Option Operand}{xs ys:List α}{v:Value}{i j:Int}{agg:Bool}{sz by_:Nat}{z:List Value}(Z:o.op=.slice t x lo f none)(hw:wt l E o.guard=some true)(hd:fo n o.dst=true)(hx:ev E x=some v)(ht:isSl P t et)(he:eN P et agg sz by_ z)(A:e.sz=sz)(hi':bnd E lo 0=some i)(hj':bnd E f xs.length=some j)(h:sub xs i j=some ys)(hr:mS e w0 M xs [v])(hk:∀v',mS e w0 M ys [v']→OW P n l C (upd E o.dst v') m rest):OW P n l C E m (o::rest):=by
 obtain ⟨h0,h1,h2,rfl⟩:=CE h;obtain ⟨a,cap,D,F,hc,G⟩:=hr;simp only [List.cons.injEq,and_true] at D;subst D;obtain ⟨ti,zv,H,hs,_,_,_⟩:=he.info;have ht':P.underlying t=some (.slice et):=ht;have c:((xs.drop i.toNat).take (j.toNat-i.toNat)).length=j.toNat-i.toNat:=by simp;omega
 refine Lb hw (aj hd) (v:=.slice (if cap=i.toNat then a else a.map (·.add (i.toNat*sz))) (j.toNat-i.toNat) (cap-i.toNat)) (λfr r w _=>?_) (hk _ ?_)
 ·have L:(lo.map fr.eval=none∧i=0)∨∃k,lo.map fr.eval=some (.int k i):=by
   rcases Gb r hi' with ⟨rfl,rfl⟩|⟨y,k,rfl,s⟩
   ·exact .inl ⟨rfl,rfl⟩
   exact .inr ⟨k,by simp [s]⟩
  have Q:(f.map fr.eval=none∧j=xs.length)∨∃k,f.map fr.eval=some (.int k j):=by
   rcases Gb r hj' with ⟨rfl,rfl⟩|⟨y,k,rfl,s⟩
   ·exact .inl ⟨rfl,rfl⟩
   exact .inr ⟨k,by simp [s]⟩
  have hb:=DM (P:=P) (isSl:=true) (len:=xs.length) (cap:=cap) L Q h0 h1 h2 F (λh=>by cases h) w;unfold execOp;simp [Z,r.ev hx,Instr.sliceAt,Instr.slice,run_underlying ht',hb,sizeOf,typeInfo,H,hs]
 refine ⟨_,cap-i.toNat,by rw [c],by rw [c];omega,by omega,λg=>?_⟩;have R:xs≠[]:=λe=>by subst e;simp at g
 obtain ⟨p,rfl,hp⟩:=G R
 have b1:i.toNat<cap:=by
  have:0<((xs.drop i.toNat).take (j.toNat-i.toNat)).length:=List.length_pos_iff.2 g;rw [c] at this;omega
 rw [Q6];refine ⟨p.add (i.toNat*sz),rfl,λq x d=>?_⟩;rw [List.getElem?_take] at d;split at d
 ·rw [List.getElem?_drop] at d;obtain ⟨ds,hd',X⟩:=hp _ x d;refine ⟨ds,hd',?_⟩;have u:i.toNat*sz+q*sz=(i.toNat+q)*sz:=by rw [Nat.add_mul]
  rw [A] at X ⊢;rw [gN,u];exact X
 cases d
theorem XX {o:Oper}{t et u:TypeId}{x:Operand}{a:Option Addr}{nn cap:Nat}(c:o.op=.binOp .eql t x (.const (.slice none 0 0)) u)(d:ev E x=some (.slice a nn cap))(e:isSl P t et):Ry P n C E o (.bool a.isNone):=λfr f w _=>by
 have ht':P.underlying t=some (.slice et):=e;have g:fr.eval (.const (.slice none 0 0))=.slice none 0 0:=rfl;have h:=Lib.run_eql_slice_nil (P:=P) w t et a nn cap 0 0 ht';unfold execOp;simp only [c,f.ev d,g,eqGuard_at_slice,Sem.run_bind,Sem.run_pure,Result.andThen_ok,h]
theorem VP {o:Oper}{t et u:TypeId}{x:Operand}{a:Option Addr}{nn cap:Nat}(c:o.op=.binOp .neq t x (.const (.slice none 0 0)) u)(d:ev E x=some (.slice a nn cap))(e:isSl P t et):Ry P n C E o (.bool (!a.isNone)):=λfr f w _=>by
 have ht':P.underlying t=some (.slice et):=e;have g:fr.eval (.const (.slice none 0 0))=.slice none 0 0:=rfl;have h:=run_neq_slice_nil_any (P:=P) w t et a nn cap 0 0 ht';unfold execOp;simp only [c,f.ev d,g,eqGuard_at_slice,Sem.run_bind,Sem.run_pure,Result.andThen_ok,h]
end Go.Vk
/- Own slices by address, calls with results of their own, joins. -/
namespace Go.Vk
open Go.RowKit
variable {P:Program} {n:Nat} {C:World→Prop} {E:Env} {m:Md} {l rest:List Oper} {w0:World} {M:List Nat} {L:List Res} {Q:Exit→Act→World→Prop}
theorem Ux:∃n:Nat,1000000000000≤n:=⟨_,Nat.le_refl _⟩
noncomputable def bc:Nat:=Classical.choose Ux
theorem cN {n:Nat}(h:n<1000000000000:=by omega):n<bc:=Nat.lt_of_lt_of_le h (Classical.choose_spec Ux)
def Dg (a:Option Addr)(k:Nat):Addr:=(a.getD ⟨0,0,none⟩).add k
theorem aq {α:Type}{e:Enc α}{F:List Nat}{xs:α}{cs:List Value}{r:Nat}(a:L[r]?=some (Res.own e F xs cs)):∀w,St w0 M L w→e.rd w [] xs cs:=λw c=>e.own_rd (c.ok _ (List.mem_of_getElem? a)) (by simp)
theorem ab {α:Type}{e:Enc α}{xs:α}{cs:List Value}(h:e.rd w0 M xs cs):∀w,St w0 M L w→e.rd w [] xs cs:=Rds.bor h
theorem Rp {α:Type}{e:Enc α}{w:World}{X:List Nat}:mS e w X [] [.slice none 0 0]:=⟨none,0,rfl,by simp,by simp [maxLen],λh=>absurd rfl h⟩
theorem mz {α:Type}{val:α→Value}{h1:∀x,(val x).oneCell'=true}{o:Oper}{t:TypeId}{x y:Operand}{a:Option Addr}{j:Int}{nn cap:Nat}{u:α}{sz by_:Nat}{z:List Value}{i:Nat}{T:TypeId}{xs:List α}{F:List Nat}{Q:α}(R:o.op=.store t x y)(X:m.here (o::rest)=true)(Z:wt l E o.guard=some true)(hd:fo n o.dst=true)(r:ev E x=some (.pointer (some (Dg a j.toNat))))(hy:ev E y=some (val u))(s:eN P t false sz by_ z)(v:L[i]?=some (Res.own (cn (nV val h1) T) F xs [.slice a nn cap]))(hj:idx xs j=some Q)(A:∀u,(val u).cells = #[val u])(hS:Kp m (St w0 M (L.set i (Res.own (cn (nV val h1) T) F (xs.set j.toNat u) [.slice a nn cap]))))(hk:OW P n l (St w0 M (L.set i (Res.own (cn (nV val h1) T) F (xs.set j.toNat u) [.slice a nn cap]))) (upd E o.dst undef) m rest):OW P n l (St w0 M L) E m (o::rest):=nX X Z λfr w h C _ _ hK=>by
  obtain ⟨_,e,_⟩:=cD hj;generalize b2:j.toNat=jj at *
  rcases UY (C.ok _ (List.mem_of_getElem? v)) with ⟨rfl,_,_⟩|⟨b,cap',rfl,D,cur,d,h2,h3,h4,h5⟩
  ·simp at e
  simp only [Value.slice.injEq] at D;obtain ⟨rfl,rfl,rfl⟩:=D;have h6:=s.one rfl;subst h6;have hp:Dg (some ⟨b,0,none⟩) jj=⟨b,jj,none⟩:=by simp [Dg,fh]
  rw [hp] at r;have k:=CH (vs:=[val u]) s d (A u) rfl (off:=jj) (by omega) (by simp [h1])
  have G:WP val T b cap (xs.set jj u) (w.setRow b (ir cur.toList jj [val u]).toArray):=by
   refine ⟨_,d.set (by simp only [List.size_toArray];rw [vq (by simp;omega)];simp),by simpa using h2,h3,?_,?_⟩
   ·simp only [List.size_toArray];rw [vq (by simp;omega)];simpa using h4
   apply List.ext_getElem?;intro q;have p:(cur.toList.take xs.length)[q]?=(xs.map val)[q]?:=by rw [h5]
   simp only [List.length_set,List.getElem?_take,List.getElem?_map,List.getElem?_set] at p ⊢;by_cases H:q<xs.length
   ·simp only [H,if_true] at p ⊢;by_cases f:jj=q
    ·subst f;simp [ir,e,Nat.min_eq_left (show jj≤cur.size by omega)]
    simp only [f,if_false];rw [←p];simp only [ir,List.getElem?_append,List.length_take,List.getElem?_take,List.length_append,List.length_singleton,List.getElem?_drop,Array.length_toList,Nat.min_eq_left (show jj≤cur.size by omega)];by_cases c1:q<jj
    ·simp [c1,show q<jj+1 by omega]
    simp only [show ¬q<jj+1 by omega,if_false];congr 1;omega
   have:jj≠q:=by omega
   simp [H,this]
  have g:St w0 M (L.set i (Res.own (cn (nV val h1) T) [b] (xs.set jj u) [.slice (some ⟨b,0,none⟩) xs.length cap])) (w.setRow b (ir cur.toList jj [val u]).toArray):=by
   refine C.upd v (Hh d) _ ?_ (by simp [Res.own]) (λc hc=>?_)
   ·have:=OO (h1:=h1) G;rwa [List.length_set] at this
   have:c=b:=by simpa [Res.own] using hc
   subst this;exact ⟨by simpa using d.lt,.inl (by simp [Res.own])⟩
  refine CR ?_ (hK _ _ _ _ hk (h.put _ _ (aj hd)) g (hS _ g));unfold execOp;simp only [R,h.ev r,h.ev hy,Sem.run_bind,k];rfl
theorem kC {α:Type}{val:α→Value}{h1:∀x,(val x).oneCell'=true}{o:Oper}{t et:TypeId}{len:Nat}{ps:List (Nat×Operand)}{vs:List Value}(xs:List α)(qs:List (Nat×List Value)){agg:Bool}{sz by_:Nat}{z:List Value}(f:o.op=.buildSlice t len ps.toArray)(p:m.here (o::rest)=true)(v:wt l E o.guard=some true)(A:fo n o.dst=true)(C:evs E (ps.map (·.2))=some vs)(D:isSl P t et)(F:eN P et agg sz by_ z)(g:Nat.blt 0 (len*sz)=true)(e:Nat.ble (len*sz) 16777216=true)(c:xs.length=len)(G:Hj (λi=>some (i*sz,sz)) (len*sz) ((ps.map (·.1)).zip vs) qs)(q:GX ((List.range (len*sz)).map λi=>z[i%z.length]!) qs=xs.map val)(r:1=sz)(H:∀b,Kp m (St w0 M (L++[Res.own (cn (nV val h1) et) [b] xs [.slice (some ⟨b,0,none⟩) xs.length len]])))(hk:∀b,OW P n l (St w0 M (L++[Res.own (cn (nV val h1) et) [b] xs [.slice (some ⟨b,0,none⟩) xs.length len]])) (upd E o.dst (.slice (some ⟨b,0,none⟩) xs.length len)) m rest):OW P n l (St w0 M L) E m (o::rest):=by
 have d:∀b w,St w0 M (L++[Res.box b et (xs.map val)]) w→St w0 M (L++[Res.own (cn (nV val h1) et) [b] xs [.slice (some ⟨b,0,none⟩) xs.length len]]) w:=λb w h=>by
  have R:(L++[Res.box b et (xs.map val)])[L.length]?=some (Res.box b et (xs.map val)):=by simp
  have:=h.recast (r':=Res.own (cn (nV val h1) et) [b] xs [.slice (some ⟨b,0,none⟩) xs.length len]) R rfl (λf=>by
   have u:xs.length≤maxLen:=by
    rw [c];have:=Nat.le_of_ble_eq_true e;rw [←r] at this;simp only [maxLen];omega
   have:=Xr (h1:=h1) xs u f;rwa [←c])
  simpa using this
 subst c;refine dP qs f p v A C D F g e G _ q (λb w hw'=>H b w (d b w hw')) (λb=>?_);have:=hk b
 cases m with
 | lex Q=>exact λa w j k=>this a w j (d b w k)
 | any K=>cases p
 | held S Q fl=>exact λs h1 X a w j k=>this s h1 X a w j (d b w k)
theorem cj {α:Type}{e:Enc α}{o:Oper}{t et:TypeId}{agg:Bool}{sz by_:Nat}{z:List Value}(d:o.op=.buildSlice t 0 #[])(i:m.here (o::rest)=true)(j:wt l E o.guard=some true)(k:fo n o.dst=true)(p:isSl P t et)(q:eN P et agg sz by_ z)(r:∀b,Kp m (St w0 M (L++[Res.own (cn e et) [b] [] [.slice (some ⟨b,0,none⟩) 0 0]])))(hk:∀b,OW P n l (St w0 M (L++[Res.own (cn e et) [b] [] [.slice (some ⟨b,0,none⟩) 0 0]])) (upd E o.dst (.slice (some ⟨b,0,none⟩) 0 0)) m rest):OW P n l (St w0 M L) E m (o::rest):=by
 have c:∀b w,St w0 M (L++[Res.box b et []]) w→St w0 M (L++[Res.own (cn e et) [b] [] [.slice (some ⟨b,0,none⟩) 0 0]]) w:=λb w h=>by
  have u:(L++[Res.box b et []])[L.length]?=some (Res.box b et []):=by simp
  have:=h.recast (r':=Res.own (cn e et) [b] [] [.slice (some ⟨b,0,none⟩) 0 0]) u rfl (λd=>Sc d);simpa using this
 refine Pt d i j k p q (λb w hw'=>r b w (c b w hw')) (λb=>?_);have:=hk b
 cases m with
 | lex Q=>exact λa w f g=>this a w f (c b w g)
 | any K=>cases i
 | held S Q fl=>exact λs h1 v a w f g=>this s h1 v a w f (c b w g)
theorem cK {α:Type}{val:α→Value}{h1:∀x,(val x).oneCell'=true}{o:Oper}{t et:TypeId}{x y:Operand}{agg:Bool}{by_:Nat}{z:List Value}{r:Nat}{F:List Nat}{xs ys zs:List α}{a:Option Addr}{nn cap:Nat}{q:Option Addr}{h c:Nat}(ho:o.op=.call {callee:=.builtin .append,args := #[x,y],argTypes := #[t,t]})(hm:m.here (o::rest)=true)(hw:wt l E o.guard=some true)(hd:fo n o.dst=true)(hx:ev E x=some (.slice a nn cap))(hy:ev E y=some (.slice q h c))(C:isSl P t et)(R:eN P et agg 1 by_ z)(Z:Nat.ble by_ 2048=true)(a0:z.length=1)(hr:L[r]?=some (Res.own (cn (nV val h1) et) F xs [.slice a nn cap]))(hA:∀w,St w0 M L w→mS (nV val h1) w [] ys [.slice q h c])(hz:app xs ys=some zs)(hS:∀a' c' F',Kp m (St w0 M (L.set r (Res.own (cn (nV val h1) et) F' zs [.slice a' zs.length c']))))(hk:∀a' c' F',OW P n l (St w0 M (L.set r (Res.own (cn (nV val h1) et) F' zs [.slice a' zs.length c']))) (upd E o.dst (.slice a' zs.length c')) m rest):OW P n l (St w0 M L) E m (o::rest):=by
 obtain ⟨rfl,D⟩:=Cu hz;refine nX hm hw λfr w G H _ _ hK=>?_;obtain ⟨j,s,a3⟩:=H.one hr;have u:=hA w H;obtain ⟨i,zv,hi,hs,k,c1,c2⟩:=R.info
 have fin:∀v' w' F',(Builtin.append_ #[t,t] o.type #[.slice a nn cap,.slice q h c]).run P w=.ok v' w'→vF (nV val h1) et w' F' (xs++ys) [v']→Ext F w w'→F'.Nodup→(∀b∈F',b<w'.heap.size∧(b∈F∨w.heap.size≤b)) →
   o.wp P fr w _ m.ends:=λv' w' F' d e g hnd' hF'=>by
  obtain ⟨a',c',f,_⟩:=(cn (nV val h1) et).own_rd (X:=[]) e (by simp);simp only [List.cons.injEq,and_true] at f;subst f;have v:St w0 M (L.set r (Res.own (cn (nV val h1) et) F' (xs++ys) [.slice a' (xs++ys).length c'])) w':=H.upd hr g _ e hnd' hF';refine rS ?_ (hK _ _ _ _ (hk a' c' F') (G.put _ _ (aj hd)) v (hS a' c' F' _ v));unfold execOp;simp only [ho,resolve,invoke,builtin,Sem.run_bind,Sem.run_pure,Result.andThen_ok,List.map_toArray,List.map_cons,List.map_nil,G.ev hx,G.ev hy,d]
 cases q with
 | none =>
  have a4:ys=[]∧h=0:=by
   obtain ⟨a',cap',f,_,_,a5⟩:=u;simp only [List.cons.injEq,Value.slice.injEq,and_true] at f;obtain ⟨rfl,rfl,rfl⟩:=f;by_cases A:ys=[]
   ·subst A;exact ⟨rfl,rfl⟩
   obtain ⟨p,hp,_⟩:=a5 A;cases hp
  obtain ⟨rfl,rfl⟩:=a4
  have a6:nn≤cap:=by
   obtain ⟨a',cap',f,Q,_⟩:=(cn (nV val h1) et).own_rd (X:=[]) j (by simp);simp only [List.cons.injEq,Value.slice.injEq,and_true] at f;obtain ⟨rfl,rfl,rfl⟩:=f;exact Q
  have d:=run_append_nothing (P:=P) w t t o.type et i C hi a nn cap a6 (.slice none 0 c) (Src.ofNil w C c);exact fin _ _ F d (by rw [List.append_nil];exact j) (Ext.refl _ _) s (λb k=>⟨a3 b k,.inl k⟩)
 | some p =>
  obtain ⟨hn,a7⟩:=NR u;obtain ⟨v',w',F',d,e,g,hnd',hF'⟩:=Cg (ty:=o.type) C R Z rfl rfl a0 (F:=F) (Fy:=[]) j (mm:=h) (cap:=c) hn a7 (zB ys) D (by rw [List.append_nil];exact s) (by simp)
  exact fin v' w' F' d e g hnd' (λb k=>by
   obtain ⟨Q,h3⟩:=hF' b k;refine ⟨Q,?_⟩;rcases h3 with h3|h3|h3
   ·exact .inl h3
   ·cases h3
   exact .inr h3)
def Jl:List Bool→List Res→List Res
 | true::bs,r::L=>r::Jl bs L
 | false::bs,_::L=>Jl bs L
 | _,_=>[]
theorem Jt:∀(bs:List Bool)(L:List Res),(Jl bs L).Sublist L
 | [],L=>by unfold Jl;simp
 | true::bs,[]=>by unfold Jl;simp
 | false::bs,[]=>by unfold Jl;simp
 | true::bs,r::L=>(Jt bs L).cons_cons r
 | false::bs,r::L=>(Jt bs L).cons r
theorem Uo {A B:List Res}(h:A.Sublist B):(eh A).Sublist (eh B):=by
 induction h with
 | slnil=>exact List.Sublist.slnil
 | cons r _ ih=>rw [gP];exact ih.trans (List.sublist_append_right _ _)
 | cons_cons r _ ih=>rw [gP,gP];exact List.Sublist.append (List.Sublist.refl _) ih
theorem St.keep {L':List Res}{w:World}(bs:List Bool)(e:Jl bs L=L')(h:St w0 M L w):St w0 M L' w:=by
 subst e;have d:=Jt bs L;have a:=Uo d;exact ⟨h.ext,λr f=>h.ok r (d.subset f),a.nodup h.nd,λb c=>h.lt b (a.subset c),λb c=>h.new b (a.subset c)⟩
theorem XW.at {C':World→Prop}{R:Env}{x:Exit}(h:XW n C' R Q x)(c:∀w,C w→C' w)(d:Sub R E):XW n C E Q x:=λa w e f=>h a w (e.sub d) (c w f)
theorem av {y:Code}(h:nW Q):nW (QS P y Q):=λc a d v w e=>h c a d v w e
theorem aR {id:Nat}(h:nW Q):nW (QB id Q):=λc a d v w e=>h c a d v w e
theorem cO {c:Code}{k:Nat}(h:nW Q):nW (QL P c k Q):=λc a d v w e=>h c a d v w e
def quo (k:IntKind)(x y:Int):Option Int:=if y=0 then none else some (k.wrap (x.tdiv y))
def rem (x y:Int):Option Int:=if y=0 then none else some (x.tmod y)
def shl (k:IntKind)(x y:Int):Option Int:=if y<0 then none else some (Ps k x y)
def shr (k:IntKind)(x y:Int):Option Int:=if y<0 then none else some (wW k x y)
theorem PL {o:Oper}{t u:TypeId}{x y:Operand}{k:IntKind}{a b c:Int}(e:o.op=.binOp .quo t x y u)(f:ev E x=some (.int k a))(g:ev E y=some (.int k b))(h:quo k a b=some c):Ry P n C E o (.int k c):=λfr d w _=>by
 unfold quo at h;split at h
 ·cases h
 rename_i i;simp only [Option.some.injEq] at h;subst h;unfold execOp;simp [e,d.ev f,d.ev g,eqGuard_at_int,binOp_quo,Op.intDiv,i]
theorem Bh {o:Oper}{t u:TypeId}{x y:Operand}{k:IntKind}{a b c:Int}(e:o.op=.binOp .rem t x y u)(f:ev E x=some (.int k a))(g:ev E y=some (.int k b))(h:rem a b=some c):Ry P n C E o (.int k c):=λfr d w _=>by
 unfold rem at h;split at h
 ·cases h
 rename_i i;simp only [Option.some.injEq] at h;subst h;unfold execOp;simp [e,d.ev f,d.ev g,eqGuard_at_int,binOp_rem,Op.intDiv,i]
theorem Uv {o:Oper}{t u:TypeId}{x y:Operand}{k k':IntKind}{a b c:Int}(e:o.op=.binOp .shl t x y u)(f:ev E x=some (.int k a))(g:ev E y=some (.int k' b))(h:shl k a b=some c):Ry P n C E o (.int k c):=λfr d w _=>by
 unfold shl at h;split at h
 ·cases h
 rename_i i;simp only [Option.some.injEq] at h;subst h;unfold execOp;simp [e,d.ev f,d.ev g,eqGuard_at_int,binOp,Op.shift,Ps,i]
def Yu (P:Program)(t:TypeId):Prop:=P.underlying t=some .bool
def blB (P:Program)(t:TypeId):Bool:=match P.underlying t with|some .bool=>true|_=>false
theorem Xd {t:TypeId}(h:blB P t=true):Yu P t:=by
 unfold blB at h;split at h
 ·assumption
 cases h
theorem IH {o:Oper}{t u:TypeId}{x y:Operand}{a b:Bool}(d:o.op=.binOp .eql t x y u)(e:ev E x=some (.bool a))(f:ev E y=some (.bool b))(g:Yu P t):Ry P n C E o (.bool (a==b)):=λfr c w _=>by
 have ht':P.underlying t=some .bool:=g;have h1:(eqGuard .eql t x y (.bool a) (.bool b):Sem Unit).run P w=.ok () w:=rfl;have h:=run_eql_bool (P:=P) w t a b ht';unfold execOp;simp only [d,c.ev e,c.ev f,Sem.run_bind,h1,h,Result.andThen_ok];rfl
end Go.Vk
/- Joins of ways. -/
namespace Go.Vk
open Go.RowKit
end Go.Vk
/- Structs: WP data, pairs of data; resources arranged anew. -/
namespace Go.Vk
open Go.RowKit
def pz {α:Type}(f:α→List Value)(k:Nat)(hk:∀x,(f x).length=k)(h1:∀x,∀u∈f x,u.oneCell'=true):Enc α where
 sz:=k
 rd _ _ x cs:=cs=f x
 own _ F x cs:=F=[]∧cs=f x
 rd_len h:=by rw [h];exact hk _
 rd_loc h _:=h
 rd_anti h _:=h
 own_loc h _:=h
 own_rd h _:=h.2
 own_lt h b a:=by rw [h.1] at a;cases a
 one h u c:=by rw [h] at c;exact h1 _ u c
def dU {α β:Type}(e:Enc α)(f:Enc β):Enc (α×β) where
 sz:=e.sz+f.sz
 rd w X x cs:=∃c1 c2,cs=c1++c2∧e.rd w X x.1 c1∧f.rd w X x.2 c2
 own w F x cs:=∃d g c1 c2,F=d++g∧cs=c1++c2∧e.own w d x.1 c1∧f.own w g x.2 c2
 rd_len:=by rintro w X x cs ⟨c1,c2,rfl,h1,a⟩;rw [List.length_append,e.rd_len h1,f.rd_len a]
 rd_loc:=by rintro w w' X x cs ⟨c1,c2,rfl,h1,a⟩ c;exact ⟨c1,c2,rfl,e.rd_loc h1 c,f.rd_loc a c⟩
 rd_anti:=by rintro w X X' x cs ⟨c1,c2,rfl,h1,a⟩ c;exact ⟨c1,c2,rfl,e.rd_anti h1 c,f.rd_anti a c⟩
 own_loc:=by
  rintro w w' F x cs ⟨d,g,c1,c2,rfl,rfl,h1,a⟩ c;exact ⟨d,g,c1,c2,rfl,rfl,e.own_loc h1 (λb h=>c b (by simp [h])),f.own_loc a (λb h=>c b (by simp [h]))⟩
 own_rd:=by
  rintro w F X x cs ⟨d,g,c1,c2,rfl,rfl,h1,a⟩ c;exact ⟨c1,c2,rfl,e.own_rd h1 (λb h=>c b (by simp [h])),f.own_rd a (λb h=>c b (by simp [h]))⟩
 own_lt:=by
  rintro w F x cs ⟨d,g,c1,c2,rfl,rfl,h1,a⟩ b c;rcases List.mem_append.1 c with h|h
  ·exact e.own_lt h1 b h
  exact f.own_lt a b h
 one:=by
  rintro w X x cs ⟨c1,c2,rfl,h1,a⟩ u i;rcases List.mem_append.1 i with h|h
  ·exact e.one h1 u h
  exact f.one a u h
theorem fc {α β:Type}{e:Enc α}{f:Enc β}{w:World}{X:List Nat}{x:α}{y:β}{c1 c2:List Value}(h1:e.rd w X x c1)(a:f.rd w X y c2):(dU e f).rd w X (x,y) (c1++c2):=⟨c1,c2,rfl,h1,a⟩
theorem iR {α β:Type}{e:Enc α}{f:Enc β}{w:World}{a c:List Nat}{x:α}{y:β}{c1 c2:List Value}(h1:e.own w a x c1)(d:f.own w c y c2):(dU e f).own w (a++c) (x,y) (c1++c2):=⟨a,c,c1,c2,rfl,rfl,h1,d⟩
def EK {α β:Type}(e:Enc α)(g:β→α):Enc β where
 sz:=e.sz
 rd w X x cs:=e.rd w X (g x) cs
 own w F x cs:=e.own w F (g x) cs
 rd_len h:=e.rd_len h
 rd_loc h a:=e.rd_loc h a
 rd_anti h a:=e.rd_anti h a
 own_loc h a:=e.own_loc h a
 own_rd h a:=e.own_rd h a
 own_lt h:=e.own_lt h
 one h:=e.one h
theorem ee {α:Type}{e:Enc α}{w:World}{X:List Nat}{xs:List α}{cs:List Value}(h:mS e w X xs cs):∃a cap,cs=[.slice a xs.length cap]:=by
 obtain ⟨a,cap,c,_⟩:=h;exact ⟨a,cap,c⟩
theorem tU {α:Type}{e:Enc α}{T:TypeId}{w:World}{F:List Nat}{xs:List α}{cs:List Value}(h:(cn e T).own w F xs cs):∃a cap,cs=[.slice a xs.length cap]:=ee (e:=e) ((cn e T).own_rd (X:=[]) h (by simp))
theorem Zd {α:Type}{e:Enc α}{T:TypeId}{w:World}{F:List Nat}{xs:List α}{a:Option Addr}{n c:Nat}(h:(cn e T).own w F xs [.slice a n c]):n=xs.length:=by
 obtain ⟨a',c',d⟩:=tU h;simp only [List.cons.injEq,Value.slice.injEq,and_true] at d;exact d.2.1
theorem dz {α:Type}{e:Enc α}{w:World}{X:List Nat}{xs:List α}{a:Option Addr}{n c:Nat}(h:mS e w X xs [.slice a n c]):n=xs.length:=by
 obtain ⟨a',c',d⟩:=ee h;simp only [List.cons.injEq,Value.slice.injEq,and_true] at d;exact d.2.1
theorem Zx {α:Type}{e:Enc α}{T:TypeId}{w:World}{F:List Nat}{xs:List α}{a:Option Addr}{n c:Nat}(h:(cn e T).own w F xs [.slice a n c])(f:xs≠[]):a.isNone=false:=by
 rcases h with ⟨rfl,_,_⟩|⟨b,cap,cur,g,ds,rfl,d,_⟩
 ·exact absurd rfl f
 simp only [List.cons.injEq,Value.slice.injEq,and_true] at d;rw [d.1];rfl
theorem bH {α:Type}{e:Enc α}{T:TypeId}{w0 w:World}{M:List Nat}{L:List Res}{F:List Nat}{xs:List α}{a:Option Addr}{n c i:Nat}(h:St w0 M L w)(d:L[i]?=some (Res.own (cn e T) F xs [.slice a n c])):n=xs.length:=Zd (h.ok _ (List.mem_of_getElem? d))
theorem ex {α:Type}{e:Enc α}{T:TypeId}{w0 w:World}{M:List Nat}{L:List Res}{F:List Nat}{xs:List α}{a:Option Addr}{n c i:Nat}(h:St w0 M L w)(f:L[i]?=some (Res.own (cn e T) F xs [.slice a n c]))(d:xs≠[]):a.isNone=false:=Zx (h.ok _ (List.mem_of_getElem? f)) d
section
variable {w0:World} {M:List Nat} {L:List Res} {w:World}
def SE:List Res→Nat→(Res→List Res)→List Res
 | [],_,k=>k Res.nil
 | r::_,0,k=>k r
 | _::L,i+1,k=>SE L i k
def jM (L:List Res):List Nat→List Res
 | []=>[]
 | i::is=>SE L i (λr=>r::jM L is)
theorem Qo:∀(L:List Res)(i:Nat)(k:Res→List Res),SE L i k=k (match L[i]? with|some r=>r|none=>Res.nil)
 | [],i,k=>by simp [SE]
 | r::L,0,k=>by simp [SE]
 | r::L,i+1,k=>by rw [SE,Qo L i k];simp
theorem wx (L:List Res):jM L []=[]:=rfl
theorem nc (L:List Res)(i:Nat)(is:List Nat):jM L (i::is)=(match L[i]? with|some r=>r|none=>Res.nil)::jM L is:=by rw [jM,Qo]
def nO (L:List Res):List Nat→List Res
 | []=>L
 | i::is=>nO (L.set i Res.nil) is
def qA:List Nat→Bool
 | []=>true
 | i::is=>is.all (λj => !(Nat.beq i j))&&qA is
theorem Vj (L:List Res)(i:Nat):(eh L).Perm ((match L[i]? with|some r=>r|none=>Res.nil).F++eh (L.set i Res.nil)):=by
 cases c:L[i]? with
 | some r=>exact LP c
 | none =>
  have a:L.length≤i:=by simpa using c
  rw [List.set_eq_of_length_le a];exact List.Perm.refl _
theorem Rk {L:List Res}{i:Nat}:∀{is:List Nat},is.all (λj => !(Nat.beq i j))=true→jM (L.set i Res.nil) is=jM L is
 | [],_=>rfl
 | j::is,h=>by
  simp only [List.all_cons,Bool.and_eq_true,Bool.not_eq_true'] at h;have a:i≠j:=Nat.ne_of_beq_eq_false h.1;rw [nc,nc,List.getElem?_set_ne a,Rk h.2]
theorem yG:∀{is:List Nat}{L:List Res},qA is=true→(eh L).Perm (eh (jM L is)++eh (nO L is))
 | [],L,_=>List.Perm.refl _
 | i::is,L,h=>by
  simp only [qA,Bool.and_eq_true] at h;have h1:=Vj L i;have a:=yG (is:=is) (L:=L.set i Res.nil) h.2;rw [Rk h.1] at a;refine h1.trans ?_;rw [nc,gP];show ((match L[i]? with|some r=>r|none=>Res.nil).F++eh (L.set i Res.nil)).Perm (((match L[i]? with|some r=>r|none=>Res.nil).F++eh (jM L is))++eh (nO (L.set i Res.nil) is));rw [List.append_assoc];exact List.Perm.append_left _ a
theorem GF:∀{is:List Nat}{L:List Res}{r:Res},r∈nO L is→r∈L∨r=Res.nil
 | [],_,_,h=>.inl h
 | i::is,L,r,h=>by
  rcases GF (is:=is) h with h1|h1
  ·rcases List.mem_or_eq_of_mem_set h1 with h2|h2
   ·exact .inl h2
   exact .inr h2
  exact .inr h1
theorem qY:∀{is:List Nat}{r:Res},r∈jM L is→r∈L∨r=Res.nil
 | [],_,h=>by cases h
 | i::is,r,h=>by
  rw [nc] at h
  cases h with
  | head =>
   cases a:L[i]? with
   | some r=>exact .inl (List.mem_of_getElem? a)
   | none=>exact .inr rfl
  | tail _ h=>exact qY h
theorem St.ok' (h:St w0 M L w){r:Res}(a:r∈L∨r=Res.nil):r.ok w:=by
 rcases a with a|rfl
 ·exact h.ok r a
 trivial
theorem St.re (idx:List Nat)(Rs:List Res)(h:St w0 M L w)(d:qA idx=true)(e:(eh Rs).Perm (eh (jM L idx)))(f:∀r∈Rs,r.ok w):St w0 M (nO L idx++Rs) w:=by
 have a:(eh L).Perm (eh (nO L idx++Rs)):=by
  rw [gA];refine (yG d).trans (List.perm_append_comm.trans ?_);exact List.Perm.append_left _ e.symm
 refine ⟨h.ext,λr g=>?_,a.nodup_iff.1 h.nd,λb c=>h.lt b (a.mem_iff.2 c),λb c=>h.new b (a.mem_iff.2 c)⟩;rcases List.mem_append.1 g with h1|h1
 ·exact h.ok' (GF h1)
 exact f r h1
theorem St.sel (idx:List Nat){L':List Res}(e:jM L idx=L')(f:qA idx=true)(h:St w0 M L w):St w0 M L' w:=by
 subst e;have d:=yG (L:=L) f;have a:∀b∈eh (jM L idx),b∈eh L:=λb c=>d.mem_iff.2 (by simp [c]);refine ⟨h.ext,λr g=>h.ok' (qY g),?_,λb c=>h.lt b (a b c),λb c=>h.new b (a b c)⟩;have:=d.nodup_iff.1 h.nd;exact (List.nodup_append.1 this).1
theorem St.carve (idx:List Nat){L':List Res}(a:jM L idx=L')(c:qA idx=true)(h:St w0 M L w):St w (eh L') L' w:=by
 have h':=h.sel idx a c;exact ⟨Ext.refl _ _,h'.ok,h'.nd,h'.lt,λb d=>.inr d⟩
theorem St.comp {Rs:List Res}{w':World}(idx:List Nat){L':List Res}(s:jM L idx=L')(t:qA idx=true)(h:St w0 M L w)(k:St w (eh L') Rs w'):St w0 M (nO L idx++Rs) w':=by
 subst s;have j:=yG (L:=L) t;have g:=j.nodup_iff.1 h.nd;rw [List.nodup_append] at g;obtain ⟨A,u,l⟩:=g;have f:∀b∈eh (jM L idx),b∈eh L:=λb c=>j.mem_iff.2 (by simp [c]);have d:∀b∈eh (nO L idx),b∈eh L:=λb c=>j.mem_iff.2 (by simp [c]);have i:∀b∈eh (nO L idx),b∉eh (jM L idx):=λb c v=>l b v b c rfl;refine ⟨?_,?_,?_,?_,?_⟩
 ·refine ⟨k.ext.os.trans h.ext.os,k.ext.tape.trans h.ext.tape,k.ext.output.trans h.ext.output,Nat.le_trans h.ext.size k.ext.size,λb c m=>?_⟩
  have o:b∉eh (jM L idx):=λp=>by
   rcases h.new b (f b p) with h1|h1
   ·omega
   exact m h1
  exact (k.ext.block b (Nat.lt_of_lt_of_le c h.ext.size) o).trans (h.ext.block b c m)
 ·intro r x;rcases List.mem_append.1 x with h1|h1
  ·exact r.loc w w' (λb c=>k.ext.block b (h.lt b (d b (ur h1 c))) (i b (ur h1 c))) (h.ok' (GF h1))
  exact k.ok r h1
 ·rw [gA,List.nodup_append];refine ⟨u,k.nd,λa q b c e=>?_⟩;subst e;rcases k.new a c with h1|h1
  ·have:=h.lt a (d a q);omega
  exact i a q h1
 ·intro b c;rw [gA] at c;rcases List.mem_append.1 c with h1|h1
  ·exact Nat.lt_of_lt_of_le (h.lt b (d b h1)) k.ext.size
  exact k.lt b h1
 intro b c;rw [gA] at c;rcases List.mem_append.1 c with h1|h1
 ·exact h.new b (d b h1)
 rcases k.new b h1 with h2|h2
 ·exact .inl (Nat.le_trans h.ext.size h2)
 exact h.new b (f b h2)
theorem St.app {Rs:List Res}{w':World}(h:St w0 M L w)(k:St w [] Rs w'):St w0 M (L++Rs) w':=h.comp [] rfl rfl k
theorem rdB {α:Type}{e:Enc α}{x:α}{cs:List Value}(idx:List Nat){L':List Res}(g:jM L idx=L')(i:qA idx=true)(h:St w0 M L w)(j:e.rd w0 M x cs):e.rd w (eh L') x cs:=by
 subst g;have d:∀b∈eh (jM L idx),b∈eh L:=λb c=>(yG (L:=L) i).mem_iff.2 (by simp [c])
 have h1:e.rd w0 (M++eh (jM L idx)) x cs:=e.rd_anti j (λb c a=>by
  rcases List.mem_append.1 a with h1|h1
  ·exact h1
  rcases h.new b (d b h1) with h2|h2
  ·omega
  exact h2)
 have h2:=e.rd_loc (w':=w) h1 (λb c a=>h.ext.block b c (λf=>a (by simp [f])));exact e.rd_anti h2 (λb _ a=>by simp [a])
theorem FE {L:List Res}:∀{idx:List Nat}{b:Nat},b∈eh (jM L idx)→∃j∈idx,∃r,L[j]?=some r∧b∈r.F
 | [],b,h=>by rw [wx] at h;simp [eh] at h
 | i::is,b,h=>by
  rw [nc,gP] at h;rcases List.mem_append.1 h with h1|h1
  ·cases a:L[i]? with
   | some r=>rw [a] at h1;exact ⟨i,by simp,r,a,h1⟩
   | none=>rw [a] at h1;simp [Res.nil] at h1
  obtain ⟨j,c,r,d,e⟩:=FE h1;exact ⟨j,by simp [c],r,d,e⟩
theorem LH {L:List Res}(a:(eh L).Nodup){i j:Nat}{r s:Res}(c:i≠j)(e:L[i]?=some r)(f:L[j]?=some s){b:Nat}(g:b∈r.F)(h:b∈s.F):False:=by
 have d:=(LP e).nodup_iff.1 a;rw [List.nodup_append] at d;refine d.2.2 b g b ?_ rfl;have hj':(L.set i Res.nil)[j]?=some s:=by rw [List.getElem?_set_ne c];exact f
 exact ur (List.mem_of_getElem? hj') h
theorem rdO {α:Type}{e:Enc α}{x:α}{cs:List Value}{F:List Nat}(i:Nat)(idx:List Nat){L':List Res}(d:jM L idx=L')(h:St w0 M L w)(a:L[i]?=some (Res.own e F x cs))(f:idx.all (λj => !(Nat.beq i j))=true):e.rd w (eh L') x cs:=by
 subst d;refine e.own_rd (h.ok _ (List.mem_of_getElem? a)) (λb g k=>?_);obtain ⟨j,l,r,m,c⟩:=FE k;have:=List.all_eq_true.1 f j l;simp only [Bool.not_eq_true'] at this;exact LH h.nd (Nat.ne_of_beq_eq_false this) a m g c
end
end Go.Vk
