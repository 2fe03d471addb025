/- gi of strings: converted, appended. -/
import Derived.Test.YtnjemlncpeekkabGreatDoorVkBr
import Derived.Lib.ConvBytes
import Derived.Lib.AppendStr
import Derived.Shelf.Strings.OnBuilder
import Derived.Shelf.Strings.Repeat
import Derived.Shelf.Strconv.Itoa3
namespace Go.Vk
variable {P:Program} {n:Nat} {C:World→Prop} {E:Env} {m:Md} {l rest:List Oper} {w0:World} {M:List Nat} {L:List Res} {Q:Exit→Act→World→Prop}
def byS (s:List UInt8):List Int:=s.map λb=>(b.toNat:Int)
def Gd (s:List UInt8):Option (List Int):=if s.length≤68719476736 then some (byS s) else none
theorem CP (s:List UInt8):(byS s).length=s.length:=by simp [byS]
theorem Og {s:List UInt8}{zs:List Int}(h:Gd s=some zs):zs=byS s∧s.length≤68719476736:=by
 unfold Gd at h;split at h
 ·exact ⟨(Option.some.inj h).symm,‹_›⟩
 cases h
theorem Mv (s:List UInt8):Lib.strCells ⟨s.toArray⟩=(byS s).map (Value.int .u8):=by
 unfold Lib.strCells byS;rw [List.map_map];rfl
theorem Eg (w:World)(t u ty e:TypeId)(i:TypeInfo)(r:P.underlying t=some (.slice e))(x:P.underlying u=some .string)(A:P.info? e=some i)(G:i.zero=some (.int .u8 0))(c:i.size=1)(m:i.bytes=1)(v:Value)(n:Nat)(xs:List Value)(a:wj w e 1 v n xs)(s:ByteArray)(f:n+s.size≤maxLen)(hbytes:n+s.size≤140737488355328):∃v' w',(Builtin.append_ #[t,u] ty #[v,.string s]).run P w=.ok v' w'∧wj w' e 1 v' (n+s.size) (xs++Lib.strCells s)∧w.grownBy w' v.ownBlock ∧
   (v'=.slice none 0 0↔v=.slice none 0 0∧s.size=0)∧(v'=.slice none 0 0∨v'.ownBlock=v.ownBlock∨v'.ownBlock=some w.heap.size):=by
 rcases a.2 with ⟨rfl,rfl⟩|⟨g,cap,cur,rfl,L,C,a7,M,E,D⟩
 ·have h:xs.length=0:=by simpa using a.1
  obtain ⟨v',w',r1,Q,r3,R⟩:=Lib.run_append_own_string (P:=P) w 0 t u ty e i r x A G c m (.slice none 0 0) 0 xs ⟨a.1,.inl ⟨rfl,rfl⟩⟩ s f hbytes (Nat.zero_le _);refine ⟨v',w',r1,⟨Q.1,?_⟩,r3,R,?_⟩
  ·rcases Q.2 with q|⟨g,cap,cur,q1,q2,q3,q4⟩
   ·exact .inl q
   exact .inr ⟨g,cap,cur,q1,q2,.of q3,q4⟩
  by_cases h0:s.size=0
  ·exact .inl (R.2 ⟨rfl,h0⟩)
  have o:=run_append_nil_string (P:=P) w t u ty e i (.int .u8 0) r x A G s (by omega) (by simp only [maxLen] at f;omega) (by rw [m];omega);rw [o] at r1;cases r1;exact .inr (.inr rfl)
 have h:xs.length=n:=by simpa using a.1
 have d:(xs++Lib.strCells s).length=(n+s.size)*1:=by rw [List.length_append,h,Lib.strCells_length,Nat.mul_one]
 have hsmall:n+s.size≤9223372036854775807:=by simp only [maxLen] at f;omega
 have hcs':cur.size=cap:=by simpa using E
 by_cases l:n+s.size≤cap
 ·have o:(Builtin.append_ #[t,u] ty #[.slice (some ⟨g,0,none⟩) n cap,.string s]).run P w =
    .ok (.slice (some ⟨g,0,none⟩) (n+s.size) cap) (w.setRow g (cur.toList.take n++Lib.strCells s++cur.toList.drop (n+s.size)).toArray):=by
   obtain ⟨fz,C,X⟩:=C;have hf:=Lib.run_firstCells_string (P:=P) w 1 s;have F:=ue P g n e fz (Lib.strCells s) 0 cur w C (by rw [Lib.strCells_length];rcases X with q|q;exact .inl q;exact .inr (by omega)) (by rw [Lib.strCells_length];omega) (Lib.strCells_oneCell s);simp only [Nat.add_zero,Lib.strCells_length] at F;simp [Builtin.append_,run_underlying r,run_underlying x,sizeOf,typeInfo,A,c,Builtin.lenOf,l,hf,Addr.add_lit,F]
  have p:(cur.toList.take n++Lib.strCells s++cur.toList.drop (n+s.size)).toArray.size=cur.size:=by
   simp only [List.size_toArray,List.length_append,List.length_take,List.length_drop,Array.length_toList,Lib.strCells_length];omega
  refine ⟨_,_,o,⟨d,.inr ⟨g,cap,_,rfl,L,C.set p,l,M,?_,?_⟩⟩,⟨rfl,rfl,rfl,by simp,λk _ hk=>setRow_other w g k _ (λe=>hk (by simp [Value.ownBlock,e]))⟩,by simp,.inr (.inl rfl)⟩
  ·rw [p];exact E
  have ht':cur.toList.take n=xs:=by simpa using D
  rw [ht',←d];exact List.take_left
 have holds:∀j u,xs[j]?=some u→w.cell? ((⟨g,0,none⟩:Addr).add j)=some u:=a.cells (g:=g) rfl;have o:=Lib.run_append_grow_string (P:=P) w t u ty e i (.int .u8 0) r x A G ⟨g,0,none⟩ n cap xs (by rw [c];simpa using h) holds s (by omega) (by omega) (by rw [m];exact growslice_fits (by omega) (by omega));have Z:=grownCap_ge w (n+s.size) cap e;have H:grownCap w (n+s.size) cap e≤maxLen:=grownCap_le_maxLen w (n+s.size) cap e f;refine ⟨_,_,o,⟨d,.inr ⟨w.heap.size,_,_,rfl,Nat.zero_le _,.of (heap_alloc_new w.drew _),Z,H,?_,?_⟩⟩,⟨rfl,rfl,rfl,by simp,λk hk _=>heap_alloc_old w.drew _ hk⟩,by simp,.inr (.inr rfl)⟩
 ·have a0:(Value.int IntKind.u8 0).cells.size=1:=rfl;simp only [Array.size_append,List.size_toArray,size_zeroCells,a0,h,Lib.strCells_length];omega
 simp only [Array.toList_append,List.append_assoc];rw [←List.append_assoc,←d];exact List.take_left
def YC (P:Program)(t:TypeId):Prop:=∃i,P.info? t=some i∧i.zero=some (Value.int .u8 0)∧i.size=1∧i.bytes=1
theorem Xi {P:Program}{t:TypeId}(h:(P.info? t).map (λi=>(i.zero,i.size,i.bytes))=some (some (Value.int .u8 0),1,1)):YC P t:=by
 cases a:P.info? t with
 | none=>rw [a] at h;cases h
 | some i =>
  rw [a] at h;simp only [Option.map_some,Option.some.injEq,Prod.mk.injEq] at h;exact ⟨i,a,h⟩
theorem WM {o:Oper}{t ts et:TypeId}{x y:Operand}{r:Nat}{F:List Nat}{xs bs zs:List Int}{a:Option Addr}{nn cap:Nat}{s:List UInt8}(ho:o.op=.call {callee:=.builtin .append,args := #[x,y],argTypes := #[t,ts]})(hm:m.here (o::rest)=true)(hw:wt l E o.guard=some true)(hd:fo n o.dst=true)(hx:ev E x=some (.slice a nn cap))(hy:ev E y=some (vS s))(ht:isSl P t et)(hu:JK P ts)(he:YC P et)(R:L[r]?=some (Res.own (cn eU8 et) F xs [.slice a nn cap]))(d:Gd s=some bs)(hz:app xs bs=some zs)(hS:∀a' c' F',Kp m (St w0 M (L.set r (Res.own (cn eU8 et) F' zs [.slice a' zs.length c']))))(hk:∀a' c' F',OW P n l (St w0 M (L.set r (Res.own (cn eU8 et) F' zs [.slice a' zs.length c']))) (upd E o.dst (.slice a' zs.length c')) m rest):OW P n l (St w0 M L) E m (o::rest):=by
 obtain ⟨rfl,_⟩:=Og d;obtain ⟨rfl,A⟩:=Cu hz;refine nX hm hw λfr w C Z _ _ hK=>?_;obtain ⟨a0,c3,c4⟩:=Z.one R;obtain ⟨i,hi,a1,hs,a2⟩:=he;obtain ⟨ds,F1,k,D,a3⟩:=Rb (e:=eU8) (T:=et) a0;obtain ⟨rfl,rfl⟩:=JW D;have p:(⟨s.toArray⟩:ByteArray).size=s.length:=by simp [ByteArray.size]
 rw [CP] at A
 have a4:nn=xs.length:=by
  rcases k.2 with ⟨q1,q2⟩|⟨g,cp,cur,q1,_,_⟩
  ·cases q1;exact q2.symm
  cases q1;rfl
 subst a4;obtain ⟨v',w',G,hrow',f,c1,H⟩:=Eg (P:=P) w t ts o.type et i ht hu hi a1 hs a2 (.slice a xs.length cap) xs.length _ k ⟨s.toArray⟩ (by rw [p];simp only [maxLen];omega) (by rw [p];omega);rw [p,Mv,←List.map_append,show xs.length+s.length=(xs++byS s).length by rw [List.length_append,CP]] at hrow';obtain ⟨F',h,hF'⟩:=QG (e:=eU8) hrow' (zB (xs++byS s)) (λ_=>rfl)
 have u:∀b,(Value.slice a xs.length cap).ownBlock=some b→b∈F:=by
  intro b d;rcases a3 with ⟨_,_,_,q⟩|⟨c,rfl,j⟩
  ·rw [q] at d;cases d
  rw [j] at d;cases d;simp
 have Q:Ext F w w':=⟨f.os,f.tape,f.output,f.size,λb d hn=>f.block b d (λe=>hn (u b e.symm))⟩
 have hnd':F'.Nodup:=by
  rcases hF' with ⟨rfl,_⟩|⟨b,rfl,_⟩<;>simp
 have hlt':∀b∈F',b<w'.heap.size∧(b∈F∨w.heap.size≤b):=by
  intro b d;refine ⟨(cn eU8 et).own_lt h b d,?_⟩;rcases hF' with ⟨rfl,_⟩|⟨c,rfl,j⟩
  ·cases d
  rw [List.mem_singleton.1 d];rcases H with q|q|q
  ·rw [q] at j;cases j
  ·rw [j] at q;exact .inl (u c q.symm)
  rw [j] at q;cases q;exact .inr (Nat.le_refl _)
 obtain ⟨a',c',hv,_⟩:=(cn eU8 et).own_rd (X:=[]) h (by simp);simp only [List.cons.injEq,and_true] at hv;subst hv;have v:St w0 M (L.set r (Res.own (cn eU8 et) F' (xs++byS s) [.slice a' (xs++byS s).length c'])) w':=Z.upd R Q _ h hnd' hlt';refine rS ?_ (hK _ _ _ _ (hk a' c' F') (C.put _ _ (aj hd)) v (hS a' c' F' _ v));unfold execOp;have hy':ev E y=some (.string ⟨s.toArray⟩):=hy;simp only [ho,resolve,invoke,builtin,Sem.run_bind,Sem.run_pure,Result.andThen_ok,List.map_toArray,List.map_cons,List.map_nil,C.ev hx,C.ev hy',G]
theorem Xj {o:Oper}{t et:TypeId}{x:Operand}{r b:Nat}{F:List Nat}{xs:List Int}{nn cap:Nat}(Z:o.op=.convert t t x)(hm:m.here (o::rest)=true)(hw:wt l E o.guard=some true)(hd:fo n o.dst=true)(hx:ev E x=some (.slice (some ⟨b,0,none⟩) nn cap))(ht:isSl P t et)(he:Es P et .u8)(k:L[r]?=some (Res.own (cn eU8 et) F xs [.slice (some ⟨b,0,none⟩) nn cap]))(hS:Kp m (St w0 M L))(hk:OW P n l (St w0 M L) (upd E o.dst (.slice (some ⟨b,0,none⟩) nn cap)) m rest):OW P n l (St w0 M L) E m (o::rest):=nX hm hw λa w C D _ _ hK=>by
  obtain ⟨G,i,H⟩:=D.one k;rcases G with ⟨_,_,hv⟩|⟨b',cap',cur,f,ds,rfl,j,h,h1,h2,h3,h4,h5⟩
  ·cases hv
  simp only [List.cons.injEq,Value.slice.injEq,Option.some.injEq,Addr.mk.injEq,and_true] at j;obtain ⟨rfl,rfl,rfl⟩:=j;obtain ⟨fr,h,Q⟩:=h;have R:w.shape? b=some (et,cur.size):=by simp [World.shape?,h]
  have p:(w.freeze ⟨b,cur.size,none⟩ 1).heap[b]?=some (.cells cur et (if fr.1==fr.2 then (cur.size,cur.size+1) else (min fr.1 cur.size,max fr.2 (cur.size+1)))):=by
   obtain ⟨lo,hi⟩:=fr;simp [World.freeze,Array.getElem?_modify,h]
  have hold:∀c,c≠b→(w.freeze ⟨b,cur.size,none⟩ 1).heap[c]?=w.heap[c]?:=λc d=>by
   simp [World.freeze,Array.getElem?_modify,Ne.symm d]
  have s:tq (w.freeze ⟨b,cur.size,none⟩ 1) b cur et:=by
   refine ⟨_,p,?_⟩;by_cases u:fr.1=fr.2
   ·rw [if_pos (by simpa using u)];exact .inr (Nat.le_refl _)
   rw [if_neg (by simpa using u)];right;show cur.size≤min fr.1 cur.size;rcases Q with q|q
   ·exact absurd q u
   omega
  have v:Ext (b::f) w (w.freeze ⟨b,cur.size,none⟩ 1):=⟨rfl,rfl,rfl,by simp [World.freeze],λc _ hn=>hold c (λe=>hn (by simp [e]))⟩;have X:∀c∈f,c≠b:=λc d e=>(List.nodup_cons.1 i).1 (e▸d)
  have A:(Res.own (cn eU8 et) (b::f) xs [.slice (some ⟨b,0,none⟩) xs.length cap]).ok (w.freeze ⟨b,cur.size,none⟩ 1):=.inr ⟨b,cap,cur,f,ds,rfl,rfl,s,h1,h2,h3,h4,qP h5 (λc d=>hold c (X c d))⟩
  have g:=D.upd k v _ A i (λc d=>⟨by simpa [World.freeze] using H c d,.inl d⟩)
  have hL:L.set r (Res.own (cn eU8 et) (b::f) xs [.slice (some ⟨b,0,none⟩) xs.length cap])=L:=by
   obtain ⟨hl,hg⟩:=List.getElem?_eq_some_iff.1 k;rw [←hg];exact List.set_getElem_self hl
  rw [hL] at g;refine rS ?_ (hK _ _ _ _ hk (C.put _ _ (aj hd)) g (hS _ g));have ht':P.underlying t=some (.slice et):=ht;have he':P.underlying et=some (.int .u8):=he;unfold execOp;simp [Z,C.ev hx,convert,run_underlying ht',run_underlying he',markStringish,R]
def SA:Nat→List Value→List (Nat×List Value)
 | _,[]=>[]
 | i,v::r=>(i,[v])::SA (i+1) r
theorem Mf:∀(vs a z:List Value),z.length=vs.length→GX (a++z) (SA a.length vs)=a++vs
 | [],a,z,h=>by rw [List.length_eq_zero_iff.1 h];rfl
 | v::r,a,[],h=>by cases h
 | v::r,a,x::z,h=>by
  have e:ir (a++x::z) a.length [v]=(a++[v])++z:=by simp [ir]
  have:=Mf r (a++[v]) z (by simpa using h);rw [List.length_append] at this;show GX (ir (a++x::z) a.length [v]) (SA (a.length+1) r)=_;rw [e,show a.length+1=a.length+[v].length from rfl,this];simp
theorem Tg {z vs:List Value}{qs:List (Nat×List Value)}(a:qs=SA 0 vs)(c:z.length=vs.length):GX z qs=vs:=by
 subst a;exact Mf vs [] z c
end Go.Vk
/- The steps of a walk, said shortly. -/
namespace Go.Vk
variable {P:Program} {n:Nat} {C:World→Prop} {E:Env} {m:Md} {l rest:List Oper} {w0:World} {M:List Nat} {L:List Res} {Q:Exit→Act→World→Prop}
theorem bE {α β:Type}{o:Option α}{f:α→Option β}{r:β}{G:Prop}(h:o.bind f=some r)(k:∀z,o=some z→f z=some r→G):G:=by
 obtain ⟨z,h1,a⟩:=Xc h;exact k z h1 a
theorem cI {α:Type}{x:Operand}{c d:Code}{b:Bool}{A B r:Option α}(H:(if b then A else B)=r)(e:ev E x=some (.bool b))(f:A=r→CW P n C E Q c)(g:B=r→CW P n C E Q d):CW P n C E Q (.cond x c d):=En e (λa=>f (ze a H)) (λa=>g (yT a H))
theorem o1 {o:Oper}{v:Value}(h:(wt l E o.guard,fo n o.dst)=(some true,true))(a:Ry P n (m.cls C) E o v)(k:OW P n l C (upd E o.dst v) m rest):OW P n l C E m (o::rest):=by
 obtain ⟨h1,c⟩:=Prod.mk.inj h;exact Lb h1 (aj c) a k
theorem r1 (off i:Nat){o:Oper}{t:TypeId}{x:Operand}{b:Nat}{v:Value}{sz by_:Nat}{z:List Value}{T:TypeId}{cs:List Value}(h1:(o.op,ev E x)=(.load t x,some (.pointer (some ⟨b,off,none⟩))))(c:eN P t false sz by_ z)(a:(L[i]?,cs[off]?)=(some (Res.box b T cs),some v)):Ry P n (St w0 M L) E o v:=by
 obtain ⟨h1,d⟩:=Prod.mk.inj h1;obtain ⟨a,e⟩:=Prod.mk.inj a;exact XI h1 d c (tg a) e
theorem rx (off i:Nat)(ds:List Value){o:Oper}{t:TypeId}{x:Operand}{b sz by_:Nat}{z:List Value}{T:TypeId}{cs:List Value}(h1:(o.op,ev E x)=(.load t x,some (.pointer (some ⟨b,off,none⟩))))(d:eN P t true sz by_ z)(a:(L[i]?,(cs.drop off).take sz,ds.length)=(some (Res.box b T cs),ds,sz)):Ry P n (St w0 M L) E o (.agg ds.toArray):=by
 obtain ⟨h1,e⟩:=Prod.mk.inj h1;obtain ⟨a,c⟩:=Prod.mk.inj a;obtain ⟨c,f⟩:=Prod.mk.inj c;exact Yi h1 e d (tg a) c f
theorem ob (cs:List Value){Q:Exit→Act→World→Prop}{o:Oper}{T:TypeId}{x:Operand}{v:Value}(h:(o.op,wt l E o.guard,fo n o.dst,ev E x,v.cells)=(.box T x,some true,true,some v,cs.toArray))(hk:∀b,OW P n l (St w0 M (L++[Res.box b T cs])) (upd E o.dst (.pointer (some ⟨b,0,none⟩))) (.lex Q) rest):OW P n l (St w0 M L) E (.lex Q) (o::rest):=by
 simp only [Prod.mk.injEq] at h;obtain ⟨h1,a,c,d,e⟩:=h;exact YQ h1 rfl a c d e (λ_=>kp) hk
theorem sC (off:Nat)(vs cs':List Value)(i:Nat){Q:Exit→Act→World→Prop}{o:Oper}{t:TypeId}{x y:Operand}{b:Nat}{v:Value}{agg:Bool}{sz by_:Nat}{z:List Value}{T:TypeId}{cs:List Value}(h:(o.op,wt l E o.guard,fo n o.dst,ev E x,ev E y)=(.store t x y,some true,true,some (.pointer (some ⟨b,off,none⟩)),some v))(c:eN P t agg sz by_ z)(a:(v.cells,vs.length,vs.all Value.oneCell',L[i]?,Nat.ble (off+sz) cs.length,ir cs off vs)=(vs.toArray,sz,true,some (Res.box b T cs),true,cs'))(hk:OW P n l (St w0 M (L.set i (Res.box b T cs'))) (upd E o.dst undef) (.lex Q) rest):OW P n l (St w0 M L) E (.lex Q) (o::rest):=by
 simp only [Prod.mk.injEq] at h a;obtain ⟨h1,d,e,f,g⟩:=h;obtain ⟨j,k,m,p,q,r⟩:=a;exact LC vs cs' h1 rfl d e f g c j k (List.all_eq_true.1 m) p q r kp hk
theorem tt2 {α:Sort _}{β:α→Sort _}:∀a,β a→True:=λ_ _=>trivial
theorem oq {o:Oper}{v:Value}(h:(m.loud (o::rest),wt l E o.guard,fo n o.dst)=(true,some true,true))(a:Qy P n C E o v)(c:∀w,C w→m.keeps w)(k:OW P n l C (upd E o.dst v) m rest):OW P n l C E m (o::rest):=by
 simp only [Prod.mk.injEq] at h;exact HF h.1 h.2.1 (aj h.2.2) a c k
theorem qc {o:Oper}{f:FuncId}{xs:List Operand}{ts:Array TypeId}{vs:List Value}{v:Value}(h:(o.op,evs E xs)=(.call {callee:=.value (.func f),args:=xs.toArray,argTypes:=ts},some vs))(a:Ns P f)(c:∀w,St w0 M L w→Calls P f vs.toArray w λe w'=>e=.returned v∧Ext [] w w'):Qy P n (St w0 M L) E o v:=by
 obtain ⟨h1,d⟩:=Prod.mk.inj h;exact Rl h1 a d c
theorem q1 {v:Value}:∀w,St w0 M L w→(Ending.returned v=.returned v∧Ext M w0 w):=λ_ h=>⟨rfl,h.ext⟩
theorem sb {E:Env}:∀{R:Env},R.map (λp=>kA E p.1)=R.map (λp=>some p.2)→Sub R E
 | [],_=>trivial
 | (t,v)::R,h=>by
  simp only [List.map_cons,List.cons.injEq] at h;exact ⟨h.1,sb h.2⟩
abbrev eI:Enc Int:=nV (Value.int .i64) (λ_=>rfl)
theorem oP {P:Program}{n:Nat}{C:World→Prop}{m:Md}{l rest rest':List Oper}{E E':Env}(h:za n l [DW.p (P:=P)] rest E=some (rest',E'))(k:OW P n l C E' m rest'):OW P n l C E m rest:=aa _ h k
theorem oPP {P:Program}{n:Nat}{C:World→Prop}{m:Md}{l rest rest':List Oper}{E E':Env}(h:za n l [DW.p (P:=P),DW.p (P:=P)] rest E=some (rest',E'))(k:OW P n l C E' m rest'):OW P n l C E m rest:=aa _ h k
theorem nQ {P:Program}{n:Nat}{C:World→Prop}{E:Env}{Q:Exit→Act→World→Prop}{l:List Oper}{y:Code}(h:CW P n C E Q y):OW P n l C E (.lex (QS P y Q)) []:=ao (bM h)
theorem sR {P:Program}{n:Nat}{C:World→Prop}{E:Env}{Q:Exit→Act→World→Prop}{y:Code}{id:Nat}{l:List Oper}(h:OW P n l C E (.lex (QS P y Q)) l):CW P n C E Q (.seq (.region id l.toArray false) y):=ai (ay h)
theorem nR {P:Program}{n:Nat}{C:World→Prop}{E:Env}{Q:Exit→Act→World→Prop}{l l':List Oper}{y:Code}{id:Nat}(h:OW P n l' C E (.lex (QS P y Q)) l'):OW P n l C E (.lex (QS P (.seq (.region id l'.toArray false) y) Q)) []:=ao (bM (ai (ay h)))
theorem nT {P:Program}{n:Nat}{C:World→Prop}{E:Env}{Q:Exit→Act→World→Prop}{l:List Oper}(h:XW n C E Q .ret):OW P n l C E (.lex (QS P .ret Q)) []:=ao (bM (AG h))
theorem Wm {P:Program}{n:Nat}{C:World→Prop}{m:Md}{l rest:List Oper}{E:Env}(C':World→Prop)(R:Env)(k:Nat)(hk:OW P n l C' R m (rest.drop k))(a:OW P n l C' R m (rest.drop k)→OW P n l C E m rest):OW P n l C E m rest:=a hk
theorem Uq {P:Program}{n:Nat}{C:World→Prop}{E:Env}{l rest:List Oper}{Q:Exit→Act→World→Prop}{α:Type}{e:Enc α}{T:TypeId}{o:Oper}{t:TypeId}{x:Operand}{xs:List (List α)}{j:Int}{y:List α}{a:Option Addr}{nn cap sz by_:Nat}{z:List Value}{q:Addr}(m:o.op=.load t x)(r:wt l E o.guard=some true)(s:fo n o.dst=true)(u:ev E x=some (.pointer (some q)))(v:eN P t false sz by_ z)(A:∀w,C w→mS (cn e T) w [] xs [.slice a nn cap])(D:idx xs j=some y)(F:q=Dg a (j.toNat*1))(hk:∀a' c',OW P n l C (upd E o.dst (.slice a' y.length c')) (.lex Q) rest):OW P n l C E (.lex Q) (o::rest):=λact w G c=>by
 subst F;obtain ⟨h0,H,L⟩:=cD D;obtain ⟨a1,M,d,_,_,f⟩:=A w c;simp only [List.cons.injEq,Value.slice.injEq,and_true] at d;obtain ⟨rfl,rfl,rfl⟩:=d;obtain ⟨p,rfl,R⟩:=f (λe=>by subst e;simp at H);obtain ⟨ds,hd',X⟩:=R _ y L;obtain ⟨a',c',rfl,_⟩:=hd';exact YU (C:=λg=>g=w) r (aj s) (Ry.qy (bw m u v (λg h=>by subst h;exact X))) (λZ w2 i k=>by subst k;exact hk a' c' Z _ i c) act w G rfl
theorem Pd {α:Type}{e:Enc α}{w:World}{xs:List α}:∀{F:List Nat}{ds:List Value}(k:Nat),jX e w F xs ds→∃F',F'.Sublist F∧jX e w F' (xs.take k) (ds.take (k*e.sz)):=by
 induction xs with
 | nil =>
  intro F ds k h;obtain ⟨rfl,rfl⟩:=h;exact ⟨[],List.Sublist.refl _,by simp only [List.take_nil];exact ⟨rfl,rfl⟩⟩
 | cons x xs ih =>
  intro F ds k h
  cases k with
  | zero=>exact ⟨[],List.nil_sublist _,by rw [Nat.zero_mul];exact ⟨rfl,rfl⟩⟩
  | succ k =>
   obtain ⟨a,i,c1,c2,rfl,rfl,h1,c,d⟩:=h;obtain ⟨F',f,g⟩:=ih k d;refine ⟨a++F',List.Sublist.append (List.Sublist.refl _) f,a,F',c1,c2.take (k*e.sz),rfl,?_,h1,c,g⟩;rw [List.take_append,h1,Nat.add_mul,Nat.one_mul,List.take_of_length_le (by omega),Nat.add_sub_cancel]
theorem St.trunc {α:Type}{e:Enc α}{T:TypeId}{F:List Nat}{xs ys:List α}{a:Option Addr}{nn cap sz i:Nat}{m:Int}{w0 w:World}{M:List Nat}{L:List Res}(h:St w0 M L w)(p:L[i]?=some (Res.own (cn e T) F xs [.slice a nn cap]))(d:sub xs 0 m=some ys)(t:e.sz=sz):∃F',St w0 M (nO L [i]++[Res.own (cn e T) F' ys [.slice (NY a cap (0:Int).toNat sz) ys.length (cap-(0:Int).toNat)]]) w:=by
 subst t;have hL':jM L [i]=[Res.own (cn e T) F xs [.slice a nn cap]]:=by simp only [nc,wx,p]
 obtain ⟨f,q,r⟩:=h.one p;obtain ⟨_,h1,E,rfl⟩:=CE d;simp only [Int.toNat_zero,List.drop_zero,Nat.sub_zero];obtain ⟨k,rfl⟩:∃k:Nat,m=k:=⟨m.toNat,by omega⟩;simp only [Int.toNat_natCast];have f:vF e T w F xs [.slice a nn cap]:=f;rcases f with ⟨rfl,rfl,g⟩|⟨b,cap',cur,u,ds,rfl,g,v,G,x,A,C,D⟩
 ·simp only [List.cons.injEq,Value.slice.injEq,and_true] at g;obtain ⟨rfl,rfl,rfl⟩:=g;refine ⟨[],h.comp [i] hL' rfl ⟨Ext.refl _ _,?_,?_,?_,?_⟩⟩
  ·intro s d;rw [List.mem_singleton.1 d];exact .inl ⟨by simp,rfl,by simp [NY]⟩
  ·rw [iC];exact List.nodup_nil
  ·intro c hc;rw [iC] at hc;cases hc
  intro c hc;rw [iC] at hc;cases hc
 simp only [List.cons.injEq,Value.slice.injEq,and_true] at g;obtain ⟨rfl,rfl,rfl⟩:=g;obtain ⟨F',hs',o⟩:=Pd k D
 have j:∀c∈b::F',c∈b::u:=λc hc=>by
  rcases List.mem_cons.1 hc with rfl|hc
  ·exact List.mem_cons_self ..
  exact List.mem_cons_of_mem _ (hs'.mem hc)
 have l:k≤xs.length:=by omega
 refine ⟨b::F',h.comp [i] hL' rfl ⟨Ext.refl _ _,?_,?_,?_,?_⟩⟩
 ·intro s d;rw [List.mem_singleton.1 d];refine .inr ⟨b,cap,cur,F',_,rfl,?_,v,by rw [List.length_take];omega,x,A,rfl,?_⟩
  ·unfold NY;split
   ·rfl
   simp [fh]
  rw [←C,List.take_take] at o;rw [List.length_take,Nat.min_eq_left l];rw [Nat.min_eq_left (Nat.mul_le_mul_right _ l)] at o;exact o
 ·rw [iC];exact List.Sublist.nodup (List.Sublist.cons_cons b hs') q
 ·intro c hc;rw [iC] at hc;exact r c (j c hc)
 intro c hc;rw [iC] at hc;rw [iC];exact .inr (j c hc)
theorem sS:(∀{α β:Type}(a:α)(f:α→Option β),(some a).bind f=f a)∧(!true)=false∧(!false)=true∧(false=true)=False∧(∀b:Bool,(true||b)=true)∧(∀b:Bool,(false||b)=b)∧(∀b:Bool,(b||true)=true)∧(∀b:Bool,(b||false)=b)∧(∀b:Bool,(true&&b)=b)∧(∀b:Bool,(false&&b)=false)∧(∀b:Bool,(b&&true)=b)∧(∀b:Bool,(b&&false)=false)∧(∀{α:Type}{_:Decidable True}(t e:α),(if True then t else e)=t)∧(∀{α:Type}{_:Decidable False}(t e:α),(if False then t else e)=e):=⟨λ_ _=>rfl,rfl,rfl,Bool.false_eq_true,Bool.true_or,Bool.false_or,Bool.or_true,Bool.or_false,Bool.true_and,Bool.false_and,Bool.and_true,Bool.and_false,λ_ _=>if_true ..,λ_ _=>if_false ..⟩
theorem cS:(∀{α β:Type}(a:α)(f:α→Option β),(some a).bind f=f a)∧(!true)=false∧(false=true)=False∧(∀{α:Type}{_:Decidable False}(t e:α),(if False then t else e)=e):=⟨λ_ _=>rfl,rfl,Bool.false_eq_true,λ_ _=>if_false ..⟩
theorem kS (k:Nat)(h:0<k):∃q,k=q+1:=⟨k-1,by omega⟩
theorem bS {α β:Type}(a:α)(f:α→Option β):(some a).bind f=f a:=rfl
theorem nl {a b:Nat}(h:Nat.ble a b=true):a≤b:=Nat.le_of_ble_eq_true h
abbrev e8:Enc Int:=nV (Value.int .u8) (λ_=>rfl)
theorem ss {w0:World}{M:List Nat}{L L':List Res}(idx:List Nat)(a:jM L idx=L')(c:qA idx=true):∀w,St w0 M L w→St w0 M L' w:=λ_ h=>St.sel idx a c h
theorem sm {w0:World}{M:List Nat}{L L':List Res}(bs:List Bool)(a:rT bs L=L'):∀w,St w0 M L w→St w0 M L' w:=λ_ h=>St.mask bs a h
end Go.Vk
/- Common steps of a walk, several at once. -/
namespace Go.Vk
variable {P:Program} {n:Nat} {C:World→Prop} {E:Env} {m:Md} {l rest:List Oper} {w0:World} {M:List Nat} {L:List Res} {Q:Exit→Act→World→Prop}
def rvs (E:Env):List ResultVar→Option (List Value)
 | []=>some []
 | .tmp t::rs=>match kA E t,rvs E rs with
  | some v,some vs=>some (v::vs)
  | _,_=>none
 | _::_=>none
theorem Ge:∀{rs:List ResultVar}{vs:List Value},rvs E rs=some vs→PR P C E rs vs
 | [],vs,h=>by cases h;trivial
 | .tmp t::rs,vs,h=>by
  unfold rvs at h;split at h
  ·rename_i v vs' h1 a;obtain rfl:=Option.some.inj h;exact ⟨h1,Ge a⟩
  cases h
 | .cell _ _::_,_,h=>by cases h
theorem xw {v:Value}{rs:List ResultVar}{vs:List Value}{fn:Func}(h:(fn.results,rvs E rs,BN vs)=(rs.toArray,some vs,v)):XW n (St w0 M L) E (bodyPost P fn λen w'=>en=.returned v∧Ext M w0 w') .ret:=by
 simp only [Prod.mk.injEq] at h;exact Bg h.1 (Ge h.2.1) λw a=>⟨by rw [h.2.2],a.ext⟩
theorem xo {R:Ending→World→Prop}{v:Value}{rs:List ResultVar}{vs:List Value}{fn:Func}(h:(fn.results,rvs E rs,BN vs)=(rs.toArray,some vs,v))(k:∀w,C w→R (.returned v) w):XW n C E (bodyPost P fn R) .ret:=by
 simp only [Prod.mk.injEq] at h;exact Bg h.1 (Ge h.2.1) λw a=>h.2.2▸k w a
theorem xc {R:Ending→World→Prop}{v:Value}{t:Tmp}{T:TypeId}{b sz by_:Nat}{z cs:List Value}{rs:List ResultVar}{vs:List Value}{fn:Func}(i:Nat)(ty:eN P T true sz by_ z)(h:(fn.results,kA E t,L[i]?,cs.length,rvs E rs,BN (.agg cs.toArray::vs))=((ResultVar.cell t T::rs).toArray,some (.pointer (some ⟨b,0,none⟩)),some (Res.box b T cs),sz,some vs,v))(k:∀w,St w0 M L w→R (.returned v) w):XW n (St w0 M L) E (bodyPost P fn R) .ret:=by
 simp only [Prod.mk.injEq] at h;exact Bg h.1 (vs:=.agg cs.toArray::vs) ⟨⟨_,cs,_,_,_,h.2.1,ty,oE (T:=T) 0 (tg h.2.2.1) (by simp),h.2.2.2.1,rfl⟩,Ge h.2.2.2.2.1⟩ λw a=>h.2.2.2.2.2▸k w a
theorem ix1 {α:Type}{val:α→Value}{h1:∀x,(val x).oneCell'=true}{o c:Oper}{t et:TypeId}{x i x2:Operand}{by_:Nat}{z:List Value}{xs:List α}{k:IntKind}{j:Int}{y:α}{a:Option Addr}{nn cap:Nat}(p:isSl P t et)(e:eN P et false 1 by_ z)(f:∀w,m.cls C w→mS (nV val h1) w [] xs [.slice a nn cap])(g:idx xs j=some y)(h:(o.op,wt l E o.guard,fo n o.dst,ev E x,ev E i)=(.indexAddr t x i,some true,true,some (.slice a nn cap),some (.int k j)))(d:(c.op,wt l (upd E o.dst (.pointer (some (Dg a j.toNat)))) c.guard,fo n c.dst,ev (upd E o.dst (.pointer (some (Dg a j.toNat)))) x2)=(.load et x2,some true,true,some (.pointer (some (Dg a j.toNat)))))(hk:OW P n l C (upd (upd E o.dst (.pointer (some (Dg a j.toNat)))) c.dst (val y)) m rest):OW P n l C E m (o::c::rest):=by
 simp only [Prod.mk.injEq] at h d;exact eJ h.1 h.2.1 h.2.2.1 h.2.2.2.1 h.2.2.2.2 p e rfl f g (by rw [Nat.mul_one]) (Lb d.2.1 (aj d.2.2.1) (bw d.1 d.2.2.2 e (yF f g)) hk)
theorem bq {β γ:Type}{X:Option β}{F:β→Option γ}{r:γ}{o:Oper}{f:FuncId}{xs:List Operand}{ts:Array TypeId}{vs:List Value}{v:β→Value}(H:X.bind F=some r)(a:Ns P f)(c:∀z,X=some z→∀w,St w0 M L w→Calls P f vs.toArray w λe w'=>e=.returned (v z)∧Ext [] w w')(h:(o.op,evs E xs,m.loud (o::rest),wt l E o.guard,fo n o.dst)=(.call {callee:=.value (.func f),args:=xs.toArray,argTypes:=ts},some vs,true,some true,true))(d:∀w,St w0 M L w→m.keeps w)(k:∀z,F z=some r→OW P n l (St w0 M L) (upd E o.dst (v z)) m rest):OW P n l (St w0 M L) E m (o::rest):=by
 simp only [Prod.mk.injEq] at h;exact bE H λz g H=>HF h.2.2.1 h.2.2.2.1 (aj h.2.2.2.2) (Rl h.1 a h.2.1 (c z g)) d (k z H)
theorem ck {y:Code}(h:CW P n C E Q y):CW P n C E (QS P y Q) .skip:=bK (bM h)
theorem ce {y c:Code}{k i:Nat}(h:XW n C E Q .normal):CW P n C E (QS P y (QL P c k (QB i Q))) (.exit i):=DQ (rm (Gs (va h)))
theorem xb {y:Code}{i:Nat}(h:CW P n C E Q y):XW n C E (QB i (QS P y Q)) .normal:=GG (bM h)
theorem cb {x y:Code}{i:Nat}(h:CW P n C E (QB i (QS P y Q)) x):CW P n C E Q (.seq (.block i x) y):=ai (aI h)
theorem oN (k:Nat){rest':List Oper}{E':Env}(h:za n l (List.replicate k (DW.p (P:=P))) rest E=some (rest',E'))(q:OW P n l C E' m rest'):OW P n l C E m rest:=aa _ h q
theorem kf {α:Sort _}{C:α→World→Prop}:∀x:α,Kp (.lex Q) (C x):=λ_=>kp
theorem kg {α β γ:Sort _}{C:α→β→γ→World→Prop}:∀x y z,Kp (.lex Q) (C x y z):=λ_ _ _=>kp
theorem cu2 (A B:Env)(k:Nat)(x:Nat×Value)(a:(A++B).map (λp=>kA E p.1)=(A++B).map (λp=>some p.2))(hk:OW P n l C (x::A) m (rest.drop k))(c:OW P n l C (x::A) m (rest.drop k)→OW P n l C (A++B) m rest):OW P n l C E m rest:=OW.sub (c hk) (sb a)
end Go.Vk
/- Common steps of a walk, more of them at once. -/
namespace Go.Vk
variable {P:Program} {n:Nat} {C:World→Prop} {E:Env} {m:Md} {l rest:List Oper} {w0:World} {M:List Nat} {L:List Res} {Q:Exit→Act→World→Prop}
abbrev Aq (v:Value)(M:List Nat)(w:World):Ending→World→Prop:=λen w'=>en=.returned v∧Ext M w w'
def gFn (fn:Func):Bool:=fn.body.isSome&&fn.name != "runtime.NumGoroutine"
theorem iF {f:FuncId}{fn:Func}(h:P.funcs[f]?=some fn)(g:gFn fn=true):Ns P f:=by
 simp only [gFn,Bool.and_eq_true,bne_iff_ne] at g;exact ⟨fn,h,g.1,g.2⟩
theorem fe {f:FuncId}{fn:Func}{c:Code}{w:World}{vs:List Value}{R:Ending→World→Prop}(d:P.funcs[f]?=some fn)(e:fn.ntmps=n)(g:St w M L w)(a:(fn.body,Nat.ble vs.length n)=(some c,true))(h:CW P n (St w M L) (Gz 0 vs) (bodyPost P fn R) c):Calls P f vs.toArray w R:=by
 simp only [Prod.mk.injEq] at a;exact WY d a.1 e a.2 g h
theorem fe0 {f:FuncId}{fn:Func}{c:Code}{w:World}{vs:List Value}{R:Ending→World→Prop}(a:P.funcs[f]?=some fn)(d:fn.ntmps=n)(e:(fn.body,Nat.ble vs.length n)=(some c,true))(h:CW P n (St w [] []) (Gz 0 vs) (bodyPost P fn R) c):Calls P f vs.toArray w R:=fe a d (St.init w []) e h
theorem bQ {β γ:Type}{X:Option β}{F:β→Option γ}{r:γ}{o:Oper}{f:FuncId}{fn:Func}{xs:List Operand}{ts:Array TypeId}{vs:List Value}{v:β→Value}(H:X.bind F=some r)(a:P.funcs[f]?=some fn)(c:∀z,X=some z→∀w,St w0 M L w→Calls P f vs.toArray w (Aq (v z) [] w))(h:(o.op,evs E xs,m.loud (o::rest),wt l E o.guard,fo n o.dst,gFn fn)=(.call {callee:=.value (.func f),args:=xs.toArray,argTypes:=ts},some vs,true,some true,true,true))(d:∀w,St w0 M L w→m.keeps w)(k:∀z,F z=some r→OW P n l (St w0 M L) (upd E o.dst (v z)) m rest):OW P n l (St w0 M L) E m (o::rest):=by
 simp only [Prod.mk.injEq] at h;obtain ⟨h1,e,g,i,j,p⟩:=h;exact bq (xs:=xs) (ts:=ts) (vs:=vs) H (iF a p) c (by simp only [h1,e,g,i,j]) d k
theorem bV {β γ:Type}{X:Option β}{F:β→Option γ}{r:γ}{o:Oper}{f:FuncId}{fn:Func}{xs:List Operand}{ts:Array TypeId}{vs:List Value}{R:β→Value→World→World→Prop}(H:X.bind F=some r)(c:P.funcs[f]?=some fn)(d:∀z,X=some z→∀w,C w→Calls P f vs.toArray w λe w'=>∃v,e=.returned v∧R z v w w')(h:(o.op,evs E xs,m.here (o::rest),wt l E o.guard,fo n o.dst,gFn fn)=(.call {callee:=.value (.func f),args:=xs.toArray,argTypes:=ts},some vs,true,some true,true,true))(k:∀z,X=some z→F z=some r→∀v w w',C w→R z v w w'→∃C':World→Prop,C' w'∧(∀u,C' u→m.keeps u)∧OW P n l C' (upd E o.dst v) m rest):OW P n l C E m (o::rest):=by
 simp only [Prod.mk.injEq] at h;obtain ⟨h1,g,i,j,p,q⟩:=h;exact bE H λz a H=>cy h1 (iF c q) i j p g (d z a) (k z a H)
theorem yE {ρ:Type}{x r:ρ}{v:ρ→Value}{E':Env}{id:Nat}{rs:List ResultVar}{vs:List Value}{fn:Func}(H:some x=some r)(h:(za n l [DW.p (P:=P)] l E,Q .ret,fn.results,rvs E' rs,BN vs)=(some ([],E'),bodyPost P fn (Aq (v r) M w0) .ret,rs.toArray,some vs,v x)):CW P n (St w0 M L) E Q (.seq (.region id l.toArray false) .ret):=by
 simp only [Prod.mk.injEq] at h;refine sR (oP h.1 (nT λa w c d=>?_));rw [h.2.1];exact (ah H▸xw (rs:=rs) (vs:=vs) (by simp only [h.2.2.1,h.2.2.2.1,h.2.2.2.2]):XW n (St w0 M L) E' (bodyPost P fn (Aq (v r) M w0)) .ret) a w c d
theorem p2 {α β:Type _}{a c:α}{b d:β}(h:a=c)(k:b=d):(a,b)=(c,d):=by subst h k;rfl
theorem oR (off i:Nat){o:Oper}{t:TypeId}{x:Operand}{b:Nat}{v:Value}{sz by_:Nat}{z:List Value}{T:TypeId}{cs:List Value}(a:eN P t false sz by_ z)(h:(m.cls C,wt l E o.guard,fo n o.dst,o.op,ev E x,L[i]?,cs[off]?)=(St w0 M L,some true,true,.load t x,some (.pointer (some ⟨b,off,none⟩)),some (Res.box b T cs),some v))(k:OW P n l C (upd E o.dst v) m rest):OW P n l C E m (o::rest):=by
 simp only [Prod.mk.injEq] at h;obtain ⟨c,h1,d,e,f,g,j⟩:=h;exact o1 (p2 h1 d) (c▸r1 off i (p2 e f) a (p2 g j)) k
theorem oX (off i:Nat){ds:List Value}{o:Oper}{t:TypeId}{x:Operand}{b sz by_:Nat}{z:List Value}{T:TypeId}{cs:List Value}(a:eN P t true sz by_ z)(h:(m.cls C,wt l E o.guard,fo n o.dst,o.op,ev E x,L[i]?,(cs.drop off).take sz,ds.length)=(St w0 M L,some true,true,.load t x,some (.pointer (some ⟨b,off,none⟩)),some (Res.box b T cs),ds,sz))(k:OW P n l C (upd E o.dst (.agg ds.toArray)) m rest):OW P n l C E m (o::rest):=by
 simp only [Prod.mk.injEq] at h;obtain ⟨c,h1,d,e,f,g,j,p⟩:=h;exact o1 (p2 h1 d) (c▸rx off i ds (p2 e f) a (p2 g (p2 j p))) k
theorem sD (off:Nat)(vs cs':List Value)(i:Nat){Q:Exit→Act→World→Prop}{o:Oper}{t:TypeId}{x y:Operand}{b:Nat}{v:Value}{agg:Bool}{sz by_:Nat}{z:List Value}{T:TypeId}{cs:List Value}(d:eN P t agg sz by_ z)(h:(o.op,wt l E o.guard,fo n o.dst,ev E x,ev E y,v.cells,vs.length,vs.all Value.oneCell',L[i]?,Nat.ble (off+sz) cs.length,ir cs off vs)=(.store t x y,some true,true,some (.pointer (some ⟨b,off,none⟩)),some v,vs.toArray,sz,true,some (Res.box b T cs),true,cs'))(hk:OW P n l (St w0 M (L.set i (Res.box b T cs'))) (upd E o.dst undef) (.lex Q) rest):OW P n l (St w0 M L) E (.lex Q) (o::rest):=by
 simp only [Prod.mk.injEq] at h;obtain ⟨h1,e,f,g,j,k,m,p,q,a,c⟩:=h;exact sC off vs cs' i (p2 h1 (p2 e (p2 f (p2 g j)))) d (p2 k (p2 m (p2 p (p2 q (p2 a c))))) hk
theorem oA {o:Oper}{T:TypeId}{agg:Bool}{sz by_:Nat}{z:List Value}(a:eN P T agg sz by_ z)(h:(o.op,wt l E o.guard,fo n o.dst)=(.alloc T,some true,true))(hk:∀b,OW P n l (St w0 M (L++[Res.box b T z])) (upd E o.dst (.pointer (some ⟨b,0,none⟩))) (.lex Q) rest):OW P n l (St w0 M L) E (.lex Q) (o::rest):=by
 simp only [Prod.mk.injEq] at h;exact JX h.1 rfl h.2.1 h.2.2 a (λ_=>kp) hk
theorem cJ {α:Type}{x:Operand}{c d:Code}{b:Bool}{A B r:Option α}(H:(if b then A else B)=r)(a:ev E x=some (.bool b))(e:A=r→CW P n C E Q c)(f:B=r→CW P n C E Q d):OW P n l C E (.lex (QS P (.cond x c d) Q)) []:=nQ (cI H a e f)
theorem cR {ρ:Type}{xo:Operand}{d:Code}{b:Bool}{x r:ρ}{B:Option ρ}{v:ρ→Value}{E':Env}{id:Nat}{l':List Oper}{rs:List ResultVar}{vs:List Value}{fn:Func}(H:(if b then some x else B)=some r)(h:(ev E xo,za n l' [DW.p (P:=P)] l' E,Q .ret,fn.results,rvs E' rs,BN vs)=(some (.bool b),some ([],E'),bodyPost P fn (Aq (v r) M w0) .ret,rs.toArray,some vs,v x))(a:B=some r→CW P n (St w0 M L) E Q d):OW P n l (St w0 M L) E (.lex (QS P (.cond xo (.seq (.region id l'.toArray false) .ret) d) Q)) []:=by
 obtain ⟨h1,c⟩:=Prod.mk.inj h;exact cJ H h1 (λH=>yE H c) a
theorem oK {R:Env}{l rest:List Oper}(h:OW P n l C R m rest)(g:R.map (λp=>kA E p.1)=R.map (λp=>some p.2)):OW P n l C E m rest:=h.sub (sb g)
theorem oL {x v:Bool}{t:Nat}{A:Env}{l rest:List Oper}(H:some x=some v)(h:OW P n l C ((t,.bool v)::A) m rest)(g:((t,.bool x)::A).map (λp=>kA E p.1)=((t,.bool x)::A).map (λp=>some p.2)):OW P n l C E m rest:=by
 obtain rfl:=ah H;exact oK h g
theorem pN {α:Type}(e:Enc α)(T:TypeId)(w:World)(h:St w0 M L w):St w0 M (L++[Res.own (cn e T) [] [] [.slice none 0 0]]) w:=h.pushNil
abbrev u5 {α:Type}{a b c d e:α}:List α:=[a,b,c,d,e]
abbrev u6 {α:Type}{a b c d e f:α}:List α:=[a,b,c,d,e,f]
abbrev u7 {α:Type}{a b c d e f g:α}:List α:=[a,b,c,d,e,f,g]
abbrev u8 {α:Type}{a b c d e f g h:α}:List α:=[a,b,c,d,e,f,g,h]
abbrev u9 {α:Type}{a b c d e f g h i:α}:List α:=[a,b,c,d,e,f,g,h,i]
abbrev u10 {α:Type}{a b c d e f g h i j:α}:List α:=[a,b,c,d,e,f,g,h,i,j]
abbrev u11 {α:Type}{a b c d e f g h i j k:α}:List α:=[a,b,c,d,e,f,g,h,i,j,k]
abbrev u12 {α:Type}{a b c d e f g h i j k l:α}:List α:=[a,b,c,d,e,f,g,h,i,j,k,l]
abbrev u13 {α:Type}{a b c d e f g h i j k l m:α}:List α:=[a,b,c,d,e,f,g,h,i,j,k,l,m]
abbrev u14 {α:Type}{a b c d e f g h i j k l m n:α}:List α:=[a,b,c,d,e,f,g,h,i,j,k,l,m,n]
abbrev u15 {α:Type}{a b c d e f g h i j k l m n o:α}:List α:=[a,b,c,d,e,f,g,h,i,j,k,l,m,n,o]
abbrev u16 {α:Type}{a b c d e f g h i j k l m n o p:α}:List α:=[a,b,c,d,e,f,g,h,i,j,k,l,m,n,o,p]
abbrev u17 {α:Type}{a b c d e f g h i j k l m n o p q:α}:List α:=[a,b,c,d,e,f,g,h,i,j,k,l,m,n,o,p,q]
abbrev u18 {α:Type}{a b c d e f g h i j k l m n o p q r:α}:List α:=[a,b,c,d,e,f,g,h,i,j,k,l,m,n,o,p,q,r]
abbrev u19 {α:Type}{a b c d e f g h i j k l m n o p q r s:α}:List α:=[a,b,c,d,e,f,g,h,i,j,k,l,m,n,o,p,q,r,s]
abbrev u20 {α:Type}{a b c d e f g h i j k l m n o p q r s t:α}:List α:=[a,b,c,d,e,f,g,h,i,j,k,l,m,n,o,p,q,r,s,t]
abbrev u21 {α:Type}{a b c d e f g h i j k l m n o p q r s t u:α}:List α:=[a,b,c,d,e,f,g,h,i,j,k,l,m,n,o,p,q,r,s,t,u]
abbrev u22 {α:Type}{a b c d e f g h i j k l m n o p q r s t u v:α}:List α:=[a,b,c,d,e,f,g,h,i,j,k,l,m,n,o,p,q,r,s,t,u,v]
end Go.Vk
/- Common steps of a walk, shorter still. -/
namespace Go.Vk
variable {P:Program} {n:Nat} {C:World→Prop} {E:Env} {m:Md} {l rest:List Oper} {w0:World} {M:List Nat} {L:List Res} {Q:Exit→Act→World→Prop}
theorem sE (off:Nat)(vs cs':List Value)(i:Nat){o:Oper}{t:TypeId}{x y:Operand}{b:Nat}{v:Value}{agg:Bool}{sz by_:Nat}{z:List Value}{T:TypeId}{cs:List Value}(e:eN P t agg sz by_ z)(h:(o.op,m.here (o::rest),wt l E o.guard,fo n o.dst,ev E x,ev E y,v.cells,vs.length,vs.all Value.oneCell',L[i]?,Nat.ble (off+sz) cs.length,ir cs off vs)=(.store t x y,true,some true,true,some (.pointer (some ⟨b,off,none⟩)),some v,vs.toArray,sz,true,some (Res.box b T cs),true,cs'))(f:Kp m (St w0 M (L.set i (Res.box b T cs'))))(hk:OW P n l (St w0 M (L.set i (Res.box b T cs'))) (upd E o.dst undef) m rest):OW P n l (St w0 M L) E m (o::rest):=by
 simp only [Prod.mk.injEq] at h;obtain ⟨h1,g,j,k,p,q,r,s,u,a,c,d⟩:=h;exact LC vs cs' h1 g j k p q e r s (List.all_eq_true.1 u) a c d f hk
theorem LY {len:Nat}:∀(xs:List Int)(i:Nat),i+xs.length≤len→Hj (λi=>some (i*1,1)) len ((List.range' i xs.length).zip (xs.map (Value.int .i64))) (SA i (xs.map (Value.int .i64)))
 | [],_,_=>trivial
 | x::xs,i,h=>by
  simp only [List.length_cons] at h;exact ⟨by simp,rfl,by simp;omega,LY xs (i+1) (by omega)⟩
theorem bI (xs:List Int){o:Oper}{t et:TypeId}{len:Nat}{ps:List (Nat×Operand)}{agg:Bool}{by_:Nat}{z:List Value}(a:isSl P t et)(c:eN P et agg 1 by_ z)(h:(o.op,m.here (o::rest),wt l E o.guard,fo n o.dst,evs E (ps.map (·.2)),ps.map (·.1),xs.length,Nat.blt 0 len,Nat.ble len 16777216)=(.buildSlice t len ps.toArray,true,some true,true,some (xs.map (Value.int .i64)),List.range' 0 len,len,true,true))(d:∀b,Kp m (St w0 M (L++[Res.own (cn (nV (Value.int .i64) (λ_=>rfl)) et) [b] xs [.slice (some ⟨b,0,none⟩) xs.length len]])))(hk:∀b,OW P n l (St w0 M (L++[Res.own (cn (nV (Value.int .i64) (λ_=>rfl)) et) [b] xs [.slice (some ⟨b,0,none⟩) xs.length len]])) (upd E o.dst (.slice (some ⟨b,0,none⟩) xs.length len)) m rest):OW P n l (St w0 M L) E m (o::rest):=by
 simp only [Prod.mk.injEq] at h;obtain ⟨h1,e,f,g,i,j,k,p,q⟩:=h;subst k;refine kC xs (SA 0 (xs.map (Value.int .i64))) h1 e f g i a c (by rw [Nat.mul_one];exact p) (by rw [Nat.mul_one];exact q) rfl ?_ (Tg rfl (by simp)) rfl d hk;rw [j];exact LY xs 0 (by omega)
end Go.Vk
/- Common steps of a walk, said in one. -/
namespace Go.Vk
variable {P:Program} {n:Nat} {C:World→Prop} {E:Env} {m:Md} {l rest:List Oper} {w0:World} {M:List Nat} {L:List Res} {Q:Exit→Act→World→Prop}
abbrev u1 {α:Type}{a:α}:List α:=[a]
abbrev u2 {α:Type}{a b:α}:List α:=[a,b]
abbrev u3 {α:Type}{a b c:α}:List α:=[a,b,c]
abbrev u4 {α:Type}{a b c d:α}:List α:=[a,b,c,d]
abbrev iV (x:Int):Value:=.int .i64 x
abbrev CL (P:Program)(f:FuncId)(vs:List Value)(w:World)(R:Value→World→Prop):Prop:=Calls P f vs.toArray w λen w'=>∃v,en=.returned v∧R v w'
abbrev CQ (P:Program)(f:FuncId)(vs:List Value)(w:World)(v:Value):Prop:=Calls P f vs.toArray w (Aq v [] w)
abbrev pA (b:Nat):Value:=.pointer (some ⟨b,0,none⟩)
abbrev sL {α:Type}(a:Option Addr)(xs:List α)(c:Nat):Value:=.slice a xs.length c
theorem EV:∀(ks:List Nat)(vs:List Value),ks.map (kA E)=vs.map some→Sub (ks.zip vs) E
 | [],_,_=>trivial
 | _::_,[],h=>by cases h
 | k::ks,v::vs,h=>by
  simp only [List.map_cons,List.cons.injEq] at h;exact ⟨h.1,EV ks vs h.2⟩
theorem Fe {t:Nat}{v:Value}{A:Env}(h:kA E t=some v)(k:Sub A E):Sub ((t,v)::A) E:=⟨h,k⟩
theorem jO {γ:Type}{b v0:Bool}{X:Option Bool}{F:Bool→Option γ}{r:γ}(ks:List Nat)(vs:List Value)(p t k d q:Nat){E':Env}(H:(if b then some v0 else X).bind F=some r)(h:(kA E t,ks.map (kA E))=(some (.bool b),vs.map some))(c:(za n l (List.replicate q (DW.p (P:=P))) rest ((t,.bool true)::ks.zip vs),((d,Value.bool v0)::(ks.zip vs).take p).map (λx=>kA E' x.1))=(some (rest.drop k,E'),((d,Value.bool v0)::(ks.zip vs).take p).map (λx=>some x.2)))(e:∀u,X=some u→OW P n l C ((d,.bool u)::(ks.zip vs).take p) m (rest.drop k)→OW P n l C ((t,.bool false)::ks.zip vs) m rest)(hk:∀u,(if b then some v0 else X)=some u→F u=some r→OW P n l C ((d,.bool u)::(ks.zip vs).take p) m (rest.drop k)):OW P n l C E m rest:=by
 simp only [Prod.mk.injEq] at h c;obtain ⟨f,g⟩:=h;obtain ⟨i,j⟩:=c;refine OW.sub ?_ (Fe f (EV _ _ g));refine bE H λu a H=>?_;have key:=hk u a H
 cases b with
 | true =>
  obtain rfl:=ah a;exact aa _ i (key.sub (sb j))
 | false=>exact e u a key
theorem jB {γ:Type}{b v0:Bool}{X:Option Bool}{F:Bool→Option γ}{r:γ}(ks:List Nat)(vs:List Value)(p t k d q:Nat){E':Env}(H:(if b then X else some v0).bind F=some r)(h:(kA E t,ks.map (kA E))=(some (.bool b),vs.map some))(c:(za n l (List.replicate q (DW.p (P:=P))) rest ((t,.bool false)::ks.zip vs),((d,Value.bool v0)::(ks.zip vs).take p).map (λx=>kA E' x.1))=(some (rest.drop k,E'),((d,Value.bool v0)::(ks.zip vs).take p).map (λx=>some x.2)))(e:∀u,X=some u→OW P n l C ((d,.bool u)::(ks.zip vs).take p) m (rest.drop k)→OW P n l C ((t,.bool true)::ks.zip vs) m rest)(hk:∀u,(if b then X else some v0)=some u→F u=some r→OW P n l C ((d,.bool u)::(ks.zip vs).take p) m (rest.drop k)):OW P n l C E m rest:=by
 simp only [Prod.mk.injEq] at h c;obtain ⟨f,g⟩:=h;obtain ⟨i,j⟩:=c;refine OW.sub ?_ (Fe f (EV _ _ g));refine bE H λu a H=>?_;have key:=hk u a H
 cases b with
 | true=>exact e u a key
 | false =>
  obtain rfl:=ah a;exact aa _ i (key.sub (sb j))
theorem jR {b:Bool}(ks:List Nat)(vs:List Value)(p t k d q:Nat)(c:Bool){E':Env}(h:(kA E t,ks.map (kA E))=(some (.bool b),vs.map some))(a:(za n l (List.replicate q (DW.p (P:=P))) rest ((t,.bool true)::ks.zip vs),((d,Value.bool true)::(ks.zip vs).take p).map (λx=>kA E' x.1))=(some (rest.drop k,E'),((d,Value.bool true)::(ks.zip vs).take p).map (λx=>some x.2)))(e:OW P n l C ((d,.bool c)::(ks.zip vs).take p) m (rest.drop k)→OW P n l C ((t,.bool false)::ks.zip vs) m rest)(hk:OW P n l C ((d,.bool (b||c))::(ks.zip vs).take p) m (rest.drop k)):OW P n l C E m rest:=by
 simp only [Prod.mk.injEq] at h a;refine OW.sub ?_ (Fe h.1 (EV _ _ h.2))
 cases b with
 | true=>exact aa _ a.1 (hk.sub (sb a.2))
 | false=>exact e hk
theorem jA {b:Bool}(ks:List Nat)(vs:List Value)(p t k d q:Nat)(c:Bool){E':Env}(h:(kA E t,ks.map (kA E))=(some (.bool b),vs.map some))(a:(za n l (List.replicate q (DW.p (P:=P))) rest ((t,.bool false)::ks.zip vs),((d,Value.bool false)::(ks.zip vs).take p).map (λx=>kA E' x.1))=(some (rest.drop k,E'),((d,Value.bool false)::(ks.zip vs).take p).map (λx=>some x.2)))(e:OW P n l C ((d,.bool c)::(ks.zip vs).take p) m (rest.drop k)→OW P n l C ((t,.bool true)::ks.zip vs) m rest)(hk:OW P n l C ((d,.bool (b&&c))::(ks.zip vs).take p) m (rest.drop k)):OW P n l C E m rest:=by
 simp only [Prod.mk.injEq] at h a;refine OW.sub ?_ (Fe h.1 (EV _ _ h.2))
 cases b with
 | false=>exact aa _ a.1 (hk.sub (sb a.2))
 | true=>exact e hk
theorem oV0 {β γ:Type}{X:Option β}{G:β→Option γ}{r:γ}(idx:List Nat){o:Oper}{f:FuncId}{fn:Func}{xs:List Operand}{ts:Array TypeId}{vs:List Value}{V:β→Value}{R:β→List Res}{L':List Res}{LL:β→List Res}(H:X.bind G=some r)(d:P.funcs[f]?=some fn)(e:∀{z},X=some z→∀w,St w0 M L w→Calls P f vs.toArray w λen w'=>∃v,en=.returned v∧v=V z∧St w (eh L') (R z) w')(h:(o.op,evs E xs,m.here (o::rest),wt l E o.guard,fo n o.dst,jM L idx,qA idx,gFn fn)=(.call {callee:=.value (.func f),args:=xs.toArray,argTypes:=ts},some vs,true,some true,true,L',true,true))(g:∀z,nO L idx++(R z)=LL z)(i:∀z,Kp m (St w0 M (LL z)))(k:∀z,X=some z→G z=some r→OW P n l (St w0 M (LL z)) (upd E o.dst (V z)) m rest):OW P n l (St w0 M L) E m (o::rest):=by
 refine bE H λz c H=>?_;have k:=k z c H;simp only [Prod.mk.injEq] at h;obtain ⟨h1,j,p,q,s,t,x,A⟩:=h;refine cy h1 (iF d A) p q s j (e c) λv w w' C a=>?_;obtain ⟨rfl,a⟩:=a;exact ⟨_,g z▸C.comp idx t x a,λu D=>i z u D,k⟩
theorem oV1 {β γ:Type}{X:Option β}{G:β→Option γ}{r:γ}{α1:Type}{g:Enc α1}{j:TypeId}{x1:β→List α1}(idx:List Nat){o:Oper}{f:FuncId}{fn:Func}{xs:List Operand}{ts:Array TypeId}{vs:List Value}{V:β→Option Addr→Nat→Nat→Value}{R:β→Option Addr→Nat→List Nat→List Res}{L':List Res}{LL:β→Option Addr→Nat→List Nat→List Res}(H:X.bind G=some r)(q:P.funcs[f]?=some fn)(s:∀{z},X=some z→∀w,St w0 M L w→Calls P f vs.toArray w λen w'=>∃v,en=.returned v∧∃a e c1 c,v=V z a e c1∧St w (eh L') (Res.own (cn g j) c (x1 z) [.slice a e c1]::R z a c1 c) w')(h:(o.op,evs E xs,m.here (o::rest),wt l E o.guard,fo n o.dst,jM L idx,qA idx,gFn fn)=(.call {callee:=.value (.func f),args:=xs.toArray,argTypes:=ts},some vs,true,some true,true,L',true,true))(t:∀z a c1 c,nO L idx++(Res.own (cn g j) c (x1 z) [.slice a (x1 z).length c1]::R z a c1 c)=LL z a c1 c)(x:∀z a c1 c,Kp m (St w0 M (LL z a c1 c)))(k:∀z,X=some z→G z=some r→∀a c1 c,OW P n l (St w0 M (LL z a c1 c)) (upd E o.dst (V z a (x1 z).length c1)) m rest):OW P n l (St w0 M L) E m (o::rest):=by
 refine bE H λz p H=>?_;have k:=k z p H;simp only [Prod.mk.injEq] at h;obtain ⟨h1,A,C,D,F,Q,Z,h8⟩:=h;refine cy h1 (iF q h8) C D F A (s p) λv w w' hC d=>?_;obtain ⟨a,e,c1,c,rfl,d⟩:=d;obtain rfl:=bH (i:=0) d rfl;exact ⟨_,t z a c1 c▸hC.comp idx Q Z d,λu hu=>x z a c1 c u hu,k a c1 c⟩
theorem oV2 {β γ:Type}{X:Option β}{G:β→Option γ}{r:γ}{α1:Type}{q:Enc α1}{s:TypeId}{x1:β→List α1}{α2:Type}{t:Enc α2}{x:TypeId}{x2:β→List α2}(idx:List Nat){o:Oper}{f:FuncId}{fn:Func}{xs:List Operand}{ts:Array TypeId}{vs:List Value}{V:β→Option Addr→Nat→Nat→Option Addr→Nat→Nat→Value}{R:β→Option Addr→Nat→List Nat→Option Addr→Nat→List Nat→List Res}{L':List Res}{LL:β→Option Addr→Nat→List Nat→Option Addr→Nat→List Nat→List Res}(H:X.bind G=some r)(C:P.funcs[f]?=some fn)(D:∀{z},X=some z→∀w,St w0 M L w→Calls P f vs.toArray w λen w'=>∃v,en=.returned v∧∃a j c1 d c p c2 e,v=V z a j c1 c p c2∧St w (eh L') (Res.own (cn q s) d (x1 z) [.slice a j c1]::Res.own (cn t x) e (x2 z) [.slice c p c2]::R z a c1 d c c2 e) w')(h:(o.op,evs E xs,m.here (o::rest),wt l E o.guard,fo n o.dst,jM L idx,qA idx,gFn fn)=(.call {callee:=.value (.func f),args:=xs.toArray,argTypes:=ts},some vs,true,some true,true,L',true,true))(F:∀z a c1 d c c2 e,nO L idx++(Res.own (cn q s) d (x1 z) [.slice a (x1 z).length c1]::Res.own (cn t x) e (x2 z) [.slice c (x2 z).length c2]::R z a c1 d c c2 e)=LL z a c1 d c c2 e)(Q:∀z a c1 d c c2 e,Kp m (St w0 M (LL z a c1 d c c2 e)))(k:∀z,X=some z→G z=some r→∀a c1 d c c2 e,OW P n l (St w0 M (LL z a c1 d c c2 e)) (upd E o.dst (V z a (x1 z).length c1 c (x2 z).length c2)) m rest):OW P n l (St w0 M L) E m (o::rest):=by
 refine bE H λz A H=>?_;have k:=k z A H;simp only [Prod.mk.injEq] at h;obtain ⟨h1,Z,h3,h4,h5,h6,h7,h8⟩:=h;refine cy h1 (iF C h8) h3 h4 h5 Z (D A) λv w w' hC g=>?_;obtain ⟨a,j,c1,d,c,p,c2,e,rfl,g⟩:=g;obtain rfl:=bH (i:=0) g rfl;obtain rfl:=bH (i:=1) g rfl;exact ⟨_,F z a c1 d c c2 e▸hC.comp idx h6 h7 g,λu hu=>Q z a c1 d c c2 e u hu,k a c1 d c c2 e⟩
theorem oV3 {β γ:Type}{X:Option β}{G:β→Option γ}{r:γ}{α1:Type}{A:Enc α1}{C:TypeId}{x1:β→List α1}{α2:Type}{D:Enc α2}{F:TypeId}{x2:β→List α2}{α3:Type}{Q:Enc α3}{Z:TypeId}{q:β→List α3}(idx:List Nat){o:Oper}{f:FuncId}{fn:Func}{xs:List Operand}{ts:Array TypeId}{vs:List Value}{V:β→Option Addr→Nat→Nat→Option Addr→Nat→Nat→Option Addr→Nat→Nat→Value}{R:β→Option Addr→Nat→List Nat→Option Addr→Nat→List Nat→Option Addr→Nat→List Nat→List Res}{L':List Res}{LL:β→Option Addr→Nat→List Nat→Option Addr→Nat→List Nat→Option Addr→Nat→List Nat→List Res}(H:X.bind G=some r)(hf:P.funcs[f]?=some fn)(hc:∀{z},X=some z→∀w,St w0 M L w→Calls P f vs.toArray w λen w'=>∃v,en=.returned v∧∃a s c1 e c t c2 g d x c3 j,v=V z a s c1 c t c2 d x c3∧St w (eh L') (Res.own (cn A C) e (x1 z) [.slice a s c1]::Res.own (cn D F) g (x2 z) [.slice c t c2]::Res.own (cn Q Z) j (q z) [.slice d x c3]::R z a c1 e c c2 g d c3 j) w')(h:(o.op,evs E xs,m.here (o::rest),wt l E o.guard,fo n o.dst,jM L idx,qA idx,gFn fn)=(.call {callee:=.value (.func f),args:=xs.toArray,argTypes:=ts},some vs,true,some true,true,L',true,true))(hL:∀z a c1 e c c2 g d c3 j,nO L idx++(Res.own (cn A C) e (x1 z) [.slice a (x1 z).length c1]::Res.own (cn D F) g (x2 z) [.slice c (x2 z).length c2]::Res.own (cn Q Z) j (q z) [.slice d (q z).length c3]::R z a c1 e c c2 g d c3 j)=LL z a c1 e c c2 g d c3 j)(hS:∀z a c1 e c c2 g d c3 j,Kp m (St w0 M (LL z a c1 e c c2 g d c3 j)))(k:∀z,X=some z→G z=some r→∀a c1 e c c2 g d c3 j,OW P n l (St w0 M (LL z a c1 e c c2 g d c3 j)) (upd E o.dst (V z a (x1 z).length c1 c (x2 z).length c2 d (q z).length c3)) m rest):OW P n l (St w0 M L) E m (o::rest):=by
 refine bE H λz hz H=>?_;have k:=k z hz H;simp only [Prod.mk.injEq] at h;obtain ⟨h1,h2,h3,h4,h5,h6,h7,h8⟩:=h;refine cy h1 (iF hf h8) h3 h4 h5 h2 (hc hz) λv w w' hC p=>?_;obtain ⟨a,s,c1,e,c,t,c2,g,d,x,c3,j,rfl,p⟩:=p;obtain rfl:=bH (i:=0) p rfl;obtain rfl:=bH (i:=1) p rfl;obtain rfl:=bH (i:=2) p rfl;exact ⟨_,hL z a c1 e c c2 g d c3 j▸hC.comp idx h6 h7 p,λu hu=>hS z a c1 e c c2 g d c3 j u hu,k a c1 e c c2 g d c3 j⟩
theorem oV4 {β γ:Type}{X:Option β}{G:β→Option γ}{r:γ}{α1:Type}{F:Enc α1}{Q:TypeId}{x1:β→List α1}{α2:Type}{Z:Enc α2}{T2:TypeId}{x2:β→List α2}{α3:Type}{e3:Enc α3}{T3:TypeId}{t:β→List α3}{α4:Type}{e4:Enc α4}{T4:TypeId}{x4:β→List α4}(idx:List Nat){o:Oper}{f:FuncId}{fn:Func}{xs:List Operand}{ts:Array TypeId}{vs:List Value}{V:β→Option Addr→Nat→Nat→Option Addr→Nat→Nat→Option Addr→Nat→Nat→Option Addr→Nat→Nat→Value}{R:β→Option Addr→Nat→List Nat→Option Addr→Nat→List Nat→Option Addr→Nat→List Nat→Option Addr→Nat→List Nat→List Res}{L':List Res}{LL:β→Option Addr→Nat→List Nat→Option Addr→Nat→List Nat→Option Addr→Nat→List Nat→Option Addr→Nat→List Nat→List Res}(H:X.bind G=some r)(hf:P.funcs[f]?=some fn)(hc:∀{z},X=some z→∀w,St w0 M L w→Calls P f vs.toArray w λen w'=>∃v,en=.returned v∧∃a x c1 g c A c2 j d C c3 p e D c4 q,v=V z a x c1 c A c2 d C c3 e D c4∧St w (eh L') (Res.own (cn F Q) g (x1 z) [.slice a x c1]::Res.own (cn Z T2) j (x2 z) [.slice c A c2]::Res.own (cn e3 T3) p (t z) [.slice d C c3]::Res.own (cn e4 T4) q (x4 z) [.slice e D c4]::R z a c1 g c c2 j d c3 p e c4 q) w')(h:(o.op,evs E xs,m.here (o::rest),wt l E o.guard,fo n o.dst,jM L idx,qA idx,gFn fn)=(.call {callee:=.value (.func f),args:=xs.toArray,argTypes:=ts},some vs,true,some true,true,L',true,true))(hL:∀z a c1 g c c2 j d c3 p e c4 q,nO L idx++(Res.own (cn F Q) g (x1 z) [.slice a (x1 z).length c1]::Res.own (cn Z T2) j (x2 z) [.slice c (x2 z).length c2]::Res.own (cn e3 T3) p (t z) [.slice d (t z).length c3]::Res.own (cn e4 T4) q (x4 z) [.slice e (x4 z).length c4]::R z a c1 g c c2 j d c3 p e c4 q)=LL z a c1 g c c2 j d c3 p e c4 q)(hS:∀z a c1 g c c2 j d c3 p e c4 q,Kp m (St w0 M (LL z a c1 g c c2 j d c3 p e c4 q)))(k:∀z,X=some z→G z=some r→∀a c1 g c c2 j d c3 p e c4 q,OW P n l (St w0 M (LL z a c1 g c c2 j d c3 p e c4 q)) (upd E o.dst (V z a (x1 z).length c1 c (x2 z).length c2 d (t z).length c3 e (x4 z).length c4)) m rest):OW P n l (St w0 M L) E m (o::rest):=by
 refine bE H λz hz H=>?_;have k:=k z hz H;simp only [Prod.mk.injEq] at h;obtain ⟨h1,h2,h3,h4,h5,h6,h7,h8⟩:=h;refine cy h1 (iF hf h8) h3 h4 h5 h2 (hc hz) λv w w' hC s=>?_;obtain ⟨a,x,c1,g,c,A,c2,j,d,C,c3,p,e,D,c4,q,rfl,s⟩:=s;obtain rfl:=bH (i:=0) s rfl;obtain rfl:=bH (i:=1) s rfl;obtain rfl:=bH (i:=2) s rfl;obtain rfl:=bH (i:=3) s rfl;exact ⟨_,hL z a c1 g c c2 j d c3 p e c4 q▸hC.comp idx h6 h7 s,λu hu=>hS z a c1 g c c2 j d c3 p e c4 q u hu,k a c1 g c c2 j d c3 p e c4 q⟩
theorem oV5 {β γ:Type}{X:Option β}{G:β→Option γ}{r:γ}{α1:Type}{e1:Enc α1}{T1:TypeId}{x1:β→List α1}{α2:Type}{e2:Enc α2}{T2:TypeId}{x2:β→List α2}{α3:Type}{e3:Enc α3}{T3:TypeId}{A:β→List α3}{α4:Type}{e4:Enc α4}{T4:TypeId}{x4:β→List α4}{α5:Type}{e5:Enc α5}{T5:TypeId}{C:β→List α5}(idx:List Nat){o:Oper}{f:FuncId}{fn:Func}{xs:List Operand}{ts:Array TypeId}{vs:List Value}{V:β→Option Addr→Nat→Nat→Option Addr→Nat→Nat→Option Addr→Nat→Nat→Option Addr→Nat→Nat→Option Addr→Nat→Nat→Value}{R:β→Option Addr→Nat→List Nat→Option Addr→Nat→List Nat→Option Addr→Nat→List Nat→Option Addr→Nat→List Nat→Option Addr→Nat→List Nat→List Res}{L':List Res}{LL:β→Option Addr→Nat→List Nat→Option Addr→Nat→List Nat→Option Addr→Nat→List Nat→Option Addr→Nat→List Nat→Option Addr→Nat→List Nat→List Res}(H:X.bind G=some r)(hf:P.funcs[f]?=some fn)(hc:∀{z},X=some z→∀w,St w0 M L w→Calls P f vs.toArray w λen w'=>∃v,en=.returned v∧∃a D c1 j c F c2 p d Q c3 q e Z c4 s g n5 c5 t,v=V z a D c1 c F c2 d Q c3 e Z c4 g n5 c5∧St w (eh L') (Res.own (cn e1 T1) j (x1 z) [.slice a D c1]::Res.own (cn e2 T2) p (x2 z) [.slice c F c2]::Res.own (cn e3 T3) q (A z) [.slice d Q c3]::Res.own (cn e4 T4) s (x4 z) [.slice e Z c4]::Res.own (cn e5 T5) t (C z) [.slice g n5 c5]::R z a c1 j c c2 p d c3 q e c4 s g c5 t) w')(h:(o.op,evs E xs,m.here (o::rest),wt l E o.guard,fo n o.dst,jM L idx,qA idx,gFn fn)=(.call {callee:=.value (.func f),args:=xs.toArray,argTypes:=ts},some vs,true,some true,true,L',true,true))(hL:∀z a c1 j c c2 p d c3 q e c4 s g c5 t,nO L idx++(Res.own (cn e1 T1) j (x1 z) [.slice a (x1 z).length c1]::Res.own (cn e2 T2) p (x2 z) [.slice c (x2 z).length c2]::Res.own (cn e3 T3) q (A z) [.slice d (A z).length c3]::Res.own (cn e4 T4) s (x4 z) [.slice e (x4 z).length c4]::Res.own (cn e5 T5) t (C z) [.slice g (C z).length c5]::R z a c1 j c c2 p d c3 q e c4 s g c5 t)=LL z a c1 j c c2 p d c3 q e c4 s g c5 t)(hS:∀z a c1 j c c2 p d c3 q e c4 s g c5 t,Kp m (St w0 M (LL z a c1 j c c2 p d c3 q e c4 s g c5 t)))(k:∀z,X=some z→G z=some r→∀a c1 j c c2 p d c3 q e c4 s g c5 t,OW P n l (St w0 M (LL z a c1 j c c2 p d c3 q e c4 s g c5 t)) (upd E o.dst (V z a (x1 z).length c1 c (x2 z).length c2 d (A z).length c3 e (x4 z).length c4 g (C z).length c5)) m rest):OW P n l (St w0 M L) E m (o::rest):=by
 refine bE H λz hz H=>?_;have k:=k z hz H;simp only [Prod.mk.injEq] at h;obtain ⟨h1,h2,h3,h4,h5,h6,h7,h8⟩:=h;refine cy h1 (iF hf h8) h3 h4 h5 h2 (hc hz) λv w w' hC x=>?_;obtain ⟨a,D,c1,j,c,F,c2,p,d,Q,c3,q,e,Z,c4,s,g,n5,c5,t,rfl,x⟩:=x;obtain rfl:=bH (i:=0) x rfl;obtain rfl:=bH (i:=1) x rfl;obtain rfl:=bH (i:=2) x rfl;obtain rfl:=bH (i:=3) x rfl;obtain rfl:=bH (i:=4) x rfl;exact ⟨_,hL z a c1 j c c2 p d c3 q e c4 s g c5 t▸hC.comp idx h6 h7 x,λu hu=>hS z a c1 j c c2 p d c3 q e c4 s g c5 t u hu,k a c1 j c c2 p d c3 q e c4 s g c5 t⟩
theorem y0 {V:Value}{R:List Res}{v0:Value}(idx:List Nat)(h:(v0,jM L idx,qA idx)=(V,R,true)):∀w,St w0 M L w→∃v,Ending.returned v0=.returned v∧v=V∧St w0 M (R) w:=λw a=>by
 simp only [Prod.mk.injEq] at h;exact ⟨_,rfl,h.1,a.sel idx h.2.1 h.2.2⟩
theorem y1 {V:Option Addr→Nat→Nat→List Nat→Value}{R:Option Addr→Nat→Nat→List Nat→List Res}{v0:Value}{a:Option Addr}{c c1:Nat}{d:List Nat}(idx:List Nat)(h:(v0,jM L idx,qA idx)=(V a c c1 d,R a c c1 d,true)):∀w,St w0 M L w→∃v,Ending.returned v0=.returned v∧∃a c c1 d,v=V a c c1 d∧St w0 M (R a c c1 d) w:=λw e=>by
 simp only [Prod.mk.injEq] at h;exact ⟨_,rfl,_,_,_,_,h.1,e.sel idx h.2.1 h.2.2⟩
theorem y2 {V:Option Addr→Nat→Nat→List Nat→Option Addr→Nat→Nat→List Nat→Value}{R:Option Addr→Nat→Nat→List Nat→Option Addr→Nat→Nat→List Nat→List Res}{v0:Value}{a:Option Addr}{c c1:Nat}{d:List Nat}{e:Option Addr}{f c2:Nat}{g:List Nat}(idx:List Nat)(h:(v0,jM L idx,qA idx)=(V a c c1 d e f c2 g,R a c c1 d e f c2 g,true)):∀w,St w0 M L w→∃v,Ending.returned v0=.returned v∧∃a c c1 d e f c2 g,v=V a c c1 d e f c2 g∧St w0 M (R a c c1 d e f c2 g) w:=λw i=>by
 simp only [Prod.mk.injEq] at h;exact ⟨_,rfl,_,_,_,_,_,_,_,_,h.1,i.sel idx h.2.1 h.2.2⟩
theorem y3 {V:Option Addr→Nat→Nat→List Nat→Option Addr→Nat→Nat→List Nat→Option Addr→Nat→Nat→List Nat→Value}{R:Option Addr→Nat→Nat→List Nat→Option Addr→Nat→Nat→List Nat→Option Addr→Nat→Nat→List Nat→List Res}{v0:Value}{a:Option Addr}{c c1:Nat}{d:List Nat}{e:Option Addr}{f c2:Nat}{g:List Nat}{i:Option Addr}{j c3:Nat}{k:List Nat}(idx:List Nat)(h:(v0,jM L idx,qA idx)=(V a c c1 d e f c2 g i j c3 k,R a c c1 d e f c2 g i j c3 k,true)):∀w,St w0 M L w→∃v,Ending.returned v0=.returned v∧∃a c c1 d e f c2 g i j c3 k,v=V a c c1 d e f c2 g i j c3 k∧St w0 M (R a c c1 d e f c2 g i j c3 k) w:=λw l=>by
 simp only [Prod.mk.injEq] at h;exact ⟨_,rfl,_,_,_,_,_,_,_,_,_,_,_,_,h.1,l.sel idx h.2.1 h.2.2⟩
theorem y4 {V:Option Addr→Nat→Nat→List Nat→Option Addr→Nat→Nat→List Nat→Option Addr→Nat→Nat→List Nat→Option Addr→Nat→Nat→List Nat→Value}{R:Option Addr→Nat→Nat→List Nat→Option Addr→Nat→Nat→List Nat→Option Addr→Nat→Nat→List Nat→Option Addr→Nat→Nat→List Nat→List Res}{v0:Value}{a:Option Addr}{c c1:Nat}{d:List Nat}{e:Option Addr}{f c2:Nat}{g:List Nat}{i:Option Addr}{j c3:Nat}{k:List Nat}{l:Option Addr}{m c4:Nat}{o:List Nat}(idx:List Nat)(h:(v0,jM L idx,qA idx)=(V a c c1 d e f c2 g i j c3 k l m c4 o,R a c c1 d e f c2 g i j c3 k l m c4 o,true)):∀w,St w0 M L w→∃v,Ending.returned v0=.returned v∧∃a c c1 d e f c2 g i j c3 k l m c4 o,v=V a c c1 d e f c2 g i j c3 k l m c4 o∧St w0 M (R a c c1 d e f c2 g i j c3 k l m c4 o) w:=λw p=>by
 simp only [Prod.mk.injEq] at h;exact ⟨_,rfl,_,_,_,_,_,_,_,_,_,_,_,_,_,_,_,_,h.1,p.sel idx h.2.1 h.2.2⟩
theorem y5 {V:Option Addr→Nat→Nat→List Nat→Option Addr→Nat→Nat→List Nat→Option Addr→Nat→Nat→List Nat→Option Addr→Nat→Nat→List Nat→Option Addr→Nat→Nat→List Nat→Value}{R:Option Addr→Nat→Nat→List Nat→Option Addr→Nat→Nat→List Nat→Option Addr→Nat→Nat→List Nat→Option Addr→Nat→Nat→List Nat→Option Addr→Nat→Nat→List Nat→List Res}{v0:Value}{a:Option Addr}{c c1:Nat}{d:List Nat}{e:Option Addr}{f c2:Nat}{g:List Nat}{i:Option Addr}{j c3:Nat}{k:List Nat}{l:Option Addr}{m c4:Nat}{o:List Nat}{p:Option Addr}{q c5:Nat}{r:List Nat}(idx:List Nat)(h:(v0,jM L idx,qA idx)=(V a c c1 d e f c2 g i j c3 k l m c4 o p q c5 r,R a c c1 d e f c2 g i j c3 k l m c4 o p q c5 r,true)):∀w,St w0 M L w→∃v,Ending.returned v0=.returned v∧∃a c c1 d e f c2 g i j c3 k l m c4 o p q c5 r,v=V a c c1 d e f c2 g i j c3 k l m c4 o p q c5 r∧St w0 M (R a c c1 d e f c2 g i j c3 k l m c4 o p q c5 r) w:=λw s=>by
 simp only [Prod.mk.injEq] at h;exact ⟨_,rfl,_,_,_,_,_,_,_,_,_,_,_,_,_,_,_,_,_,_,_,_,h.1,s.sel idx h.2.1 h.2.2⟩
theorem kh1 {γ0:Sort _}{γ1:Sort _}{γ2:Sort _}{γ3:Sort _}{C:γ0→γ1→γ2→γ3→World→Prop}:∀x0 x1 x2 a,Kp (.lex Q) (C x0 x1 x2 a):=λ_ _ _ _=>kp
theorem kh2 {γ0:Sort _}{γ1:Sort _}{γ2:Sort _}{γ3:Sort _}{γ4:Sort _}{γ5:Sort _}{γ6:Sort _}{C:γ0→γ1→γ2→γ3→γ4→γ5→γ6→World→Prop}:∀x0 x1 x2 a x4 c d,Kp (.lex Q) (C x0 x1 x2 a x4 c d):=λ_ _ _ _ _ _ _=>kp
theorem kh3 {γ0:Sort _}{γ1:Sort _}{γ2:Sort _}{γ3:Sort _}{γ4:Sort _}{γ5:Sort _}{γ6:Sort _}{γ7:Sort _}{γ8:Sort _}{γ9:Sort _}{C:γ0→γ1→γ2→γ3→γ4→γ5→γ6→γ7→γ8→γ9→World→Prop}:∀x0 x1 x2 a x4 c d x7 e x9,Kp (.lex Q) (C x0 x1 x2 a x4 c d x7 e x9):=λ_ _ _ _ _ _ _ _ _ _=>kp
theorem kh4 {γ0:Sort _}{γ1:Sort _}{γ2:Sort _}{γ3:Sort _}{γ4:Sort _}{γ5:Sort _}{γ6:Sort _}{γ7:Sort _}{γ8:Sort _}{γ9:Sort _}{γ10:Sort _}{γ11:Sort _}{γ12:Sort _}{C:γ0→γ1→γ2→γ3→γ4→γ5→γ6→γ7→γ8→γ9→γ10→γ11→γ12→World→Prop}:∀x0 x1 x2 c x4 d e x7 f x9 x10 x11 a,Kp (.lex Q) (C x0 x1 x2 c x4 d e x7 f x9 x10 x11 a):=λ_ _ _ _ _ _ _ _ _ _ _ _ _=>kp
theorem kh5 {γ0:Sort _}{γ1:Sort _}{γ2:Sort _}{γ3:Sort _}{γ4:Sort _}{γ5:Sort _}{γ6:Sort _}{γ7:Sort _}{γ8:Sort _}{γ9:Sort _}{γ10:Sort _}{γ11:Sort _}{γ12:Sort _}{γ13:Sort _}{γ14:Sort _}{γ15:Sort _}{C:γ0→γ1→γ2→γ3→γ4→γ5→γ6→γ7→γ8→γ9→γ10→γ11→γ12→γ13→γ14→γ15→World→Prop}:∀x0 x1 x2 f x4 g h x7 i x9 x10 x11 a c d e,Kp (.lex Q) (C x0 x1 x2 f x4 g h x7 i x9 x10 x11 a c d e):=λ_ _ _ _ _ _ _ _ _ _ _ _ _ _ _ _=>kp
theorem wk (L':List Res)(idx:List Nat){c:Code}(h:(jM L idx,qA idx)=(L',true))(k:CW P n (St w0 M L') E Q c):CW P n (St w0 M L) E Q c:=by
 simp only [Prod.mk.injEq] at h;exact k.weak λ_ a=>a.sel idx h.1 h.2
theorem rA (idx:List Nat){R:Env}{c:Code}{k:Nat}{L':List Res}(h:RW P n (St w0 M L') R Q c k)(a:(jM L idx,qA idx,R.map λp=>kA E p.1)=(L',true,R.map λp=>some p.2)):RW P n (St w0 M L) E Q c k:=by
 simp only [Prod.mk.injEq] at a;exact h.at (λ_ d=>d.sel idx a.1 a.2.1) (sb a.2.2)
theorem iA (idx:List Nat){R:Env}{c:Code}{k:Nat}{L':List Res}(h:RW P n (St w0 M L') R Q c k)(a:(jM L idx,qA idx,R.map λp=>kA E p.1)=(L',true,R.map λp=>some p.2)):XW n (St w0 M L) E (QL P c k Q) .normal:=GD (rA idx h a)
theorem iJ (idx:List Nat){R:Env}{x:Exit}{L':List Res}(h:XW n (St w0 M L') R Q x)(a:(jM L idx,qA idx,R.map λp=>kA E p.1)=(L',true,R.map λp=>some p.2)):XW n (St w0 M L) E Q x:=by
 simp only [Prod.mk.injEq] at a;exact h.at (λ_ c=>c.sel idx a.1 a.2.1) (sb a.2.2)
theorem xc2 {R:Ending→World→Prop}{v:Value}{t e:Tmp}{T c:TypeId}{b sz by_ f d g:Nat}{z cs l a:List Value}{rs:List ResultVar}{vs:List Value}{fn:Func}(i m:Nat)(ty:eN P T true sz by_ z)(j:eN P c true d g l)(h:(fn.results,kA E t,L[i]?,cs.length,kA E e,L[m]?,a.length,rvs E rs,BN (.agg cs.toArray :: .agg a.toArray::vs))=((ResultVar.cell t T :: .cell e c::rs).toArray,some (.pointer (some ⟨b,0,none⟩)),some (Res.box b T cs),sz,some (.pointer (some ⟨f,0,none⟩)),some (Res.box f c a),d,some vs,v))(k:∀w,St w0 M L w→R (.returned v) w):XW n (St w0 M L) E (bodyPost P fn R) .ret:=by
 simp only [Prod.mk.injEq] at h;obtain ⟨h1,o,p,q,r,s,u,x,A⟩:=h;exact Bg h1 (vs:=.agg cs.toArray :: .agg a.toArray::vs) ⟨⟨_,cs,_,_,_,o,ty,oE (T:=T) 0 (tg p) (by simp),q,rfl⟩,⟨_,a,_,_,_,r,j,oE (T:=c) 0 (tg s) (by simp),u,rfl⟩,Ge x⟩ λw C=>A▸k w C
theorem xc3 {R:Ending→World→Prop}{v:Value}{t j l:Tmp}{T d e:TypeId}{b sz by_ m f o p g q:Nat}{z cs A a C c:List Value}{rs:List ResultVar}{vs:List Value}{fn:Func}(i D F:Nat)(ty:eN P T true sz by_ z)(r:eN P d true f o A)(ty3:eN P e true g q C)(h:(fn.results,kA E t,L[i]?,cs.length,kA E j,L[D]?,a.length,kA E l,L[F]?,c.length,rvs E rs,BN (.agg cs.toArray :: .agg a.toArray :: .agg c.toArray::vs))=((ResultVar.cell t T :: .cell j d :: .cell l e::rs).toArray,some (.pointer (some ⟨b,0,none⟩)),some (Res.box b T cs),sz,some (.pointer (some ⟨m,0,none⟩)),some (Res.box m d a),f,some (.pointer (some ⟨p,0,none⟩)),some (Res.box p e c),g,some vs,v))(k:∀w,St w0 M L w→R (.returned v) w):XW n (St w0 M L) E (bodyPost P fn R) .ret:=by
 simp only [Prod.mk.injEq] at h;obtain ⟨h1,G,H,Q,X,Z,h7,h8,h9,s,u,x⟩:=h;exact Bg h1 (vs:=.agg cs.toArray :: .agg a.toArray :: .agg c.toArray::vs) ⟨⟨_,cs,_,_,_,G,ty,oE (T:=T) 0 (tg H) (by simp),Q,rfl⟩,⟨_,a,_,_,_,X,r,oE (T:=d) 0 (tg Z) (by simp),h7,rfl⟩,⟨_,c,_,_,_,h8,ty3,oE (T:=e) 0 (tg h9) (by simp),s,rfl⟩,Ge u⟩ λw hw=>x▸k w hw
theorem sH (off:Nat)(vs:List Value)(p:Nat)(c':List Value){α:Type}{e:Enc α}{o:Oper}{t:TypeId}{x y:Operand}{q:Addr}{b cap i:Nat}{v:Value}{agg:Bool}{sz by_:Nat}{z:List Value}{T:TypeId}{xs:List α}{G:List Nat}{c:List Value}(g:eN P t agg sz by_ z)(h:(o.op,m.here (o::rest),wt l E o.guard,fo n o.dst,ev E x,ev E y,v.cells,vs.length,vs.all Value.oneCell',L[p]?,Nat.ble (off+sz) e.sz,ir c off vs)=(.store t x y,true,some true,true,some (.pointer (some q)),some v,vs.toArray,sz,true,some (Res.hole e T b cap xs i G c),true,c'))(j:Kp m (St w0 M (L.set p (Res.hole e T b cap xs i G c'))))(hk:OW P n l (St w0 M (L.set p (Res.hole e T b cap xs i G c'))) (upd E o.dst undef) m rest)(k:q=⟨b,i*e.sz+off,none⟩:=by first|rfl|simp only [fh,gN,fp]):OW P n l (St w0 M L) E m (o::rest):=by
 simp only [Prod.mk.injEq] at h;obtain ⟨h1,r,s,u,w,A,C,D,F,a,d,f⟩:=h;exact SU vs h1 r s u w k A g C D (List.all_eq_true.1 F) a d f j hk
theorem lpC {α:Type}{c:Code}(Lf:α→List Res)(Ef:α→Env)(g:Nat→α→Prop)(idx:List Nat)(step:∀k,(∀x,g k x→RW P n (St w0 M (Lf x)) (Ef x) Q c k)→∀x,g (k+1) x→CW P n (St w0 M (Lf x)) (Ef x) (QL P c k Q) c){x:α}(a:g bc x)(h:(jM L idx,qA idx,(Ef x).map λp=>kA E p.1)=(Lf x,true,(Ef x).map λp=>some p.2))(d:∀x,¬g 0 x):CW P n (St w0 M L) E Q (.loop c):=by
 simp only [Prod.mk.injEq] at h;exact (YP (λx=>St w0 M (Lf x)) Ef g d step bc x a).at (λ_ e=>e.sel idx h.1 h.2.1) (sb h.2.2)
abbrev Arr:List Type→Type→Type
 | [],R=>R
 | T::Ts,R=>T→Arr Ts R
abbrev oT (T:Type)(Ts:List Type):List Type:=List T::Option Addr::Nat::List Nat::Ts
abbrev Al:(Ts:List Type)→Arr Ts (List Res)→Arr Ts Env→Arr Ts Prop→(Prop→List Res→Env→Prop)→Prop
 | [],A,R,g,F=>F g A R
 | _::Ts,A,R,g,F=>∀{x},Al Ts (A x) (R x) (g x) F
abbrev Ae:(Ts:List Type)→Arr Ts (List Res)→Arr Ts Env→Arr Ts Prop→(Prop→List Res→Env→Prop)→Prop
 | [],A,R,g,F=>F g A R
 | _::Ts,A,R,g,F=>∀x,Ae Ts (A x) (R x) (g x) F
abbrev Ex:(Ts:List Type)→Arr Ts (List Res)→Arr Ts Env→Arr Ts Prop→(Prop→List Res→Env→Prop)→Prop
 | [],A,R,g,F=>F g A R
 | _::Ts,A,R,g,F=>∃x,Ex Ts (A x) (R x) (g x) F
def Pr:List Type→Type
 | []=>Unit
 | T::Ts=>T×Pr Ts
def un {R:Type}:(Ts:List Type)→Arr Ts R→Pr Ts→R
 | [],f,_=>f
 | _::Ts,f,x=>un Ts (f x.1) x.2
theorem aEe:∀{Ts A R g F},Ae Ts A R g F↔∀x,F (un Ts g x) (un Ts A x) (un Ts R x)
 | [],_,_,_,_=>⟨λh _=>h,λh=>h ()⟩
 | _::_,_,_,_,_=>⟨λh x=>aEe.1 (h x.1) x.2,λh x=>aEe.2 λy=>h (x,y)⟩
theorem aLl:∀{Ts A R g F},Al Ts A R g F↔∀x,F (un Ts g x) (un Ts A x) (un Ts R x)
 | [],_,_,_,_=>⟨λh _=>h,λh=>h ()⟩
 | _::_,_,_,_,_=>⟨λh x=>aLl.1 (@h x.1) x.2,λh x=>aLl.2 λy=>h (x,y)⟩
theorem eXx:∀{Ts A R g F},Ex Ts A R g F→∃x,F (un Ts g x) (un Ts A x) (un Ts R x)
 | [],_,_,_,_,h=>⟨(),h⟩
 | _::_,_,_,_,_,⟨x,h⟩=>let ⟨y,k⟩:=eXx h;⟨(x,y),k⟩
theorem lp (Ts:List Type){c:Code}(Lf:Arr Ts (List Res))(Ef:Arr Ts Env)(g:Nat→Arr Ts Prop)(idx:List Nat)(step:∀k,Al Ts Lf Ef (g k) (λp A R=>p→RW P n (St w0 M A) R Q c k)→Ae Ts Lf Ef (g (k+1)) (λp A R=>p→CW P n (St w0 M A) R (QL P c k Q) c))(h:Ex Ts Lf Ef (g bc) λp A R=>p∧(jM L idx,qA idx,R.map λp=>kA E p.1)=(A,true,R.map λp=>some p.2))(a:Ae Ts Lf Ef (g 0) (λp _ _=>¬p):=by (repeat intro H);first|exact nomatch H|exact nomatch H.2|exact nomatch H.2.2):CW P n (St w0 M L) E Q (.loop c):=let ⟨_,d,e⟩:=eXx h
 lpC (un Ts Lf) (un Ts Ef) (λk=>un Ts (g k)) idx (λk ih x f=>aEe.1 (step k (aLl.2 ih)) x f) d e (aEe.1 a)
theorem jn (Ts:List Type){x y:Code}(Lf:Arr Ts (List Res))(Ef:Arr Ts Env)(g:Arr Ts Prop)(a:Ae Ts Lf Ef g λp A R=>p→CW P n (St w0 M A) R Q y)(c:(Al Ts Lf Ef g λp A R=>p→XW n (St w0 M A) R (QS P y Q) .normal)→CW P n (St w0 M L) E (QS P y Q) x):CW P n (St w0 M L) E Q (.seq x y):=ai (c (aLl.2 λz H=>bM (aEe.1 a z H)))
end Go.Vk
/- The library's functions of strings, by their contracts: joined, repeated, numbers in decimal; a table of the library's that is read. -/
namespace Go.Vk
open Go.RowKit Go.Proofs Go.Shelf
variable {P:Program} {ρ:Ren}
def Yo (P:Program)(name:String)(vs:Array Value):Enc Unit where
 sz:=0
 rd:=λw X _ cs=>cs=[]∧∃g t m,P.globalNamed name=some g∧g∉X∧w.heap[g]?=some (.cells vs t m)
 own:=λ_ _ _ _=>False
 rd_len:=λh=>by rw [h.1];rfl
 rd_loc:=λ⟨d,g,t,m,h1,c,a⟩ h=>⟨d,g,t,m,h1,c,by
  rw [h g (by
   rcases Nat.lt_or_ge g _ with hl|hl
   ·exact hl
   rw [Array.getElem?_eq_none hl] at a;cases a) c]
  exact a⟩
 rd_anti:=λ⟨d,g,t,m,h1,c,a⟩ h=>⟨d,g,t,m,h1,λe=>c (h g (by
   rcases Nat.lt_or_ge g _ with hl|hl
   ·exact hl
   rw [Array.getElem?_eq_none hl] at a;cases a) e),a⟩
 own_loc:=λh _=>h.elim
 own_rd:=λh _=>h.elim
 own_lt:=λh=>h.elim
 one:=λh u f=>by rw [h.1] at f;cases f
theorem XV {name:String}{k:IntKind}{zs:List Int}{w:World}{X:List Nat}{cs:List Value}(h:(Yo P name (zs.map λz=>Value.int k z).toArray).rd w X () cs):Lib.TabIs P w name k zs:=by
 obtain ⟨_,g,t,m,h1,_,a⟩:=h;unfold Lib.TabIs World.var?;rw [h1];simp [a]
theorem YS {name:String}{k:IntKind}{zs:List Int}{w:World}(h:Lib.TabIs P w name k zs):(Yo P name (zs.map λz=>Value.int k z).toArray).rd w [] () []:=by
 unfold Lib.TabIs World.var? at h;obtain ⟨g,h1,a⟩:=Option.bind_eq_some_iff.1 h;split at a
 ·rename_i cs t m c;obtain rfl:=Option.some.inj a;exact ⟨rfl,g,t,m,h1,by simp,c⟩
 cases a
theorem CN {w w':World}(h:Below w.heap.size w w'):Ext [] w w':=⟨h.os,h.tape,h.output,h.size,λb a _=>h.block b a⟩
def Rn (n:Int):Option (List UInt8):=if -9223372036854775808≤n∧n≤9223372036854775807 then some (Lib.itoa n) else none
abbrev MJ (P:Program):Enc Unit:=Yo P "internal/strconv.uint64pow10" (Lib.pow10Tab.map λz=>Value.int .u64 z).toArray
theorem WD (L:LaysM.n171 P ρ)(w:World){n:Int}{z:List UInt8}(h:Rn n=some z)(g:(MJ P).rd w [] () []):Calls P (ρ.f 171) #[.int .i64 n] w (λen w'=>en=.returned (vS z)∧Ext [] w w'):=by
 unfold Rn at h;split at h
 ·rename_i a;obtain rfl:=Option.some.inj h;refine (Any.strconv_Itoa L n a.1 a.2 w (XV g)).mono λen w' ⟨h1,k,os,c⟩=>⟨h1,?_⟩;subst c;refine ⟨rfl,rfl,rfl,?_,λb d _=>?_⟩
  ·show w.heap.size≤(w.heap++os).size;simp
  show (w.heap++os)[b]?=w.heap[b]?;rw [Array.getElem?_append_left d]
 cases h
def Cs (xs:List (List UInt8))(sep:List UInt8):Option (List UInt8):=if xs.length≤140737488355328∧(Lib.join xs sep).length≤140737488355328 then some (Lib.join xs sep) else none
theorem IG (L:Lays.n156 P ρ)(X:Builder.Extra P ρ)(w:World){xs:List (List UInt8)}{sep z:List UInt8}{T:TypeId}{a:Option Addr}{n c:Nat}(h:Cs xs sep=some z)(g:(cn qX T).rd w [] xs [.slice a n c]):Calls P (ρ.f 156) #[.slice a n c,vS sep] w (λen w'=>en=.returned (vS z)∧Ext [] w w'):=by
 unfold Cs at h;split at h
 ·rename_i v;obtain rfl:=Option.some.inj h;obtain ⟨a',c',A,h1,Q,F⟩:=g;simp only [List.cons.injEq,Value.slice.injEq,and_true] at A;obtain ⟨rfl,rfl,rfl⟩:=A
  have C:(xs.map λl=>(⟨l.toArray⟩:ByteArray)).map (·.data.toList)=xs:=by
   rw [List.map_map];exact (List.map_congr_left (λl _=>by simp)).trans (List.map_id _)
  cases e:xs with
  | nil =>
   subst e;refine (Any.strings_Join_none L X a c ⟨sep.toArray⟩ w).mono λen w' ⟨m,s⟩=>⟨?_,?_⟩
   ·rw [m];rfl
   rw [s];exact Ext.refl _ _
  | cons x r =>
   obtain ⟨p,rfl,G⟩:=F (by rw [e];simp)
   have k:∀j y,xs[j]?=some y→w.cell? (p.add j)=some (vS y):=λj y d=>by
    obtain ⟨ds,t,H⟩:=G j y d;have t:ds=[vS y]:=t;subst t;have:=H.2 0 (vS y) rfl;have M:qX.sz=1:=rfl;rw [M,Nat.mul_one] at this;rwa [fp] at this
   have i:=k 0 x (by rw [e];rfl);have D:=World.block_lt_of_cell? w _ i;obtain ⟨bk,o,sp⟩:=p
   have E:sp=none:=by
    cases sp with
    | none=>rfl
    | some q =>
     rw [fp] at i;unfold World.cell? at i;split at i<;>simp at i
   subst E;rw [←e]
   have key:=Any.strings_Join L X bk o c (xs.map λl=>(⟨l.toArray⟩:ByteArray)) ⟨sep.toArray⟩ w (λj y d=>by
    rw [List.getElem?_map] at d
    cases u:xs[j]? with
    | none=>rw [u] at d;cases d
    | some l =>
     rw [u] at d;obtain rfl:=Option.some.inj d;have:=k j l u;rw [fh] at this;exact this) (by rw [fp] at D;exact D) (by rw [List.length_map];exact v.1) (by rw [List.length_map];exact h1) (by rw [C];simpa using v.2)
   rw [List.length_map,C] at key;refine key.mono λen w' ⟨m,s⟩=>⟨?_,CN s⟩;rw [m];simp [vS]
 cases h
theorem Yx {n:Nat}{S:World→Prop}{E:Env}{o:Oper}{x y:Operand}{ts:Array TypeId}{k k':IntKind}{a b:Int}(d:o.op=.call {callee:=.builtin .max,args := #[x,y],argTypes:=ts})(e:ev E x=some (.int k a))(f:ev E y=some (.int k' b)):Ry P n S E o (.int k (if a<b then b else a)):=λfr c w g=>by
 unfold execOp;simp [d,resolve,invoke,builtin,c.ev e,c.ev f,Builtin.max_,Builtin.max2,List.foldlM]
end Go.Vk
