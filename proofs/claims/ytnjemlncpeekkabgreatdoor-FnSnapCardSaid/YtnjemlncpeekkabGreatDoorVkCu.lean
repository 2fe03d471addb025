/- The library's functions of texts: cut, numbers read, by their contracts; package variables that are only read. -/
import Derived.Test.YtnjemlncpeekkabGreatDoorVkBs
import Derived.Shelf.Strings.Cut
import Derived.Shelf.Strconv.AtoiAll
namespace Go.Vk
open Go.RowKit Go.Proofs Go.Shelf
variable {P:Program} {ρ:Ren}
theorem Qu {w:World}{g:Nat}{x:Obj}(h:w.heap[g]?=some x):g<w.heap.size:=by
 rcases Nat.lt_or_ge g w.heap.size with hl|hl
 ·exact hl
 rw [Array.getElem?_eq_none hl] at h;cases h
theorem PX {n:String}{g G:Nat}(h:P.globalNamed n=some g)(a:P.globals.findIdx? (·.name==n)=some G):g=G:=by
 unfold Program.globalNamed at h;split at h
 ·rename_i q e;obtain rfl:=Option.some.inj h;obtain ⟨h1,c,_⟩:=Array.findIdx?_eq_some_iff_getElem.1 a
  have:G∈(List.range P.globals.size).filter λg=>(P.globals[g]?).any (·.name==n):=by
   rw [List.mem_filter];refine ⟨List.mem_range.2 h1,?_⟩;rw [Array.getElem?_eq_getElem h1];simpa using c
  rw [e] at this;exact (List.mem_singleton.1 this).symm
 cases h
def Zo (P:Program)(l:List (String×(Array Value→Prop))):Enc Unit where
 sz:=0
 rd:=λw X _ cs=>cs=[]∧∀p∈l,∃g vs t m,P.globalNamed p.1=some g∧g∉X∧w.heap[g]?=some (.cells vs t m)∧p.2 vs
 own:=λ_ _ _ _=>False
 rd_len:=λh=>by rw [h.1];rfl
 rd_loc:=λ⟨d,h1⟩ h=>⟨d,λp e=>by
  obtain ⟨g,vs,t,m,f,c,a,i⟩:=h1 p e;exact ⟨g,vs,t,m,f,c,by rw [h g (Qu a) c];exact a,i⟩⟩
 rd_anti:=λ⟨d,h1⟩ h=>⟨d,λp e=>by
  obtain ⟨g,vs,t,m,f,c,a,i⟩:=h1 p e;exact ⟨g,vs,t,m,f,λj=>c (h g (Qu a) j),a,i⟩⟩
 own_loc:=λh _=>h.elim
 own_rd:=λh _=>h.elim
 own_lt:=λh=>h.elim
 one:=λh u k=>by rw [h.1] at k;cases k
def MT (vs:Array Value):Prop:=∃ev,vs[0]?=some ev∧(ev=.nilIface∨∃te pe,ev=.iface te pe)
def Vc (vs:Array Value):Prop:=∃m,vs[0]?=some (.int .i64 m)
abbrev eGl (P:Program):Enc Unit:=Zo P [("internal/strconv.uint64pow10",λvs=>vs=(Lib.pow10Tab.map λz=>Value.int .u64 z).toArray),("internal/bytealg.MaxLen",Vc),("strconv.ErrSyntax",MT),("strconv.ErrRange",MT)]
theorem YH {w:World}{X:List Nat}(h:(eGl P).rd w X () []):(MJ P).rd w X () []:=by
 obtain ⟨g,vs,t,m,c,d,e,a⟩:=h.2 _ (List.mem_cons_self ..);have a:vs=_:=a;subst a;exact ⟨rfl,g,t,m,c,d,e⟩
theorem Mj {w:World}{X:List Nat}(h:(eGl P).rd w X () []){p:String×(Array Value→Prop)}{q:Value→Prop}(a:p∈[("internal/bytealg.MaxLen",Vc),("strconv.ErrSyntax",MT),("strconv.ErrRange",MT)])(c:∀vs,p.2 vs→∃v,vs[0]?=some v∧q v){G:Nat}(d:P.globals.findIdx? (·.name==p.1)=some G):∃v,w.cell? ⟨G,0,none⟩=some v∧q v:=by
 obtain ⟨g,vs,t,m,f,l,i,j⟩:=h.2 p (List.mem_cons_of_mem _ a);obtain ⟨v,h1,k⟩:=c vs j;have e:g=G:=PX f d;subst e;exact ⟨v,by unfold World.cell?;simp [i,h1],k⟩
def RZ (s sep:List UInt8):Option (List UInt8×List UInt8×Bool):=if s.length<4294967281 then some (Lib.cut s sep) else none
theorem PH (L:Lays.n145 P ρ)(w:World){s sep:List UInt8}{z:List UInt8×List UInt8×Bool}(h:RZ s sep=some z)(g:(eGl P).rd w [] () []):Calls P (ρ.f 145) #[vS s,vS sep] w (λen w'=>en=.returned (.tuple #[vS z.1,vS z.2.1,.bool z.2.2])∧Ext [] w w'):=by
 unfold RZ at h;split at h
 ·rename_i c;obtain rfl:=Option.some.inj h;obtain ⟨_,a,m,rfl⟩:=Mj (q:=λv=>∃m,v=.int .i64 m) g (List.mem_cons_self ..) (λvs ⟨m,a⟩=>⟨_,a,m,rfl⟩) L.g1;refine (Any.strings_Cut L ⟨s.toArray⟩ ⟨sep.toArray⟩ m w (by simpa [ByteArray.size] using c) a).mono λen w' ⟨h1,n,d⟩=>⟨?_,?_⟩
  ·rw [h1];simp [vS]
  subst d;exact ⟨rfl,rfl,rfl,Nat.le_refl _,λ_ _ _=>rfl⟩
 cases h
def QV (s:List UInt8):Option (Int×Bool):=if s.length≤281474976710656 then some (match Lib.atoiAll s with
 | .ok v=>(v,true)
 | .range=>(Lib.atoiSat s,false)
 | _=>(0,false)) else none
theorem WS (L:LaysC.n172 P ρ)(w:World){e:List Nat}{s:List UInt8}{z:Int×Bool}(h:QV s=some z)(HS:St w e [] w)(g:(eGl P).rd w e () []):Calls P (ρ.f 172) #[vS s] w (λen w'=>∃v,en=.returned v∧∃(t:TypeId)(p:Value),v=.tuple #[.int .i64 z.1,bif z.2 then .nilIface else .iface t p]∧St w e [] w'):=by
 unfold QV at h;split at h
 ·rename_i l;obtain rfl:=Option.some.inj h;have d:(⟨s.toArray⟩:ByteArray).data.toList=s:=by simp
  have k:(⟨s.toArray⟩:ByteArray).size≤281474976710656:=by simpa [ByteArray.size] using l
  cases i:Lib.atoiAll s with
  | ok v =>
   refine (Any.strconv_Atoi_ok L ⟨s.toArray⟩ (by omega) v (by rw [d];exact i) w).mono λen w' ⟨h1,a⟩=>⟨_,h1,0,.nilIface,rfl,?_⟩;rcases a with rfl|⟨t,rfl⟩
   ·exact HS
   exact HS.step (CN (Lib.bytesWorld_below _ _ _))
  | range =>
   obtain ⟨ev,j,c⟩:=Mj (q:=λev=>ev=.nilIface∨∃te pe,ev=.iface te pe) g (List.mem_cons_of_mem _ (List.mem_cons_of_mem _ (List.mem_cons_self ..))) (λvs h=>h) L.g16;refine (Any.strconv_Atoi_range L ⟨s.toArray⟩ k (by rw [d];exact i) ev w j c).mono λen w' ⟨N,h1,_,_,a⟩=>⟨_,h1,_,_,by rw [d];rfl,HS.step (CN a)⟩
  | _ =>
   obtain ⟨ev,j,c⟩:=Mj (q:=λev=>ev=.nilIface∨∃te pe,ev=.iface te pe) g (List.mem_cons_of_mem _ (List.mem_cons_self ..)) (λvs h=>h) L.g15;refine (Any.strconv_Atoi_syntax L ⟨s.toArray⟩ k (by rw [d];exact i) ev w j c).mono λen w' ⟨N,h1,_,_,a⟩=>⟨_,h1,_,_,rfl,HS.step (CN a)⟩
 cases h
def Yw (P:Program)(T:TypeId):Prop:=P.underlying T=some (.interface (P.methodsAt T))
theorem Yp {n:Nat}{C:World→Prop}{E:Env}{o:Oper}{T u:TypeId}{x:Operand}{b:Bool}{t:TypeId}{p:Value}(d:o.op=.binOp .neq T x (.const .nilIface) u)(e:ev E x=some (bif b then .nilIface else .iface t p))(f:Yw P T):Ry P n C E o (.bool (!b)):=λfr g w _=>by
 have h:fr.eval (.const .nilIface)=.nilIface:=rfl;cases b
 ·have hx':ev E x=some (.iface t p):=e;have a:=run_neq_held_nil (P:=P) (w:=w) T t p f;have c:eqGuard .neq T x (.const .nilIface) (.iface t p) .nilIface=pure ():=rfl;unfold execOp;simp only [d,g.ev hx',h,c,Sem.run_bind,Sem.run_pure,Result.andThen_ok,a];rfl
 have hx':ev E x=some .nilIface:=e;have a:=run_neq_nil_nil (P:=P) (w:=w) T f;have c:eqGuard .neq T x (.const .nilIface) .nilIface .nilIface=pure ():=by cases x<;>rfl
 unfold execOp;simp only [d,g.ev hx',h,c,Sem.run_bind,Sem.run_pure,Result.andThen_ok,a];rfl
theorem yk {n:Nat}{C:World→Prop}{E:Env}{m:Md}{l rest:List Oper}{o:Oper}{t et:TypeId}{x i:Operand}{agg:Bool}{sz by_:Nat}{z:List Value}{k:IntKind}{j:Int}{nn b cap q:Nat}(d:o.op=.indexAddr t x i)(e:wt l E o.guard=some true)(f:fo n o.dst=true)(g:ev E x=some (.slice (some ⟨b,0,none⟩) nn cap))(h:ev E i=some (.int k j))(p:isSl P t et)(r:eN P et agg sz by_ z)(s:0≤j)(u:j.toNat<nn)(A:j.toNat*sz=q)(hk:OW P n l C (upd E o.dst (.pointer (some ⟨b,q,none⟩))) m rest):OW P n l C E m (o::rest):=by
 subst A;refine Lb e (aj f) (v:=.pointer (some ⟨b,j.toNat*sz,none⟩)) (λfr a w _=>?_) hk;have c:=wg (P:=P) p r ⟨b,0,none⟩ nn cap k j s u w;rw [fh,Nat.zero_add] at c;unfold execOp;simp only [d,a.ev g,a.ev h,Sem.run_bind,c];rfl
end Go.Vk
