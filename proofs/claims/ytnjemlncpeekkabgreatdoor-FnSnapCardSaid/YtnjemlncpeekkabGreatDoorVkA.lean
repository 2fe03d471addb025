/- Frames as slot lists, the walk's judgments. -/
import Derived.WalkKit
import Derived.Deep.Quiet
import Derived.Below
import Derived.LoopN
import Derived.OrdersHeld
import Derived.ChangeKeysEq
import Derived.Laws.MakeOwn
import Derived.Laws.Tables
import Derived.Great.BuildSlice
namespace Go.Vk
theorem Q0 {α:Sort _}{c:Prop}{h:Decidable c}{a b:α}(k:c:=by simp;omega):ite c a b=a:=if_pos k
theorem Q2 {α:Sort _}{c:Prop}{h:Decidable c}{a b:α}(k:c:=by simp):ite c a b=a:=if_pos k
theorem Q3 {α:Sort _}{c:Prop}{h:Decidable c}{a b:α}(k:c:=by omega):ite c a b=a:=if_pos k
theorem Q4 {α:Sort _}{c:Prop}{h:Decidable c}{a b:α}(k:¬c:=by simp;omega):ite c a b=b:=if_neg k
theorem Q5 {α:Sort _}{c:Prop}{h:Decidable c}{a b:α}(k:¬c:=by simp):ite c a b=b:=if_neg k
theorem Q6 {α:Sort _}{c:Prop}{h:Decidable c}{a b:α}(k:¬c:=by omega):ite c a b=b:=if_neg k
abbrev Env:=List (Nat×Value)
def kA:Env→Nat→Option Value
 | [],_=>none
 | (k,v)::E,t=>bif Nat.beq k t then some v else kA E t
structure Fr (n:Nat)(E:Env)(a:Act):Prop where
 sz:a.tmps.size=n
 df:a.defers=[]
 b_:∀t v,kA E t=some v→a.tmps.getD t undef=v
theorem Up {E:Env}{t:Nat}{v:Value}(h:kA E t=some v):(t,v)∈E:=by
 induction E with
 | nil=>simp [kA] at h
 | cons p E ih =>
  obtain ⟨k,u⟩:=p;simp only [kA] at h
  cases hk:Nat.beq k t with
  | true =>
   simp only [hk,cond_true,Option.some.injEq] at h;have:=Nat.eq_of_beq_eq_true hk;subst this;subst h;exact List.mem_cons_self
  | false =>
   simp only [hk,cond_false] at h;exact List.mem_cons_of_mem _ (ih h)
def Sub:Env→Env→Prop
 | [],_=>True
 | (t,v)::R,E=>kA E t=some v∧Sub R E
theorem Sub.mem {R E:Env}(h:Sub R E):∀t v,(t,v)∈R→kA E t=some v:=by
 induction R with
 | nil=>intro t v a;cases a
 | cons p R ih =>
  obtain ⟨k,u⟩:=p;intro t v a
  cases a with
  | head=>exact h.1
  | tail _ a=>exact ih h.2 t v a
theorem Fr.sub {n:Nat}{R E:Env}{a:Act}(h:Fr n E a)(c:Sub R E):Fr n R a:=⟨h.sz,h.df,λt v d=>h.b_ t v (c.mem t v (Up d))⟩
theorem La (xs:Array Value)(d:Nat)(v u:Value)(h:d<xs.size):(xs.setIfInBounds d v).getD d u=v:=by
 simp [Array.getD,h]
theorem JP (xs:Array Value)(d t:Nat)(v u:Value)(h:d≠t):(xs.setIfInBounds d v).getD t u=xs.getD t u:=by
 rw [Array.getD_eq_getD_getElem?,Array.getD_eq_getD_getElem?,Array.getElem?_setIfInBounds_ne h]
def upd (E:Env):Option Tmp→Value→Env
 | some d,v=>(d,v)::E
 | none,_=>E
theorem Fr.put {n:Nat}{E:Env}{a:Act}(h:Fr n E a)(d:Option Tmp)(v:Value)(i:∀t,d=some t→t<n):Fr n (upd E d v) (a.put d v):=by
 cases d with
 | none=>exact h
 | some d =>
  have f:=i d rfl;refine ⟨?_,h.df,?_⟩
  ·simpa [Act.put] using h.sz
  intro t u c;simp only [upd,kA] at c
  cases hk:Nat.beq d t with
  | true =>
   simp only [hk,cond_true,Option.some.injEq] at c;have:=Nat.eq_of_beq_eq_true hk;subst this;subst c;exact La _ _ _ _ (by rw [h.sz];exact f)
  | false =>
   simp only [hk,cond_false] at c;have g:d≠t:=λe=>by subst e;simp at hk
   show (a.tmps.setIfInBounds d v).getD t undef=u;rw [JP _ _ _ _ _ g];exact h.b_ t u c
def ev (E:Env):Operand→Option Value
 | .tmp t=>kA E t
 | .const v=>some v
 | .global g=>some (.pointer (some ⟨g,0,none⟩))
 | .func f=>some (.func (.func f) #[] #[])
theorem Fr.ev {n:Nat}{E:Env}{a:Act}(h:Fr n E a){x:Operand}{v:Value}(c:ev E x=some v):a.eval x=v:=by
 cases x with
 | tmp t=>exact h.b_ t v c
 | const u=>simpa [Vk.ev,Act.eval] using c
 | global g=>simpa [Vk.ev,Act.eval] using c
 | func f=>simpa [Vk.ev,Act.eval] using c
def wt (ops:List Oper)(E:Env):Option (Nat×Bool)→Option Bool
 | none=>some true
 | some (j,want) =>
  match (ops[j]?).bind (·.dst) with
  | some s =>
   match kA E s with
   | some (.bool b)=>some (b==want)
   | some (.tuple _)=>some false
   | _=>none
  | none=>none
theorem Fr.wt {n:Nat}{E:Env}{a:Act}(h:Fr n E a){ops:List Oper}{o:Oper}{b:Bool}(e:wt ops E o.guard=some b):Region.wanted o (yielded ops.toArray a.tmps)=b:=by
 unfold Region.wanted
 cases k:o.guard with
 | none=>simp only [k,Vk.wt,Option.some.injEq] at e;exact e
 | some p =>
  obtain ⟨j,want⟩:=p;simp only [k,Vk.wt] at e;simp only [yielded,List.getElem?_toArray]
  cases l:(ops[j]?).bind (·.dst) with
  | none=>simp [l] at e
  | some s =>
   simp only [l] at e
   cases g:kA E s with
   | none=>simp [g] at e
   | some u =>
    simp only [g] at e
    cases u with
    | bool c =>
     simp only [Option.some.injEq] at e;have d:=h.b_ s _ g
     have f:a.tmps[s]?=some (.bool c):=by
      rw [Array.getD_eq_getD_getElem?] at d
      cases i:a.tmps[s]? with
      | none=>rw [i] at d;simp [undef] at d
      | some y=>rw [i] at d;simpa using d
     simp only [Option.bind_some,f];rw [←e];cases c<;>cases want<;>rfl
    | tuple vs =>
     simp only [Option.some.injEq] at e;have d:=h.b_ s _ g
     have f:∀c,a.tmps[s]?≠some (.bool c):=by
      intro c m;rw [Array.getD_eq_getD_getElem?,m] at d;simp at d
     rw [←e];simp only [Option.bind_some]
     cases i:a.tmps[s]? with
     | none=>rfl
     | some y =>
      cases y with
      | bool c=>exact absurd i (f c)
      | _=>rfl
    | _=>simp at e
end Go.Vk
/- Memory as a list of local resources; readers of typed data. -/
namespace Go.Vk
open Go.RowKit
structure Ext (M:List Nat)(w w':World):Prop where
 os:w'.os=w.os
 tape:w'.tape=w.tape
 output:w'.output=w.output
 size:w.heap.size≤w'.heap.size
 block:∀b,b<w.heap.size→b∉M→w'.heap[b]?=w.heap[b]?
theorem Ext.refl (M:List Nat)(w:World):Ext M w w:=⟨rfl,rfl,rfl,Nat.le_refl _,λ_ _ _=>rfl⟩
theorem Ext.trans {M:List Nat}{a b c:World}(h:Ext M a b)(k:Ext M b c):Ext M a c:=⟨k.os.trans h.os,k.tape.trans h.tape,k.output.trans h.output,Nat.le_trans h.size k.size,
   λi d e=>(k.block i (Nat.lt_of_lt_of_le d h.size) e).trans (h.block i d e)⟩
theorem Ext.mono {M M':List Nat}{a b:World}(h:Ext M a b)(c:∀x∈M,x∈M'∨a.heap.size≤x):Ext M' a b:=⟨h.os,h.tape,h.output,h.size,λi d e=>h.block i d (λf=>by
  rcases c i f with h1|h1
  ·exact e h1
  omega)⟩
theorem Ext.below {w w':World}(h:Ext [] w w'):Below w.heap.size w w':=⟨h.os,h.tape,h.output,h.size,λk hk=>h.block k hk (by simp)⟩
theorem Ext.drew {M:List Nat}{a b:World}(h:Ext M a b):Ext M a b.drew:=⟨h.os,h.tape,h.output,h.size,h.block⟩
structure Res where
 F:List Nat
 ok:World→Prop
 loc:∀w w',(∀b∈F,w'.heap[b]?=w.heap[b]?)→ok w→ok w'
def Res.box (b:Nat)(T:TypeId)(cs:List Value):Res:=⟨[b],λw=>w.heap[b]?=some (.cells cs.toArray T (0,0)),λ_ _ h ok=>(h b (by simp)).trans ok⟩
def eh (L:List Res):List Nat:=L.flatMap (·.F)
structure St (w0:World)(M:List Nat)(L:List Res)(w:World):Prop where
 ext:Ext M w0 w
 ok:∀r∈L,r.ok w
 nd:(eh L).Nodup
 lt:∀b∈eh L,b<w.heap.size
 new:∀b∈eh L,w0.heap.size≤b∨b∈M
theorem ur {L:List Res}{r:Res}(h:r∈L){b:Nat}(a:b∈r.F):b∈eh L:=List.mem_flatMap.2 ⟨r,h,a⟩
theorem St.step {w0:World}{M:List Nat}{L:List Res}{w w':World}(h:St w0 M L w)(a:Ext [] w w'):St w0 M L w' where
 ext:=h.ext.trans (a.mono (by simp))
 ok r d:=r.loc w w' (λb c=>a.block b (h.lt b (ur d c)) (by simp)) (h.ok r d)
 nd:=h.nd
 lt b c:=Nat.lt_of_lt_of_le (h.lt b c) a.size
 new:=h.new
theorem St.drew {w0:World}{M:List Nat}{L:List Res}{w:World}(h:St w0 M L w):St w0 M L {w with drawn:=w.drawn+1}:=h.step ⟨rfl,rfl,rfl,Nat.le_refl _,λ_ _ _=>rfl⟩
theorem gA (A B:List Res):eh (A++B)=eh A++eh B:=by simp [eh]
theorem gP (r:Res)(B:List Res):eh (r::B)=r.F++eh B:=rfl
theorem iC (r:Res):eh [r]=r.F:=by simp [eh]
theorem St.push {w0:World}{M:List Nat}{L:List Res}{w w':World}(h:St w0 M L w)(f:Ext [] w w')(r:Res)(g:r.ok w')(i:r.F.Nodup)(d:∀b∈r.F,w.heap.size≤b∧b<w'.heap.size):St w0 M (L++[r]) w' where
 ext:=(h.step f).ext
 ok s hs:=by
  rcases List.mem_append.1 hs with hs|hs
  ·exact (h.step f).ok s hs
  rw [List.mem_singleton.1 hs];exact g
 nd:=by
  rw [gA,iC,List.nodup_append];exact ⟨h.nd,i,λa j b c e=>by have h1:=(d b c).1;have k:=h.lt a j;omega⟩
 lt b c:=by
  rw [gA,iC] at c;rcases List.mem_append.1 c with h1|h1
  ·exact (h.step f).lt b h1
  exact (d b h1).2
 new b c:=by
  rw [gA,iC] at c;rcases List.mem_append.1 c with h1|h1
  ·exact h.new b h1
  exact .inl (Nat.le_trans h.ext.size (d b h1).1)
theorem St.left {w0:World}{M:List Nat}{A B:List Res}{w:World}(h:St w0 M (A++B) w):St w0 M A w:=by
 have c:∀b∈eh A,b∈eh (A++B):=λb a=>by rw [gA];simp [a]
 refine ⟨h.ext,λs d=>h.ok s (List.mem_append.2 (.inl d)),?_,λb a=>h.lt b (c b a),λb a=>h.new b (c b a)⟩;have:=h.nd;rw [gA,List.nodup_append] at this;exact this.1
theorem St.take {w0:World}{M:List Nat}{L L':List Res}{w:World}(k:Nat)(a:L.take k=L')(h:St w0 M L w):St w0 M L' w:=by
 rw [←List.take_append_drop k L] at h;rw [←a];exact h.left
theorem St.turn {w0:World}{M:List Nat}{A B:List Res}{r:Res}{w w':World}(h:St w0 M (A++r::B) w)(d:Ext r.F w w')(r':Res)(j:r'.ok w')(D:r'.F.Nodup)(k:∀b∈r'.F,b<w'.heap.size∧(b∈r.F∨w.heap.size≤b)):St w0 M (A++r'::B) w':=by
 have f:eh (A++r::B)=eh A++(r.F++eh B):=by rw [gA,gP]
 have hf':eh (A++r'::B)=eh A++(r'.F++eh B):=by rw [gA,gP]
 have o:=h.nd;rw [f,List.nodup_append,List.nodup_append] at o;obtain ⟨E,⟨P,G,u⟩,p⟩:=o;have g:∀b∈eh A,b<w.heap.size:=λb c=>h.lt b (by rw [f];simp [c]);have i:∀b∈eh B,b<w.heap.size:=λb c=>h.lt b (by rw [f];simp [c]);have H:∀b∈r.F,b<w.heap.size:=λb c=>h.lt b (by rw [f];simp [c]);have q:∀b∈eh A,b∉r.F:=λb c j=>p b c b (List.mem_append.2 (.inl j)) rfl;have t:∀b∈eh B,b∉r.F:=λb c j=>u b j b c rfl;refine ⟨?_,?_,?_,?_,?_⟩
 ·refine ⟨d.os.trans h.ext.os,d.tape.trans h.ext.tape,d.output.trans h.ext.output,Nat.le_trans h.ext.size d.size,λb c v=>?_⟩
  have x:b∉r.F:=λC=>by
   rcases h.new b (by rw [f];simp [C]) with h1|h1
   ·omega
   exact v h1
  exact (d.block b (Nat.lt_of_lt_of_le c h.ext.size) x).trans (h.ext.block b c v)
 ·intro s L;rcases List.mem_append.1 L with h1|h1
  ·exact s.loc w w' (λb c=>d.block b (g b (ur h1 c)) (q b (ur h1 c))) (h.ok s (List.mem_append.2 (.inl h1)))
  cases h1 with
  | head=>exact j
  | tail _ h1=>exact s.loc w w' (λb c=>d.block b (i b (ur h1 c)) (t b (ur h1 c))) (h.ok s (List.mem_append.2 (.inr (List.mem_cons_of_mem _ h1))))
 ·rw [hf',List.nodup_append,List.nodup_append]
  have l:∀b∈r'.F,b∉eh A∧b∉eh B:=λb c=>by
   rcases (k b c).2 with h1|h1
   ·exact ⟨λh2=>q b h2 h1,λh2=>t b h2 h1⟩
   exact ⟨λh2=>by have:=g b h2;omega,λh2=>by have:=i b h2;omega⟩
  refine ⟨E,⟨D,G,λa m b c e=>(l a m).2 (e▸c)⟩,λa m b c e=>?_⟩;subst e;rcases List.mem_append.1 c with h1|h1
  ·exact (l a h1).1 m
  exact p a m a (List.mem_append.2 (.inr h1)) rfl
 ·intro b c;rw [hf'] at c;rcases List.mem_append.1 c with h1|h1
  ·exact Nat.lt_of_lt_of_le (g b h1) d.size
  rcases List.mem_append.1 h1 with h2|h2
  ·exact (k b h2).1
  exact Nat.lt_of_lt_of_le (i b h2) d.size
 intro b c;rw [hf'] at c;rcases List.mem_append.1 c with h1|h1
 ·exact h.new b (by rw [f];simp [h1])
 rcases List.mem_append.1 h1 with h2|h2
 ·rcases (k b h2).2 with h3|h3
  ·exact h.new b (by rw [f];simp [h3])
  exact .inl (Nat.le_trans h.ext.size h3)
 exact h.new b (by rw [f];simp [h2])
theorem St.drop {w0:World}{M:List Nat}{A B:List Res}{r:Res}{w:World}(h:St w0 M (A++r::B) w):St w0 M (A++B) w:=by
 have g:eh (A++r::B)=eh A++(r.F++eh B):=by rw [gA,gP]
 have hf':eh (A++B)=eh A++eh B:=gA _ _
 have d:∀b∈eh (A++B),b∈eh (A++r::B):=λb c=>by
  rw [hf'] at c;rw [g];rcases List.mem_append.1 c with h1|h1<;>simp [h1]
 have f:=h.nd;rw [g,List.nodup_append,List.nodup_append] at f;obtain ⟨j,⟨_,k,_⟩,i⟩:=f;refine ⟨h.ext,λs l=>h.ok s ?_,?_,λb c=>h.lt b (d b c),λb c=>h.new b (d b c)⟩
 ·rcases List.mem_append.1 l with h1|h1
  ·exact List.mem_append.2 (.inl h1)
  exact List.mem_append.2 (.inr (List.mem_cons_of_mem _ h1))
 rw [hf',List.nodup_append];exact ⟨j,k,λa m b c e=>i a m b (List.mem_append.2 (.inr c)) e⟩
def Res.nil:Res:=⟨[],λ_=>True,λ_ _ _ h=>h⟩
def Res.sep (r s:Res):Res:=⟨r.F++s.F,λw=>r.ok w∧s.ok w,λw w' h ok=>⟨r.loc w w' (λb a=>h b (List.mem_append.2 (.inl a))) ok.1,s.loc w w' (λb a=>h b (List.mem_append.2 (.inr a))) ok.2⟩⟩
theorem Ki {L:List Res}{i:Nat}{r:Res}(h:L[i]?=some r):L=L.take i++r::L.drop (i+1):=by
 obtain ⟨a,c⟩:=List.getElem?_eq_some_iff.1 h;rw [←c,←List.drop_eq_getElem_cons a,List.take_append_drop]
theorem UN {L:List Res}{i:Nat}{r r':Res}(h:L[i]?=some r):L.set i r'=L.take i++r'::L.drop (i+1):=List.set_eq_take_append_cons_drop .. ▸ (by rw [if_pos (List.getElem?_eq_some_iff.1 h).1])
theorem St.upd {w0:World}{M:List Nat}{L:List Res}{i:Nat}{r:Res}{w w':World}(h:St w0 M L w)(a:L[i]?=some r)(d:Ext r.F w w')(r':Res)(e:r'.ok w')(f:r'.F.Nodup)(c:∀b∈r'.F,b<w'.heap.size∧(b∈r.F∨w.heap.size≤b)):St w0 M (L.set i r') w':=by
 rw [UN a];rw [Ki a] at h;exact h.turn d r' e f c
theorem St.one {w0:World}{M:List Nat}{L:List Res}{i:Nat}{r:Res}{w:World}(h:St w0 M L w)(c:L[i]?=some r):r.ok w∧r.F.Nodup∧∀b∈r.F,b<w.heap.size:=by
 have a:=h.nd;have d:eh L=eh (L.take i)++(r.F++eh (L.drop (i+1))):=by conv=>lhs;rw [Ki c,gA,gP]
 rw [d,List.nodup_append,List.nodup_append] at a;exact ⟨h.ok r (List.mem_of_getElem? c),a.2.1.1,λb e=>h.lt b (ur (List.mem_of_getElem? c) e)⟩
theorem St.clear {w0:World}{M:List Nat}{L:List Res}{i:Nat}{r:Res}{w:World}(h:St w0 M L w)(a:L[i]?=some r):St w0 M (L.set i Res.nil) w:=h.upd a (Ext.refl _ _) Res.nil trivial (by simp [Res.nil]) (by simp [Res.nil])
theorem St.recast {w0:World}{M:List Nat}{L:List Res}{i:Nat}{r r':Res}{w:World}(h:St w0 M L w)(c:L[i]?=some r)(d:r'.F=r.F)(e:r.ok w→r'.ok w):St w0 M (L.set i r') w:=by
 obtain ⟨h1,f,g⟩:=h.one c;exact h.upd c (Ext.refl _ _) r' (e h1) (d▸f) (λb a=>by rw [d] at a;exact ⟨g b a,.inl a⟩)
theorem LP {L:List Res}{i:Nat}{r:Res}(a:L[i]?=some r):(eh L).Perm (r.F++eh (L.set i Res.nil)):=by
 rw [UN a];conv=>lhs;rw [Ki a]
 rw [gA,gP,gA,gP];show (eh (L.take i)++(r.F++eh (L.drop (i+1)))).Perm (r.F++(eh (L.take i)++([]++eh (L.drop (i+1)))));rw [List.nil_append,←List.append_assoc,←List.append_assoc];exact List.Perm.append_right _ List.perm_append_comm
def At (w:World)(X:List Nat)(p:Addr)(cs:List Value):Prop:=(cs≠[]→p.block∉X)∧∀j v,cs[j]?=some v→w.cell? (p.add j)=some v
structure Enc (α:Type) where
 sz:Nat
 rd:World→List Nat→α→List Value→Prop
 own:World→List Nat→α→List Value→Prop
 rd_len:∀{w X x cs},rd w X x cs→cs.length=sz
 rd_loc:∀{w w' X x cs},rd w X x cs→(∀b,b<w.heap.size→b∉X→w'.heap[b]?=w.heap[b]?)→rd w' X x cs
 rd_anti:∀{w X X' x cs},rd w X x cs→(∀b,b<w.heap.size→b∈X'→b∈X)→rd w X' x cs
 own_loc:∀{w w' F x cs},own w F x cs→(∀b∈F,w'.heap[b]?=w.heap[b]?)→own w' F x cs
 own_rd:∀{w F X x cs},own w F x cs→(∀b∈F,b∉X)→rd w X x cs
 own_lt:∀{w F x cs},own w F x cs→∀b∈F,b<w.heap.size
 one:∀{w X x cs},rd w X x cs→∀u∈cs,u.oneCell'=true
def nV {α:Type}(val:α→Value)(h1:∀x,(val x).oneCell'=true):Enc α where
 sz:=1
 rd _ _ x cs:=cs=[val x]
 own _ F x cs:=F=[]∧cs=[val x]
 rd_len h:=by rw [h];rfl
 rd_loc h _:=h
 rd_anti h _:=h
 own_loc h _:=h
 own_rd h _:=h.2
 own_lt h b a:=by rw [h.1] at a;cases a
 one h u c:=by rw [h] at c;rw [List.mem_singleton.1 c];exact h1 _
def vB (n:Int):Value:=.int .u8 n
def vS (l:List UInt8):Value:=.string ⟨l.toArray⟩
abbrev eU8:Enc Int:=nV (Value.int .u8) (λ_=>rfl)
abbrev xf:Enc Bool:=nV Value.bool (λ_=>rfl)
abbrev qX:Enc (List UInt8):=nV vS (λ_=>rfl)
theorem uX (p:Addr)(j:Nat):(p.add j).block=p.block:=by unfold Addr.add;split<;>rfl
theorem gN (p:Addr)(i j:Nat):(p.add i).add j=p.add (i+j):=by
 unfold Addr.add;by_cases a:i=0<;>by_cases c:j=0<;>simp [a,c,Nat.add_assoc]
theorem fp (p:Addr):p.add 0=p:=by simp [Addr.add]
theorem fh (b o j:Nat):(⟨b,o,none⟩:Addr).add j=⟨b,o+j,none⟩:=by unfold Addr.add;split<;>simp_all
theorem At.lt {w:World}{X:List Nat}{p:Addr}{cs:List Value}(h:At w X p cs)(a:cs≠[]):p.block<w.heap.size:=by
 obtain ⟨v,c⟩:∃v,cs[0]?=some v:=by cases cs with|nil=>exact absurd rfl a|cons v _=>exact ⟨v,rfl⟩
 have:=World.block_lt_of_cell? w _ (h.2 0 v c);rwa [uX] at this
theorem At.loc {w w':World}{X:List Nat}{p:Addr}{cs:List Value}(h:At w X p cs)(f:∀b,b<w.heap.size→b∉X→w'.heap[b]?=w.heap[b]?):At w' X p cs:=by
 refine ⟨h.1,λj v d=>?_⟩;have c:cs≠[]:=λe=>by subst e;simp at d
 rw [World.cell?_of_block (w:=w) (a:=p.add j) (by rw [uX];exact f p.block (h.lt c) (h.1 c))];exact h.2 j v d
theorem At.anti {w:World}{X X':List Nat}{p:Addr}{cs:List Value}(h:At w X p cs)(d:∀b,b<w.heap.size→b∈X'→b∈X):At w X' p cs:=⟨λa c=>h.1 a (d _ (h.lt a) c),h.2⟩
def mS {α:Type}(e:Enc α)(w:World)(X:List Nat)(xs:List α)(cs:List Value):Prop:=∃a cap,cs=[.slice a xs.length cap]∧xs.length≤cap∧cap≤maxLen∧(xs≠[]→∃p,a=some p∧∀i x,xs[i]?=some x→∃ds,e.rd w X x ds∧At w X (p.add (i*e.sz)) ds)
def jX {α:Type}(e:Enc α)(w:World):List Nat→List α→List Value→Prop
 | F,[],cs=>F=[]∧cs=[]
 | F,x::xs,cs=>∃a c c1 c2,F=a++c∧cs=c1++c2∧c1.length=e.sz∧e.own w a x c1∧jX e w c xs c2
def tq (w:World)(b:Nat)(cur:Array Value)(T:TypeId):Prop:=∃fr:Nat×Nat,w.heap[b]?=some (.cells cur T fr)∧(fr.1=fr.2∨cur.size≤fr.1)
theorem tq.of {w:World}{b:Nat}{cur:Array Value}{T:TypeId}(h:w.heap[b]?=some (.cells cur T (0,0))):tq w b cur T:=⟨_,h,.inl rfl⟩
theorem tq.cell {w:World}{b:Nat}{cur:Array Value}{T:TypeId}(h:tq w b cur T)(j:Nat):w.cell? ⟨b,j,none⟩=cur[j]?:=by
 obtain ⟨fr,h,_⟩:=h;exact cell_of_row w b _ cur T fr h
theorem tq.ext {w w':World}{b:Nat}{cur:Array Value}{T:TypeId}(h:tq w b cur T)(e:w'.heap[b]?=w.heap[b]?):tq w' b cur T:=by
 obtain ⟨fr,h,g⟩:=h;exact ⟨fr,e.trans h,g⟩
theorem tq.set {w:World}{b:Nat}{cur cur':Array Value}{T:TypeId}(h:tq w b cur T)(a:cur'.size=cur.size):tq (w.setRow b cur') b cur' T:=by
 obtain ⟨fr,h,g⟩:=h;exact ⟨fr,setRow_heap w b cur cur' T fr h,by rw [a];exact g⟩
theorem tq.lt {w:World}{b:Nat}{cur:Array Value}{T:TypeId}(h:tq w b cur T):b<w.heap.size:=by
 obtain ⟨fr,h,_⟩:=h;exact (Array.getElem?_eq_some_iff.1 h).1
def vF {α:Type}(e:Enc α)(T:TypeId)(w:World)(F:List Nat)(xs:List α)(cs:List Value):Prop:=(xs=[]∧F=[]∧cs=[.slice none 0 0]) ∨
 ∃b cap cur a ds,F=b::a∧cs=[.slice (some ⟨b,0,none⟩) xs.length cap]∧tq w b cur T∧xs.length≤cap∧cap≤maxLen ∧
  cur.size=cap*e.sz∧cur.toList.take (xs.length*e.sz)=ds∧jX e w a xs ds
theorem Jc {α:Type}{e:Enc α}{w:World}{xs:List α}:∀{F:List Nat}{cs:List Value},jX e w F xs cs→∀u∈cs,u.oneCell'=true:=by
 induction xs with
 | nil=>intro F cs h u hu;rw [h.2] at hu;cases hu
 | cons x xs ih =>
  intro F cs h u hu;obtain ⟨d,f,c1,c2,_,rfl,h1,a,c⟩:=h;rcases List.mem_append.1 hu with hu|hu
  ·exact e.one (X:=[]) (e.own_rd a (by simp)) u hu
  exact ih c u hu
theorem Dn {α:Type}{e:Enc α}{w:World}{xs ys:List α}:∀{F G:List Nat}{cs ds:List Value},jX e w F xs cs→jX e w G ys ds→jX e w (F++G) (xs++ys) (cs++ds):=by
 induction xs with
 | nil=>intro F G cs ds h a;obtain ⟨rfl,rfl⟩:=h;exact a
 | cons x xs ih =>
  intro F G cs ds h a;obtain ⟨c,d,c1,c2,rfl,rfl,h1,f,g⟩:=h;exact ⟨c,d++G,c1,c2++ds,by simp,by simp,h1,f,ih g a⟩
theorem DD {α:Type}{e:Enc α}{w:World}{xs:List α}:∀{F:List Nat}{cs:List Value},jX e w F xs cs→cs.length=xs.length*e.sz:=by
 induction xs with
 | nil=>intro F cs h;rw [h.2];simp
 | cons x xs ih =>
  intro F cs h;obtain ⟨c,d,c1,c2,_,rfl,h1,_,a⟩:=h;simp only [List.length_append,h1,ih a,List.length_cons,Nat.add_mul];omega
theorem qP {α:Type}{e:Enc α}{w w':World}{xs:List α}:∀{F:List Nat}{cs:List Value},jX e w F xs cs→(∀b∈F,w'.heap[b]?=w.heap[b]?)→jX e w' F xs cs:=by
 induction xs with
 | nil=>intro F cs h _;exact h
 | cons x xs ih =>
  intro F cs h c;obtain ⟨d,f,c1,c2,rfl,g,h1,i,j⟩:=h;exact ⟨d,f,c1,c2,rfl,g,h1,e.own_loc i (λb a=>c b (by simp [a])),ih j (λb a=>c b (by simp [a]))⟩
theorem Le {α:Type}{e:Enc α}{w:World}{xs:List α}:∀{F:List Nat}{cs:List Value},jX e w F xs cs→∀b∈F,b<w.heap.size:=by
 induction xs with
 | nil=>intro F cs h b hb;rw [h.1] at hb;cases hb
 | cons x xs ih =>
  intro F cs h b hb;obtain ⟨d,f,c1,c2,rfl,g,h1,a,c⟩:=h;rcases List.mem_append.1 hb with hb|hb
  ·exact e.own_lt a b hb
  exact ih c b hb
theorem SY {α:Type}{e:Enc α}{w:World}{X:List Nat}{xs:List α}:∀{F:List Nat}{cs:List Value},jX e w F xs cs→(∀b∈F,b∉X) →
  ∀i x,xs[i]?=some x→∃ds,e.rd w X x ds∧ds.length=e.sz∧∀j v,ds[j]?=some v→cs[i*e.sz+j]?=some v:=by
 induction xs with
 | nil=>intro F cs h _ i x a;simp at a
 | cons y xs ih =>
  intro F cs h g i x a;obtain ⟨p,q,c1,c2,rfl,rfl,h1,k,l⟩:=h
  cases i with
  | zero =>
   simp at a;subst a;refine ⟨c1,e.own_rd k (λb d=>g b (by simp [d])),h1,λj v c=>?_⟩;simp only [Nat.zero_mul,Nat.zero_add];have f:j<c1.length:=(List.getElem?_eq_some_iff.1 c).1;rw [List.getElem?_append_left f];exact c
  | succ i =>
   simp at a;obtain ⟨ds,m,o,f⟩:=ih l (λb d=>g b (by simp [d])) i x a;refine ⟨ds,m,o,λj v c=>?_⟩;have:=f j v c;rw [List.getElem?_append_right (by rw [h1,Nat.add_mul];omega),←this];congr 1;rw [h1,Nat.add_mul];omega
def cn {α:Type}(e:Enc α)(T:TypeId):Enc (List α) where
 sz:=1
 rd:=mS e
 own:=vF e T
 rd_len:=by rintro w X x cs ⟨a,cap,rfl,_⟩;rfl
 rd_loc:=by
  rintro w w' X xs cs ⟨a,cap,rfl,h1,d,h⟩ f;refine ⟨a,cap,rfl,h1,d,λk=>?_⟩;obtain ⟨p,rfl,s⟩:=h k;refine ⟨p,rfl,λi x l=>?_⟩;obtain ⟨ds,m,t⟩:=s i x l;exact ⟨ds,e.rd_loc m f,t.loc f⟩
 rd_anti:=by
  rintro w X X' xs cs ⟨a,cap,rfl,h1,d,h⟩ f;refine ⟨a,cap,rfl,h1,d,λk=>?_⟩;obtain ⟨p,rfl,s⟩:=h k;refine ⟨p,rfl,λi x l=>?_⟩;obtain ⟨ds,m,t⟩:=s i x l;exact ⟨ds,e.rd_anti m f,t.anti f⟩
 own_loc:=by
  rintro w w' F xs cs h f;rcases h with h|⟨b,cap,cur,A,ds,rfl,D,o,h1,d,C,r,q⟩
  ·exact .inl h
  exact .inr ⟨b,cap,cur,A,ds,rfl,D,o.ext (f b (by simp)),h1,d,C,r,qP q (λc g=>f c (by simp [g]))⟩
 own_rd:=by
  rintro w F X xs cs h E;rcases h with ⟨rfl,rfl,rfl⟩|⟨b,cap,cur,A,ds,rfl,rfl,o,h1,d,C,r,q⟩
  ·exact ⟨none,0,rfl,by simp,by simp [maxLen],λh=>absurd rfl h⟩
  refine ⟨_,cap,rfl,h1,d,λ_=>⟨_,rfl,λi x l=>?_⟩⟩;obtain ⟨es,m,M,G⟩:=SY q (λc g=>E c (by simp [g])) i x l;refine ⟨es,m,λ_=>?_,λj v H=>?_⟩
  ·rw [uX];exact E b (by simp)
  rw [gN,fh];have:=G j v H;rw [←r,List.getElem?_take] at this;split at this
  ·rw [o.cell];simpa using this
  cases this
 own_lt:=by
  rintro w F xs cs h c g;rcases h with ⟨rfl,rfl,rfl⟩|⟨b,cap,cur,A,ds,rfl,rfl,o,h1,d,C,r,q⟩
  ·cases g
  cases g with
  | head=>exact o.lt
  | tail _ g=>exact Le q c g
 one:=by
  rintro w X x cs ⟨a,cap,rfl,_⟩ u L;rw [List.mem_singleton.1 L];rfl
def Res.own {α:Type}(e:Enc α)(F:List Nat)(x:α)(cs:List Value):Res:=⟨F,λw=>e.own w F x cs,λ_ _ h ok=>e.own_loc ok h⟩
def Rds {α:Type}(C:World→Prop)(e:Enc α)(x:α)(cs:List Value):Prop:=∀w,C w→e.rd w [] x cs
theorem Rds.bor {α:Type}{e:Enc α}{x:α}{cs:List Value}{w0:World}{M:List Nat}{L:List Res}(h:e.rd w0 M x cs):Rds (St w0 M L) e x cs:=λ_ a=>e.rd_anti (e.rd_loc h (λb c d=>a.ext.block b c d)) (by simp)
end Go.Vk
/- The judgments of the walk: code, rounds of a loop, lists of operations. -/
namespace Go.Vk
open Go.RowKit
section
variable {P:Program} {n:Nat} {Q:Exit→Act→World→Prop} {C:World→Prop} {E:Env} {w0:World} {M:List Nat} {L:List Res}
def CW (P:Program)(n:Nat)(C:World→Prop)(E:Env)(Q:Exit→Act→World→Prop)(c:Code):Prop:=∀a w,Fr n E a→C w→c.wp P Q a w
def RW (P:Program)(n:Nat)(C:World→Prop)(E:Env)(Q:Exit→Act→World→Prop)(c:Code)(k:Nat):Prop:=∀a w,Fr n E a→C w→Code.rounds P c Q k a w
def XW (n:Nat)(C:World→Prop)(E:Env)(Q:Exit→Act→World→Prop)(x:Exit):Prop:=∀a w,Fr n E a→C w→Q x a w
theorem CW.sub {R:Env}{c:Code}(h:CW P n C R Q c)(d:Sub R E):CW P n C E Q c:=λa w e f=>h a w (e.sub d) f
theorem CW.weak {C':World→Prop}{c:Code}(h:CW P n C' E Q c)(d:∀w,C w→C' w):CW P n C E Q c:=λa w e f=>h a w e (d w f)
theorem RW.sub {R:Env}{c:Code}{k:Nat}(h:RW P n C R Q c k)(d:Sub R E):RW P n C E Q c k:=λa w e f=>h a w (e.sub d) f
theorem XW.sub {R:Env}{x:Exit}(h:XW n C R Q x)(c:Sub R E):XW n C E Q x:=λa w d e=>h a w (d.sub c) e
def QS (P:Program)(y:Code)(Q:Exit→Act→World→Prop):Exit→Act→World→Prop
 | .normal,a,w=>y.wp P Q a w
 | e,a,w=>Q e a w
def QB (id:Nat)(Q:Exit→Act→World→Prop):Exit→Act→World→Prop
 | .exit i,a,w=>bif Nat.beq i id then Q .normal a w else Q (.exit i) a w
 | e,a,w=>Q e a w
def QL (P:Program)(c:Code)(k:Nat)(Q:Exit→Act→World→Prop):Exit→Act→World→Prop
 | .normal,a,w=>Code.rounds P c Q k a w
 | e,a,w=>Q e a w
theorem ai {x y:Code}(h:CW P n C E (QS P y Q) x):CW P n C E Q (.seq x y):=λa w c d =>
 wp_seq (wp_mono (h a w c d) (λe a w q=>by cases e<;>exact q))
theorem aI {id:Nat}{c:Code}(h:CW P n C E (QB id Q) c):CW P n C E Q (.block id c):=λa w f g =>
 wp_block (wp_mono (h a w f g) (λe a w q=>by
  cases e with
  | exit i =>
   simp only [QB] at q;simp only [Exit.inBlock]
   cases d:Nat.beq i id with
   | true=>rw [d] at q;rw [if_pos (Nat.eq_of_beq_eq_true d)];exact q
   | false=>rw [d] at q;rw [if_neg (Nat.ne_of_beq_eq_false d)];exact q
  | _=>exact q))
theorem MH {c:Code}(k:Nat)(h:RW P n C E Q c k):CW P n C E Q (.loop c):=λa w d e=>wp_loop_rounds k (h a w d e)
theorem sY {c:Code}{k:Nat}(h:CW P n C E (QL P c k Q) c):RW P n C E Q c (k+1):=λa w d f =>
 wp_mono (h a w d f) (λe a w q=>by cases e<;>exact q)
theorem bK (h:XW n C E Q .normal):CW P n C E Q .skip:=λa w c d=>wp_skip (h a w c d)
theorem DQ {i:Nat}(h:XW n C E Q (.exit i)):CW P n C E Q (.exit i):=λa w c d=>wp_exit (h a w c d)
theorem AG (h:XW n C E Q .ret):CW P n C E Q .ret:=λa w c d=>wp_ret (h a w c d)
theorem bM {y:Code}(h:CW P n C E Q y):XW n C E (QS P y Q) .normal:=h
theorem rm {y:Code}{i:Nat}(h:XW n C E Q (.exit i)):XW n C E (QS P y Q) (.exit i):=h
theorem bi {y:Code}(h:XW n C E Q .ret):XW n C E (QS P y Q) .ret:=h
theorem GG {id:Nat}(h:XW n C E Q .normal):XW n C E (QB id Q) .normal:=h
theorem fB {id:Nat}(h:XW n C E Q .ret):XW n C E (QB id Q) .ret:=h
theorem va {id:Nat}(h:XW n C E Q .normal):XW n C E (QB id Q) (.exit id):=λa w c d=>by
 show bif Nat.beq id id then _ else _;rw [Nat.beq_refl];exact h a w c d
theorem OK {id i:Nat}(c:Nat.beq i id=false)(h:XW n C E Q (.exit i)):XW n C E (QB id Q) (.exit i):=λa w d e=>by
 show bif Nat.beq i id then _ else _;rw [c];exact h a w d e
theorem GD {c:Code}{k:Nat}(h:RW P n C E Q c k):XW n C E (QL P c k Q) .normal:=h
theorem Gs {c:Code}{k i:Nat}(h:XW n C E Q (.exit i)):XW n C E (QL P c k Q) (.exit i):=h
theorem yh {c:Code}{k:Nat}(h:XW n C E Q .ret):XW n C E (QL P c k Q) .ret:=h
theorem En {x:Operand}{c d:Code}{b:Bool}(g:ev E x=some (.bool b))(i:b=true→CW P n C E Q c)(j:b=false→CW P n C E Q d):CW P n C E Q (.cond x c d):=λa w e f =>
 wp_cond_split (e.ev g) (λh=>i h a w e f) (λh=>j h a w e f)
def LW (P:Program)(n:Nat)(ops:List Oper)(C:World→Prop)(E:Env)(Q:Exit→Act→World→Prop)(rest:List Oper):Prop:=∀a w,Fr n E a→C w→wpList P ops.toArray Q rest a w
theorem VA {id:Nat}{l:List Oper}(h:LW P n l C E Q l):CW P n C E Q (.region id l.toArray false):=λa w c d=>wp_region_lit (h a w c d)
theorem YO {l:List Oper}(h:XW n C E Q .normal):LW P n l C E Q []:=λa w c d=>h a w c d
def Qy (P:Program)(n:Nat)(C:World→Prop)(E:Env)(o:Oper)(v:Value):Prop:=∀a,Fr n E a→∀w,C w→o.quietAt P a C w v
theorem YU {l:List Oper}{o:Oper}{rest:List Oper}{v:Value}(d:wt l E o.guard=some true)(f:∀t,o.dst=some t→t<n)(g:Qy P n C E o v)(h:LW P n l C (upd E o.dst v) Q rest):LW P n l C E Q (o::rest):=λa w c i=>by
 unfold wpList;rw [if_pos (c.wt d)];refine .inl (Oper.wp_of_quiet (C:=C) (K:=λa'=>a'=a.put o.dst v) i (λa' w' hC' e=>?_) ⟨v,λw' hC'=>g a c w' hC',rfl⟩);subst e;exact h _ _ (c.put _ _ f) hC'
theorem VE {l:List Oper}{o:Oper}{rest:List Oper}(d:wt l E o.guard=some false)(e:∀t,o.dst=some t→t<n)(h:LW P n l C (upd E o.dst undef) Q rest):LW P n l C E Q (o::rest):=λa w c f=>by
 unfold wpList;rw [if_neg (by rw [c.wt d];simp)];exact h _ _ (c.put _ _ e) f
theorem xt {ops:Array Oper}{Q1 e:Act→Prop}(c:∀a,Q1 a→e a):∀(l:List Oper)(a:Act),wpQuiet P ops C Q1 l a→wpQuiet P ops C e l a
 | [],_,h=>c _ h
 | o::l,a,h=>by
  unfold wpQuiet at h ⊢;split
  ·rename_i d;rw [if_pos d] at h;exact Oper.quiet_mono (λa' h'=>xt c l a' h') h
  rename_i d;rw [if_neg d] at h;exact xt c l _ h
def QW (P:Program)(n:Nat)(ops:List Oper)(C:World→Prop)(E:Env)(K:Env→Prop)(rest:List Oper):Prop:=∀a,Fr n E a→wpQuiet P ops.toArray C (λa'=>∃E',Fr n E' a'∧K E') rest a
theorem SH {id:Nat}{l:List Oper}(c:P.follows .mixedOrders=true)(d:Region.lexB .any l.toArray=true)(h:QW P n l (St w0 M L) E (λE'=>XW n (St w0 M L) E' Q .normal) l):CW P n (St w0 M L) E Q (.region id l.toArray true):=λa w e f =>
 wp_region_quiet (C:=St w0 M L) c d f.drew (by
  refine xt ?_ _ _ (h a e);rintro a' ⟨E',hF',g⟩ w' hC';exact g a' w' hF' hC')
theorem YT {l:List Oper}{K:Env→Prop}(h:K E):QW P n l C E K []:=λ_ a=>wpQuiet_nil ⟨E,a,h⟩
theorem ZE {l:List Oper}{o:Oper}{rest:List Oper}{v:Value}{K:Env→Prop}(d:wt l E o.guard=some true)(e:∀t,o.dst=some t→t<n)(f:Qy P n C E o v)(h:QW P n l C (upd E o.dst v) K rest):QW P n l C E K (o::rest):=λa c=>by
 unfold wpQuiet;rw [if_pos (c.wt d)];exact ⟨v,λw' hC'=>f a c w' hC',h _ (c.put _ _ e)⟩
theorem WA {l:List Oper}{o:Oper}{rest:List Oper}{K:Env→Prop}(d:wt l E o.guard=some false)(e:∀t,o.dst=some t→t<n)(h:QW P n l C (upd E o.dst undef) K rest):QW P n l C E K (o::rest):=λa c=>by
 unfold wpQuiet;rw [if_neg (by rw [c.wt d];simp)];exact h _ (c.put _ _ e)
theorem CW.at {C':World→Prop}{R:Env}{c:Code}(h:CW P n C' R Q c)(d:∀w,C w→C' w)(e:Sub R E):CW P n C E Q c:=λa w f g=>h a w (f.sub e) (d w g)
theorem RW.at {C':World→Prop}{R:Env}{c:Code}{k:Nat}(h:RW P n C' R Q c k)(d:∀w,C w→C' w)(e:Sub R E):RW P n C E Q c k:=λa w f g=>h a w (f.sub e) (d w g)
def nW (Q:Exit→Act→World→Prop):Prop:=∀c a d v w,Q (.panic c) (Act.put a d v) w→Q (.panic c) a w
theorem aE {fn:Func}{R:Ending→World→Prop}:nW (bodyPost P fn R):=λ_ a d _ _ h=>by cases d<;>exact h
def RK (ops:List Oper):List (Nat×Bool)→List Oper→Prop
 | [],[]=>True
 | (i,_)::s,o::r=>ops[i]?=some o∧RK ops s r
 | _,_=>False
theorem RK.len {ops:List Oper}:∀{s:List (Nat×Bool)}{r:List Oper},RK ops s r→s.length=r.length
 | [],[],_=>rfl
 | _::_,_::_,h=>by simp [h.2.len]
 | [],_::_,h=>h.elim
 | _::_,[],h=>h.elim
def rK (ops:List Oper):List (Nat×Bool)→List Oper
 | []=>[]
 | (i,_)::s=>match ops[i]? with|some o=>o::rK ops s|none=>[]
def inB (ops:List Oper):List (Nat×Bool)→Bool
 | []=>true
 | (i,_)::s=>(ops[i]?).isSome&&inB ops s
theorem pT {ops:List Oper}:∀{s:List (Nat×Bool)},inB ops s=true→RK ops s (rK ops s)
 | [],_=>trivial
 | (i,q)::s,h=>by
  simp only [inB,Bool.and_eq_true] at h;obtain ⟨o,a⟩:=Option.isSome_iff_exists.1 h.1;simp only [rK,a];exact ⟨a,pT h.2⟩
def pB (P:Program)(ops:Array Oper)(S:World→Prop)(Q:Exit→Act→World→Prop):List (Nat×Bool)→Act→World→Prop
 | [],a,w=>Q .normal a w
 | (i,true)::s,a,w=>∃o v,ops[i]?=some o∧YieldsIf P ops S o v a∧S w∧pB P ops S Q s (a.put o.dst v) w
 | (i,false)::s,a,w=>wpOp P ops Q i (λa' w'=>S w'∧pB P ops S Q s a' w') a w
def So (ops:Array Oper):List (Nat×Bool)→Array Bool→Bool
  | [],listed=>(Region.ready .any ops listed).isEmpty
  | (i,q)::s,listed =>
    (match q with
     | true=>Region.free .any ops listed i&&(Region.ready .any ops listed).contains i
     | false=>Region.ready .any ops listed==[i])&&So ops s (listed.setIfInBounds i true)
theorem zP {ops:Array Oper}{S:World→Prop}(e:Region.noSelect ops=true)(f:nW Q):∀(s:List (Nat×Bool))(listed:Array Bool)(a:Act)(w:World),
  So ops s listed=true→pB P ops S Q s a w→wpAnyH P .any ops Q S s.length listed a w
 | [],listed,a,w,d,h=>wpAnyH_done (by simpa [So] using d) h 0
 | (i,true)::s,listed,a,w,d,h=>by
  simp only [So,Bool.and_eq_true] at d;rw [pB] at h;obtain ⟨o,v,g,k,l,h⟩:=h;exact wpAnyH_take g e d.1.1 d.1.2 (λc a' w'=>f c a' o.dst v w') k l (zP e f s _ _ _ d.2 h)
 | (i,false)::s,listed,a,w,d,h=>by
  simp only [So,Bool.and_eq_true,beq_iff_eq] at d;rw [pB] at h;refine wpAnyH_all d.1 (by simp) (λj m=>?_);obtain rfl:=List.mem_singleton.1 m;exact wpOp_mono (λa' w' h'=>⟨h'.1,zP e f s _ _ _ d.2 h'.2⟩) h
inductive Md where
 | lex (Q:Exit→Act→World→Prop)
 | any (K:Env→Prop)
 | held (S:World→Prop) (Q:Exit→Act→World→Prop) (fl:List (Nat×Bool))
def Md.cls (C:World→Prop):Md→World→Prop
 | .held S _ _=>S
 | _=>C
def Md.loud:Md→List Oper→Bool
 | .held _ _ fl,rest=>match fl[fl.length-rest.length]? with|some (_,q) => !q|none=>false
 | _,_=>true
def OW (P:Program)(n:Nat)(ops:List Oper)(C:World→Prop)(E:Env):Md→List Oper→Prop
 | .lex Q,rest=>LW P n ops C E Q rest
 | .any K,rest=>QW P n ops C E K rest
 | .held S Q fl,rest=>∀s,(∃pre,fl=pre++s)→RK ops s rest→∀a w,Fr n E a→C w→S w→pB P ops.toArray S Q s a w
def Ry (P:Program)(n:Nat)(S:World→Prop)(E:Env)(o:Oper)(v:Value):Prop:=∀a,Fr n E a→∀w,S w→(execOp a.eval o).run P w=.ok (.value v) w
theorem Ry.qy {o:Oper}{v:Value}(h:Ry P n C E o v):Qy P n C E o v:=λa c w d=>by
 unfold Oper.quietAt;rw [h a c w d];exact ⟨rfl,rfl⟩
theorem Sr {fl pre s:List (Nat×Bool)}{i:Nat}{q:Bool}{ops:List Oper}{o:Oper}{rest:List Oper}{S:World→Prop}(a:fl=pre++(i,q)::s)(c:RK ops s rest):(Md.held S Q fl).loud (o::rest) = !q:=by
 subst a;have:=c.len;simp only [Md.loud,List.length_append,List.length_cons,this];rw [show pre.length+(rest.length+1)-(rest.length+1)=pre.length by omega];simp
theorem Lb {m:Md}{l:List Oper}{o:Oper}{rest:List Oper}{v:Value}(e:wt l E o.guard=some true)(f:∀t,o.dst=some t→t<n)(g:Ry P n (m.cls C) E o v)(h:OW P n l C (upd E o.dst v) m rest):OW P n l C E m (o::rest):=by
 cases m with
 | lex Q=>exact YU e f g.qy h
 | any K=>exact ZE e f g.qy h
 | held S Q fl =>
  intro s p c a w j r d
  cases s with
  | nil=>exact c.elim
  | cons x s =>
   obtain ⟨i,q⟩:=x;obtain ⟨u,c⟩:=c;obtain ⟨pre,A⟩:=p;have hk:=h s ⟨pre++[(i,q)],by rw [A];simp⟩ c _ w (j.put _ v f) r d;have k:YieldsIf P l.toArray S o v a:=.inl ⟨j.wt e,λw' hw'=>g a j w' hw'⟩;have ho':l.toArray[i]?=some o:=by simpa using u
   cases q with
   | true=>rw [pB];exact ⟨o,v,ho',k,d,hk⟩
   | false=>rw [pB];exact k.wpOp ho' d ⟨d,hk⟩
theorem Wz {m:Md}{l:List Oper}{o:Oper}{rest:List Oper}(e:wt l E o.guard=some false)(f:∀t,o.dst=some t→t<n)(h:OW P n l C (upd E o.dst undef) m rest):OW P n l C E m (o::rest):=by
 cases m with
 | lex Q=>exact VE e f h
 | any K=>exact WA e f h
 | held S Q fl =>
  intro s k c a w g p d
  cases s with
  | nil=>exact c.elim
  | cons x s =>
   obtain ⟨i,q⟩:=x;obtain ⟨r,c⟩:=c;obtain ⟨pre,u⟩:=k;have hk:=h s ⟨pre++[(i,q)],by rw [u];simp⟩ c _ w (g.put _ undef f) p d;have j:YieldsIf P l.toArray S o undef a:=.inr ⟨g.wt e,rfl⟩;have ho':l.toArray[i]?=some o:=by simpa using r
   cases q with
   | true=>rw [pB];exact ⟨o,undef,ho',j,d,hk⟩
   | false=>rw [pB];exact j.wpOp ho' d ⟨d,hk⟩
def Md.here:Md→List Oper→Bool
 | .any _,_=>false
 | m,rest=>m.loud rest
def Md.post (C:World→Prop):Md→World→Prop
 | .held S _ _=>S
 | _=>C
def Md.keeps:Md→World→Prop
 | .held S _ _=>S
 | _=>λ_=>True
def Md.ends:Md→Exit→Act→World→Prop
 | .lex Q=>Q
 | .held _ Q _=>Q
 | .any _=>λ_ _ _=>False
theorem nX {m:Md}{l:List Oper}{o:Oper}{rest:List Oper}(g:m.here (o::rest)=true)(j:wt l E o.guard=some true)(h:∀a w,Fr n E a→C w→m.keeps w→∀K:Act→World→Prop,
   (∀C' E' a' w',OW P n l C' E' m rest→Fr n E' a'→C' w'→m.keeps w'→K a' w')→o.wp P a w K m.ends):OW P n l C E m (o::rest):=by
 cases m with
 | lex Q =>
  intro a w c e;unfold wpList;rw [if_pos (c.wt j)];exact .inl (h a w c e trivial _ (λC' E' a' w' f hF' hC' _=>f a' w' hF' hC'))
 | any K=>cases g
 | held S Q fl =>
  intro s p d a w c e r
  cases s with
  | nil=>exact d.elim
  | cons x s =>
   obtain ⟨i,q⟩:=x;obtain ⟨t,d⟩:=d;obtain ⟨pre,k⟩:=p;have u:=Sr (Q:=Q) (S:=S) (o:=o) k d
   have v:q=false:=by
    have:(Md.held S Q fl).loud (o::rest)=true:=g;rw [u] at this;simpa using this
   subst v;have ho':l.toArray[i]?=some o:=by simpa using t
   rw [pB];unfold wpOp;simp only [ho'];rw [if_pos (c.wt j)];exact .inl (h a w c e r _ (λC' E' a' w' f hF' hC' hS'=>⟨hS',f s ⟨pre++[(i,false)],by rw [k];simp⟩ d a' w' hF' hC' hS'⟩))
theorem HF {m:Md}{l:List Oper}{o:Oper}{rest:List Oper}{v:Value}(i:m.loud (o::rest)=true)(c:wt l E o.guard=some true)(d:∀t,o.dst=some t→t<n)(f:Qy P n C E o v)(j:∀w,C w→m.keeps w)(h:OW P n l C (upd E o.dst v) m rest):OW P n l C E m (o::rest):=by
 cases m with
 | lex Q=>exact YU c d f h
 | any K=>exact ZE c d f h
 | held S Q fl =>
  refine nX i c (λa w g k _ K p=>Oper.wp_of_quiet (C:=C) (K:=λa'=>a'=a.put o.dst v) k (λa' w' hC' e=>?_) ⟨v,λw' hC'=>f a g w' hC',rfl⟩);subst e;exact p C _ _ _ h (g.put _ _ d) hC' (j w' hC')
theorem ay {id:Nat}{l:List Oper}(h:OW P n l C E (.lex Q) l):CW P n C E Q (.region id l.toArray false):=VA h
theorem dE {id:Nat}{l:List Oper}(a:P.follows .mixedOrders=true)(c:Region.lexB .any l.toArray=true)(h:OW P n l (St w0 M L) E (.any (λE'=>XW n (St w0 M L) E' Q .normal)) l):CW P n (St w0 M L) E Q (.region id l.toArray true):=SH a c h
theorem XU {id:Nat}{l:List Oper}(fl:List (Nat×Bool))(S:World→Prop)(f:P.follows .mixedOrders=true)(d:(Region.noSelect l.toArray&&So l.toArray fl (Array.replicate l.length false)&&inB l fl&&Nat.beq fl.length l.length)=true)(g:nW Q)(i:∀w,St w0 M L w→S w)(h:OW P n l (St w0 M L) E (.held S Q fl) (rK l fl)):CW P n (St w0 M L) E Q (.region id l.toArray true):=λa w j e=>by
 simp only [Bool.and_eq_true] at d;obtain ⟨⟨⟨h1,k⟩,m⟩,o⟩:=d;refine wp_region_held (S:=S) f ?_;have c:fl.length=l.toArray.size:=by simpa using Nat.eq_of_beq_eq_true o
 rw [←c];refine zP h1 g fl _ a _ (by rw [c];simpa using k) (h fl ⟨[],rfl⟩ (pT m) a _ j e.drew (i _ e.drew))
theorem ao {l:List Oper}(h:XW n C E Q .normal):OW P n l C E (.lex Q) []:=YO h
theorem cu {l:List Oper}{K:Env→Prop}(h:K E):OW P n l C E (.any K) []:=YT h
theorem aM {l:List Oper}{S:World→Prop}{fl:List (Nat×Bool)}(h:XW n C E Q .normal):OW P n l C E (.held S Q fl) []:=λs _ c a w d e _=>by
 cases s with
 | nil=>rw [pB];exact h a w d e
 | cons x s=>exact c.elim
theorem OW.sub {m:Md}{R:Env}{l rest:List Oper}(h:OW P n l C R m rest)(d:Sub R E):OW P n l C E m rest:=by
 cases m with
 | lex Q=>exact λa w c e=>h a w (c.sub d) e
 | any K=>exact λa c=>h a (c.sub d)
 | held S Q fl=>exact λs h1 f a w c e g=>h s h1 f a w (c.sub d) e g
end
theorem YP {α0:Type}{P:Program}{n:Nat}{Q:Exit→Act→World→Prop}{c:Code}(Cf:α0→World→Prop)(Ef:α0→Env)(g:Nat→α0→Prop)(d:∀a,¬g 0 a)(step:∀k,(∀a,g k a→RW P n (Cf a) (Ef a) Q c k)→∀a,g (k+1) a→CW P n (Cf a) (Ef a) (QL P c k Q) c):∀k,∀a,g k a→CW P n (Cf a) (Ef a) Q (.loop c):=by
 have key:∀k,∀a,g k a→RW P n (Cf a) (Ef a) Q c k:=by
  intro k
  induction k with
  | zero=>intro a h;exact absurd h (d a)
  | succ k ih=>intro a h;exact sY (step k ih a h)
 intro k a h;exact MH k (key k a h)
theorem YV {α0 α1 α2 α3 α4:Type}{P:Program}{n:Nat}{Q:Exit→Act→World→Prop}{c:Code}(Cf:α0→α1→α2→α3→α4→World→Prop)(Ef:α0→α1→α2→α3→α4→Env)(g:Nat→α0→α1→α2→α3→α4→Prop)(j:∀a d e f i,¬g 0 a d e f i)(step:∀k,(∀a d e f i,g k a d e f i→RW P n (Cf a d e f i) (Ef a d e f i) Q c k)→∀a d e f i,g (k+1) a d e f i→CW P n (Cf a d e f i) (Ef a d e f i) (QL P c k Q) c):∀k,∀a d e f i,g k a d e f i→CW P n (Cf a d e f i) (Ef a d e f i) Q (.loop c):=by
 have key:∀k,∀a d e f i,g k a d e f i→RW P n (Cf a d e f i) (Ef a d e f i) Q c k:=by
  intro k
  induction k with
  | zero=>intro a d e f i h;exact absurd h (j a d e f i)
  | succ k ih=>intro a d e f i h;exact sY (step k ih a d e f i h)
 intro k a d e f i h;exact MH k (key k a d e f i h)
end Go.Vk
/- Operations that only compute; facts on types. -/
namespace Go.Vk
open Go.RowKit
variable {P:Program}
def isSl (P:Program)(t e:TypeId):Prop:=P.underlying t=some (.slice e)
def JK (P:Program)(t:TypeId):Prop:=P.underlying t=some .string
def Es (P:Program)(t:TypeId)(k:IntKind):Prop:=P.underlying t=some (.int k)
def fR (P:Program)(s f off:Nat):Prop:=∃fs fd i,P.underlying s=some (.struct fs)∧fs[f]?=some fd∧fd.offset=off∧P.info? fd.type=some i∧i.size≠0
structure eN (P:Program)(t:TypeId)(agg:Bool)(sz by_:Nat)(z:List Value):Prop where
 ag:∀w:World,(isAgg t).run P w=.ok agg w
 info:∃i zv,P.info? t=some i∧i.size=sz∧i.bytes=by_∧i.zero=some zv∧zv.cells=z.toArray
 one:agg=false→sz=1
inductive DW (P:Program) where
 | p
 | lenS (t e:TypeId) (h:isSl P t e)
 | lenT (t:TypeId) (h:JK P t)
 | fa (s f off:Nat) (h:fR P s f off)
 | cv (s t:TypeId) (k:IntKind) (hs:(P.underlying s).isSome=true) (h:Es P t k)
def Dz:IntKind→IntKind→Bool
 | .i8,.i8 | .i16,.i16 | .i32,.i32 | .i64,.i64 | .u8,.u8 | .u16,.u16 | .u32,.u32 | .u64,.u64=>true
 | _,_=>false
theorem CT {a b:IntKind}(h:Dz a b=true):a=b:=by cases a<;>cases b<;>first|rfl|cases h
def gS (op:BinOp)(k:IntKind)(x y:Int):Int:=match op with
 | .and=>k.wrap (BitVec.ofInt k.bits x &&& BitVec.ofInt k.bits y).toNat
 | .or=>k.wrap (BitVec.ofInt k.bits x ||| BitVec.ofInt k.bits y).toNat
 | .xor=>k.wrap (BitVec.ofInt k.bits x ^^^ BitVec.ofInt k.bits y).toNat
 | _=>k.wrap (BitVec.ofInt k.bits x &&& ~~~(BitVec.ofInt k.bits y)).toNat
def Ps (k:IntKind)(x y:Int):Int:=k.wrap (x*2^(min y.toNat k.bits))
def wW (k:IntKind)(x y:Int):Int:=x.fdiv (2^(min y.toNat k.bits))
def Mh:Int→Bool
 | .ofNat _=>true
 | .negSucc _=>false
def FO:Int→Bool
 | .ofNat (_+1)=>true
 | _=>false
def Qz (op:BinOp)(k:IntKind)(x y:Int):Option Value:=match op with
 | .add=>some (.int k (k.wrap (x+y)))
 | .sub=>some (.int k (k.wrap (x-y)))
 | .mul=>some (.int k (k.wrap (x*y)))
 | .quo=>bif FO y then some (.int k (k.wrap (x.tdiv y))) else none
 | .rem=>bif FO y then some (.int k (x.tmod y)) else none
 | .and=>some (.int k (gS .and k x y))
 | .or=>some (.int k (gS .or k x y))
 | .xor=>some (.int k (gS .xor k x y))
 | .andNot=>some (.int k (gS .andNot k x y))
 | .shl=>none
 | .shr=>none
 | .eql=>some (.bool (x==y))
 | .neq=>some (.bool (x != y))
 | .lss=>some (.bool (decide (x<y)))
 | .leq=>some (.bool (decide (x≤y)))
 | .gtr=>some (.bool (decide (x>y)))
 | .geq=>some (.bool (decide (x≥y)))
def Yf (op:BinOp):Value→Value→Option Value
 | .int k x,.int k' y =>
  match op with
  | .shl=>bif Mh y then some (.int k (Ps k x y)) else none
  | .shr=>bif Mh y then some (.int k (wW k x y)) else none
  | _=>bif Dz k k' then Qz op k x y else none
 | .string ⟨⟨a⟩⟩,.string ⟨⟨b⟩⟩ =>
  match op with
  | .eql=>some (.bool (a==b))
  | .neq=>some (.bool (!(a==b)))
  | _=>none
 | _,_=>none
def EB (h:DW P)(E:Env)(op:Op):Option Value:=match h with
 | .p =>
  match op with
  | .move x | .assign x=>ev E x
  | .binOp op _ x y _ =>
   match ev E x,ev E y with
   | some a,some b=>Yf op a b
   | _,_=>none
  | .unOp op _ x =>
   match op,ev E x with
   | .not,some (.bool b)=>some (.bool (!b))
   | .neg,some (.int k n)=>some (.int k (k.wrap (0-n)))
   | _,_=>none
  | .pick c a b =>
   match ev E c with
   | some (.bool c) =>
    match ev E a,ev E b with
    | some (.bool a),some (.bool b)=>some (.bool (bif c then a else b))
    | some u,some v =>
     match c with
     | true=>some u
     | false=>some v
    | _,_=>none
   | _=>none
  | .extract x i =>
   match ev E x with
   | some (.tuple vs)=>vs[i]?
   | _=>none
  | .nilCheck x =>
   match ev E x with
   | some (.pointer (some p))=>some (.pointer (some p))
   | _=>none
  | _=>none
 | .lenS t _ _ =>
  match op with
  | .call {callee:=.builtin .len,args:=⟨[x]⟩,argTypes:=⟨[u]⟩} =>
   bif Nat.beq u t then
    match ev E x with
    | some (.slice _ n _)=>some (.int .i64 (n:Int))
    | _=>none
   else none
  | _=>none
 | .lenT t _ =>
  match op with
  | .call {callee:=.builtin .len,args:=⟨[x]⟩,argTypes:=⟨[u]⟩} =>
   bif Nat.beq u t then
    match ev E x with
    | some (.string ⟨⟨s⟩⟩)=>some (.int .i64 (s.length:Int))
    | _=>none
   else none
  | _=>none
 | .fa s f off _ =>
  match op with
  | .fieldAddr s' x f' =>
   bif Nat.beq s' s&&Nat.beq f' f then
    match ev E x with
    | some (.pointer (some p))=>some (.pointer (some (p.add off)))
    | _=>none
   else none
  | _=>none
 | .cv s t k _ _ =>
  match op with
  | .convert s' t' x =>
   bif Nat.beq s' s&&Nat.beq t' t then
    match ev E x with
    | some (.int _ n)=>some (.int k (k.wrap n))
    | _=>none
   else none
  | _=>none
def Zp (P:Program)(ρ:Operand→Value)(o:Oper)(v:Value):Prop:=∀w,(execOp ρ o).run P w=.ok (.value v) w
theorem Ry.of_runs {n:Nat}{S:World→Prop}{E:Env}{o:Oper}{v:Value}(h:∀a,Fr n E a→Zp P a.eval o v):Ry P n S E o v:=λa c w _=>h a c w
theorem XY {s f off:Nat}(h:fR P s f off)(p:Addr)(w:World):(Instr.fieldAt s (.pointer (some p)) f).run P w=.ok (.pointer (some (p.add off))) w:=by
 obtain ⟨fs,fd,i,h1,a,rfl,c,d⟩:=h;simp [Instr.fieldAt,run_underlying h1,a,Instr.sureAddr,fieldPlace,sizeOf,typeInfo,c,d]
theorem Ys {s t:TypeId}{k:IntKind}(a:(P.underlying s).isSome=true)(h:Es P t k)(k':IntKind)(n:Int)(w:World):(convert s t (.int k' n)).run P w=.ok (.int k (k.wrap n)) w:=by
 obtain ⟨d,c⟩:=Option.isSome_iff_exists.1 a;unfold convert;simp only [Sem.run_bind,run_underlying c,run_underlying h,Result.andThen_ok];cases d<;>rfl
theorem TF {op:BinOp}{t:TypeId}{x y:Operand}{a b v:Value}(h:Yf op a b=some v)(w:World):(do eqGuard op t x y a b;binOp op t a b:Sem Value).run P w=.ok v w:=by
 unfold Yf at h;split at h
 ·rename_i k n k' m;simp only [eqGuard_at_int,Sem.run_bind,Sem.run_pure,Result.andThen_ok];split at h
  ·cases c:Mh m with
   | false=>simp [c] at h
   | true =>
    simp only [c,cond_true,Option.some.injEq] at h;subst h
    cases m with
    | ofNat m =>
     have f:¬((m:Int)<0):=by omega
     simp [binOp,Op.shift,Ps,f]
    | negSucc m=>cases c
  ·cases c:Mh m with
   | false=>simp [c] at h
   | true =>
    simp only [c,cond_true,Option.some.injEq] at h;subst h
    cases m with
    | ofNat m =>
     have f:¬((m:Int)<0):=by omega
     simp [binOp,Op.shift,wW,f]
    | negSucc m=>cases c
  rename_i h1 i
  cases hk:Dz k k' with
  | false=>simp [hk] at h
  | true =>
   obtain rfl:=CT hk;simp only [hk,cond_true] at h;cases op<;>simp only [Qz] at h
   case quo =>
    cases d:FO m with
    | false=>simp [d] at h
    | true =>
     simp only [d,cond_true,Option.some.injEq] at h;subst h
     have g:m≠0:=by
      intro e;subst e;simp [FO] at d
     simp [binOp_quo,Op.intDiv,g]
   case rem =>
    cases d:FO m with
    | false=>simp [d] at h
    | true =>
     simp only [d,cond_true,Option.some.injEq] at h;subst h
     have g:m≠0:=by
      intro e;subst e;simp [FO] at d
     simp [binOp_rem,Op.intDiv,g]
   all_goals first
    | (cases h;done)
    | (simp only [Option.some.injEq] at h;subst h;simp [binOp,Op.intArith,Op.intBits,Op.intCmp,gS])
 ·split at h
  ·simp only [Option.some.injEq] at h;subst h;simp [eqGuard_at_string,binOp_string_eql]
  ·simp only [Option.some.injEq] at h;subst h;simp [eqGuard_at_string,binOp_string_neq]
  cases h
 cases h
theorem Pw {n:Nat}{E:Env}{hint:DW P}{o:Oper}{v:Value}{a:Act}(i:Fr n E a)(h:EB hint E o.op=some v):Zp P a.eval o v:=by
 intro w;unfold execOp;obtain ⟨dst,op,ty,pos,after,guard⟩:=o;simp only at h ⊢
 cases hint with
 | p =>
  simp only [EB] at h;split at h
  ·simp [i.ev h]
  ·simp [i.ev h]
  ·split at h
   ·rename_i op t x y u A B a b d q;have:=TF (P:=P) (t:=t) (x:=x) (y:=y) h w;simp only [Sem.run_bind,i.ev d,i.ev q] at this ⊢;rw [this];rfl
   cases h
  ·split at h
   ·rename_i d;simp only [Option.some.injEq] at h;subst h;simp [i.ev d,Op.unary]
   ·rename_i d;simp only [Option.some.injEq] at h;subst h;simp [i.ev d,Op.unary,Op.intArith]
   cases h
  ·split at h
   ·rename_i c d;simp only [Sem.run_bind,i.ev d,asBool,Sem.run_pure,Result.andThen_ok];split at h
    ·rename_i m g;simp only [Option.some.injEq] at h;subst h;simp only [i.ev m,i.ev g];cases c<;>rfl
    ·rename_i _ m g;simp only [i.ev m,i.ev g];cases c<;>simp only [Option.some.injEq] at h<;>subst h<;>rfl
    cases h
   cases h
  ·split at h
   ·rename_i d;simp only [Sem.run_bind,i.ev d,Instr.extract,h];rfl
   cases h
  ·split at h
   ·rename_i d;simp only [Option.some.injEq] at h;subst h;simp only [i.ev d];rfl
   cases h
  cases h
 | lenS t e j =>
  simp only [EB] at h;split at h
  ·rename_i x u
   cases g:Nat.beq u t with
   | false=>simp [g] at h
   | true =>
    obtain rfl:=Nat.eq_of_beq_eq_true g;simp only [g,cond_true] at h;split at h
    ·rename_i d;simp only [Option.some.injEq] at h;subst h;have hx':=i.ev d;simp [resolve,invoke,builtin,Builtin.len_,hx',run_underlying j,goInt]
    cases h
  cases h
 | lenT t j =>
  simp only [EB] at h;split at h
  ·rename_i x u
   cases g:Nat.beq u t with
   | false=>simp [g] at h
   | true =>
    obtain rfl:=Nat.eq_of_beq_eq_true g;simp only [g,cond_true] at h;split at h
    ·rename_i d;simp only [Option.some.injEq] at h;subst h;have hx':=i.ev d;have hs':P.underlying u=some .string:=j;simp [resolve,invoke,builtin,Builtin.len_,hx',run_underlying hs',goInt]
     try rfl
    cases h
  cases h
 | fa s f off j =>
  simp only [EB] at h;split at h
  ·rename_i s' x f'
   cases g:Nat.beq s' s with
   | false=>simp [g] at h
   | true =>
    cases l:Nat.beq f' f with
    | false=>simp [l] at h
    | true =>
     obtain rfl:=Nat.eq_of_beq_eq_true g;obtain rfl:=Nat.eq_of_beq_eq_true l;simp only [g,l,Bool.and_self,cond_true] at h;split at h
     ·rename_i d;simp only [Option.some.injEq] at h;subst h;simp [i.ev d,XY j]
     cases h
  cases h
 | cv s t k j r =>
  simp only [EB] at h;split at h
  ·rename_i s' t' x
   cases g:Nat.beq s' s with
   | false=>simp [g] at h
   | true =>
    cases l:Nat.beq t' t with
    | false=>simp [l] at h
    | true =>
     obtain rfl:=Nat.eq_of_beq_eq_true g;obtain rfl:=Nat.eq_of_beq_eq_true l;simp only [g,l,Bool.and_self,cond_true] at h;split at h
     ·rename_i d;simp only [Option.some.injEq] at h;subst h;simp [i.ev d,Ys j r]
     cases h
  cases h
theorem VR {n:Nat}{S:World→Prop}{E:Env}{hint:DW P}{o:Oper}{v:Value}(h:EB hint E o.op=some v):Ry P n S E o v:=Ry.of_runs λ_ a=>Pw a h
def fo (n:Nat):Option Tmp→Bool
 | none=>true
 | some t=>Nat.blt t n
theorem aj {n:Nat}{d:Option Tmp}(h:fo n d=true):∀t,d=some t→t<n:=by
 intro t a;subst a;exact Nat.le_of_ble_eq_true h
def za (n:Nat)(ops:List Oper):List (DW P)→List Oper→Env→Option (List Oper×Env)
 | [],rest,E=>some (rest,E)
 | _::_,[],_=>none
 | h::a,o::rest,E =>
  bif fo n o.dst then
   match wt ops E o.guard with
   | some true =>
    match EB h E o.op with
    | some v=>za n ops a rest (upd E o.dst v)
    | none=>none
   | some false=>za n ops a rest (upd E o.dst undef)
   | none=>none
  else none
theorem aa {n:Nat}{C:World→Prop}{m:Md}{l:List Oper}(d:List (DW P)){rest rest':List Oper}{E E':Env}(h:za n l d rest E=some (rest',E'))(hk:OW P n l C E' m rest'):OW P n l C E m rest:=by
 induction d generalizing rest E with
 | nil=>simp only [za,Option.some.injEq,Prod.mk.injEq] at h;obtain ⟨rfl,rfl⟩:=h;exact hk
 | cons hint d ih =>
  cases rest with
  | nil=>cases h
  | cons o rest =>
   simp only [za] at h
   cases c:fo n o.dst with
   | false=>simp [c] at h
   | true =>
    simp only [c,cond_true] at h
    cases a:wt l E o.guard with
    | none=>simp [a] at h
    | some b =>
     cases b with
     | true =>
      simp only [a] at h
      cases e:EB hint E o.op with
      | none=>simp [e] at h
      | some v =>
       simp only [e] at h;exact Lb a (aj c) (VR e) (ih h)
     | false =>
      simp only [a] at h;exact Wz a (aj c) (ih h)
end Go.Vk
/- Operations on memory. -/
namespace Go.Vk
open Go.RowKit
variable {P:Program} {n:Nat} {C:World→Prop} {E:Env} {m:Md} {l rest:List Oper} {w0:World} {M:List Nat} {L:List Res} {Q:Exit→Act→World→Prop}
def idx {α:Type}(xs:List α)(j:Int):Option α:=if 0≤j then xs[j.toNat]? else none
theorem cD {α:Type}{xs:List α}{j:Int}{x:α}(h:idx xs j=some x):0≤j∧j.toNat<xs.length∧xs[j.toNat]?=some x:=by
 unfold idx at h;split at h
 ·exact ⟨‹_›,(List.getElem?_eq_some_iff.1 h).1,h⟩
 cases h
theorem DZ {t:TypeId}{sz by_:Nat}{z:List Value}{w:World}{X:List Nat}{p:Addr}{agg:Bool}{cs:List Value}(a:eN P t agg sz by_ z)(e:At w X p cs)(d:cs.length=sz):(Instr.loadAt t (.pointer (some p))).run P w=.ok (if agg then .agg cs.toArray else cs.headD undef) w:=by
 obtain ⟨i,zv,g,h,_,_,_⟩:=a.info;have c:=run_loadCells_list (P:=P) w p cs e.2;rw [d] at c
 cases agg with
 | true=>simp [Instr.loadAt,Instr.sureAddr,loadVar,a.ag w,sizeOf,typeInfo,g,h,c]
 | false =>
  have h1:=a.one rfl;rw [h1] at d
  match cs,d with
  | [v],_ =>
   have f:=e.2 0 v rfl;rw [fp] at f;simp [Instr.loadAt,Instr.sureAddr,loadVar,a.ag w,f]
theorem cC {o:Oper}{t:TypeId}{x:Operand}{p:Addr}{cs:List Value}{sz by_:Nat}{z:List Value}(c:o.op=.load t x)(d:ev E x=some (.pointer (some p)))(e:eN P t true sz by_ z)(f:∀w,C w→At w [] p cs)(g:cs.length=sz):Ry P n C E o (.agg cs.toArray):=λa h w i=>by
 unfold execOp;simp only [c,h.ev d,Sem.run_bind,DZ e (f w i) g];rfl
theorem bw {o:Oper}{t:TypeId}{x:Operand}{p:Addr}{v:Value}{sz by_:Nat}{z:List Value}(d:o.op=.load t x)(e:ev E x=some (.pointer (some p)))(c:eN P t false sz by_ z)(f:∀w,C w→At w [] p [v]):Ry P n C E o v:=λa g w h=>by
 unfold execOp;simp only [d,g.ev e,Sem.run_bind,DZ c (f w h) (by rw [c.one rfl];rfl)];rfl
def Bor (w0:World)(M:List Nat)(S:World→Prop):Prop:=∀w,S w→Ext M w0 w
theorem bor {w0:World}{M:List Nat}{L:List Res}:Bor w0 M (St w0 M L):=λ_ h=>h.ext
theorem bD {S:World→Prop}{p:Addr}{cs:List Value}(a:Bor w0 M S)(h:At w0 M p cs):∀w,S w→At w [] p cs:=λw c =>
 (h.loc (λb d e=>(a w c).block b d e)).anti (by simp)
theorem Yd {w:World}{X:List Nat}{p:Addr}{cs ds:List Value}(h:At w X p cs)(o:Nat)(c:(cs.drop o).take ds.length=ds):At w X (p.add o) ds:=by
 refine ⟨λd=>?_,λj v a=>?_⟩
 ·rw [uX];refine h.1 (λe=>d ?_);subst e;simp at c;exact c
 rw [gN];refine h.2 _ v ?_;rw [←c,List.getElem?_take] at a;split at a
 ·simpa using a
 cases a
def QQ (S:World→Prop)(b:Nat)(T:TypeId)(cs:List Value):Prop:=∀w,S w→w.heap[b]?=some (.cells cs.toArray T (0,0))
theorem tg {i b:Nat}{T:TypeId}{cs:List Value}(a:L[i]?=some (Res.box b T cs)):QQ (St w0 M L) b T cs:=λ_ c=>c.ok _ (List.mem_of_getElem? a)
theorem oE {S:World→Prop}{b:Nat}{T:TypeId}{cs ds:List Value}(o:Nat)(c:QQ S b T cs)(d:(cs.drop o).take ds.length=ds):∀w,S w→At w [] ⟨b,o,none⟩ ds:=λw e=>by
 have f:w.heap[b]?=some (.cells cs.toArray T (0,0)):=c w e;refine ⟨λ_=>by simp,λj v a=>?_⟩;rw [fh,cell_of_row w b _ cs.toArray T (0,0) f];rw [←d,List.getElem?_take] at a;split at a
 ·simpa using a
 cases a
theorem XI {o:Oper}{t:TypeId}{x:Operand}{b off:Nat}{v:Value}{sz by_:Nat}{z:List Value}{T:TypeId}{cs:List Value}(a:o.op=.load t x)(c:ev E x=some (.pointer (some ⟨b,off,none⟩)))(d:eN P t false sz by_ z)(e:QQ C b T cs)(f:cs[off]?=some v):Ry P n C E o v:=bw a c d (oE off e (by
  obtain ⟨h1,g⟩:=List.getElem?_eq_some_iff.1 f;rw [List.drop_eq_getElem_cons h1,g];rfl))
theorem Yi {o:Oper}{t:TypeId}{x:Operand}{b off:Nat}{ds:List Value}{sz by_:Nat}{z:List Value}{T:TypeId}{cs:List Value}(c:o.op=.load t x)(d:ev E x=some (.pointer (some ⟨b,off,none⟩)))(e:eN P t true sz by_ z)(f:QQ C b T cs)(g:(cs.drop off).take sz=ds)(a:ds.length=sz):Ry P n C E o (.agg ds.toArray):=cC c d e (oE off f (by rw [a];exact g)) a
theorem wg {t et:TypeId}{agg:Bool}{sz by_:Nat}{z:List Value}(a:isSl P t et)(c:eN P et agg sz by_ z)(p:Addr)(len cap:Nat)(k:IntKind)(j:Int)(d:0≤j)(h1:j.toNat<len)(w:World):(Instr.indexAt t (.slice (some p) len cap) (.int k j)).run P w=.ok (.pointer (some (p.add (j.toNat*sz)))) w:=by
 obtain ⟨i,zv,e,f,_,_,_⟩:=c.info;have g:j<(len:Int):=by omega
 simp [Instr.indexAt,asIntOf,run_underlying a,d,g,sizeOf,typeInfo,e,f]
theorem Zm {α:Type}{e:Enc α}{w:World}{X:List Nat}{xs:List α}{v:Value}{j:Int}{x:α}(h:mS e w X xs [v])(f:idx xs j=some x):∃p cap ds,v=.slice (some p) xs.length cap∧e.rd w X x ds∧At w X (p.add (j.toNat*e.sz)) ds:=by
 obtain ⟨o,h1,g⟩:=cD f;obtain ⟨a,cap,i,_,_,c⟩:=h;have d:xs≠[]:=λe=>by subst e;simp at h1
 obtain ⟨p,rfl,k⟩:=c d;obtain ⟨ds,l,m⟩:=k _ x g;exact ⟨p,cap,ds,by simpa using i,l,m⟩
theorem bL {α:Type}{e:Enc α}{o:Oper}{t et:TypeId}{x i:Operand}{agg:Bool}{sz by_:Nat}{z:List Value}{xs:List α}{v:Value}{k:IntKind}{j:Int}{y:α}(r:o.op=.indexAddr t x i)(s:wt l E o.guard=some true)(u:fo n o.dst=true)(A:ev E x=some v)(D:ev E i=some (.int k j))(F:isSl P t et)(G:eN P et agg sz by_ z)(c:e.sz=sz)(h:mS e w0 M xs [v])(d:idx xs j=some y)(hk:∀q ds,e.rd w0 M y ds→At w0 M q ds→OW P n l C (upd E o.dst (.pointer (some q))) m rest):OW P n l C E m (o::rest):=by
 obtain ⟨p,cap,ds,rfl,f,H⟩:=Zm h d;obtain ⟨L,h1,_⟩:=cD d;refine Lb s (aj u) (v:=.pointer (some (p.add (j.toNat*e.sz)))) (λa g w _=>?_) (hk _ ds f H);unfold execOp;simp only [r,g.ev A,g.ev D,Sem.run_bind,wg F G p _ cap k j L h1 w,c];rfl
theorem JW {α:Type}{val:α→Value}{h1:∀x,(val x).oneCell'=true}{w:World}:∀{ys:List α}{F:List Nat}{ds:List Value},jX (nV val h1) w F ys ds→F=[]∧ds=ys.map val:=by
 intro ys
 induction ys with
 | nil=>intro F ds h;exact h
 | cons y ys ih =>
  intro F ds h;obtain ⟨Fa,Fb,c1,c2,rfl,rfl,_,a,c⟩:=h;obtain ⟨rfl,rfl⟩:=ih c;rw [a.1,a.2];exact ⟨rfl,rfl⟩
theorem zB {α:Type}{val:α→Value}{h1:∀x,(val x).oneCell'=true}{w:World}:∀(ys:List α),jX (nV val h1) w [] ys (ys.map val)
 | []=>⟨rfl,rfl⟩
 | y::ys=>⟨[],[],[val y],ys.map val,rfl,rfl,rfl,⟨rfl,rfl⟩,zB ys⟩
def WP {α:Type}(val:α→Value)(T:TypeId)(b cap:Nat)(xs:List α)(w:World):Prop:=∃cur,tq w b cur T∧xs.length≤cap∧cap≤maxLen∧cur.size=cap∧cur.toList.take xs.length=xs.map val
theorem UY {α:Type}{val:α→Value}{h1:∀x,(val x).oneCell'=true}{T:TypeId}{w:World}{F:List Nat}{xs:List α}{v:Value}(h:(cn (nV val h1) T).own w F xs [v]):(xs=[]∧F=[]∧v=.slice none 0 0)∨∃b cap,F=[b]∧v=.slice (some ⟨b,0,none⟩) xs.length cap∧WP val T b cap xs w:=by
 have h:vF (nV val h1) T w F xs [v]:=h;rcases h with ⟨h1,d,a⟩|⟨b,cap,cur,k,ds,rfl,c,e,a,f,g,i,j⟩
 ·exact .inl ⟨h1,d,by simpa using a⟩
 obtain ⟨rfl,rfl⟩:=JW j;refine .inr ⟨b,cap,rfl,by simpa using c,cur,e,a,f,?_,?_⟩
 ·simpa [nV] using g
 simpa [nV] using i
theorem OO {α:Type}{val:α→Value}{h1:∀x,(val x).oneCell'=true}{T:TypeId}{w:World}{b cap:Nat}{xs:List α}(h:WP val T b cap xs w):(cn (nV val h1) T).own w [b] xs [.slice (some ⟨b,0,none⟩) xs.length cap]:=by
 obtain ⟨cur,h1,a,c,d,e⟩:=h;exact .inr ⟨b,cap,cur,[],xs.map val,rfl,rfl,h1,a,c,by simpa [nV] using d,by simpa [nV] using e,zB xs⟩
theorem EC {o:Oper}{t:TypeId}{x i:Operand}{s:List UInt8}{k:IntKind}{j:Int}{c:UInt8}(g:o.op=.index t x i)(h:ev E x=some (vS s))(l:ev E i=some (.int k j))(m:JK P t)(p:idx s j=some c):Ry P n C E o (.int .u8 (c.toNat:Int)):=λa d w _=>by
 obtain ⟨q,h1,e⟩:=cD p;have ht':P.underlying t=some .string:=m
 have r:(⟨s.toArray⟩:ByteArray)[j.toNat]?=some c:=by
  have f:j.toNat<(⟨s.toArray⟩:ByteArray).size:=by simpa [ByteArray.size] using h1
  rw [getElem?_pos (⟨s.toArray⟩:ByteArray) j.toNat f];have:s[j.toNat]'h1=c:=by rw [List.getElem?_eq_getElem h1] at e;simpa using e
  simp [ByteArray.getElem_eq_getElem_data,this]
 unfold execOp;simp [g,d.ev h,d.ev l,Instr.index,asIntOf,run_underlying ht',vS,q,r]
def Ns (P:Program)(f:FuncId):Prop:=∃fn,P.funcs[f]?=some fn∧fn.body.isSome=true∧fn.name ≠ "runtime.NumGoroutine"
def evs (E:Env):List Operand→Option (List Value)
 | []=>some []
 | x::xs =>
  match ev E x,evs E xs with
  | some v,some vs=>some (v::vs)
  | _,_=>none
theorem Fr.evs {a:Act}(c:Fr n E a):∀{xs:List Operand}{vs:List Value},evs E xs=some vs→xs.map a.eval=vs
 | [],vs,h=>by simp [Vk.evs] at h;subst h;rfl
 | x::xs,vs,h=>by
  simp only [Vk.evs] at h;split at h
  ·rename_i e d;simp only [Option.some.injEq] at h;subst h;simp [c.ev e,c.evs d]
  cases h
theorem OY {o:Oper}{f:FuncId}{xs:List Operand}{ts:Array TypeId}{vs:List Value}{a:Act}(d:o.op=.call {callee:=.value (.func f),args:=xs.toArray,argTypes:=ts})(e:Ns P f)(g:Fr n E a)(h:evs E xs=some vs)(w:World):(execOp a.eval o).run P w=.ok (.enter f vs.toArray) w:=by
 obtain ⟨fn,h1,i,j⟩:=e;obtain ⟨c,k⟩:=Option.isSome_iff_exists.1 i;have l:(xs.toArray.map a.eval)=vs.toArray:=by rw [←g.evs h];simp
 unfold execOp;simp only [d,resolve,Act.eval,Deferred.ofValue,l];simp [invoke,callFunc,h1,j,k]
theorem Rl {o:Oper}{f:FuncId}{xs:List Operand}{ts:Array TypeId}{vs:List Value}{v:Value}(d:o.op=.call {callee:=.value (.func f),args:=xs.toArray,argTypes:=ts})(g:Ns P f)(h:evs E xs=some vs)(i:∀w,St w0 M L w→Calls P f vs.toArray w λe w'=>e=.returned v∧Ext [] w w'):Qy P n (St w0 M L) E o v:=λa j w c=>by
 unfold Oper.quietAt;rw [OY d g j h w];exact ⟨rfl,(i w c).mono λe w' ⟨k,l⟩=>⟨k,c.step l⟩⟩
theorem XF {o:Oper}{f:FuncId}{xs:List Operand}{ts:Array TypeId}{vs:List Value}{R:Value→World→World→Prop}(g:o.op=.call {callee:=.value (.func f),args:=xs.toArray,argTypes:=ts})(i:Ns P f)(j:m.here (o::rest)=true)(k:wt l E o.guard=some true)(p:fo n o.dst=true)(q:evs E xs=some vs)(r:∀w,C w→Calls P f vs.toArray w λe w'=>∃v,e=.returned v∧R v w w')(hk:∀v w w',C w→R v w w'→∃C':World→Prop,C' w'∧(∀u,C' u→m.keeps u)∧OW P n l C' (upd E o.dst v) m rest):OW P n l C E m (o::rest):=nX j k λa w c d _ K s=>by
  unfold Oper.wp;rw [OY g i c q w,Oper.upon_enter];refine (r w d).mono λe w' ⟨v,t,x⟩=>?_;subst t;obtain ⟨C',hC',hS',h⟩:=hk v w w' d x;exact s C' _ _ w' h (c.put _ _ (aj p)) hC' (hS' w' hC')
end Go.Vk
/- Entering a function, leaving it; operations that make or write memory. -/
namespace Go.Vk
open Go.RowKit
variable {P:Program} {n:Nat} {C:World→Prop} {E:Env} {m:Md} {l rest:List Oper} {w0:World} {M:List Nat} {L:List Res} {Q:Exit→Act→World→Prop}
def Gz:Nat→List Value→Env
 | _,[]=>[]
 | k,v::vs=>(k,v)::Gz (k+1) vs
theorem Ot {vs:List Value}:∀{k t:Nat}{v:Value},kA (Gz k vs) t=some v→k≤t∧vs[t-k]?=some v:=by
 induction vs with
 | nil=>intro k t v h;cases h
 | cons u vs ih =>
  intro k t v h;simp only [Gz,kA] at h
  cases hk:Nat.beq k t with
  | true =>
   have:=Nat.eq_of_beq_eq_true hk;subst this;simp only [hk,cond_true,Option.some.injEq] at h;subst h;exact ⟨Nat.le_refl _,by simp⟩
  | false =>
   simp only [hk,cond_false] at h;obtain ⟨h1,a⟩:=ih h;refine ⟨by omega,?_⟩;rw [show t-k=(t-(k+1))+1 by omega];simpa using a
theorem WY {f:FuncId}{fn:Func}{c:Code}{w:World}{vs:List Value}{R:Ending→World→Prop}(e:P.funcs[f]?=some fn)(g:fn.body=some c)(i:fn.ntmps=n)(j:Nat.ble vs.length n=true)(k:St w M L w)(h:CW P n (St w M L) (Gz 0 vs) (bodyPost P fn R) c):Calls P f vs.toArray w R:=by
 refine calls_of_wp e g (h _ w ⟨?_,rfl,λt v l=>?_⟩ k)
 ·have:=Nat.le_of_ble_eq_true j;simp [i];omega
 obtain ⟨_,a⟩:=Ot l;rw [Nat.sub_zero] at a;have d:t<vs.length:=(List.getElem?_eq_some_iff.1 a).1;rw [Array.getD_eq_getD_getElem?,Array.getElem?_append_left (by simpa using d)];simp [a]
theorem St.init (w:World)(M:List Nat):St w M [] w:=⟨Ext.refl _ _,by simp,by simp [eh],by simp [eh],by simp [eh]⟩
theorem ze {α:Type}{b:Bool}{r o p:Option α}(a:b=true)(h:(if b then o else p)=r):o=r:=by rw [if_pos a] at h;exact h
theorem yT {α:Type}{b:Bool}{r o p:Option α}(a:b=false)(h:(if b then o else p)=r):p=r:=by rw [a] at h;exact h
theorem Xc {α β:Type}{o:Option α}{f:α→Option β}{r:β}(h:o.bind f=some r):∃x,o=some x∧f x=some r:=Option.bind_eq_some_iff.1 h
theorem ah {α:Type}{x r:α}(h:some x=some r):x=r:=Option.some.inj h
theorem IX {α:Type}{e:Enc α}{w:World}{X:List Nat}{xs:List α}{v:Value}(h:mS e w X xs [v]):∃a cap,v=.slice a xs.length cap:=by
 obtain ⟨a,cap,c,_⟩:=h;exact ⟨a,cap,by simpa using c⟩
def vEq:Value→Value→Bool
 | .int k n,.int k' m=>Dz k k'&&n==m
 | .bool a,.bool b=>a==b
 | .string s,.string t=>s.data.toList==t.data.toList
 | .slice none a b,.slice none c d=>a==c&&b==d
 | .pointer none,.pointer none=>true
 | .nilFunc,.nilFunc=>true
 | .nilIface,.nilIface=>true
 | _,_=>false
theorem Yk {a b:Value}(h:vEq a b=true):a=b:=by
 unfold vEq at h;split at h
 ·simp only [Bool.and_eq_true,beq_iff_eq] at h;rw [CT h.1,h.2]
 ·simp only [beq_iff_eq] at h;rw [h]
 ·rename_i s t;simp only [beq_iff_eq] at h;obtain ⟨⟨s⟩⟩:=s;obtain ⟨⟨t⟩⟩:=t;simp at h;rw [h]
 ·simp only [Bool.and_eq_true,beq_iff_eq] at h;rw [h.1,h.2]
 ·rfl
 ·rfl
 ·rfl
 cases h
def Xg:List Value→List Value→Bool
 | [],[]=>true
 | a::as,b::bs=>vEq a b&&Xg as bs
 | _,_=>false
theorem Qs:∀{a b:List Value},Xg a b=true→a=b
 | [],[],_=>rfl
 | a::as,b::bs,h=>by
  simp only [Xg,Bool.and_eq_true] at h;rw [Yk h.1,Qs h.2]
 | [],_::_,h=>by cases h
 | _::_,[],h=>by cases h
def tyB (P:Program)(t:TypeId)(agg:Bool)(sz by_:Nat)(z:List Value):Bool:=(match P.info? t with
   | some i=>Nat.beq i.size sz&&Nat.beq i.bytes by_&&(match i.zero with|some v=>Xg v.cells.toList z|none=>false)
   | none=>false) &&
  (match P.underlying t with
   | some (.struct _)|some (.array _ _)=>agg
   | some _ => !agg&&Nat.beq sz 1
   | none=>false)
theorem eF {t:TypeId}{agg:Bool}{sz by_:Nat}{z:List Value}(h:tyB P t agg sz by_ z=true:=by kernel_rfl):eN P t agg sz by_ z:=by
 simp only [tyB,Bool.and_eq_true] at h;obtain ⟨h1,c⟩:=h;refine ⟨λw=>?_,?_,λj=>?_⟩
 ·cases a:P.underlying t with
  | none=>simp [a] at c
  | some d =>
   rw [a] at c;unfold isAgg;simp only [Sem.run_bind,run_underlying a,Result.andThen_ok];cases d<;>simp_all
 ·cases g:P.info? t with
  | none=>simp [g] at h1
  | some i =>
   simp only [g,Bool.and_eq_true] at h1;obtain ⟨⟨k,l⟩,e⟩:=h1
   cases f:i.zero with
   | none=>simp [f] at e
   | some v =>
    simp only [f] at e;exact ⟨i,v,rfl,Nat.eq_of_beq_eq_true k,Nat.eq_of_beq_eq_true l,f,by rw [←Qs e]⟩
 subst j
 cases a:P.underlying t with
 | none=>simp [a] at c
 | some d =>
  rw [a] at c;cases d<;>simp_all
def slB (P:Program)(t e:TypeId):Bool:=match P.underlying t with|some (.slice x)=>Nat.beq x e|_=>false
theorem nZ {t e:TypeId}(h:slB P t e=true:=by kernel_rfl):isSl P t e:=by
 unfold slB at h;split at h
 ·rename_i x a;rw [isSl,a,Nat.eq_of_beq_eq_true h]
 cases h
def faB (P:Program)(s f off:Nat):Bool:=match P.underlying s with
 | some (.struct fs) =>
  match fs[f]? with
  | some fd=>Nat.beq fd.offset off&&(match P.info? fd.type with|some i=>Nat.blt 0 i.size|none=>false)
  | none=>false
 | _=>false
theorem cd {s f off:Nat}(h:faB P s f off=true:=by kernel_rfl):fR P s f off:=by
 unfold faB at h;split at h
 ·rename_i fs d;split at h
  ·rename_i fd e;simp only [Bool.and_eq_true] at h;obtain ⟨h1,a⟩:=h
   cases c:P.info? fd.type with
   | none=>simp [c] at a
   | some i =>
    simp only [c] at a;exact ⟨fs,fd,i,d,e,Nat.eq_of_beq_eq_true h1,c,by have:=Nat.le_of_ble_eq_true a;omega⟩
  cases h
 cases h
def Zz (P:Program)(t:TypeId)(k:IntKind):Bool:=match P.underlying t with|some (.int x)=>Dz x k|_=>false
theorem Kq {t:TypeId}{k:IntKind}(h:Zz P t k=true):Es P t k:=by
 unfold Zz at h;split at h
 ·rename_i x a;rw [Es,a,CT h]
 cases h
def Ze (P:Program)(t:TypeId):Bool:=match P.underlying t with|some .string=>true|_=>false
theorem UD {t:TypeId}(h:Ze P t=true):JK P t:=by
 unfold Ze at h;split at h
 ·assumption
 cases h
end Go.Vk
