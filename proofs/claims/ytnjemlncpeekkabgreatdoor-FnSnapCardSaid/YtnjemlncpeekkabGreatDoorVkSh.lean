/- Package variables at the beginning: what a row that lists them knows, and the world's shape. -/
import Derived.Test.YtnjemlncpeekkabGreatDoorVkCu
import Derived.Handed
import Derived.Shelf.Vars
import Derived.Stop.LaidErr
namespace Go.Vk
open Go.RowKit Go.ChangeShapes Go.WideShapes
variable {P:Program}
theorem Lx {W:World}{n:String}{cs:Array Value}(h:W.var? P n=some cs):∃g t m,P.globalNamed n=some g∧W.heap[g]?=some (.cells cs t m):=by
 unfold World.var? at h;obtain ⟨g,h1,a⟩:=Option.bind_eq_some_iff.1 h;split at a
 ·rename_i cs t m c;obtain rfl:=Option.some.inj a;exact ⟨g,t,m,h1,c⟩
 cases a
theorem PG {W:World}{g:Nat}{v:Value}(h:W.cell? ⟨g,0,none⟩=some v):∃vs t m,W.heap[g]?=some (.cells vs t m)∧vs[0]?=some v:=by
 unfold World.cell? at h
 cases a:W.heap[g]? with
 | none=>simp [a] at h
 | some o =>
  cases o with
  | cells vs t m=>exact ⟨vs,t,m,rfl,by simpa [a] using h⟩
  | _=>simp [a] at h
theorem YZ {W:World}(a:(MJ P).rd W [] () []){g:Nat}{m:Int}(c:P.globalNamed "internal/bytealg.MaxLen" = some g)(d:W.cell? ⟨g,0,none⟩=some (.int .i64 m)){e f:TypeId}{p1 p2:Value}(h1:W.var? P "strconv.ErrSyntax" = some #[.iface e p1])(h:W.var? P "strconv.ErrRange" = some #[.iface f p2]):(eGl P).rd W [] () []:=by
 obtain ⟨_,i,j,k,l,F,o⟩:=a;obtain ⟨vs,q,r,s,t⟩:=PG d;obtain ⟨u,v,w,c1,c2⟩:=Lx h1;obtain ⟨x,A,C,D,E⟩:=Lx h;refine ⟨rfl,λp a=>?_⟩;simp only [List.mem_cons,List.not_mem_nil,or_false] at a;rcases a with rfl|rfl|rfl|rfl
 ·exact ⟨i,_,j,k,l,by simp,o,rfl⟩
 ·exact ⟨g,vs,q,r,c,by simp,s,m,t⟩
 ·exact ⟨u,_,v,w,c1,by simp,c2,_,rfl,.inr ⟨_,_,rfl⟩⟩
 exact ⟨x,_,A,C,D,by simp,E,_,rfl,.inr ⟨_,_,rfl⟩⟩
variable {H:Type} {enc:TypeId×Value→H}
theorem Tw {a:Assume}{C:Checked}{os:Os}{f:FuncId}{fn:Func}{s:ChangeSpec}{conds:List PathCond}{apart fresh handsOn again:Bool}{X:World→Array Value→Prop}(m:∀(w w':World)(args:Array Value),w.heap=w'.heap→X w args→X w' args)(own:ownKnob C.prog.godebug=none)(started:os.Started)(noInit:C.prog.inits.idxOf? f=none)(g:C.prog.funcs[f]?=some fn)(witness:∃(w:World)(tape:Tape)(i:Input),w.os=os∧(w.forCall tape i).Shaped C.prog∧i.vars=[]∧Input.okWide C.prog (w.forCall tape i) .any w.heap.size f i ∧
   ((s.pre enc C.prog fn conds apart (w.forCall tape i).memory i.args∧X (w.forCall tape i).memory i.args)∧sizedMet enc C.prog fn (OpenSpec.ofChange s) apart (w.forCall tape i).memory i.args)∧a.holds C.prog (lone (Frame.enter C.prog f i.args .normal) [] (w.forCall tape i)))(k:∀(W:World)(base:Nat)(args:Array Value)(ds gs:List (DataW H))(before:List MemPlace),
   (∀(j:Nat) t v,fn.params[j]?=some t→args[j]?=some v→Value.okWide C.prog W .any base t v) →
   DataW.Whole enc C.prog fn.params.toList s.vars apart W args.toList ds gs before→X W args→W.ShapedOpen C.prog →
   Calls C.prog f args W λe W'=>∃v,e=.returned v∧s.post enc C.prog fn apart fresh handsOn again W args v W'):ReturnsInHanded a C os f .any (λw args=>(s.pre enc C.prog fn conds apart w args∧X w args)∧sizedMet enc C.prog fn (OpenSpec.ofChange s) apart w args) (s.post enc C.prog fn apart fresh handsOn again):=by
 refine returnsInHanded_of_calls own started noInit witness λw tape i _ h _ l c _=>?_;obtain ⟨_,_,_,fn',h1,_,_,_,_,d⟩:=l;obtain rfl:fn'=fn:=Option.some.inj (h1.symm.trans g);obtain ⟨⟨⟨ds,gs,before,o,_⟩,p⟩,_⟩:=c;refine (k (w.forCall tape i) w.heap.size i.args ds gs before d (DataW.Whole.of_heap (w':=w.forCall tape i) (by rfl) o) (m _ _ _ (by rfl) p) h).mono λe W' ⟨v,q,r⟩=>?_;subst q;exact ChangeSpec.post_blind r
end Go.Vk
