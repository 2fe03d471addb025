/- Texts split and joined, numbers read: no program in sight. -/
import Derived.Test.YtnjemlncpeekkaaGreatDoorVkBr
import Derived.Test.YtnjemlncpeekkaaGreatDoorVkBs
import Derived.Lib.ItoaLen
import Derived.Lib.AtoiAllCases
import Derived.Lib.IndexMore
namespace Go.Vk
open Go.Proofs
def gj (c:UInt8):List UInt8→List (List UInt8)
 | []=>[[]]
 | x::r=>if x=c then []::gj c r else match gj c r with
  | []=>[[x]]
  | h::t=>(x::h)::t
theorem tR {c:UInt8}{w r:List UInt8}(h:c∉w):gj c (w++c::r)=w::gj c r:=by
 induction w with
 | nil=>simp [gj]
 | cons x w ih =>
  have h1:¬x=c:=fun e=>h (by simp [e]);rw [List.cons_append,gj,if_neg h1,ih (fun g=>h (by simp [g]))]
theorem rN {c:UInt8}{w:List UInt8}(h:c∉w):gj c w=[w]:=by
 induction w with
 | nil=>rfl
 | cons x w ih =>
  have h1:¬x=c:=fun e=>h (by simp [e]);rw [gj,if_neg h1,ih (fun g=>h (by simp [g]))]
theorem uN {c:UInt8}:∀{ws:List (List UInt8)},ws≠[]→(∀w∈ws,c∉w)→gj c (Lib.join ws [c])=ws
 | [],h,_=>absurd rfl h
 | [w],_,h=>by rw [Lib.join_one,rN (h w (by simp))]
 | w::v::r,_,h=>by
  have e:Lib.join (w::v::r) [c]=w++c::Lib.join (v::r) [c]:=by
   rw [Lib.join_cons,Lib.join_cons];simp [Lib.joinTail]
  rw [e,tR (h w (by simp)),uN (by simp) (fun x a=>h x (by simp [a]))]
theorem Se {x:UInt8}{sep:List UInt8}{ws:List (List UInt8)}(h:x∈Lib.join ws sep):x∈sep∨∃w∈ws,x∈w:=by
 cases ws with
 | nil=>simp [Lib.join_nil] at h
 | cons w r =>
  rw [Lib.join_cons] at h;rcases List.mem_append.1 h with h|h
  ·exact .inr ⟨w,by simp,h⟩
  unfold Lib.joinTail at h;obtain ⟨l,a,hx⟩:=List.mem_flatten.1 h;obtain ⟨v,c,rfl⟩:=List.mem_map.1 a;rcases List.mem_append.1 hx with hx|hx
  ·exact .inl hx
  exact .inr ⟨v,by simp [c],hx⟩
theorem Og {c:UInt8}{w r:List UInt8}(h:c∉w):Lib.index (w++c::r) [c]=(w.length:Int):=by
 induction w with
 | nil=>simp [Lib.index]
 | cons x w ih =>
  have h1:¬c=x:=fun e=>h (by simp [e]);rw [List.cons_append,Lib.index,ih (fun g=>h (by simp [g]))];have a:([c].isPrefixOf (x::(w++c::r)))=false:=by simp [List.isPrefixOf,h1]
  have d:((w.length:Int) == -1)=false:=by rw [beq_eq_false_iff_ne];omega
  rw [a,d];simp
theorem MA {c:UInt8}{w:List UInt8}(h:c∉w):Lib.index w [c]=-1:=by
 induction w with
 | nil=>simp [Lib.index]
 | cons x w ih =>
  have h1:¬c=x:=fun e=>h (by simp [e]);rw [Lib.index,ih (fun g=>h (by simp [g]))];have a:([c].isPrefixOf (x::w))=false:=by simp [List.isPrefixOf,h1]
  rw [a];simp
theorem Ii {c:UInt8}{w r:List UInt8}(h:c∉w):Lib.cut (w++c::r) [c]=(w,r,true):=by
 unfold Lib.cut;rw [Og h,if_pos (by omega)];simp [List.drop_append]
theorem Qi {c:UInt8}{w:List UInt8}(h:c∉w):Lib.cut w [c]=(w,[],false):=by
 unfold Lib.cut;rw [MA h,if_neg (by omega)]
theorem wh {d:Nat}(h:d<10):(UInt8.ofNat (48+d)).toNat=48+d:=by
 simp;omega
theorem JY:∀(u:Nat)(r:List UInt8),u<1000000000→Lib.parseUint10 0 (Lib.decDigits u++r)=Lib.parseUint10 u r
 | u,r,h=>by
  by_cases h1:u<10
  ·rw [Lib.decDigits_one h1,List.cons_append,List.nil_append,Lib.parseUint10,wh h1,if_pos (by omega),if_neg (by omega),if_neg (by omega)];congr 1;omega
  have a:u%10<10:=Nat.mod_lt _ (by omega);rw [Lib.decDigits.eq_def u,dif_neg h1,List.append_assoc,JY (u / 10) _ (by omega),List.cons_append,List.nil_append,Lib.parseUint10,wh a,if_pos (by omega),if_neg (by omega),if_neg (by omega)];congr 1;omega
termination_by u=>u
theorem sM (u:Nat):Lib.decDigits u≠[]:=by
 by_cases h1:u<10
 ·rw [Lib.decDigits_one h1];simp
 rw [Lib.decDigits.eq_def u,dif_neg h1];simp
theorem po:∀(u:Nat),∀x∈Lib.decDigits u,48≤x.toNat∧x.toNat≤57
 | u=>by
  by_cases h1:u<10
  ·intro x hx;rw [Lib.decDigits_one h1,List.mem_singleton] at hx;rw [hx,wh h1];omega
  intro x hx;have a:u%10<10:=Nat.mod_lt _ (by omega);rw [Lib.decDigits.eq_def u,dif_neg h1] at hx;rcases List.mem_append.1 hx with hx|hx
  ·exact po (u / 10) x hx
  rw [List.mem_singleton] at hx;rw [hx,wh a];omega
termination_by u=>u
theorem Pg {u:Nat}(h:u<1000000000):Lib.parseMag (Lib.decDigits u)=.ok u:=by
 unfold Lib.parseMag;rw [if_neg (sM u)];have:=JY u [] h;rw [List.append_nil] at this;rw [this];rfl
theorem Qh {n:Int}(h : -99999999≤n∧n≤99999999):Lib.atoiAll (Lib.itoa n)=.ok n:=by
 unfold Lib.itoa;by_cases a:n<0
 ·rw [if_pos a,Lib.atoiAll_minus,Pg (by omega)];simp only [Lib.signed];rw [if_neg (by omega)];congr 1;omega
 rw [if_neg a];have d:=po n.toNat;have e:=Pg (u:=n.toNat) (by omega)
 cases f:Lib.decDigits n.toNat with
 | nil=>exact absurd f (sM _)
 | cons c r =>
  rw [f] at d e;have:=d c (by simp);rw [Lib.atoiAll_plain c r (by omega) (by omega),e];simp only [Lib.signless];rw [if_neg (by omega)];congr 1;omega
end Go.Vk
