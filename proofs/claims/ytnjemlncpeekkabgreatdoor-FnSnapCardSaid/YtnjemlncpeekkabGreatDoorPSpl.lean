/- Texts split and joined, numbers read: no program in sight. -/
import Derived.Test.YtnjemlncpeekkabGreatDoorVkBr
import Derived.Test.YtnjemlncpeekkabGreatDoorVkBs
import Derived.Lib.ItoaLen
import Derived.Lib.AtoiAllCases
import Derived.Lib.IndexMore
namespace Go.Vk
open Go.Proofs
def lE (c:UInt8):List UInt8→List (List UInt8)
 | []=>[[]]
 | x::r=>if x=c then []::lE c r else match lE c r with
  | []=>[[x]]
  | h::t=>(x::h)::t
theorem vi {c:UInt8}{w r:List UInt8}(h:c∉w):lE c (w++c::r)=w::lE c r:=by
 induction w with
 | nil=>simp [lE]
 | cons x w ih =>
  have h1:¬x=c:=λe=>h (by simp [e]);rw [List.cons_append,lE,if_neg h1,ih (λg=>h (by simp [g]))]
theorem sU {c:UInt8}{w:List UInt8}(h:c∉w):lE c w=[w]:=by
 induction w with
 | nil=>rfl
 | cons x w ih =>
  have h1:¬x=c:=λe=>h (by simp [e]);rw [lE,if_neg h1,ih (λg=>h (by simp [g]))]
theorem wu {c:UInt8}:∀{ws:List (List UInt8)},ws≠[]→(∀w∈ws,c∉w)→lE c (Lib.join ws [c])=ws
 | [],h,_=>absurd rfl h
 | [w],_,h=>by rw [Lib.join_one,sU (h w (by simp))]
 | w::v::r,_,h=>by
  have e:Lib.join (w::v::r) [c]=w++c::Lib.join (v::r) [c]:=by
   rw [Lib.join_cons,Lib.join_cons];simp [Lib.joinTail]
  rw [e,vi (h w (by simp)),wu (by simp) (λx a=>h x (by simp [a]))]
theorem Uz {x:UInt8}{sep:List UInt8}{ws:List (List UInt8)}(h:x∈Lib.join ws sep):x∈sep∨∃w∈ws,x∈w:=by
 cases ws with
 | nil=>simp [Lib.join_nil] at h
 | cons w r =>
  rw [Lib.join_cons] at h;rcases List.mem_append.1 h with h|h
  ·exact .inr ⟨w,by simp,h⟩
  unfold Lib.joinTail at h;obtain ⟨l,a,hx⟩:=List.mem_flatten.1 h;obtain ⟨v,c,rfl⟩:=List.mem_map.1 a;rcases List.mem_append.1 hx with hx|hx
  ·exact .inl hx
  exact .inr ⟨v,by simp [c],hx⟩
theorem Qh {c:UInt8}{w r:List UInt8}(h:c∉w):Lib.index (w++c::r) [c]=(w.length:Int):=by
 induction w with
 | nil=>simp [Lib.index]
 | cons x w ih =>
  have h1:¬c=x:=λe=>h (by simp [e]);rw [List.cons_append,Lib.index,ih (λg=>h (by simp [g]))];have a:([c].isPrefixOf (x::(w++c::r)))=false:=by simp [List.isPrefixOf,h1]
  have d:((w.length:Int) == -1)=false:=by rw [beq_eq_false_iff_ne];omega
  rw [a,d];simp
theorem OA {c:UInt8}{w:List UInt8}(h:c∉w):Lib.index w [c]=-1:=by
 induction w with
 | nil=>simp [Lib.index]
 | cons x w ih =>
  have h1:¬c=x:=λe=>h (by simp [e]);rw [Lib.index,ih (λg=>h (by simp [g]))];have a:([c].isPrefixOf (x::w))=false:=by simp [List.isPrefixOf,h1]
  rw [a];simp
theorem Jn {c:UInt8}{w r:List UInt8}(h:c∉w):Lib.cut (w++c::r) [c]=(w,r,true):=by
 unfold Lib.cut;rw [Qh h,Q3];simp [List.drop_append]
theorem SI {c:UInt8}{w:List UInt8}(h:c∉w):Lib.cut w [c]=(w,[],false):=by
 unfold Lib.cut;rw [OA h,Q6]
theorem xV {d:Nat}(h:d<10):(UInt8.ofNat (48+d)).toNat=48+d:=by
 simp;omega
theorem LO:∀(u:Nat)(r:List UInt8),u<1000000000→Lib.parseUint10 0 (Lib.decDigits u++r)=Lib.parseUint10 u r
 | u,r,h=>by
  by_cases h1:u<10
  ·rw [Lib.decDigits_one h1,List.cons_append,List.nil_append,Lib.parseUint10,xV h1,Q3,Q6,Q6];congr 1;omega
  have a:u%10<10:=Nat.mod_lt _ (by omega);rw [Lib.decDigits.eq_def u,dif_neg h1,List.append_assoc,LO (u / 10) _ (by omega),List.cons_append,List.nil_append,Lib.parseUint10,xV a,Q3,Q6,Q6];congr 1;omega
termination_by u=>u
theorem tF (u:Nat):Lib.decDigits u≠[]:=by
 by_cases h1:u<10
 ·rw [Lib.decDigits_one h1];simp
 rw [Lib.decDigits.eq_def u,dif_neg h1];simp
theorem pQ:∀(u:Nat),∀x∈Lib.decDigits u,48≤x.toNat∧x.toNat≤57
 | u=>by
  by_cases h1:u<10
  ·intro x hx;rw [Lib.decDigits_one h1,List.mem_singleton] at hx;rw [hx,xV h1];omega
  intro x hx;have a:u%10<10:=Nat.mod_lt _ (by omega);rw [Lib.decDigits.eq_def u,dif_neg h1] at hx;rcases List.mem_append.1 hx with hx|hx
  ·exact pQ (u / 10) x hx
  rw [List.mem_singleton] at hx;rw [hx,xV a];omega
termination_by u=>u
theorem QM {u:Nat}(h:u<1000000000):Lib.parseMag (Lib.decDigits u)=.ok u:=by
 unfold Lib.parseMag;rw [if_neg (tF u)];have:=LO u [] h;rw [List.append_nil] at this;rw [this];rfl
theorem Sj {n:Int}(h : -99999999≤n∧n≤99999999):Lib.atoiAll (Lib.itoa n)=.ok n:=by
 unfold Lib.itoa;by_cases a:n<0
 ·rw [if_pos a,Lib.atoiAll_minus,QM (by omega)];simp only [Lib.signed];rw [Q6];congr 1;omega
 rw [if_neg a];have d:=pQ n.toNat;have e:=QM (u:=n.toNat) (by omega)
 cases f:Lib.decDigits n.toNat with
 | nil=>exact absurd f (tF _)
 | cons c r =>
  rw [f] at d e;have:=d c (by simp);rw [Lib.atoiAll_plain c r (by omega) (by omega),e];simp only [Lib.signless];rw [Q6];congr 1;omega
end Go.Vk
