/- The judgments of the walk: code, rounds of a loop, lists of operations. -/
import Derived.Test.YtddoligbabahbaaGreatVkB
import Derived.LoopN
import Derived.OrdersHeld
namespace Go.Vk
open Go.RowKit
section
variable {P : Program} {n : Nat} {Q : Exit → Act → World → Prop} {C : World → Prop} {E : Env} {w0 : World} {M : List Nat} {L : List Res}
/-- from every frame with E and every world of C the code ends in Q -/
def CW (P : Program) (n : Nat) (C : World → Prop) (E : Env) (Q : Exit → Act → World → Prop) (c : Code) : Prop :=
  ∀ a w, Fr n E a → C w → c.wp P Q a w
def RW (P : Program) (n : Nat) (C : World → Prop) (E : Env) (Q : Exit → Act → World → Prop) (c : Code) (k : Nat) : Prop :=
  ∀ a w, Fr n E a → C w → Code.rounds P c Q k a w
/-- an exit is let in -/
def XW (n : Nat) (C : World → Prop) (E : Env) (Q : Exit → Act → World → Prop) (x : Exit) : Prop :=
  ∀ a w, Fr n E a → C w → Q x a w
theorem CW.sub {R : Env} {c : Code} (h : CW P n C R Q c) (hs : Sub R E) : CW P n C E Q c := fun a w hF hC => h a w (hF.sub hs) hC
theorem CW.weak {C' : World → Prop} {c : Code} (h : CW P n C' E Q c) (hs : ∀ w, C w → C' w) : CW P n C E Q c := fun a w hF hC => h a w hF (hs w hC)
theorem RW.sub {R : Env} {c : Code} {k : Nat} (h : RW P n C R Q c k) (hs : Sub R E) : RW P n C E Q c k := fun a w hF hC => h a w (hF.sub hs) hC
theorem XW.sub {R : Env} {x : Exit} (h : XW n C R Q x) (hs : Sub R E) : XW n C E Q x := fun a w hF hC => h a w (hF.sub hs) hC
/-- what stands behind: y, then Q -/
def QS (P : Program) (y : Code) (Q : Exit → Act → World → Prop) : Exit → Act → World → Prop
  | .normal, a, w => y.wp P Q a w
  | e, a, w => Q e a w
def QB (id : Nat) (Q : Exit → Act → World → Prop) : Exit → Act → World → Prop
  | .exit i, a, w => bif Nat.beq i id then Q .normal a w else Q (.exit i) a w
  | e, a, w => Q e a w
def QL (P : Program) (c : Code) (k : Nat) (Q : Exit → Act → World → Prop) : Exit → Act → World → Prop
  | .normal, a, w => Code.rounds P c Q k a w
  | e, a, w => Q e a w
theorem c_seq {x y : Code} (h : CW P n C E (QS P y Q) x) : CW P n C E Q (.seq x y) := fun a w hF hC =>
  wp_seq (wp_mono (h a w hF hC) (fun e a w q => by cases e <;> exact q))
theorem c_block {id : Nat} {c : Code} (h : CW P n C E (QB id Q) c) : CW P n C E Q (.block id c) := fun a w hF hC =>
  wp_block (wp_mono (h a w hF hC) (fun e a w q => by
    cases e with
    | exit i =>
      simp only [QB] at q
      simp only [Exit.inBlock]
      cases hb : Nat.beq i id with
      | true => rw [hb] at q; rw [if_pos (Nat.eq_of_beq_eq_true hb)]; exact q
      | false => rw [hb] at q; rw [if_neg (Nat.ne_of_beq_eq_false hb)]; exact q
    | _ => exact q))
theorem c_loop {c : Code} (k : Nat) (h : RW P n C E Q c k) : CW P n C E Q (.loop c) := fun a w hF hC => wp_loop_rounds k (h a w hF hC)
theorem r_succ {c : Code} {k : Nat} (h : CW P n C E (QL P c k Q) c) : RW P n C E Q c (k + 1) := fun a w hF hC =>
  wp_mono (h a w hF hC) (fun e a w q => by cases e <;> exact q)
theorem c_skip (h : XW n C E Q .normal) : CW P n C E Q .skip := fun a w hF hC => wp_skip (h a w hF hC)
theorem c_exit {i : Nat} (h : XW n C E Q (.exit i)) : CW P n C E Q (.exit i) := fun a w hF hC => wp_exit (h a w hF hC)
theorem c_ret (h : XW n C E Q .ret) : CW P n C E Q .ret := fun a w hF hC => wp_ret (h a w hF hC)
/-- the exits, walked out of what surrounds them -/
theorem x_qs {y : Code} (h : CW P n C E Q y) : XW n C E (QS P y Q) .normal := h
theorem x_qs_exit {y : Code} {i : Nat} (h : XW n C E Q (.exit i)) : XW n C E (QS P y Q) (.exit i) := h
theorem x_qs_ret {y : Code} (h : XW n C E Q .ret) : XW n C E (QS P y Q) .ret := h
theorem x_qb {id : Nat} (h : XW n C E Q .normal) : XW n C E (QB id Q) .normal := h
theorem x_qb_ret {id : Nat} (h : XW n C E Q .ret) : XW n C E (QB id Q) .ret := h
theorem x_qb_here {id : Nat} (h : XW n C E Q .normal) : XW n C E (QB id Q) (.exit id) := fun a w hF hC => by
  show bif Nat.beq id id then _ else _
  rw [Nat.beq_refl]; exact h a w hF hC
theorem x_ql {c : Code} {k : Nat} (h : RW P n C E Q c k) : XW n C E (QL P c k Q) .normal := h
theorem x_ql_exit {c : Code} {k i : Nat} (h : XW n C E Q (.exit i)) : XW n C E (QL P c k Q) (.exit i) := h
theorem x_ql_ret {c : Code} {k : Nat} (h : XW n C E Q .ret) : XW n C E (QL P c k Q) .ret := h
/-- a test -/
theorem c_if {x : Operand} {c d : Code} {b : Bool} (hx : ev E x = some (.bool b)) (ht : b = true → CW P n C E Q c) (hf : b = false → CW P n C E Q d) : CW P n C E Q (.cond x c d) := fun a w hF hC =>
  wp_cond_split (hF.ev hx) (fun h => ht h a w hF hC) (fun h => hf h a w hF hC)
/-! ### lists of operations -/
/-- in the order of the text; what follows is asked of every world of C -/
def LW (P : Program) (n : Nat) (ops : List Oper) (C : World → Prop) (E : Env) (Q : Exit → Act → World → Prop) (rest : List Oper) : Prop :=
  ∀ a w, Fr n E a → C w → wpList P ops.toArray Q rest a w
theorem c_region {id : Nat} {l : List Oper} (h : LW P n l C E Q l) : CW P n C E Q (.region id l.toArray false) := fun a w hF hC => wp_region_lit (h a w hF hC)
theorem lw_nil {l : List Oper} (h : XW n C E Q .normal) : LW P n l C E Q [] := fun a w hF hC => h a w hF hC
/-- an operation that is quiet: in every world of C it yields v and leaves a world of C -/
def Qy (P : Program) (n : Nat) (C : World → Prop) (E : Env) (o : Oper) (v : Value) : Prop :=
  ∀ a, Fr n E a → ∀ w, C w → o.quietAt P a C w v
theorem lw_q {l : List Oper} {o : Oper} {rest : List Oper} {v : Value} (hw : wt l E o.guard = some true) (hd : ∀ t, o.dst = some t → t < n) (hq : Qy P n C E o v)
    (h : LW P n l C (upd E o.dst v) Q rest) : LW P n l C E Q (o :: rest) := fun a w hF hC => by
  unfold wpList
  rw [if_pos (hF.wt hw)]
  refine .inl (Oper.wp_of_quiet (C := C) (K := fun a' => a' = a.put o.dst v) hC (fun a' w' hC' e => ?_) ⟨v, fun w' hC' => hq a hF w' hC', rfl⟩)
  subst e
  exact h _ _ (hF.put _ _ hd) hC'
theorem lw_skip {l : List Oper} {o : Oper} {rest : List Oper} (hw : wt l E o.guard = some false) (hd : ∀ t, o.dst = some t → t < n)
    (h : LW P n l C (upd E o.dst undef) Q rest) : LW P n l C E Q (o :: rest) := fun a w hF hC => by
  unfold wpList
  rw [if_neg (by rw [hF.wt hw]; simp)]
  exact h _ _ (hF.put _ _ hd) hC
theorem wpQuiet_weak {ops : Array Oper} {Q1 Q2 : Act → Prop} (hq : ∀ a, Q1 a → Q2 a) : ∀ (l : List Oper) (a : Act), wpQuiet P ops C Q1 l a → wpQuiet P ops C Q2 l a
  | [], _, h => hq _ h
  | o :: l, a, h => by
    unfold wpQuiet at h ⊢
    split
    · rename_i hw
      rw [if_pos hw] at h
      exact Oper.quiet_mono (fun a' h' => wpQuiet_weak hq l a' h') h
    · rename_i hw
      rw [if_neg hw] at h
      exact wpQuiet_weak hq l _ h
/-- whatever order: all operations quiet -/
def QW (P : Program) (n : Nat) (ops : List Oper) (C : World → Prop) (E : Env) (K : Env → Prop) (rest : List Oper) : Prop :=
  ∀ a, Fr n E a → wpQuiet P ops.toArray C (fun a' => ∃ E', Fr n E' a' ∧ K E') rest a
theorem c_regionQ {id : Nat} {l : List Oper} (hm : P.follows .mixedOrders = true) (hB : Region.lexB .any l.toArray = true)
    (h : QW P n l (St w0 M L) E (fun E' => XW n (St w0 M L) E' Q .normal) l) : CW P n (St w0 M L) E Q (.region id l.toArray true) := fun a w hF hC =>
  wp_region_quiet (C := St w0 M L) hm hB hC.drew (by
    refine wpQuiet_weak ?_ _ _ (h a hF)
    rintro a' ⟨E', hF', hK⟩ w' hC'
    exact hK a' w' hF' hC')
theorem qw_nil {l : List Oper} {K : Env → Prop} (h : K E) : QW P n l C E K [] := fun _ hF => wpQuiet_nil ⟨E, hF, h⟩
theorem qw_q {l : List Oper} {o : Oper} {rest : List Oper} {v : Value} {K : Env → Prop} (hw : wt l E o.guard = some true) (hd : ∀ t, o.dst = some t → t < n) (hq : Qy P n C E o v)
    (h : QW P n l C (upd E o.dst v) K rest) : QW P n l C E K (o :: rest) := fun a hF => by
  unfold wpQuiet
  rw [if_pos (hF.wt hw)]
  exact ⟨v, fun w' hC' => hq a hF w' hC', h _ (hF.put _ _ hd)⟩
theorem qw_skip {l : List Oper} {o : Oper} {rest : List Oper} {K : Env → Prop} (hw : wt l E o.guard = some false) (hd : ∀ t, o.dst = some t → t < n)
    (h : QW P n l C (upd E o.dst undef) K rest) : QW P n l C E K (o :: rest) := fun a hF => by
  unfold wpQuiet
  rw [if_neg (by rw [hF.wt hw]; simp)]
  exact h _ (hF.put _ _ hd)
theorem CW.at {C' : World → Prop} {R : Env} {c : Code} (h : CW P n C' R Q c) (hC : ∀ w, C w → C' w) (hs : Sub R E) : CW P n C E Q c := fun a w hF hw => h a w (hF.sub hs) (hC w hw)
theorem RW.at {C' : World → Prop} {R : Env} {c : Code} {k : Nat} (h : RW P n C' R Q c k) (hC : ∀ w, C w → C' w) (hs : Sub R E) : RW P n C E Q c k := fun a w hF hw => h a w (hF.sub hs) (hC w hw)
/-! ### an order of one's own: reads first -/
def PanicOk (Q : Exit → Act → World → Prop) : Prop := ∀ c a d v w, Q (.panic c) (Act.put a d v) w → Q (.panic c) a w
theorem panicOk_body {fn : Func} {R : Ending → World → Prop} : PanicOk (bodyPost P fn R) := fun _ a d _ _ h => by cases d <;> exact h
def Cons (ops : List Oper) : List (Nat × Bool) → List Oper → Prop
  | [], [] => True
  | (i, _) :: s, o :: r => ops[i]? = some o ∧ Cons ops s r
  | _, _ => False
theorem Cons.len {ops : List Oper} : ∀ {s : List (Nat × Bool)} {r : List Oper}, Cons ops s r → s.length = r.length
  | [], [], _ => rfl
  | _ :: _, _ :: _, h => by simp [h.2.len]
  | [], _ :: _, h => h.elim
  | _ :: _, [], h => h.elim
def permOf (ops : List Oper) : List (Nat × Bool) → List Oper
  | [] => []
  | (i, _) :: s => match ops[i]? with | some o => o :: permOf ops s | none => []
def inB (ops : List Oper) : List (Nat × Bool) → Bool
  | [] => true
  | (i, _) :: s => (ops[i]?).isSome && inB ops s
theorem cons_perm {ops : List Oper} : ∀ {s : List (Nat × Bool)}, inB ops s = true → Cons ops s (permOf ops s)
  | [], _ => trivial
  | (i, q) :: s, h => by
    simp only [inB, Bool.and_eq_true] at h
    obtain ⟨o, ho⟩ := Option.isSome_iff_exists.1 h.1
    simp only [permOf, ho]
    exact ⟨ho, cons_perm h.2⟩
def wpSeq (P : Program) (ops : Array Oper) (S : World → Prop) (Q : Exit → Act → World → Prop) : List (Nat × Bool) → Act → World → Prop
  | [], a, w => Q .normal a w
  | (i, true) :: s, a, w => ∃ o v, ops[i]? = some o ∧ YieldsIf P ops S o v a ∧ S w ∧ wpSeq P ops S Q s (a.put o.dst v) w
  | (i, false) :: s, a, w => wpOp P ops Q i (fun a' w' => S w' ∧ wpSeq P ops S Q s a' w') a w
def seqB (ops : Array Oper) : List (Nat × Bool) → Array Bool → Bool
  | [], listed => (Region.ready .any ops listed).isEmpty
  | (i, q) :: s, listed =>
    (match q with
     | true => Region.free .any ops listed i && (Region.ready .any ops listed).contains i
     | false => Region.ready .any ops listed == [i]) && seqB ops s (listed.setIfInBounds i true)
/-- how a list of operations is gone through -/
inductive Md where
  | lex (Q : Exit → Act → World → Prop)
  | any (K : Env → Prop)
  | held (S : World → Prop) (Q : Exit → Act → World → Prop) (fl : List (Nat × Bool))
/-- the class in whose worlds a quiet operation yields its value -/
def Md.cls (C : World → Prop) : Md → World → Prop
  | .held S _ _ => S
  | _ => C
/-- is the operation that comes next carried out where it stands? -/
def Md.loud : Md → List Oper → Bool
  | .held _ _ fl, rest => match fl[fl.length - rest.length]? with | some (_, q) => !q | none => false
  | _, _ => true
def OW (P : Program) (n : Nat) (ops : List Oper) (C : World → Prop) (E : Env) : Md → List Oper → Prop
  | .lex Q, rest => LW P n ops C E Q rest
  | .any K, rest => QW P n ops C E K rest
  | .held S Q fl, rest => ∀ s, (∃ pre, fl = pre ++ s) → Cons ops s rest → ∀ a w, Fr n E a → C w → S w → wpSeq P ops.toArray S Q s a w
/-- yields v in every world of S, and does nothing else -/
def Ry (P : Program) (n : Nat) (S : World → Prop) (E : Env) (o : Oper) (v : Value) : Prop :=
  ∀ a, Fr n E a → ∀ w, S w → (execOp a.eval o).run P w = .ok (.value v) w
theorem Ry.qy {o : Oper} {v : Value} (h : Ry P n C E o v) : Qy P n C E o v := fun a hF w hC => by
  unfold Oper.quietAt
  rw [h a hF w hC]
  exact ⟨rfl, rfl⟩
theorem held_flag {fl pre s : List (Nat × Bool)} {i : Nat} {q : Bool} {ops : List Oper} {o : Oper} {rest : List Oper} {S : World → Prop} (he : fl = pre ++ (i, q) :: s) (hc : Cons ops s rest) :
    (Md.held S Q fl).loud (o :: rest) = !q := by
  subst he
  have := hc.len
  simp only [Md.loud, List.length_append, List.length_cons, this]
  rw [show pre.length + (rest.length + 1) - (rest.length + 1) = pre.length by omega]
  simp
/-- a read -/
theorem ow_r {m : Md} {l : List Oper} {o : Oper} {rest : List Oper} {v : Value} (hw : wt l E o.guard = some true) (hd : ∀ t, o.dst = some t → t < n) (hq : Ry P n (m.cls C) E o v)
    (h : OW P n l C (upd E o.dst v) m rest) : OW P n l C E m (o :: rest) := by
  cases m with
  | lex Q => exact lw_q hw hd hq.qy h
  | any K => exact qw_q hw hd hq.qy h
  | held S Q fl =>
    intro s hs hc a w hF hC hS
    cases s with
    | nil => exact hc.elim
    | cons x s =>
      obtain ⟨i, q⟩ := x
      obtain ⟨ho, hc⟩ := hc
      obtain ⟨pre, he⟩ := hs
      have hk := h s ⟨pre ++ [(i, q)], by rw [he]; simp⟩ hc _ w (hF.put _ v hd) hC hS
      have hy : YieldsIf P l.toArray S o v a := .inl ⟨hF.wt hw, fun w' hw' => hq a hF w' hw'⟩
      have ho' : l.toArray[i]? = some o := by simpa using ho
      cases q with
      | true => rw [wpSeq]; exact ⟨o, v, ho', hy, hS, hk⟩
      | false => rw [wpSeq]; exact hy.wpOp ho' hS ⟨hS, hk⟩
theorem ow_skip {m : Md} {l : List Oper} {o : Oper} {rest : List Oper} (hw : wt l E o.guard = some false) (hd : ∀ t, o.dst = some t → t < n)
    (h : OW P n l C (upd E o.dst undef) m rest) : OW P n l C E m (o :: rest) := by
  cases m with
  | lex Q => exact lw_skip hw hd h
  | any K => exact qw_skip hw hd h
  | held S Q fl =>
    intro s hs hc a w hF hC hS
    cases s with
    | nil => exact hc.elim
    | cons x s =>
      obtain ⟨i, q⟩ := x
      obtain ⟨ho, hc⟩ := hc
      obtain ⟨pre, he⟩ := hs
      have hk := h s ⟨pre ++ [(i, q)], by rw [he]; simp⟩ hc _ w (hF.put _ undef hd) hC hS
      have hy : YieldsIf P l.toArray S o undef a := .inr ⟨hF.wt hw, rfl⟩
      have ho' : l.toArray[i]? = some o := by simpa using ho
      cases q with
      | true => rw [wpSeq]; exact ⟨o, undef, ho', hy, hS, hk⟩
      | false => rw [wpSeq]; exact hy.wpOp ho' hS ⟨hS, hk⟩
/-- an operation that is carried out where it stands (not in a region of reads alone) -/
def Md.here : Md → List Oper → Bool
  | .any _, _ => false
  | m, rest => m.loud rest
def Md.post (C : World → Prop) : Md → World → Prop
  | .held S _ _ => S
  | _ => C
def Md.keeps : Md → World → Prop
  | .held S _ _ => S
  | _ => fun _ => True
def Md.ends : Md → Exit → Act → World → Prop
  | .lex Q => Q
  | .held _ Q _ => Q
  | .any _ => fun _ _ _ => False
theorem ow_loud {m : Md} {l : List Oper} {o : Oper} {rest : List Oper} (hm : m.here (o :: rest) = true) (hw : wt l E o.guard = some true)
    (h : ∀ a w, Fr n E a → C w → m.keeps w → ∀ K : Act → World → Prop,
      (∀ C' E' a' w', OW P n l C' E' m rest → Fr n E' a' → C' w' → m.keeps w' → K a' w') → o.wp P a w K m.ends) : OW P n l C E m (o :: rest) := by
  cases m with
  | lex Q =>
    intro a w hF hC
    unfold wpList
    rw [if_pos (hF.wt hw)]
    exact .inl (h a w hF hC trivial _ (fun C' E' a' w' hO hF' hC' _ => hO a' w' hF' hC'))
  | any K => cases hm
  | held S Q fl =>
    intro s hs hc a w hF hC hS
    cases s with
    | nil => exact hc.elim
    | cons x s =>
      obtain ⟨i, q⟩ := x
      obtain ⟨ho, hc⟩ := hc
      obtain ⟨pre, he⟩ := hs
      have hf := held_flag (Q := Q) (S := S) (o := o) he hc
      have hq : q = false := by
        have : (Md.held S Q fl).loud (o :: rest) = true := hm
        rw [hf] at this; simpa using this
      subst hq
      have ho' : l.toArray[i]? = some o := by simpa using ho
      rw [wpSeq]
      unfold wpOp
      simp only [ho']
      rw [if_pos (hF.wt hw)]
      exact .inl (h a w hF hC hS _ (fun C' E' a' w' hO hF' hC' hS' => ⟨hS', hO s ⟨pre ++ [(i, false)], by rw [he]; simp⟩ hc a' w' hF' hC' hS'⟩))
/-- a quiet call -/
theorem ow_q {m : Md} {l : List Oper} {o : Oper} {rest : List Oper} {v : Value} (hm : m.loud (o :: rest) = true) (hw : wt l E o.guard = some true) (hd : ∀ t, o.dst = some t → t < n) (hq : Qy P n C E o v)
    (hS : ∀ w, C w → m.keeps w)
    (h : OW P n l C (upd E o.dst v) m rest) : OW P n l C E m (o :: rest) := by
  cases m with
  | lex Q => exact lw_q hw hd hq h
  | any K => exact qw_q hw hd hq h
  | held S Q fl =>
    refine ow_loud hm hw (fun a w hF hC _ K hK => Oper.wp_of_quiet (C := C) (K := fun a' => a' = a.put o.dst v) hC (fun a' w' hC' e => ?_) ⟨v, fun w' hC' => hq a hF w' hC', rfl⟩)
    subst e
    exact hK C _ _ _ h (hF.put _ _ hd) hC' (hS w' hC')
theorem c_reg {id : Nat} {l : List Oper} (h : OW P n l C E (.lex Q) l) : CW P n C E Q (.region id l.toArray false) := c_region h
theorem c_regQ {id : Nat} {l : List Oper} (hm : P.follows .mixedOrders = true) (hB : Region.lexB .any l.toArray = true)
    (h : OW P n l (St w0 M L) E (.any (fun E' => XW n (St w0 M L) E' Q .normal)) l) : CW P n (St w0 M L) E Q (.region id l.toArray true) := c_regionQ hm hB h
theorem ow_nil {l : List Oper} (h : XW n C E Q .normal) : OW P n l C E (.lex Q) [] := lw_nil h
theorem ow_nilQ {l : List Oper} {K : Env → Prop} (h : K E) : OW P n l C E (.any K) [] := qw_nil h
theorem ow_nilH {l : List Oper} {S : World → Prop} {fl : List (Nat × Bool)} (h : XW n C E Q .normal) : OW P n l C E (.held S Q fl) [] := fun s _ hc a w hF hC _ => by
  cases s with
  | nil => rw [wpSeq]; exact h a w hF hC
  | cons x s => exact hc.elim
theorem OW.sub {m : Md} {R : Env} {l rest : List Oper} (h : OW P n l C R m rest) (hs : Sub R E) : OW P n l C E m rest := by
  cases m with
  | lex Q => exact fun a w hF hC => h a w (hF.sub hs) hC
  | any K => exact fun a hF => h a (hF.sub hs)
  | held S Q fl => exact fun s h1 h2 a w hF hC hS => h s h1 h2 a w (hF.sub hs) hC hS
end
theorem loopI1 {α0 : Type} {P : Program} {n : Nat} {Q : Exit → Act → World → Prop} {c : Code} (Cf : α0 → World → Prop) (Ef : α0 → Env) (g : Nat → α0 → Prop) (h0 : ∀ s0, ¬ g 0 s0)
    (step : ∀ k, (∀ s0, g k s0 → RW P n (Cf s0) (Ef s0) Q c k) → ∀ s0, g (k + 1) s0 → CW P n (Cf s0) (Ef s0) (QL P c k Q) c) : ∀ k, ∀ s0, g k s0 → CW P n (Cf s0) (Ef s0) Q (.loop c) := by
  have key : ∀ k, ∀ s0, g k s0 → RW P n (Cf s0) (Ef s0) Q c k := by
    intro k
    induction k with
    | zero => intro s0 h; exact absurd h (h0 s0)
    | succ k ih => intro s0 h; exact r_succ (step k ih s0 h)
  intro k s0 h
  exact c_loop k (key k s0 h)
theorem loopI2 {α0 α1 : Type} {P : Program} {n : Nat} {Q : Exit → Act → World → Prop} {c : Code} (Cf : α0 → α1 → World → Prop) (Ef : α0 → α1 → Env) (g : Nat → α0 → α1 → Prop) (h0 : ∀ s0 s1, ¬ g 0 s0 s1)
    (step : ∀ k, (∀ s0 s1, g k s0 s1 → RW P n (Cf s0 s1) (Ef s0 s1) Q c k) → ∀ s0 s1, g (k + 1) s0 s1 → CW P n (Cf s0 s1) (Ef s0 s1) (QL P c k Q) c) : ∀ k, ∀ s0 s1, g k s0 s1 → CW P n (Cf s0 s1) (Ef s0 s1) Q (.loop c) := by
  have key : ∀ k, ∀ s0 s1, g k s0 s1 → RW P n (Cf s0 s1) (Ef s0 s1) Q c k := by
    intro k
    induction k with
    | zero => intro s0 s1 h; exact absurd h (h0 s0 s1)
    | succ k ih => intro s0 s1 h; exact r_succ (step k ih s0 s1 h)
  intro k s0 s1 h
  exact c_loop k (key k s0 s1 h)
theorem loopI3 {α0 α1 α2 : Type} {P : Program} {n : Nat} {Q : Exit → Act → World → Prop} {c : Code} (Cf : α0 → α1 → α2 → World → Prop) (Ef : α0 → α1 → α2 → Env) (g : Nat → α0 → α1 → α2 → Prop) (h0 : ∀ s0 s1 s2, ¬ g 0 s0 s1 s2)
    (step : ∀ k, (∀ s0 s1 s2, g k s0 s1 s2 → RW P n (Cf s0 s1 s2) (Ef s0 s1 s2) Q c k) → ∀ s0 s1 s2, g (k + 1) s0 s1 s2 → CW P n (Cf s0 s1 s2) (Ef s0 s1 s2) (QL P c k Q) c) : ∀ k, ∀ s0 s1 s2, g k s0 s1 s2 → CW P n (Cf s0 s1 s2) (Ef s0 s1 s2) Q (.loop c) := by
  have key : ∀ k, ∀ s0 s1 s2, g k s0 s1 s2 → RW P n (Cf s0 s1 s2) (Ef s0 s1 s2) Q c k := by
    intro k
    induction k with
    | zero => intro s0 s1 s2 h; exact absurd h (h0 s0 s1 s2)
    | succ k ih => intro s0 s1 s2 h; exact r_succ (step k ih s0 s1 s2 h)
  intro k s0 s1 s2 h
  exact c_loop k (key k s0 s1 s2 h)
theorem loopI4 {α0 α1 α2 α3 : Type} {P : Program} {n : Nat} {Q : Exit → Act → World → Prop} {c : Code} (Cf : α0 → α1 → α2 → α3 → World → Prop) (Ef : α0 → α1 → α2 → α3 → Env) (g : Nat → α0 → α1 → α2 → α3 → Prop) (h0 : ∀ s0 s1 s2 s3, ¬ g 0 s0 s1 s2 s3)
    (step : ∀ k, (∀ s0 s1 s2 s3, g k s0 s1 s2 s3 → RW P n (Cf s0 s1 s2 s3) (Ef s0 s1 s2 s3) Q c k) → ∀ s0 s1 s2 s3, g (k + 1) s0 s1 s2 s3 → CW P n (Cf s0 s1 s2 s3) (Ef s0 s1 s2 s3) (QL P c k Q) c) : ∀ k, ∀ s0 s1 s2 s3, g k s0 s1 s2 s3 → CW P n (Cf s0 s1 s2 s3) (Ef s0 s1 s2 s3) Q (.loop c) := by
  have key : ∀ k, ∀ s0 s1 s2 s3, g k s0 s1 s2 s3 → RW P n (Cf s0 s1 s2 s3) (Ef s0 s1 s2 s3) Q c k := by
    intro k
    induction k with
    | zero => intro s0 s1 s2 s3 h; exact absurd h (h0 s0 s1 s2 s3)
    | succ k ih => intro s0 s1 s2 s3 h; exact r_succ (step k ih s0 s1 s2 s3 h)
  intro k s0 s1 s2 s3 h
  exact c_loop k (key k s0 s1 s2 s3 h)
theorem loopI5 {α0 α1 α2 α3 α4 : Type} {P : Program} {n : Nat} {Q : Exit → Act → World → Prop} {c : Code} (Cf : α0 → α1 → α2 → α3 → α4 → World → Prop) (Ef : α0 → α1 → α2 → α3 → α4 → Env) (g : Nat → α0 → α1 → α2 → α3 → α4 → Prop) (h0 : ∀ s0 s1 s2 s3 s4, ¬ g 0 s0 s1 s2 s3 s4)
    (step : ∀ k, (∀ s0 s1 s2 s3 s4, g k s0 s1 s2 s3 s4 → RW P n (Cf s0 s1 s2 s3 s4) (Ef s0 s1 s2 s3 s4) Q c k) → ∀ s0 s1 s2 s3 s4, g (k + 1) s0 s1 s2 s3 s4 → CW P n (Cf s0 s1 s2 s3 s4) (Ef s0 s1 s2 s3 s4) (QL P c k Q) c) : ∀ k, ∀ s0 s1 s2 s3 s4, g k s0 s1 s2 s3 s4 → CW P n (Cf s0 s1 s2 s3 s4) (Ef s0 s1 s2 s3 s4) Q (.loop c) := by
  have key : ∀ k, ∀ s0 s1 s2 s3 s4, g k s0 s1 s2 s3 s4 → RW P n (Cf s0 s1 s2 s3 s4) (Ef s0 s1 s2 s3 s4) Q c k := by
    intro k
    induction k with
    | zero => intro s0 s1 s2 s3 s4 h; exact absurd h (h0 s0 s1 s2 s3 s4)
    | succ k ih => intro s0 s1 s2 s3 s4 h; exact r_succ (step k ih s0 s1 s2 s3 s4 h)
  intro k s0 s1 s2 s3 s4 h
  exact c_loop k (key k s0 s1 s2 s3 s4 h)
theorem loopI6 {α0 α1 α2 α3 α4 α5 : Type} {P : Program} {n : Nat} {Q : Exit → Act → World → Prop} {c : Code} (Cf : α0 → α1 → α2 → α3 → α4 → α5 → World → Prop) (Ef : α0 → α1 → α2 → α3 → α4 → α5 → Env) (g : Nat → α0 → α1 → α2 → α3 → α4 → α5 → Prop) (h0 : ∀ s0 s1 s2 s3 s4 s5, ¬ g 0 s0 s1 s2 s3 s4 s5)
    (step : ∀ k, (∀ s0 s1 s2 s3 s4 s5, g k s0 s1 s2 s3 s4 s5 → RW P n (Cf s0 s1 s2 s3 s4 s5) (Ef s0 s1 s2 s3 s4 s5) Q c k) → ∀ s0 s1 s2 s3 s4 s5, g (k + 1) s0 s1 s2 s3 s4 s5 → CW P n (Cf s0 s1 s2 s3 s4 s5) (Ef s0 s1 s2 s3 s4 s5) (QL P c k Q) c) : ∀ k, ∀ s0 s1 s2 s3 s4 s5, g k s0 s1 s2 s3 s4 s5 → CW P n (Cf s0 s1 s2 s3 s4 s5) (Ef s0 s1 s2 s3 s4 s5) Q (.loop c) := by
  have key : ∀ k, ∀ s0 s1 s2 s3 s4 s5, g k s0 s1 s2 s3 s4 s5 → RW P n (Cf s0 s1 s2 s3 s4 s5) (Ef s0 s1 s2 s3 s4 s5) Q c k := by
    intro k
    induction k with
    | zero => intro s0 s1 s2 s3 s4 s5 h; exact absurd h (h0 s0 s1 s2 s3 s4 s5)
    | succ k ih => intro s0 s1 s2 s3 s4 s5 h; exact r_succ (step k ih s0 s1 s2 s3 s4 s5 h)
  intro k s0 s1 s2 s3 s4 s5 h
  exact c_loop k (key k s0 s1 s2 s3 s4 s5 h)
theorem loopI10 {α0 α1 α2 α3 α4 α5 α6 α7 α8 α9 : Type} {P : Program} {n : Nat} {Q : Exit → Act → World → Prop} {c : Code} (Cf : α0 → α1 → α2 → α3 → α4 → α5 → α6 → α7 → α8 → α9 → World → Prop) (Ef : α0 → α1 → α2 → α3 → α4 → α5 → α6 → α7 → α8 → α9 → Env) (g : Nat → α0 → α1 → α2 → α3 → α4 → α5 → α6 → α7 → α8 → α9 → Prop) (h0 : ∀ s0 s1 s2 s3 s4 s5 s6 s7 s8 s9, ¬ g 0 s0 s1 s2 s3 s4 s5 s6 s7 s8 s9)
    (step : ∀ k, (∀ s0 s1 s2 s3 s4 s5 s6 s7 s8 s9, g k s0 s1 s2 s3 s4 s5 s6 s7 s8 s9 → RW P n (Cf s0 s1 s2 s3 s4 s5 s6 s7 s8 s9) (Ef s0 s1 s2 s3 s4 s5 s6 s7 s8 s9) Q c k) → ∀ s0 s1 s2 s3 s4 s5 s6 s7 s8 s9, g (k + 1) s0 s1 s2 s3 s4 s5 s6 s7 s8 s9 → CW P n (Cf s0 s1 s2 s3 s4 s5 s6 s7 s8 s9) (Ef s0 s1 s2 s3 s4 s5 s6 s7 s8 s9) (QL P c k Q) c) : ∀ k, ∀ s0 s1 s2 s3 s4 s5 s6 s7 s8 s9, g k s0 s1 s2 s3 s4 s5 s6 s7 s8 s9 → CW P n (Cf s0 s1 s2 s3 s4 s5 s6 s7 s8 s9) (Ef s0 s1 s2 s3 s4 s5 s6 s7 s8 s9) Q (.loop c) := by
  have key : ∀ k, ∀ s0 s1 s2 s3 s4 s5 s6 s7 s8 s9, g k s0 s1 s2 s3 s4 s5 s6 s7 s8 s9 → RW P n (Cf s0 s1 s2 s3 s4 s5 s6 s7 s8 s9) (Ef s0 s1 s2 s3 s4 s5 s6 s7 s8 s9) Q c k := by
    intro k
    induction k with
    | zero => intro s0 s1 s2 s3 s4 s5 s6 s7 s8 s9 h; exact absurd h (h0 s0 s1 s2 s3 s4 s5 s6 s7 s8 s9)
    | succ k ih => intro s0 s1 s2 s3 s4 s5 s6 s7 s8 s9 h; exact r_succ (step k ih s0 s1 s2 s3 s4 s5 s6 s7 s8 s9 h)
  intro k s0 s1 s2 s3 s4 s5 s6 s7 s8 s9 h
  exact c_loop k (key k s0 s1 s2 s3 s4 s5 s6 s7 s8 s9 h)
end Go.Vk
