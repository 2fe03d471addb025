/- Frames as slot lists, the walk's judgments. -/
import Derived.WalkKit
import Derived.Deep.Quiet
namespace Go.Vk
abbrev Env := List (Nat × Value)
def look : Env → Nat → Option Value
  | [], _ => none
  | (k, v) :: E, t => bif Nat.beq k t then some v else look E t
structure Fr (n : Nat) (E : Env) (a : Act) : Prop where
  sz : a.tmps.size = n
  df : a.defers = []
  at_ : ∀ t v, look E t = some v → a.tmps.getD t undef = v
theorem look_mem {E : Env} {t : Nat} {v : Value} (h : look E t = some v) : (t, v) ∈ E := by
  induction E with
  | nil => simp [look] at h
  | cons p E ih =>
    obtain ⟨k, u⟩ := p
    simp only [look] at h
    cases hk : Nat.beq k t with
    | true =>
      simp only [hk, cond_true, Option.some.injEq] at h
      have := Nat.eq_of_beq_eq_true hk
      subst this; subst h
      exact List.mem_cons_self
    | false =>
      simp only [hk, cond_false] at h
      exact List.mem_cons_of_mem _ (ih h)
/-- every binding of R is one of E -/
def Sub : Env → Env → Prop
  | [], _ => True
  | (t, v) :: R, E => look E t = some v ∧ Sub R E
theorem Sub.mem {R E : Env} (h : Sub R E) : ∀ t v, (t, v) ∈ R → look E t = some v := by
  induction R with
  | nil => intro t v hm; cases hm
  | cons p R ih =>
    obtain ⟨k, u⟩ := p
    intro t v hm
    cases hm with
    | head => exact h.1
    | tail _ hm => exact ih h.2 t v hm
theorem Fr.sub {n : Nat} {R E : Env} {a : Act} (h : Fr n E a) (hs : Sub R E) : Fr n R a :=
  ⟨h.sz, h.df, fun t v hl => h.at_ t v (hs.mem t v (look_mem hl))⟩
theorem getD_set_same (xs : Array Value) (d : Nat) (v u : Value) (h : d < xs.size) : (xs.setIfInBounds d v).getD d u = v := by
  simp [Array.getD, h]
theorem getD_set_other (xs : Array Value) (d t : Nat) (v u : Value) (h : d ≠ t) : (xs.setIfInBounds d v).getD t u = xs.getD t u := by
  rw [Array.getD_eq_getD_getElem?, Array.getD_eq_getD_getElem?, Array.getElem?_setIfInBounds_ne h]
def upd (E : Env) : Option Tmp → Value → Env
  | some d, v => (d, v) :: E
  | none, _ => E
theorem Fr.put {n : Nat} {E : Env} {a : Act} (h : Fr n E a) (d : Option Tmp) (v : Value) (hd : ∀ t, d = some t → t < n) : Fr n (upd E d v) (a.put d v) := by
  cases d with
  | none => exact h
  | some d =>
    have hdn := hd d rfl
    refine ⟨?_, h.df, ?_⟩
    · simpa [Act.put] using h.sz
    · intro t u hl
      simp only [upd, look] at hl
      cases hk : Nat.beq d t with
      | true =>
        simp only [hk, cond_true, Option.some.injEq] at hl
        have := Nat.eq_of_beq_eq_true hk
        subst this; subst hl
        exact getD_set_same _ _ _ _ (by rw [h.sz]; exact hdn)
      | false =>
        simp only [hk, cond_false] at hl
        have hne : d ≠ t := fun e => by subst e; simp at hk
        show (a.tmps.setIfInBounds d v).getD t undef = u
        rw [getD_set_other _ _ _ _ _ hne]
        exact h.at_ t u hl
/-- operands -/
def ev (E : Env) : Operand → Option Value
  | .tmp t => look E t
  | .const v => some v
  | .global g => some (.pointer (some ⟨g, 0, none⟩))
  | .func f => some (.func (.func f) #[] #[])
theorem Fr.ev {n : Nat} {E : Env} {a : Act} (h : Fr n E a) {x : Operand} {v : Value} (hx : ev E x = some v) : a.eval x = v := by
  cases x with
  | tmp t => exact h.at_ t v hx
  | const u => simpa [Vk.ev, Act.eval] using hx
  | global g => simpa [Vk.ev, Act.eval] using hx
  | func f => simpa [Vk.ev, Act.eval] using hx
/-- is the operation carried out? (none: not known) -/
def wt (ops : List Oper) (E : Env) : Option (Nat × Bool) → Option Bool
  | none => some true
  | some (j, want) =>
    match (ops[j]?).bind (·.dst) with
    | some s =>
      match look E s with
      | some (.bool b) => some (b == want)
      | some (.tuple _) => some false
      | _ => none
    | none => none
theorem Fr.wt {n : Nat} {E : Env} {a : Act} (h : Fr n E a) {ops : List Oper} {o : Oper} {b : Bool} (hw : wt ops E o.guard = some b) :
    Region.wanted o (yielded ops.toArray a.tmps) = b := by
  unfold Region.wanted
  cases hg : o.guard with
  | none => simp only [hg, Vk.wt, Option.some.injEq] at hw; exact hw
  | some p =>
    obtain ⟨j, want⟩ := p
    simp only [hg, Vk.wt] at hw
    simp only [yielded, List.getElem?_toArray]
    cases hd : (ops[j]?).bind (·.dst) with
    | none => simp [hd] at hw
    | some s =>
      simp only [hd] at hw
      cases hl : look E s with
      | none => simp [hl] at hw
      | some u =>
        simp only [hl] at hw
        cases u with
        | bool c =>
          simp only [Option.some.injEq] at hw
          have hat := h.at_ s _ hl
          have hsz : a.tmps[s]? = some (.bool c) := by
            rw [Array.getD_eq_getD_getElem?] at hat
            cases hx : a.tmps[s]? with
            | none => rw [hx] at hat; simp [undef] at hat
            | some y => rw [hx] at hat; simpa using hat
          simp only [Option.bind_some, hsz]
          rw [← hw]
          cases c <;> cases want <;> rfl
        | tuple vs =>
          simp only [Option.some.injEq] at hw
          have hat := h.at_ s _ hl
          have hsz : ∀ c, a.tmps[s]? ≠ some (.bool c) := by
            intro c hc
            rw [Array.getD_eq_getD_getElem?, hc] at hat
            simp at hat
          rw [← hw]
          simp only [Option.bind_some]
          cases hx : a.tmps[s]? with
          | none => rfl
          | some y =>
            cases y with
            | bool c => exact absurd hx (hsz c)
            | _ => rfl
        | _ => simp at hw
end Go.Vk
