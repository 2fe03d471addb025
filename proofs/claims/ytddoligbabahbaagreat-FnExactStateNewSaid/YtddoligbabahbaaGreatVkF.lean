/- Entering a function, leaving it; operations that make or write memory. -/
import Derived.Test.YtddoligbabahbaaGreatVkE
namespace Go.Vk
open Go.RowKit
variable {P : Program} {n : Nat} {C : World → Prop} {E : Env} {m : Md} {l rest : List Oper} {w0 : World} {M : List Nat} {L : List Res} {Q : Exit → Act → World → Prop}
def argEnv : Nat → List Value → Env
  | _, [] => []
  | k, v :: vs => (k, v) :: argEnv (k + 1) vs
theorem look_argEnv {vs : List Value} : ∀ {k t : Nat} {v : Value}, look (argEnv k vs) t = some v → k ≤ t ∧ vs[t - k]? = some v := by
  induction vs with
  | nil => intro k t v h; cases h
  | cons u vs ih =>
    intro k t v h
    simp only [argEnv, look] at h
    cases hk : Nat.beq k t with
    | true =>
      have := Nat.eq_of_beq_eq_true hk
      subst this
      simp only [hk, cond_true, Option.some.injEq] at h
      subst h
      exact ⟨Nat.le_refl _, by simp⟩
    | false =>
      simp only [hk, cond_false] at h
      obtain ⟨h1, h2⟩ := ih h
      refine ⟨by omega, ?_⟩
      rw [show t - k = (t - (k + 1)) + 1 by omega]
      simpa using h2
theorem f_enter {f : FuncId} {fn : Func} {c : Code} {w : World} {vs : List Value} {R : Ending → World → Prop} (hf : P.funcs[f]? = some fn) (hb : fn.body = some c) (hn : fn.ntmps = n) (hl : Nat.ble vs.length n = true)
    (hS : St w M L w) (h : CW P n (St w M L) (argEnv 0 vs) (bodyPost P fn R) c) : Calls P f vs.toArray w R := by
  refine calls_of_wp hf hb (h _ w ⟨?_, rfl, fun t v hv => ?_⟩ hS)
  · have := Nat.le_of_ble_eq_true hl
    simp [hn]; omega
  · obtain ⟨_, h2⟩ := look_argEnv hv
    rw [Nat.sub_zero] at h2
    have hlt : t < vs.length := (List.getElem?_eq_some_iff.1 h2).1
    rw [Array.getD_eq_getD_getElem?, Array.getElem?_append_left (by simpa using hlt)]
    simp [h2]
theorem St.init (w : World) (M : List Nat) : St w M [] w := ⟨Ext.refl _ _, by simp, by simp [foot], by simp [foot], by simp [foot]⟩
/-! ### what the functional text is taken apart by -/
theorem of_if_t {α : Type} {b : Bool} {r : Option α} {o p : Option α} (hb : b = true) (h : (if b then o else p) = r) : o = r := by rw [if_pos hb] at h; exact h
theorem of_if_f {α : Type} {b : Bool} {r : Option α} {o p : Option α} (hb : b = false) (h : (if b then o else p) = r) : p = r := by rw [hb] at h; exact h
theorem of_bind {α β : Type} {o : Option α} {f : α → Option β} {r : β} (h : o.bind f = some r) : ∃ x, o = some x ∧ f x = some r := Option.bind_eq_some_iff.1 h
theorem of_some {α : Type} {x r : α} (h : some x = some r) : x = r := Option.some.inj h
theorem rd_sl {α : Type} {e : Enc α} {w : World} {X : List Nat} {xs : List α} {v : Value} (h : rdList e w X xs [v]) : ∃ a cap, v = .slice a xs.length cap := by
  obtain ⟨a, cap, hv, _⟩ := h
  exact ⟨a, cap, by simpa using hv⟩
/-! ### facts on types, by reckoning -/
def vEq : Value → Value → Bool
  | .int k n, .int k' m => kindEq k k' && n == m
  | .bool a, .bool b => a == b
  | .string s, .string t => s.data.toList == t.data.toList
  | .slice none a b, .slice none c d => a == c && b == d
  | .pointer none, .pointer none => true
  | .nilFunc, .nilFunc => true
  | .nilIface, .nilIface => true
  | _, _ => false
theorem vEq_eq {a b : Value} (h : vEq a b = true) : a = b := by
  unfold vEq at h
  split at h
  · simp only [Bool.and_eq_true, beq_iff_eq] at h; rw [kindEq_eq h.1, h.2]
  · simp only [beq_iff_eq] at h; rw [h]
  · rename_i s t
    simp only [beq_iff_eq] at h
    obtain ⟨⟨s⟩⟩ := s
    obtain ⟨⟨t⟩⟩ := t
    simp at h; rw [h]
  · simp only [Bool.and_eq_true, beq_iff_eq] at h; rw [h.1, h.2]
  · rfl
  · rfl
  · rfl
  · cases h
def vsEq : List Value → List Value → Bool
  | [], [] => true
  | a :: as, b :: bs => vEq a b && vsEq as bs
  | _, _ => false
theorem vsEq_eq : ∀ {a b : List Value}, vsEq a b = true → a = b
  | [], [], _ => rfl
  | a :: as, b :: bs, h => by
    simp only [vsEq, Bool.and_eq_true] at h
    rw [vEq_eq h.1, vsEq_eq h.2]
  | [], _ :: _, h => by cases h
  | _ :: _, [], h => by cases h
def tyB (P : Program) (t : TypeId) (agg : Bool) (sz by_ : Nat) (z : List Value) : Bool :=
  (match P.info? t with
   | some i => Nat.beq i.size sz && Nat.beq i.bytes by_ && (match i.zero with | some v => vsEq v.cells.toList z | none => false)
   | none => false) &&
  (match P.underlying t with
   | some (.struct _) | some (.array _ _) => agg
   | some _ => !agg && Nat.beq sz 1
   | none => false)
theorem isTy_of {t : TypeId} {agg : Bool} {sz by_ : Nat} {z : List Value} (h : tyB P t agg sz by_ z = true) : isTy P t agg sz by_ z := by
  simp only [tyB, Bool.and_eq_true] at h
  obtain ⟨h1, h2⟩ := h
  refine ⟨fun w => ?_, ?_, fun hf => ?_⟩
  · cases hu : P.underlying t with
    | none => simp [hu] at h2
    | some d =>
      rw [hu] at h2
      unfold isAgg
      simp only [Sem.run_bind, run_underlying hu, Result.andThen_ok]
      cases d <;> simp_all
  · cases hi : P.info? t with
    | none => simp [hi] at h1
    | some i =>
      simp only [hi, Bool.and_eq_true] at h1
      obtain ⟨⟨h3, h4⟩, h5⟩ := h1
      cases hz : i.zero with
      | none => simp [hz] at h5
      | some v =>
        simp only [hz] at h5
        exact ⟨i, v, rfl, Nat.eq_of_beq_eq_true h3, Nat.eq_of_beq_eq_true h4, hz, by rw [← vsEq_eq h5]⟩
  · subst hf
    cases hu : P.underlying t with
    | none => simp [hu] at h2
    | some d =>
      rw [hu] at h2
      cases d <;> simp_all
def slB (P : Program) (t e : TypeId) : Bool := match P.underlying t with | some (.slice x) => Nat.beq x e | _ => false
theorem isSl_of {t e : TypeId} (h : slB P t e = true) : isSl P t e := by
  unfold slB at h
  split at h
  · rename_i x hx; rw [isSl, hx, Nat.eq_of_beq_eq_true h]
  · cases h
def faB (P : Program) (s f off : Nat) : Bool :=
  match P.underlying s with
  | some (.struct fs) =>
    match fs[f]? with
    | some fd => Nat.beq fd.offset off && (match P.info? fd.type with | some i => Nat.blt 0 i.size | none => false)
    | none => false
  | _ => false
theorem isFa_of {s f off : Nat} (h : faB P s f off = true) : isFa P s f off := by
  unfold faB at h
  split at h
  · rename_i fs hu
    split at h
    · rename_i fd hf
      simp only [Bool.and_eq_true] at h
      obtain ⟨h1, h2⟩ := h
      cases hi : P.info? fd.type with
      | none => simp [hi] at h2
      | some i =>
        simp only [hi] at h2
        exact ⟨fs, fd, i, hu, hf, Nat.eq_of_beq_eq_true h1, hi, by have := Nat.le_of_ble_eq_true h2; omega⟩
    · cases h
  · cases h
def intB (P : Program) (t : TypeId) (k : IntKind) : Bool := match P.underlying t with | some (.int x) => kindEq x k | _ => false
theorem isInt_of {t : TypeId} {k : IntKind} (h : intB P t k = true) : isInt P t k := by
  unfold intB at h
  split at h
  · rename_i x hx; rw [isInt, hx, kindEq_eq h]
  · cases h
def strB (P : Program) (t : TypeId) : Bool := match P.underlying t with | some .string => true | _ => false
theorem isStr_of {t : TypeId} (h : strB P t = true) : isStr P t := by
  unfold strB at h
  split at h
  · assumption
  · cases h
end Go.Vk
