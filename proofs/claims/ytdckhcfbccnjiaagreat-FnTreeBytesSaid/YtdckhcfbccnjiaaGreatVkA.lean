/- Frames as slot lists, the walk's judgments. -/
import Derived.WalkKit
import Derived.Deep.Quiet
import Derived.Below
import Derived.LoopN
import Derived.OrdersHeld
import Derived.ChangeKeysEq
import Derived.Laws.MakeOwn
import Derived.Laws.Tables
import Derived.Great.BuildSlice
namespace Go.Vk
abbrev Env := List (Nat × Value)
def qA : Env → Nat → Option Value
  | [], _ => none
  | (k, v) :: E, t => bif Nat.beq k t then some v else qA E t
structure Fr (n : Nat) (E : Env) (a : Act) : Prop where
  sz : a.tmps.size = n
  df : a.defers = []
  e_ : ∀ t v, qA E t = some v → a.tmps.getD t undef = v
theorem BW {E : Env} {t : Nat} {v : Value} (h : qA E t = some v) : (t, v) ∈ E := by
  induction E with
  | nil => simp [qA] at h
  | cons p E ih =>
    obtain ⟨k, u⟩ := p
    simp only [qA] at h
    cases hk : Nat.beq k t with
    | true =>
      simp only [hk, cond_true, Option.some.injEq] at h
      have := Nat.eq_of_beq_eq_true hk
      subst this; subst h
      exact List.mem_cons_self
    | false =>
      simp only [hk, cond_false] at h
      exact List.mem_cons_of_mem _ (ih h)
def Sub : Env → Env → Prop
  | [], _ => True
  | (t, v) :: R, E => qA E t = some v ∧ Sub R E
theorem Sub.mem {R E : Env} (h : Sub R E) : ∀ t v, (t, v) ∈ R → qA E t = some v := by
  induction R with
  | nil => intro t v hm; cases hm
  | cons p R ih =>
    obtain ⟨k, u⟩ := p
    intro t v hm
    cases hm with
    | head => exact h.1
    | tail _ hm => exact ih h.2 t v hm
theorem Fr.sub {n : Nat} {R E : Env} {a : Act} (h : Fr n E a) (hs : Sub R E) : Fr n R a :=
  ⟨h.sz, h.df, fun t v hl => h.e_ t v (hs.mem t v (BW hl))⟩
theorem vJ (xs : Array Value) (d : Nat) (v u : Value) (h : d < xs.size) : (xs.setIfInBounds d v).getD d u = v := by
  simp [Array.getD, h]
theorem uV (xs : Array Value) (d t : Nat) (v u : Value) (h : d ≠ t) : (xs.setIfInBounds d v).getD t u = xs.getD t u := by
  rw [Array.getD_eq_getD_getElem?, Array.getD_eq_getD_getElem?, Array.getElem?_setIfInBounds_ne h]
def upd (E : Env) : Option Tmp → Value → Env
  | some d, v => (d, v) :: E
  | none, _ => E
theorem Fr.put {n : Nat} {E : Env} {a : Act} (h : Fr n E a) (d : Option Tmp) (v : Value) (hd : ∀ t, d = some t → t < n) : Fr n (upd E d v) (a.put d v) := by
  cases d with
  | none => exact h
  | some d =>
    have hdn := hd d rfl
    refine ⟨?_, h.df, ?_⟩
    · simpa [Act.put] using h.sz
    · intro t u hl
      simp only [upd, qA] at hl
      cases hk : Nat.beq d t with
      | true =>
        simp only [hk, cond_true, Option.some.injEq] at hl
        have := Nat.eq_of_beq_eq_true hk
        subst this; subst hl
        exact vJ _ _ _ _ (by rw [h.sz]; exact hdn)
      | false =>
        simp only [hk, cond_false] at hl
        have hne : d ≠ t := fun e => by subst e; simp at hk
        show (a.tmps.setIfInBounds d v).getD t undef = u
        rw [uV _ _ _ _ _ hne]
        exact h.e_ t u hl
def ev (E : Env) : Operand → Option Value
  | .tmp t => qA E t
  | .const v => some v
  | .global g => some (.pointer (some ⟨g, 0, none⟩))
  | .func f => some (.func (.func f) #[] #[])
theorem Fr.ev {n : Nat} {E : Env} {a : Act} (h : Fr n E a) {x : Operand} {v : Value} (hx : ev E x = some v) : a.eval x = v := by
  cases x with
  | tmp t => exact h.e_ t v hx
  | const u => simpa [Vk.ev, Act.eval] using hx
  | global g => simpa [Vk.ev, Act.eval] using hx
  | func f => simpa [Vk.ev, Act.eval] using hx
def wt (ops : List Oper) (E : Env) : Option (Nat × Bool) → Option Bool
  | none => some true
  | some (j, want) =>
    match (ops[j]?).bind (·.dst) with
    | some s =>
      match qA E s with
      | some (.bool b) => some (b == want)
      | some (.tuple _) => some false
      | _ => none
    | none => none
theorem Fr.wt {n : Nat} {E : Env} {a : Act} (h : Fr n E a) {ops : List Oper} {o : Oper} {b : Bool} (hw : wt ops E o.guard = some b) :
    Region.wanted o (yielded ops.toArray a.tmps) = b := by
  unfold Region.wanted
  cases hg : o.guard with
  | none => simp only [hg, Vk.wt, Option.some.injEq] at hw; exact hw
  | some p =>
    obtain ⟨j, want⟩ := p
    simp only [hg, Vk.wt] at hw
    simp only [yielded, List.getElem?_toArray]
    cases hd : (ops[j]?).bind (·.dst) with
    | none => simp [hd] at hw
    | some s =>
      simp only [hd] at hw
      cases hl : qA E s with
      | none => simp [hl] at hw
      | some u =>
        simp only [hl] at hw
        cases u with
        | bool c =>
          simp only [Option.some.injEq] at hw
          have hat := h.e_ s _ hl
          have hsz : a.tmps[s]? = some (.bool c) := by
            rw [Array.getD_eq_getD_getElem?] at hat
            cases hx : a.tmps[s]? with
            | none => rw [hx] at hat; simp [undef] at hat
            | some y => rw [hx] at hat; simpa using hat
          simp only [Option.bind_some, hsz]
          rw [← hw]
          cases c <;> cases want <;> rfl
        | tuple vs =>
          simp only [Option.some.injEq] at hw
          have hat := h.e_ s _ hl
          have hsz : ∀ c, a.tmps[s]? ≠ some (.bool c) := by
            intro c hc
            rw [Array.getD_eq_getD_getElem?, hc] at hat
            simp at hat
          rw [← hw]
          simp only [Option.bind_some]
          cases hx : a.tmps[s]? with
          | none => rfl
          | some y =>
            cases y with
            | bool c => exact absurd hx (hsz c)
            | _ => rfl
        | _ => simp at hw
end Go.Vk
/- Memory as a list of local resources; readers of typed data. -/
namespace Go.Vk
open Go.RowKit
structure Ext (M : List Nat) (w w' : World) : Prop where
  os : w'.os = w.os
  tape : w'.tape = w.tape
  output : w'.output = w.output
  size : w.heap.size ≤ w'.heap.size
  block : ∀ b, b < w.heap.size → b ∉ M → w'.heap[b]? = w.heap[b]?
theorem Ext.refl (M : List Nat) (w : World) : Ext M w w := ⟨rfl, rfl, rfl, Nat.le_refl _, fun _ _ _ => rfl⟩
theorem Ext.trans {M : List Nat} {a b c : World} (h : Ext M a b) (k : Ext M b c) : Ext M a c :=
  ⟨k.os.trans h.os, k.tape.trans h.tape, k.output.trans h.output, Nat.le_trans h.size k.size,
   fun i hi hm => (k.block i (Nat.lt_of_lt_of_le hi h.size) hm).trans (h.block i hi hm)⟩
theorem Ext.mono {M M' : List Nat} {a b : World} (h : Ext M a b) (hm : ∀ x ∈ M, x ∈ M' ∨ a.heap.size ≤ x) : Ext M' a b :=
  ⟨h.os, h.tape, h.output, h.size, fun i hi hn => h.block i hi (fun hM => by
    rcases hm i hM with h1 | h1
    · exact hn h1
    · omega)⟩
theorem Ext.below {w w' : World} (h : Ext [] w w') : Below w.heap.size w w' := ⟨h.os, h.tape, h.output, h.size, fun k hk => h.block k hk (by simp)⟩
theorem Ext.drew {M : List Nat} {a b : World} (h : Ext M a b) : Ext M a b.drew := ⟨h.os, h.tape, h.output, h.size, h.block⟩
structure Res where
  F : List Nat
  ok : World → Prop
  loc : ∀ w w', (∀ b ∈ F, w'.heap[b]? = w.heap[b]?) → ok w → ok w'
def Res.box (b : Nat) (T : TypeId) (cs : List Value) : Res :=
  ⟨[b], fun w => w.heap[b]? = some (.cells cs.toArray T (0, 0)), fun _ _ h ok => (h b (by simp)).trans ok⟩
def dx (L : List Res) : List Nat := L.flatMap (·.F)
structure St (w0 : World) (M : List Nat) (L : List Res) (w : World) : Prop where
  ext : Ext M w0 w
  ok : ∀ r ∈ L, r.ok w
  nd : (dx L).Nodup
  lt : ∀ b ∈ dx L, b < w.heap.size
  new : ∀ b ∈ dx L, w0.heap.size ≤ b ∨ b ∈ M
theorem lX {L : List Res} {r : Res} (h : r ∈ L) {b : Nat} (hb : b ∈ r.F) : b ∈ dx L := List.mem_flatMap.2 ⟨r, h, hb⟩
theorem St.step {w0 : World} {M : List Nat} {L : List Res} {w w' : World} (h : St w0 M L w) (hx : Ext [] w w') : St w0 M L w' where
  ext := h.ext.trans (hx.mono (by simp))
  ok r hr := r.loc w w' (fun b hb => hx.block b (h.lt b (lX hr hb)) (by simp)) (h.ok r hr)
  nd := h.nd
  lt b hb := Nat.lt_of_lt_of_le (h.lt b hb) hx.size
  new := h.new
theorem St.drew {w0 : World} {M : List Nat} {L : List Res} {w : World} (h : St w0 M L w) : St w0 M L { w with drawn := w.drawn + 1 } :=
  h.step ⟨rfl, rfl, rfl, Nat.le_refl _, fun _ _ _ => rfl⟩
theorem eo (A B : List Res) : dx (A ++ B) = dx A ++ dx B := by simp [dx]
theorem eC (r : Res) (B : List Res) : dx (r :: B) = r.F ++ dx B := rfl
theorem fc (r : Res) : dx [r] = r.F := by simp [dx]
theorem St.push {w0 : World} {M : List Nat} {L : List Res} {w w' : World} (h : St w0 M L w) (hx : Ext [] w w') (r : Res) (hr : r.ok w')
    (hn : r.F.Nodup) (hge : ∀ b ∈ r.F, w.heap.size ≤ b ∧ b < w'.heap.size) : St w0 M (L ++ [r]) w' where
  ext := (h.step hx).ext
  ok s hs := by
    rcases List.mem_append.1 hs with hs | hs
    · exact (h.step hx).ok s hs
    · rw [List.mem_singleton.1 hs]; exact hr
  nd := by
    rw [eo, fc, List.nodup_append]
    exact ⟨h.nd, hn, fun a ha b hb e => by have h1 := (hge b hb).1; have h2 := h.lt a ha; omega⟩
  lt b hb := by
    rw [eo, fc] at hb
    rcases List.mem_append.1 hb with h1 | h1
    · exact (h.step hx).lt b h1
    · exact (hge b h1).2
  new b hb := by
    rw [eo, fc] at hb
    rcases List.mem_append.1 hb with h1 | h1
    · exact h.new b h1
    · exact .inl (Nat.le_trans h.ext.size (hge b h1).1)
theorem St.left {w0 : World} {M : List Nat} {A B : List Res} {w : World} (h : St w0 M (A ++ B) w) : St w0 M A w := by
  have hin : ∀ b ∈ dx A, b ∈ dx (A ++ B) := fun b hb => by rw [eo]; simp [hb]
  refine ⟨h.ext, fun s hs => h.ok s (List.mem_append.2 (.inl hs)), ?_, fun b hb => h.lt b (hin b hb), fun b hb => h.new b (hin b hb)⟩
  have := h.nd
  rw [eo, List.nodup_append] at this
  exact this.1
theorem St.take {w0 : World} {M : List Nat} {L L' : List Res} {w : World} (k : Nat) (hL : L.take k = L') (h : St w0 M L w) : St w0 M L' w := by
  rw [← List.take_append_drop k L] at h
  rw [← hL]; exact h.left
theorem St.turn {w0 : World} {M : List Nat} {A B : List Res} {r : Res} {w w' : World} (h : St w0 M (A ++ r :: B) w) (hx : Ext r.F w w') (r' : Res) (hr : r'.ok w')
    (hn : r'.F.Nodup) (hge : ∀ b ∈ r'.F, b < w'.heap.size ∧ (b ∈ r.F ∨ w.heap.size ≤ b)) : St w0 M (A ++ r' :: B) w' := by
  have hf : dx (A ++ r :: B) = dx A ++ (r.F ++ dx B) := by rw [eo, eC]
  have hf' : dx (A ++ r' :: B) = dx A ++ (r'.F ++ dx B) := by rw [eo, eC]
  have hnd := h.nd
  rw [hf, List.nodup_append, List.nodup_append] at hnd
  obtain ⟨hA, ⟨hR, hB, hRB⟩, hAR⟩ := hnd
  have hAlt : ∀ b ∈ dx A, b < w.heap.size := fun b hb => h.lt b (by rw [hf]; simp [hb])
  have hBlt : ∀ b ∈ dx B, b < w.heap.size := fun b hb => h.lt b (by rw [hf]; simp [hb])
  have hRlt : ∀ b ∈ r.F, b < w.heap.size := fun b hb => h.lt b (by rw [hf]; simp [hb])
  have hAn : ∀ b ∈ dx A, b ∉ r.F := fun b hb hr => hAR b hb b (List.mem_append.2 (.inl hr)) rfl
  have hBn : ∀ b ∈ dx B, b ∉ r.F := fun b hb hr => hRB b hr b hb rfl
  refine ⟨?_, ?_, ?_, ?_, ?_⟩
  · refine ⟨hx.os.trans h.ext.os, hx.tape.trans h.ext.tape, hx.output.trans h.ext.output, Nat.le_trans h.ext.size hx.size, fun b hb hm => ?_⟩
    have hbr : b ∉ r.F := fun hin => by
      rcases h.new b (by rw [hf]; simp [hin]) with h1 | h1
      · omega
      · exact hm h1
    exact (hx.block b (Nat.lt_of_lt_of_le hb h.ext.size) hbr).trans (h.ext.block b hb hm)
  · intro s hs
    rcases List.mem_append.1 hs with h1 | h1
    · exact s.loc w w' (fun b hb => hx.block b (hAlt b (lX h1 hb)) (hAn b (lX h1 hb))) (h.ok s (List.mem_append.2 (.inl h1)))
    · cases h1 with
      | head => exact hr
      | tail _ h1 => exact s.loc w w' (fun b hb => hx.block b (hBlt b (lX h1 hb)) (hBn b (lX h1 hb))) (h.ok s (List.mem_append.2 (.inr (List.mem_cons_of_mem _ h1))))
  · rw [hf', List.nodup_append, List.nodup_append]
    have hnew : ∀ b ∈ r'.F, b ∉ dx A ∧ b ∉ dx B := fun b hb => by
      rcases (hge b hb).2 with h1 | h1
      · exact ⟨fun h2 => hAn b h2 h1, fun h2 => hBn b h2 h1⟩
      · exact ⟨fun h2 => by have := hAlt b h2; omega, fun h2 => by have := hBlt b h2; omega⟩
    refine ⟨hA, ⟨hn, hB, fun a ha b hb e => (hnew a ha).2 (e ▸ hb)⟩, fun a ha b hb e => ?_⟩
    subst e
    rcases List.mem_append.1 hb with h1 | h1
    · exact (hnew a h1).1 ha
    · exact hAR a ha a (List.mem_append.2 (.inr h1)) rfl
  · intro b hb
    rw [hf'] at hb
    rcases List.mem_append.1 hb with h1 | h1
    · exact Nat.lt_of_lt_of_le (hAlt b h1) hx.size
    · rcases List.mem_append.1 h1 with h2 | h2
      · exact (hge b h2).1
      · exact Nat.lt_of_lt_of_le (hBlt b h2) hx.size
  · intro b hb
    rw [hf'] at hb
    rcases List.mem_append.1 hb with h1 | h1
    · exact h.new b (by rw [hf]; simp [h1])
    · rcases List.mem_append.1 h1 with h2 | h2
      · rcases (hge b h2).2 with h3 | h3
        · exact h.new b (by rw [hf]; simp [h3])
        · exact .inl (Nat.le_trans h.ext.size h3)
      · exact h.new b (by rw [hf]; simp [h2])
theorem St.drop {w0 : World} {M : List Nat} {A B : List Res} {r : Res} {w : World} (h : St w0 M (A ++ r :: B) w) : St w0 M (A ++ B) w := by
  have hf : dx (A ++ r :: B) = dx A ++ (r.F ++ dx B) := by rw [eo, eC]
  have hf' : dx (A ++ B) = dx A ++ dx B := eo _ _
  have hin : ∀ b ∈ dx (A ++ B), b ∈ dx (A ++ r :: B) := fun b hb => by
    rw [hf'] at hb; rw [hf]
    rcases List.mem_append.1 hb with h1 | h1 <;> simp [h1]
  have hnd := h.nd
  rw [hf, List.nodup_append, List.nodup_append] at hnd
  obtain ⟨hA, ⟨_, hB, _⟩, hAR⟩ := hnd
  refine ⟨h.ext, fun s hs => h.ok s ?_, ?_, fun b hb => h.lt b (hin b hb), fun b hb => h.new b (hin b hb)⟩
  · rcases List.mem_append.1 hs with h1 | h1
    · exact List.mem_append.2 (.inl h1)
    · exact List.mem_append.2 (.inr (List.mem_cons_of_mem _ h1))
  · rw [hf', List.nodup_append]
    exact ⟨hA, hB, fun a ha b hb e => hAR a ha b (List.mem_append.2 (.inr hb)) e⟩
def Res.nil : Res := ⟨[], fun _ => True, fun _ _ _ h => h⟩
theorem uH {L : List Res} {i : Nat} {r : Res} (h : L[i]? = some r) : L = L.take i ++ r :: L.drop (i + 1) := by
  obtain ⟨hlt, he⟩ := List.getElem?_eq_some_iff.1 h
  rw [← he, ← List.drop_eq_getElem_cons hlt, List.take_append_drop]
theorem Cn {L : List Res} {i : Nat} {r r' : Res} (h : L[i]? = some r) : L.set i r' = L.take i ++ r' :: L.drop (i + 1) :=
  List.set_eq_take_append_cons_drop .. ▸ (by rw [if_pos (List.getElem?_eq_some_iff.1 h).1])
theorem St.upd {w0 : World} {M : List Nat} {L : List Res} {i : Nat} {r : Res} {w w' : World} (h : St w0 M L w) (hi : L[i]? = some r) (hx : Ext r.F w w') (r' : Res) (hr : r'.ok w')
    (hn : r'.F.Nodup) (hge : ∀ b ∈ r'.F, b < w'.heap.size ∧ (b ∈ r.F ∨ w.heap.size ≤ b)) : St w0 M (L.set i r') w' := by
  rw [Cn hi]
  rw [uH hi] at h
  exact h.turn hx r' hr hn hge
theorem St.one {w0 : World} {M : List Nat} {L : List Res} {i : Nat} {r : Res} {w : World} (h : St w0 M L w) (hi : L[i]? = some r) : r.ok w ∧ r.F.Nodup ∧ ∀ b ∈ r.F, b < w.heap.size := by
  have hnd := h.nd
  have hf : dx L = dx (L.take i) ++ (r.F ++ dx (L.drop (i + 1))) := by conv => lhs; rw [uH hi, eo, eC]
  rw [hf, List.nodup_append, List.nodup_append] at hnd
  exact ⟨h.ok r (List.mem_of_getElem? hi), hnd.2.1.1, fun b hb => h.lt b (lX (List.mem_of_getElem? hi) hb)⟩
theorem St.clear {w0 : World} {M : List Nat} {L : List Res} {i : Nat} {r : Res} {w : World} (h : St w0 M L w) (hi : L[i]? = some r) : St w0 M (L.set i Res.nil) w :=
  h.upd hi (Ext.refl _ _) Res.nil trivial (by simp [Res.nil]) (by simp [Res.nil])
theorem St.recast {w0 : World} {M : List Nat} {L : List Res} {i : Nat} {r r' : Res} {w : World} (h : St w0 M L w) (hi : L[i]? = some r) (hF : r'.F = r.F) (ho : r.ok w → r'.ok w) : St w0 M (L.set i r') w := by
  obtain ⟨h1, h2, h3⟩ := h.one hi
  exact h.upd hi (Ext.refl _ _) r' (ho h1) (hF ▸ h2) (fun b hb => by rw [hF] at hb; exact ⟨h3 b hb, .inl hb⟩)
theorem vX {L : List Res} {i : Nat} {r : Res} (hi : L[i]? = some r) : (dx L).Perm (r.F ++ dx (L.set i Res.nil)) := by
  rw [Cn hi]
  conv => lhs; rw [uH hi]
  rw [eo, eC, eo, eC]
  show (dx (L.take i) ++ (r.F ++ dx (L.drop (i + 1)))).Perm (r.F ++ (dx (L.take i) ++ ([] ++ dx (L.drop (i + 1)))))
  rw [List.nil_append, ← List.append_assoc, ← List.append_assoc]
  exact List.Perm.append_right _ List.perm_append_comm
def At (w : World) (X : List Nat) (p : Addr) (cs : List Value) : Prop :=
  (cs ≠ [] → p.block ∉ X) ∧ ∀ j v, cs[j]? = some v → w.cell? (p.add j) = some v
structure Enc (α : Type) where
  sz : Nat
  rd : World → List Nat → α → List Value → Prop
  own : World → List Nat → α → List Value → Prop
  rd_len : ∀ {w X x cs}, rd w X x cs → cs.length = sz
  rd_loc : ∀ {w w' X x cs}, rd w X x cs → (∀ b, b < w.heap.size → b ∉ X → w'.heap[b]? = w.heap[b]?) → rd w' X x cs
  rd_anti : ∀ {w X X' x cs}, rd w X x cs → (∀ b, b < w.heap.size → b ∈ X' → b ∈ X) → rd w X' x cs
  own_loc : ∀ {w w' F x cs}, own w F x cs → (∀ b ∈ F, w'.heap[b]? = w.heap[b]?) → own w' F x cs
  own_rd : ∀ {w F X x cs}, own w F x cs → (∀ b ∈ F, b ∉ X) → rd w X x cs
  own_lt : ∀ {w F x cs}, own w F x cs → ∀ b ∈ F, b < w.heap.size
  one : ∀ {w X x cs}, rd w X x cs → ∀ u ∈ cs, u.oneCell' = true
def kg {α : Type} (val : α → Value) (h1 : ∀ x, (val x).oneCell' = true) : Enc α where
  sz := 1
  rd _ _ x cs := cs = [val x]
  own _ F x cs := F = [] ∧ cs = [val x]
  rd_len h := by rw [h]; rfl
  rd_loc h _ := h
  rd_anti h _ := h
  own_loc h _ := h
  own_rd h _ := h.2
  own_lt h b hb := by rw [h.1] at hb; cases hb
  one h u hu := by rw [h] at hu; rw [List.mem_singleton.1 hu]; exact h1 _
def vB (n : Int) : Value := .int .u8 n
def vS (l : List UInt8) : Value := .string ⟨l.toArray⟩
abbrev rh : Enc Bool := kg Value.bool (fun _ => rfl)
abbrev js : Enc (List UInt8) := kg vS (fun _ => rfl)
theorem mK (p : Addr) (j : Nat) : (p.add j).block = p.block := by unfold Addr.add; split <;> rfl
theorem cS (p : Addr) (i j : Nat) : (p.add i).add j = p.add (i + j) := by
  unfold Addr.add
  by_cases hi : i = 0 <;> by_cases hj : j = 0 <;> simp [hi, hj, Nat.add_assoc]
theorem cz (p : Addr) : p.add 0 = p := by simp [Addr.add]
theorem cE (b o j : Nat) : (⟨b, o, none⟩ : Addr).add j = ⟨b, o + j, none⟩ := by unfold Addr.add; split <;> simp_all
theorem At.lt {w : World} {X : List Nat} {p : Addr} {cs : List Value} (h : At w X p cs) (hne : cs ≠ []) : p.block < w.heap.size := by
  obtain ⟨v, hv⟩ : ∃ v, cs[0]? = some v := by cases cs with | nil => exact absurd rfl hne | cons v _ => exact ⟨v, rfl⟩
  have := World.block_lt_of_cell? w _ (h.2 0 v hv)
  rwa [mK] at this
theorem At.loc {w w' : World} {X : List Nat} {p : Addr} {cs : List Value} (h : At w X p cs) (hb : ∀ b, b < w.heap.size → b ∉ X → w'.heap[b]? = w.heap[b]?) : At w' X p cs := by
  refine ⟨h.1, fun j v hv => ?_⟩
  have hne : cs ≠ [] := fun e => by subst e; simp at hv
  rw [World.cell?_of_block (w := w) (a := p.add j) (by rw [mK]; exact hb p.block (h.lt hne) (h.1 hne))]
  exact h.2 j v hv
theorem At.anti {w : World} {X X' : List Nat} {p : Addr} {cs : List Value} (h : At w X p cs) (hb : ∀ b, b < w.heap.size → b ∈ X' → b ∈ X) : At w X' p cs :=
  ⟨fun hne hin => h.1 hne (hb _ (h.lt hne) hin), h.2⟩
def jB {α : Type} (e : Enc α) (w : World) (X : List Nat) (xs : List α) (cs : List Value) : Prop :=
  ∃ a cap, cs = [.slice a xs.length cap] ∧ xs.length ≤ cap ∧ cap ≤ maxLen ∧ (xs ≠ [] → ∃ p, a = some p ∧ ∀ i x, xs[i]? = some x → ∃ ds, e.rd w X x ds ∧ At w X (p.add (i * e.sz)) ds)
def fV {α : Type} (e : Enc α) (w : World) : List Nat → List α → List Value → Prop
  | F, [], cs => F = [] ∧ cs = []
  | F, x :: xs, cs => ∃ F1 F2 c1 c2, F = F1 ++ F2 ∧ cs = c1 ++ c2 ∧ c1.length = e.sz ∧ e.own w F1 x c1 ∧ fV e w F2 xs c2
def mZ {α : Type} (e : Enc α) (T : TypeId) (w : World) (F : List Nat) (xs : List α) (cs : List Value) : Prop :=
  (xs = [] ∧ F = [] ∧ cs = [.slice none 0 0]) ∨
  ∃ b cap cur F1 ds, F = b :: F1 ∧ cs = [.slice (some ⟨b, 0, none⟩) xs.length cap] ∧ w.heap[b]? = some (.cells cur T (0, 0)) ∧ xs.length ≤ cap ∧ cap ≤ maxLen ∧
    cur.size = cap * e.sz ∧ cur.toList.take (xs.length * e.sz) = ds ∧ fV e w F1 xs ds
theorem vd {α : Type} {e : Enc α} {w : World} {xs : List α} : ∀ {F : List Nat} {cs : List Value}, fV e w F xs cs → ∀ u ∈ cs, u.oneCell' = true := by
  induction xs with
  | nil => intro F cs h u hu; rw [h.2] at hu; cases hu
  | cons x xs ih =>
    intro F cs h u hu
    obtain ⟨F1, F2, c1, c2, _, rfl, h1, h3, h2⟩ := h
    rcases List.mem_append.1 hu with hu | hu
    · exact e.one (X := []) (e.own_rd h3 (by simp)) u hu
    · exact ih h2 u hu
theorem rq {α : Type} {e : Enc α} {w : World} {xs ys : List α} : ∀ {F G : List Nat} {cs ds : List Value}, fV e w F xs cs → fV e w G ys ds → fV e w (F ++ G) (xs ++ ys) (cs ++ ds) := by
  induction xs with
  | nil => intro F G cs ds h hg; obtain ⟨rfl, rfl⟩ := h; exact hg
  | cons x xs ih =>
    intro F G cs ds h hg
    obtain ⟨F1, F2, c1, c2, rfl, rfl, h1, h3, h2⟩ := h
    exact ⟨F1, F2 ++ G, c1, c2 ++ ds, by simp, by simp, h1, h3, ih h2 hg⟩
theorem rz {α : Type} {e : Enc α} {w : World} {xs : List α} : ∀ {F : List Nat} {cs : List Value}, fV e w F xs cs → cs.length = xs.length * e.sz := by
  induction xs with
  | nil => intro F cs h; rw [h.2]; simp
  | cons x xs ih =>
    intro F cs h
    obtain ⟨F1, F2, c1, c2, _, rfl, h1, _, h2⟩ := h
    simp only [List.length_append, h1, ih h2, List.length_cons, Nat.add_mul]
    omega
theorem lI {α : Type} {e : Enc α} {w w' : World} {xs : List α} : ∀ {F : List Nat} {cs : List Value}, fV e w F xs cs → (∀ b ∈ F, w'.heap[b]? = w.heap[b]?) → fV e w' F xs cs := by
  induction xs with
  | nil => intro F cs h _; exact h
  | cons x xs ih =>
    intro F cs h hb
    obtain ⟨F1, F2, c1, c2, rfl, hc, h1, h2, h3⟩ := h
    exact ⟨F1, F2, c1, c2, rfl, hc, h1, e.own_loc h2 (fun b hm => hb b (by simp [hm])), ih h3 (fun b hm => hb b (by simp [hm]))⟩
theorem wd {α : Type} {e : Enc α} {w : World} {xs : List α} : ∀ {F : List Nat} {cs : List Value}, fV e w F xs cs → ∀ b ∈ F, b < w.heap.size := by
  induction xs with
  | nil => intro F cs h b hb; rw [h.1] at hb; cases hb
  | cons x xs ih =>
    intro F cs h b hb
    obtain ⟨F1, F2, c1, c2, rfl, hc, h1, h2, h3⟩ := h
    rcases List.mem_append.1 hb with hb | hb
    · exact e.own_lt h2 b hb
    · exact ih h3 b hb
theorem Ae {α : Type} {e : Enc α} {w : World} {X : List Nat} {xs : List α} : ∀ {F : List Nat} {cs : List Value}, fV e w F xs cs → (∀ b ∈ F, b ∉ X) →
    ∀ i x, xs[i]? = some x → ∃ ds, e.rd w X x ds ∧ ds.length = e.sz ∧ ∀ j v, ds[j]? = some v → cs[i * e.sz + j]? = some v := by
  induction xs with
  | nil => intro F cs h _ i x hx; simp at hx
  | cons y xs ih =>
    intro F cs h hX i x hx
    obtain ⟨F1, F2, c1, c2, rfl, rfl, h1, h2, h3⟩ := h
    cases i with
    | zero =>
      simp at hx; subst hx
      refine ⟨c1, e.own_rd h2 (fun b hb => hX b (by simp [hb])), h1, fun j v hv => ?_⟩
      simp only [Nat.zero_mul, Nat.zero_add]
      have hj : j < c1.length := (List.getElem?_eq_some_iff.1 hv).1
      rw [List.getElem?_append_left hj]; exact hv
    | succ i =>
      simp at hx
      obtain ⟨ds, hd, hl, hj⟩ := ih h3 (fun b hb => hX b (by simp [hb])) i x hx
      refine ⟨ds, hd, hl, fun j v hv => ?_⟩
      have := hj j v hv
      rw [List.getElem?_append_right (by rw [h1, Nat.add_mul]; omega)]
      rw [← this]; congr 1; rw [h1, Nat.add_mul]; omega
def ad {α : Type} (e : Enc α) (T : TypeId) : Enc (List α) where
  sz := 1
  rd := jB e
  own := mZ e T
  rd_len := by rintro w X x cs ⟨a, cap, rfl, _⟩; rfl
  rd_loc := by
    rintro w w' X xs cs ⟨a, cap, rfl, h1, h2, h⟩ hb
    refine ⟨a, cap, rfl, h1, h2, fun hne => ?_⟩
    obtain ⟨p, rfl, hp⟩ := h hne
    refine ⟨p, rfl, fun i x hx => ?_⟩
    obtain ⟨ds, hd, hA⟩ := hp i x hx
    exact ⟨ds, e.rd_loc hd hb, hA.loc hb⟩
  rd_anti := by
    rintro w X X' xs cs ⟨a, cap, rfl, h1, h2, h⟩ hb
    refine ⟨a, cap, rfl, h1, h2, fun hne => ?_⟩
    obtain ⟨p, rfl, hp⟩ := h hne
    refine ⟨p, rfl, fun i x hx => ?_⟩
    obtain ⟨ds, hd, hA⟩ := hp i x hx
    exact ⟨ds, e.rd_anti hd hb, hA.anti hb⟩
  own_loc := by
    rintro w w' F xs cs h hb
    rcases h with h | ⟨b, cap, cur, F1, ds, rfl, hcs, hh, h1, h2, h3, h4, h5⟩
    · exact .inl h
    · exact .inr ⟨b, cap, cur, F1, ds, rfl, hcs, (hb b (by simp)).trans hh, h1, h2, h3, h4, lI h5 (fun c hc => hb c (by simp [hc]))⟩
  own_rd := by
    rintro w F X xs cs h hX
    rcases h with ⟨rfl, rfl, rfl⟩ | ⟨b, cap, cur, F1, ds, rfl, rfl, hh, h1, h2, h3, h4, h5⟩
    · exact ⟨none, 0, rfl, by simp, by simp [maxLen], fun h => absurd rfl h⟩
    · refine ⟨_, cap, rfl, h1, h2, fun _ => ⟨_, rfl, fun i x hx => ?_⟩⟩
      obtain ⟨es, hd, hl, hj⟩ := Ae h5 (fun c hc => hX c (by simp [hc])) i x hx
      refine ⟨es, hd, fun _ => ?_, fun j v hv => ?_⟩
      · rw [mK]; exact hX b (by simp)
      · rw [cS, cE]
        have := hj j v hv
        rw [← h4, List.getElem?_take] at this
        split at this
        · rw [cell_of_row w b _ cur T (0, 0) hh]
          simpa using this
        · cases this
  own_lt := by
    rintro w F xs cs h c hc
    rcases h with ⟨rfl, rfl, rfl⟩ | ⟨b, cap, cur, F1, ds, rfl, rfl, hh, h1, h2, h3, h4, h5⟩
    · cases hc
    · cases hc with
      | head => exact (Array.getElem?_eq_some_iff.1 hh).1
      | tail _ hc => exact wd h5 c hc
  one := by
    rintro w X x cs ⟨a, cap, rfl, _⟩ u hu
    rw [List.mem_singleton.1 hu]; rfl
def Res.own {α : Type} (e : Enc α) (F : List Nat) (x : α) (cs : List Value) : Res := ⟨F, fun w => e.own w F x cs, fun _ _ h ok => e.own_loc ok h⟩
def Rds {α : Type} (C : World → Prop) (e : Enc α) (x : α) (cs : List Value) : Prop := ∀ w, C w → e.rd w [] x cs
theorem Rds.bor {α : Type} {e : Enc α} {x : α} {cs : List Value} {w0 : World} {M : List Nat} {L : List Res} (h : e.rd w0 M x cs) : Rds (St w0 M L) e x cs :=
  fun _ hw => e.rd_anti (e.rd_loc h (fun b hb hm => hw.ext.block b hb hm)) (by simp)
end Go.Vk
/- The judgments of the walk: code, rounds of a loop, lists of operations. -/
namespace Go.Vk
open Go.RowKit
section
variable {P : Program} {n : Nat} {Q : Exit → Act → World → Prop} {C : World → Prop} {E : Env} {w0 : World} {M : List Nat} {L : List Res}
def CW (P : Program) (n : Nat) (C : World → Prop) (E : Env) (Q : Exit → Act → World → Prop) (c : Code) : Prop :=
  ∀ a w, Fr n E a → C w → c.wp P Q a w
def RW (P : Program) (n : Nat) (C : World → Prop) (E : Env) (Q : Exit → Act → World → Prop) (c : Code) (k : Nat) : Prop :=
  ∀ a w, Fr n E a → C w → Code.rounds P c Q k a w
def XW (n : Nat) (C : World → Prop) (E : Env) (Q : Exit → Act → World → Prop) (x : Exit) : Prop :=
  ∀ a w, Fr n E a → C w → Q x a w
theorem CW.sub {R : Env} {c : Code} (h : CW P n C R Q c) (hs : Sub R E) : CW P n C E Q c := fun a w hF hC => h a w (hF.sub hs) hC
theorem CW.weak {C' : World → Prop} {c : Code} (h : CW P n C' E Q c) (hs : ∀ w, C w → C' w) : CW P n C E Q c := fun a w hF hC => h a w hF (hs w hC)
theorem RW.sub {R : Env} {c : Code} {k : Nat} (h : RW P n C R Q c k) (hs : Sub R E) : RW P n C E Q c k := fun a w hF hC => h a w (hF.sub hs) hC
theorem XW.sub {R : Env} {x : Exit} (h : XW n C R Q x) (hs : Sub R E) : XW n C E Q x := fun a w hF hC => h a w (hF.sub hs) hC
def QS (P : Program) (y : Code) (Q : Exit → Act → World → Prop) : Exit → Act → World → Prop
  | .normal, a, w => y.wp P Q a w
  | e, a, w => Q e a w
def QB (id : Nat) (Q : Exit → Act → World → Prop) : Exit → Act → World → Prop
  | .exit i, a, w => bif Nat.beq i id then Q .normal a w else Q (.exit i) a w
  | e, a, w => Q e a w
def QL (P : Program) (c : Code) (k : Nat) (Q : Exit → Act → World → Prop) : Exit → Act → World → Prop
  | .normal, a, w => Code.rounds P c Q k a w
  | e, a, w => Q e a w
theorem am {x y : Code} (h : CW P n C E (QS P y Q) x) : CW P n C E Q (.seq x y) := fun a w hF hC =>
  wp_seq (wp_mono (h a w hF hC) (fun e a w q => by cases e <;> exact q))
theorem ay {id : Nat} {c : Code} (h : CW P n C E (QB id Q) c) : CW P n C E Q (.block id c) := fun a w hF hC =>
  wp_block (wp_mono (h a w hF hC) (fun e a w q => by
    cases e with
    | exit i =>
      simp only [QB] at q
      simp only [Exit.inBlock]
      cases hb : Nat.beq i id with
      | true => rw [hb] at q; rw [if_pos (Nat.eq_of_beq_eq_true hb)]; exact q
      | false => rw [hb] at q; rw [if_neg (Nat.ne_of_beq_eq_false hb)]; exact q
    | _ => exact q))
theorem nz {c : Code} (k : Nat) (h : RW P n C E Q c k) : CW P n C E Q (.loop c) := fun a w hF hC => wp_loop_rounds k (h a w hF hC)
theorem nB {c : Code} {k : Nat} (h : CW P n C E (QL P c k Q) c) : RW P n C E Q c (k + 1) := fun a w hF hC =>
  wp_mono (h a w hF hC) (fun e a w q => by cases e <;> exact q)
theorem av (h : XW n C E Q .normal) : CW P n C E Q .skip := fun a w hF hC => wp_skip (h a w hF hC)
theorem bx {i : Nat} (h : XW n C E Q (.exit i)) : CW P n C E Q (.exit i) := fun a w hF hC => wp_exit (h a w hF hC)
theorem uS (h : XW n C E Q .ret) : CW P n C E Q .ret := fun a w hF hC => wp_ret (h a w hF hC)
theorem az {y : Code} (h : CW P n C E Q y) : XW n C E (QS P y Q) .normal := h
theorem aK {y : Code} {i : Nat} (h : XW n C E Q (.exit i)) : XW n C E (QS P y Q) (.exit i) := h
theorem aq {y : Code} (h : XW n C E Q .ret) : XW n C E (QS P y Q) .ret := h
theorem bW {id : Nat} (h : XW n C E Q .normal) : XW n C E (QB id Q) .normal := h
theorem ba {id : Nat} (h : XW n C E Q .ret) : XW n C E (QB id Q) .ret := h
theorem aL {id : Nat} (h : XW n C E Q .normal) : XW n C E (QB id Q) (.exit id) := fun a w hF hC => by
  show bif Nat.beq id id then _ else _
  rw [Nat.beq_refl]; exact h a w hF hC
theorem xP {id i : Nat} (hne : Nat.beq i id = false) (h : XW n C E Q (.exit i)) : XW n C E (QB id Q) (.exit i) := fun a w hF hC => by
  show bif Nat.beq i id then _ else _
  rw [hne]; exact h a w hF hC
theorem ct {c : Code} {k : Nat} (h : RW P n C E Q c k) : XW n C E (QL P c k Q) .normal := h
theorem aR {c : Code} {k i : Nat} (h : XW n C E Q (.exit i)) : XW n C E (QL P c k Q) (.exit i) := h
theorem cd {c : Code} {k : Nat} (h : XW n C E Q .ret) : XW n C E (QL P c k Q) .ret := h
theorem Gx {x : Operand} {c d : Code} {b : Bool} (hx : ev E x = some (.bool b)) (ht : b = true → CW P n C E Q c) (hf : b = false → CW P n C E Q d) : CW P n C E Q (.cond x c d) := fun a w hF hC =>
  wp_cond_split (hF.ev hx) (fun h => ht h a w hF hC) (fun h => hf h a w hF hC)
def LW (P : Program) (n : Nat) (ops : List Oper) (C : World → Prop) (E : Env) (Q : Exit → Act → World → Prop) (rest : List Oper) : Prop :=
  ∀ a w, Fr n E a → C w → wpList P ops.toArray Q rest a w
theorem AQ {id : Nat} {l : List Oper} (h : LW P n l C E Q l) : CW P n C E Q (.region id l.toArray false) := fun a w hF hC => wp_region_lit (h a w hF hC)
theorem Ez {l : List Oper} (h : XW n C E Q .normal) : LW P n l C E Q [] := fun a w hF hC => h a w hF hC
def Qy (P : Program) (n : Nat) (C : World → Prop) (E : Env) (o : Oper) (v : Value) : Prop :=
  ∀ a, Fr n E a → ∀ w, C w → o.quietAt P a C w v
theorem DZ {l : List Oper} {o : Oper} {rest : List Oper} {v : Value} (hw : wt l E o.guard = some true) (hd : ∀ t, o.dst = some t → t < n) (hq : Qy P n C E o v)
    (h : LW P n l C (upd E o.dst v) Q rest) : LW P n l C E Q (o :: rest) := fun a w hF hC => by
  unfold wpList
  rw [if_pos (hF.wt hw)]
  refine .inl (Oper.wp_of_quiet (C := C) (K := fun a' => a' = a.put o.dst v) hC (fun a' w' hC' e => ?_) ⟨v, fun w' hC' => hq a hF w' hC', rfl⟩)
  subst e
  exact h _ _ (hF.put _ _ hd) hC'
theorem CB {l : List Oper} {o : Oper} {rest : List Oper} (hw : wt l E o.guard = some false) (hd : ∀ t, o.dst = some t → t < n)
    (h : LW P n l C (upd E o.dst undef) Q rest) : LW P n l C E Q (o :: rest) := fun a w hF hC => by
  unfold wpList
  rw [if_neg (by rw [hF.wt hw]; simp)]
  exact h _ _ (hF.put _ _ hd) hC
theorem nN {ops : Array Oper} {Q1 Q2 : Act → Prop} (hq : ∀ a, Q1 a → Q2 a) : ∀ (l : List Oper) (a : Act), wpQuiet P ops C Q1 l a → wpQuiet P ops C Q2 l a
  | [], _, h => hq _ h
  | o :: l, a, h => by
    unfold wpQuiet at h ⊢
    split
    · rename_i hw
      rw [if_pos hw] at h
      exact Oper.quiet_mono (fun a' h' => nN hq l a' h') h
    · rename_i hw
      rw [if_neg hw] at h
      exact nN hq l _ h
def QW (P : Program) (n : Nat) (ops : List Oper) (C : World → Prop) (E : Env) (K : Env → Prop) (rest : List Oper) : Prop :=
  ∀ a, Fr n E a → wpQuiet P ops.toArray C (fun a' => ∃ E', Fr n E' a' ∧ K E') rest a
theorem zN {id : Nat} {l : List Oper} (hm : P.follows .mixedOrders = true) (hB : Region.lexB .any l.toArray = true)
    (h : QW P n l (St w0 M L) E (fun E' => XW n (St w0 M L) E' Q .normal) l) : CW P n (St w0 M L) E Q (.region id l.toArray true) := fun a w hF hC =>
  wp_region_quiet (C := St w0 M L) hm hB hC.drew (by
    refine nN ?_ _ _ (h a hF)
    rintro a' ⟨E', hF', hK⟩ w' hC'
    exact hK a' w' hF' hC')
theorem Ep {l : List Oper} {K : Env → Prop} (h : K E) : QW P n l C E K [] := fun _ hF => wpQuiet_nil ⟨E, hF, h⟩
theorem Fs9 {l : List Oper} {o : Oper} {rest : List Oper} {v : Value} {K : Env → Prop} (hw : wt l E o.guard = some true) (hd : ∀ t, o.dst = some t → t < n) (hq : Qy P n C E o v)
    (h : QW P n l C (upd E o.dst v) K rest) : QW P n l C E K (o :: rest) := fun a hF => by
  unfold wpQuiet
  rw [if_pos (hF.wt hw)]
  exact ⟨v, fun w' hC' => hq a hF w' hC', h _ (hF.put _ _ hd)⟩
theorem CI {l : List Oper} {o : Oper} {rest : List Oper} {K : Env → Prop} (hw : wt l E o.guard = some false) (hd : ∀ t, o.dst = some t → t < n)
    (h : QW P n l C (upd E o.dst undef) K rest) : QW P n l C E K (o :: rest) := fun a hF => by
  unfold wpQuiet
  rw [if_neg (by rw [hF.wt hw]; simp)]
  exact h _ (hF.put _ _ hd)
theorem CW.at {C' : World → Prop} {R : Env} {c : Code} (h : CW P n C' R Q c) (hC : ∀ w, C w → C' w) (hs : Sub R E) : CW P n C E Q c := fun a w hF hw => h a w (hF.sub hs) (hC w hw)
theorem RW.at {C' : World → Prop} {R : Env} {c : Code} {k : Nat} (h : RW P n C' R Q c k) (hC : ∀ w, C w → C' w) (hs : Sub R E) : RW P n C E Q c k := fun a w hF hw => h a w (hF.sub hs) (hC w hw)
def ku (Q : Exit → Act → World → Prop) : Prop := ∀ c a d v w, Q (.panic c) (Act.put a d v) w → Q (.panic c) a w
theorem bb {fn : Func} {R : Ending → World → Prop} : ku (bodyPost P fn R) := fun _ a d _ _ h => by cases d <;> exact h
def Ao (ops : List Oper) : List (Nat × Bool) → List Oper → Prop
  | [], [] => True
  | (i, _) :: s, o :: r => ops[i]? = some o ∧ Ao ops s r
  | _, _ => False
theorem Ao.len {ops : List Oper} : ∀ {s : List (Nat × Bool)} {r : List Oper}, Ao ops s r → s.length = r.length
  | [], [], _ => rfl
  | _ :: _, _ :: _, h => by simp [h.2.len]
  | [], _ :: _, h => h.elim
  | _ :: _, [], h => h.elim
def qi (ops : List Oper) : List (Nat × Bool) → List Oper
  | [] => []
  | (i, _) :: s => match ops[i]? with | some o => o :: qi ops s | none => []
def inB (ops : List Oper) : List (Nat × Bool) → Bool
  | [] => true
  | (i, _) :: s => (ops[i]?).isSome && inB ops s
theorem nX {ops : List Oper} : ∀ {s : List (Nat × Bool)}, inB ops s = true → Ao ops s (qi ops s)
  | [], _ => trivial
  | (i, q) :: s, h => by
    simp only [inB, Bool.and_eq_true] at h
    obtain ⟨o, ho⟩ := Option.isSome_iff_exists.1 h.1
    simp only [qi, ho]
    exact ⟨ho, nX h.2⟩
def nF (P : Program) (ops : Array Oper) (S : World → Prop) (Q : Exit → Act → World → Prop) : List (Nat × Bool) → Act → World → Prop
  | [], a, w => Q .normal a w
  | (i, true) :: s, a, w => ∃ o v, ops[i]? = some o ∧ YieldsIf P ops S o v a ∧ S w ∧ nF P ops S Q s (a.put o.dst v) w
  | (i, false) :: s, a, w => wpOp P ops Q i (fun a' w' => S w' ∧ nF P ops S Q s a' w') a w
def GD (ops : Array Oper) : List (Nat × Bool) → Array Bool → Bool
  | [], listed => (Region.ready .any ops listed).isEmpty
  | (i, q) :: s, listed =>
    (match q with
     | true => Region.free .any ops listed i && (Region.ready .any ops listed).contains i
     | false => Region.ready .any ops listed == [i]) && GD ops s (listed.setIfInBounds i true)
inductive Md where
  | lex (Q : Exit → Act → World → Prop)
  | any (K : Env → Prop)
  | held (S : World → Prop) (Q : Exit → Act → World → Prop) (fl : List (Nat × Bool))
def Md.cls (C : World → Prop) : Md → World → Prop
  | .held S _ _ => S
  | _ => C
def Md.loud : Md → List Oper → Bool
  | .held _ _ fl, rest => match fl[fl.length - rest.length]? with | some (_, q) => !q | none => false
  | _, _ => true
def OW (P : Program) (n : Nat) (ops : List Oper) (C : World → Prop) (E : Env) : Md → List Oper → Prop
  | .lex Q, rest => LW P n ops C E Q rest
  | .any K, rest => QW P n ops C E K rest
  | .held S Q fl, rest => ∀ s, (∃ pre, fl = pre ++ s) → Ao ops s rest → ∀ a w, Fr n E a → C w → S w → nF P ops.toArray S Q s a w
def Ry (P : Program) (n : Nat) (S : World → Prop) (E : Env) (o : Oper) (v : Value) : Prop :=
  ∀ a, Fr n E a → ∀ w, S w → (execOp a.eval o).run P w = .ok (.value v) w
theorem Ry.qy {o : Oper} {v : Value} (h : Ry P n C E o v) : Qy P n C E o v := fun a hF w hC => by
  unfold Oper.quietAt
  rw [h a hF w hC]
  exact ⟨rfl, rfl⟩
theorem Aa {fl pre s : List (Nat × Bool)} {i : Nat} {q : Bool} {ops : List Oper} {o : Oper} {rest : List Oper} {S : World → Prop} (he : fl = pre ++ (i, q) :: s) (hc : Ao ops s rest) :
    (Md.held S Q fl).loud (o :: rest) = !q := by
  subst he
  have := hc.len
  simp only [Md.loud, List.length_append, List.length_cons, this]
  rw [show pre.length + (rest.length + 1) - (rest.length + 1) = pre.length by omega]
  simp
theorem xu {m : Md} {l : List Oper} {o : Oper} {rest : List Oper} {v : Value} (hw : wt l E o.guard = some true) (hd : ∀ t, o.dst = some t → t < n) (hq : Ry P n (m.cls C) E o v)
    (h : OW P n l C (upd E o.dst v) m rest) : OW P n l C E m (o :: rest) := by
  cases m with
  | lex Q => exact DZ hw hd hq.qy h
  | any K => exact Fs9 hw hd hq.qy h
  | held S Q fl =>
    intro s hs hc a w hF hC hS
    cases s with
    | nil => exact hc.elim
    | cons x s =>
      obtain ⟨i, q⟩ := x
      obtain ⟨ho, hc⟩ := hc
      obtain ⟨pre, he⟩ := hs
      have hk := h s ⟨pre ++ [(i, q)], by rw [he]; simp⟩ hc _ w (hF.put _ v hd) hC hS
      have hy : YieldsIf P l.toArray S o v a := .inl ⟨hF.wt hw, fun w' hw' => hq a hF w' hw'⟩
      have ho' : l.toArray[i]? = some o := by simpa using ho
      cases q with
      | true => rw [nF]; exact ⟨o, v, ho', hy, hS, hk⟩
      | false => rw [nF]; exact hy.wpOp ho' hS ⟨hS, hk⟩
theorem Ds {m : Md} {l : List Oper} {o : Oper} {rest : List Oper} (hw : wt l E o.guard = some false) (hd : ∀ t, o.dst = some t → t < n)
    (h : OW P n l C (upd E o.dst undef) m rest) : OW P n l C E m (o :: rest) := by
  cases m with
  | lex Q => exact CB hw hd h
  | any K => exact CI hw hd h
  | held S Q fl =>
    intro s hs hc a w hF hC hS
    cases s with
    | nil => exact hc.elim
    | cons x s =>
      obtain ⟨i, q⟩ := x
      obtain ⟨ho, hc⟩ := hc
      obtain ⟨pre, he⟩ := hs
      have hk := h s ⟨pre ++ [(i, q)], by rw [he]; simp⟩ hc _ w (hF.put _ undef hd) hC hS
      have hy : YieldsIf P l.toArray S o undef a := .inr ⟨hF.wt hw, rfl⟩
      have ho' : l.toArray[i]? = some o := by simpa using ho
      cases q with
      | true => rw [nF]; exact ⟨o, undef, ho', hy, hS, hk⟩
      | false => rw [nF]; exact hy.wpOp ho' hS ⟨hS, hk⟩
def Md.here : Md → List Oper → Bool
  | .any _, _ => false
  | m, rest => m.loud rest
def Md.post (C : World → Prop) : Md → World → Prop
  | .held S _ _ => S
  | _ => C
def Md.keeps : Md → World → Prop
  | .held S _ _ => S
  | _ => fun _ => True
def Md.ends : Md → Exit → Act → World → Prop
  | .lex Q => Q
  | .held _ Q _ => Q
  | .any _ => fun _ _ _ => False
theorem mh {m : Md} {l : List Oper} {o : Oper} {rest : List Oper} (hm : m.here (o :: rest) = true) (hw : wt l E o.guard = some true)
    (h : ∀ a w, Fr n E a → C w → m.keeps w → ∀ K : Act → World → Prop,
      (∀ C' E' a' w', OW P n l C' E' m rest → Fr n E' a' → C' w' → m.keeps w' → K a' w') → o.wp P a w K m.ends) : OW P n l C E m (o :: rest) := by
  cases m with
  | lex Q =>
    intro a w hF hC
    unfold wpList
    rw [if_pos (hF.wt hw)]
    exact .inl (h a w hF hC trivial _ (fun C' E' a' w' hO hF' hC' _ => hO a' w' hF' hC'))
  | any K => cases hm
  | held S Q fl =>
    intro s hs hc a w hF hC hS
    cases s with
    | nil => exact hc.elim
    | cons x s =>
      obtain ⟨i, q⟩ := x
      obtain ⟨ho, hc⟩ := hc
      obtain ⟨pre, he⟩ := hs
      have hf := Aa (Q := Q) (S := S) (o := o) he hc
      have hq : q = false := by
        have : (Md.held S Q fl).loud (o :: rest) = true := hm
        rw [hf] at this; simpa using this
      subst hq
      have ho' : l.toArray[i]? = some o := by simpa using ho
      rw [nF]
      unfold wpOp
      simp only [ho']
      rw [if_pos (hF.wt hw)]
      exact .inl (h a w hF hC hS _ (fun C' E' a' w' hO hF' hC' hS' => ⟨hS', hO s ⟨pre ++ [(i, false)], by rw [he]; simp⟩ hc a' w' hF' hC' hS'⟩))
theorem Gk {m : Md} {l : List Oper} {o : Oper} {rest : List Oper} {v : Value} (hm : m.loud (o :: rest) = true) (hw : wt l E o.guard = some true) (hd : ∀ t, o.dst = some t → t < n) (hq : Qy P n C E o v)
    (hS : ∀ w, C w → m.keeps w)
    (h : OW P n l C (upd E o.dst v) m rest) : OW P n l C E m (o :: rest) := by
  cases m with
  | lex Q => exact DZ hw hd hq h
  | any K => exact Fs9 hw hd hq h
  | held S Q fl =>
    refine mh hm hw (fun a w hF hC _ K hK => Oper.wp_of_quiet (C := C) (K := fun a' => a' = a.put o.dst v) hC (fun a' w' hC' e => ?_) ⟨v, fun w' hC' => hq a hF w' hC', rfl⟩)
    subst e
    exact hK C _ _ _ h (hF.put _ _ hd) hC' (hS w' hC')
theorem aP {id : Nat} {l : List Oper} (h : OW P n l C E (.lex Q) l) : CW P n C E Q (.region id l.toArray false) := AQ h
theorem dR {id : Nat} {l : List Oper} (hm : P.follows .mixedOrders = true) (hB : Region.lexB .any l.toArray = true)
    (h : OW P n l (St w0 M L) E (.any (fun E' => XW n (St w0 M L) E' Q .normal)) l) : CW P n (St w0 M L) E Q (.region id l.toArray true) := zN hm hB h
theorem ax {l : List Oper} (h : XW n C E Q .normal) : OW P n l C E (.lex Q) [] := Ez h
theorem co {l : List Oper} {K : Env → Prop} (h : K E) : OW P n l C E (.any K) [] := Ep h
theorem aQ {l : List Oper} {S : World → Prop} {fl : List (Nat × Bool)} (h : XW n C E Q .normal) : OW P n l C E (.held S Q fl) [] := fun s _ hc a w hF hC _ => by
  cases s with
  | nil => rw [nF]; exact h a w hF hC
  | cons x s => exact hc.elim
theorem OW.sub {m : Md} {R : Env} {l rest : List Oper} (h : OW P n l C R m rest) (hs : Sub R E) : OW P n l C E m rest := by
  cases m with
  | lex Q => exact fun a w hF hC => h a w (hF.sub hs) hC
  | any K => exact fun a hF => h a (hF.sub hs)
  | held S Q fl => exact fun s h1 h2 a w hF hC hS => h s h1 h2 a w (hF.sub hs) hC hS
end
theorem gF {α0 : Type} {P : Program} {n : Nat} {Q : Exit → Act → World → Prop} {c : Code} (Cf : α0 → World → Prop) (Ef : α0 → Env) (g : Nat → α0 → Prop) (h0 : ∀ s0, ¬ g 0 s0)
    (step : ∀ k, (∀ s0, g k s0 → RW P n (Cf s0) (Ef s0) Q c k) → ∀ s0, g (k + 1) s0 → CW P n (Cf s0) (Ef s0) (QL P c k Q) c) : ∀ k, ∀ s0, g k s0 → CW P n (Cf s0) (Ef s0) Q (.loop c) := by
  have key : ∀ k, ∀ s0, g k s0 → RW P n (Cf s0) (Ef s0) Q c k := by
    intro k
    induction k with
    | zero => intro s0 h; exact absurd h (h0 s0)
    | succ k ih => intro s0 h; exact nB (step k ih s0 h)
  intro k s0 h
  exact nz k (key k s0 h)
theorem jH {α0 α1 : Type} {P : Program} {n : Nat} {Q : Exit → Act → World → Prop} {c : Code} (Cf : α0 → α1 → World → Prop) (Ef : α0 → α1 → Env) (g : Nat → α0 → α1 → Prop) (h0 : ∀ s0 s1, ¬ g 0 s0 s1)
    (step : ∀ k, (∀ s0 s1, g k s0 s1 → RW P n (Cf s0 s1) (Ef s0 s1) Q c k) → ∀ s0 s1, g (k + 1) s0 s1 → CW P n (Cf s0 s1) (Ef s0 s1) (QL P c k Q) c) : ∀ k, ∀ s0 s1, g k s0 s1 → CW P n (Cf s0 s1) (Ef s0 s1) Q (.loop c) := by
  have key : ∀ k, ∀ s0 s1, g k s0 s1 → RW P n (Cf s0 s1) (Ef s0 s1) Q c k := by
    intro k
    induction k with
    | zero => intro s0 s1 h; exact absurd h (h0 s0 s1)
    | succ k ih => intro s0 s1 h; exact nB (step k ih s0 s1 h)
  intro k s0 s1 h
  exact nz k (key k s0 s1 h)
theorem Cp {α0 α1 α2 : Type} {P : Program} {n : Nat} {Q : Exit → Act → World → Prop} {c : Code} (Cf : α0 → α1 → α2 → World → Prop) (Ef : α0 → α1 → α2 → Env) (g : Nat → α0 → α1 → α2 → Prop) (h0 : ∀ s0 s1 s2, ¬ g 0 s0 s1 s2)
    (step : ∀ k, (∀ s0 s1 s2, g k s0 s1 s2 → RW P n (Cf s0 s1 s2) (Ef s0 s1 s2) Q c k) → ∀ s0 s1 s2, g (k + 1) s0 s1 s2 → CW P n (Cf s0 s1 s2) (Ef s0 s1 s2) (QL P c k Q) c) : ∀ k, ∀ s0 s1 s2, g k s0 s1 s2 → CW P n (Cf s0 s1 s2) (Ef s0 s1 s2) Q (.loop c) := by
  have key : ∀ k, ∀ s0 s1 s2, g k s0 s1 s2 → RW P n (Cf s0 s1 s2) (Ef s0 s1 s2) Q c k := by
    intro k
    induction k with
    | zero => intro s0 s1 s2 h; exact absurd h (h0 s0 s1 s2)
    | succ k ih => intro s0 s1 s2 h; exact nB (step k ih s0 s1 s2 h)
  intro k s0 s1 s2 h
  exact nz k (key k s0 s1 s2 h)
theorem DY {α0 α1 α2 α3 : Type} {P : Program} {n : Nat} {Q : Exit → Act → World → Prop} {c : Code} (Cf : α0 → α1 → α2 → α3 → World → Prop) (Ef : α0 → α1 → α2 → α3 → Env) (g : Nat → α0 → α1 → α2 → α3 → Prop) (h0 : ∀ s0 s1 s2 s3, ¬ g 0 s0 s1 s2 s3)
    (step : ∀ k, (∀ s0 s1 s2 s3, g k s0 s1 s2 s3 → RW P n (Cf s0 s1 s2 s3) (Ef s0 s1 s2 s3) Q c k) → ∀ s0 s1 s2 s3, g (k + 1) s0 s1 s2 s3 → CW P n (Cf s0 s1 s2 s3) (Ef s0 s1 s2 s3) (QL P c k Q) c) : ∀ k, ∀ s0 s1 s2 s3, g k s0 s1 s2 s3 → CW P n (Cf s0 s1 s2 s3) (Ef s0 s1 s2 s3) Q (.loop c) := by
  have key : ∀ k, ∀ s0 s1 s2 s3, g k s0 s1 s2 s3 → RW P n (Cf s0 s1 s2 s3) (Ef s0 s1 s2 s3) Q c k := by
    intro k
    induction k with
    | zero => intro s0 s1 s2 s3 h; exact absurd h (h0 s0 s1 s2 s3)
    | succ k ih => intro s0 s1 s2 s3 h; exact nB (step k ih s0 s1 s2 s3 h)
  intro k s0 s1 s2 s3 h
  exact nz k (key k s0 s1 s2 s3 h)
theorem iw {α0 α1 α2 α3 α4 : Type} {P : Program} {n : Nat} {Q : Exit → Act → World → Prop} {c : Code} (Cf : α0 → α1 → α2 → α3 → α4 → World → Prop) (Ef : α0 → α1 → α2 → α3 → α4 → Env) (g : Nat → α0 → α1 → α2 → α3 → α4 → Prop) (h0 : ∀ s0 s1 s2 s3 s4, ¬ g 0 s0 s1 s2 s3 s4)
    (step : ∀ k, (∀ s0 s1 s2 s3 s4, g k s0 s1 s2 s3 s4 → RW P n (Cf s0 s1 s2 s3 s4) (Ef s0 s1 s2 s3 s4) Q c k) → ∀ s0 s1 s2 s3 s4, g (k + 1) s0 s1 s2 s3 s4 → CW P n (Cf s0 s1 s2 s3 s4) (Ef s0 s1 s2 s3 s4) (QL P c k Q) c) : ∀ k, ∀ s0 s1 s2 s3 s4, g k s0 s1 s2 s3 s4 → CW P n (Cf s0 s1 s2 s3 s4) (Ef s0 s1 s2 s3 s4) Q (.loop c) := by
  have key : ∀ k, ∀ s0 s1 s2 s3 s4, g k s0 s1 s2 s3 s4 → RW P n (Cf s0 s1 s2 s3 s4) (Ef s0 s1 s2 s3 s4) Q c k := by
    intro k
    induction k with
    | zero => intro s0 s1 s2 s3 s4 h; exact absurd h (h0 s0 s1 s2 s3 s4)
    | succ k ih => intro s0 s1 s2 s3 s4 h; exact nB (step k ih s0 s1 s2 s3 s4 h)
  intro k s0 s1 s2 s3 s4 h
  exact nz k (key k s0 s1 s2 s3 s4 h)
theorem ry {α0 α1 α2 α3 α4 α5 : Type} {P : Program} {n : Nat} {Q : Exit → Act → World → Prop} {c : Code} (Cf : α0 → α1 → α2 → α3 → α4 → α5 → World → Prop) (Ef : α0 → α1 → α2 → α3 → α4 → α5 → Env) (g : Nat → α0 → α1 → α2 → α3 → α4 → α5 → Prop) (h0 : ∀ s0 s1 s2 s3 s4 s5, ¬ g 0 s0 s1 s2 s3 s4 s5)
    (step : ∀ k, (∀ s0 s1 s2 s3 s4 s5, g k s0 s1 s2 s3 s4 s5 → RW P n (Cf s0 s1 s2 s3 s4 s5) (Ef s0 s1 s2 s3 s4 s5) Q c k) → ∀ s0 s1 s2 s3 s4 s5, g (k + 1) s0 s1 s2 s3 s4 s5 → CW P n (Cf s0 s1 s2 s3 s4 s5) (Ef s0 s1 s2 s3 s4 s5) (QL P c k Q) c) : ∀ k, ∀ s0 s1 s2 s3 s4 s5, g k s0 s1 s2 s3 s4 s5 → CW P n (Cf s0 s1 s2 s3 s4 s5) (Ef s0 s1 s2 s3 s4 s5) Q (.loop c) := by
  have key : ∀ k, ∀ s0 s1 s2 s3 s4 s5, g k s0 s1 s2 s3 s4 s5 → RW P n (Cf s0 s1 s2 s3 s4 s5) (Ef s0 s1 s2 s3 s4 s5) Q c k := by
    intro k
    induction k with
    | zero => intro s0 s1 s2 s3 s4 s5 h; exact absurd h (h0 s0 s1 s2 s3 s4 s5)
    | succ k ih => intro s0 s1 s2 s3 s4 s5 h; exact nB (step k ih s0 s1 s2 s3 s4 s5 h)
  intro k s0 s1 s2 s3 s4 s5 h
  exact nz k (key k s0 s1 s2 s3 s4 s5 h)
theorem og {α0 α1 α2 α3 α4 α5 α6 : Type} {P : Program} {n : Nat} {Q : Exit → Act → World → Prop} {c : Code} (Cf : α0 → α1 → α2 → α3 → α4 → α5 → α6 → World → Prop) (Ef : α0 → α1 → α2 → α3 → α4 → α5 → α6 → Env) (g : Nat → α0 → α1 → α2 → α3 → α4 → α5 → α6 → Prop) (h0 : ∀ s0 s1 s2 s3 s4 s5 s6, ¬ g 0 s0 s1 s2 s3 s4 s5 s6)
    (step : ∀ k, (∀ s0 s1 s2 s3 s4 s5 s6, g k s0 s1 s2 s3 s4 s5 s6 → RW P n (Cf s0 s1 s2 s3 s4 s5 s6) (Ef s0 s1 s2 s3 s4 s5 s6) Q c k) → ∀ s0 s1 s2 s3 s4 s5 s6, g (k + 1) s0 s1 s2 s3 s4 s5 s6 → CW P n (Cf s0 s1 s2 s3 s4 s5 s6) (Ef s0 s1 s2 s3 s4 s5 s6) (QL P c k Q) c) : ∀ k, ∀ s0 s1 s2 s3 s4 s5 s6, g k s0 s1 s2 s3 s4 s5 s6 → CW P n (Cf s0 s1 s2 s3 s4 s5 s6) (Ef s0 s1 s2 s3 s4 s5 s6) Q (.loop c) := by
  have key : ∀ k, ∀ s0 s1 s2 s3 s4 s5 s6, g k s0 s1 s2 s3 s4 s5 s6 → RW P n (Cf s0 s1 s2 s3 s4 s5 s6) (Ef s0 s1 s2 s3 s4 s5 s6) Q c k := by
    intro k
    induction k with
    | zero => intro s0 s1 s2 s3 s4 s5 s6 h; exact absurd h (h0 s0 s1 s2 s3 s4 s5 s6)
    | succ k ih => intro s0 s1 s2 s3 s4 s5 s6 h; exact nB (step k ih s0 s1 s2 s3 s4 s5 s6 h)
  intro k s0 s1 s2 s3 s4 s5 s6 h
  exact nz k (key k s0 s1 s2 s3 s4 s5 s6 h)
theorem En {α0 α1 α2 α3 α4 α5 α6 α7 : Type} {P : Program} {n : Nat} {Q : Exit → Act → World → Prop} {c : Code} (Cf : α0 → α1 → α2 → α3 → α4 → α5 → α6 → α7 → World → Prop) (Ef : α0 → α1 → α2 → α3 → α4 → α5 → α6 → α7 → Env) (g : Nat → α0 → α1 → α2 → α3 → α4 → α5 → α6 → α7 → Prop) (h0 : ∀ s0 s1 s2 s3 s4 s5 s6 s7, ¬ g 0 s0 s1 s2 s3 s4 s5 s6 s7)
    (step : ∀ k, (∀ s0 s1 s2 s3 s4 s5 s6 s7, g k s0 s1 s2 s3 s4 s5 s6 s7 → RW P n (Cf s0 s1 s2 s3 s4 s5 s6 s7) (Ef s0 s1 s2 s3 s4 s5 s6 s7) Q c k) → ∀ s0 s1 s2 s3 s4 s5 s6 s7, g (k + 1) s0 s1 s2 s3 s4 s5 s6 s7 → CW P n (Cf s0 s1 s2 s3 s4 s5 s6 s7) (Ef s0 s1 s2 s3 s4 s5 s6 s7) (QL P c k Q) c) : ∀ k, ∀ s0 s1 s2 s3 s4 s5 s6 s7, g k s0 s1 s2 s3 s4 s5 s6 s7 → CW P n (Cf s0 s1 s2 s3 s4 s5 s6 s7) (Ef s0 s1 s2 s3 s4 s5 s6 s7) Q (.loop c) := by
  have key : ∀ k, ∀ s0 s1 s2 s3 s4 s5 s6 s7, g k s0 s1 s2 s3 s4 s5 s6 s7 → RW P n (Cf s0 s1 s2 s3 s4 s5 s6 s7) (Ef s0 s1 s2 s3 s4 s5 s6 s7) Q c k := by
    intro k
    induction k with
    | zero => intro s0 s1 s2 s3 s4 s5 s6 s7 h; exact absurd h (h0 s0 s1 s2 s3 s4 s5 s6 s7)
    | succ k ih => intro s0 s1 s2 s3 s4 s5 s6 s7 h; exact nB (step k ih s0 s1 s2 s3 s4 s5 s6 s7 h)
  intro k s0 s1 s2 s3 s4 s5 s6 s7 h
  exact nz k (key k s0 s1 s2 s3 s4 s5 s6 s7 h)
theorem Ex {α0 α1 α2 α3 α4 α5 α6 α7 α8 : Type} {P : Program} {n : Nat} {Q : Exit → Act → World → Prop} {c : Code} (Cf : α0 → α1 → α2 → α3 → α4 → α5 → α6 → α7 → α8 → World → Prop) (Ef : α0 → α1 → α2 → α3 → α4 → α5 → α6 → α7 → α8 → Env) (g : Nat → α0 → α1 → α2 → α3 → α4 → α5 → α6 → α7 → α8 → Prop) (h0 : ∀ s0 s1 s2 s3 s4 s5 s6 s7 s8, ¬ g 0 s0 s1 s2 s3 s4 s5 s6 s7 s8)
    (step : ∀ k, (∀ s0 s1 s2 s3 s4 s5 s6 s7 s8, g k s0 s1 s2 s3 s4 s5 s6 s7 s8 → RW P n (Cf s0 s1 s2 s3 s4 s5 s6 s7 s8) (Ef s0 s1 s2 s3 s4 s5 s6 s7 s8) Q c k) → ∀ s0 s1 s2 s3 s4 s5 s6 s7 s8, g (k + 1) s0 s1 s2 s3 s4 s5 s6 s7 s8 → CW P n (Cf s0 s1 s2 s3 s4 s5 s6 s7 s8) (Ef s0 s1 s2 s3 s4 s5 s6 s7 s8) (QL P c k Q) c) : ∀ k, ∀ s0 s1 s2 s3 s4 s5 s6 s7 s8, g k s0 s1 s2 s3 s4 s5 s6 s7 s8 → CW P n (Cf s0 s1 s2 s3 s4 s5 s6 s7 s8) (Ef s0 s1 s2 s3 s4 s5 s6 s7 s8) Q (.loop c) := by
  have key : ∀ k, ∀ s0 s1 s2 s3 s4 s5 s6 s7 s8, g k s0 s1 s2 s3 s4 s5 s6 s7 s8 → RW P n (Cf s0 s1 s2 s3 s4 s5 s6 s7 s8) (Ef s0 s1 s2 s3 s4 s5 s6 s7 s8) Q c k := by
    intro k
    induction k with
    | zero => intro s0 s1 s2 s3 s4 s5 s6 s7 s8 h; exact absurd h (h0 s0 s1 s2 s3 s4 s5 s6 s7 s8)
    | succ k ih => intro s0 s1 s2 s3 s4 s5 s6 s7 s8 h; exact nB (step k ih s0 s1 s2 s3 s4 s5 s6 s7 s8 h)
  intro k s0 s1 s2 s3 s4 s5 s6 s7 s8 h
  exact nz k (key k s0 s1 s2 s3 s4 s5 s6 s7 s8 h)
theorem zb {α0 α1 α2 α3 α4 α5 α6 α7 α8 α9 : Type} {P : Program} {n : Nat} {Q : Exit → Act → World → Prop} {c : Code} (Cf : α0 → α1 → α2 → α3 → α4 → α5 → α6 → α7 → α8 → α9 → World → Prop) (Ef : α0 → α1 → α2 → α3 → α4 → α5 → α6 → α7 → α8 → α9 → Env) (g : Nat → α0 → α1 → α2 → α3 → α4 → α5 → α6 → α7 → α8 → α9 → Prop) (h0 : ∀ s0 s1 s2 s3 s4 s5 s6 s7 s8 s9, ¬ g 0 s0 s1 s2 s3 s4 s5 s6 s7 s8 s9)
    (step : ∀ k, (∀ s0 s1 s2 s3 s4 s5 s6 s7 s8 s9, g k s0 s1 s2 s3 s4 s5 s6 s7 s8 s9 → RW P n (Cf s0 s1 s2 s3 s4 s5 s6 s7 s8 s9) (Ef s0 s1 s2 s3 s4 s5 s6 s7 s8 s9) Q c k) → ∀ s0 s1 s2 s3 s4 s5 s6 s7 s8 s9, g (k + 1) s0 s1 s2 s3 s4 s5 s6 s7 s8 s9 → CW P n (Cf s0 s1 s2 s3 s4 s5 s6 s7 s8 s9) (Ef s0 s1 s2 s3 s4 s5 s6 s7 s8 s9) (QL P c k Q) c) : ∀ k, ∀ s0 s1 s2 s3 s4 s5 s6 s7 s8 s9, g k s0 s1 s2 s3 s4 s5 s6 s7 s8 s9 → CW P n (Cf s0 s1 s2 s3 s4 s5 s6 s7 s8 s9) (Ef s0 s1 s2 s3 s4 s5 s6 s7 s8 s9) Q (.loop c) := by
  have key : ∀ k, ∀ s0 s1 s2 s3 s4 s5 s6 s7 s8 s9, g k s0 s1 s2 s3 s4 s5 s6 s7 s8 s9 → RW P n (Cf s0 s1 s2 s3 s4 s5 s6 s7 s8 s9) (Ef s0 s1 s2 s3 s4 s5 s6 s7 s8 s9) Q c k := by
    intro k
    induction k with
    | zero => intro s0 s1 s2 s3 s4 s5 s6 s7 s8 s9 h; exact absurd h (h0 s0 s1 s2 s3 s4 s5 s6 s7 s8 s9)
    | succ k ih => intro s0 s1 s2 s3 s4 s5 s6 s7 s8 s9 h; exact nB (step k ih s0 s1 s2 s3 s4 s5 s6 s7 s8 s9 h)
  intro k s0 s1 s2 s3 s4 s5 s6 s7 s8 s9 h
  exact nz k (key k s0 s1 s2 s3 s4 s5 s6 s7 s8 s9 h)
theorem CT {α0 α1 α2 α3 α4 α5 α6 α7 α8 α9 α10 : Type} {P : Program} {n : Nat} {Q : Exit → Act → World → Prop} {c : Code} (Cf : α0 → α1 → α2 → α3 → α4 → α5 → α6 → α7 → α8 → α9 → α10 → World → Prop) (Ef : α0 → α1 → α2 → α3 → α4 → α5 → α6 → α7 → α8 → α9 → α10 → Env) (g : Nat → α0 → α1 → α2 → α3 → α4 → α5 → α6 → α7 → α8 → α9 → α10 → Prop) (h0 : ∀ s0 s1 s2 s3 s4 s5 s6 s7 s8 s9 a, ¬ g 0 s0 s1 s2 s3 s4 s5 s6 s7 s8 s9 a)
    (step : ∀ k, (∀ s0 s1 s2 s3 s4 s5 s6 s7 s8 s9 a, g k s0 s1 s2 s3 s4 s5 s6 s7 s8 s9 a → RW P n (Cf s0 s1 s2 s3 s4 s5 s6 s7 s8 s9 a) (Ef s0 s1 s2 s3 s4 s5 s6 s7 s8 s9 a) Q c k) → ∀ s0 s1 s2 s3 s4 s5 s6 s7 s8 s9 a, g (k + 1) s0 s1 s2 s3 s4 s5 s6 s7 s8 s9 a → CW P n (Cf s0 s1 s2 s3 s4 s5 s6 s7 s8 s9 a) (Ef s0 s1 s2 s3 s4 s5 s6 s7 s8 s9 a) (QL P c k Q) c) : ∀ k, ∀ s0 s1 s2 s3 s4 s5 s6 s7 s8 s9 a, g k s0 s1 s2 s3 s4 s5 s6 s7 s8 s9 a → CW P n (Cf s0 s1 s2 s3 s4 s5 s6 s7 s8 s9 a) (Ef s0 s1 s2 s3 s4 s5 s6 s7 s8 s9 a) Q (.loop c) := by
  have key : ∀ k, ∀ s0 s1 s2 s3 s4 s5 s6 s7 s8 s9 a, g k s0 s1 s2 s3 s4 s5 s6 s7 s8 s9 a → RW P n (Cf s0 s1 s2 s3 s4 s5 s6 s7 s8 s9 a) (Ef s0 s1 s2 s3 s4 s5 s6 s7 s8 s9 a) Q c k := by
    intro k
    induction k with
    | zero => intro s0 s1 s2 s3 s4 s5 s6 s7 s8 s9 a h; exact absurd h (h0 s0 s1 s2 s3 s4 s5 s6 s7 s8 s9 a)
    | succ k ih => intro s0 s1 s2 s3 s4 s5 s6 s7 s8 s9 a h; exact nB (step k ih s0 s1 s2 s3 s4 s5 s6 s7 s8 s9 a h)
  intro k s0 s1 s2 s3 s4 s5 s6 s7 s8 s9 a h
  exact nz k (key k s0 s1 s2 s3 s4 s5 s6 s7 s8 s9 a h)
theorem Dc {α0 α1 α2 α3 α4 α5 α6 α7 α8 α9 α10 α11 : Type} {P : Program} {n : Nat} {Q : Exit → Act → World → Prop} {c : Code} (Cf : α0 → α1 → α2 → α3 → α4 → α5 → α6 → α7 → α8 → α9 → α10 → α11 → World → Prop) (Ef : α0 → α1 → α2 → α3 → α4 → α5 → α6 → α7 → α8 → α9 → α10 → α11 → Env) (g : Nat → α0 → α1 → α2 → α3 → α4 → α5 → α6 → α7 → α8 → α9 → α10 → α11 → Prop) (h0 : ∀ s0 s1 s2 s3 s4 s5 s6 s7 s8 s9 a d, ¬ g 0 s0 s1 s2 s3 s4 s5 s6 s7 s8 s9 a d)
    (step : ∀ k, (∀ s0 s1 s2 s3 s4 s5 s6 s7 s8 s9 a d, g k s0 s1 s2 s3 s4 s5 s6 s7 s8 s9 a d → RW P n (Cf s0 s1 s2 s3 s4 s5 s6 s7 s8 s9 a d) (Ef s0 s1 s2 s3 s4 s5 s6 s7 s8 s9 a d) Q c k) → ∀ s0 s1 s2 s3 s4 s5 s6 s7 s8 s9 a d, g (k + 1) s0 s1 s2 s3 s4 s5 s6 s7 s8 s9 a d → CW P n (Cf s0 s1 s2 s3 s4 s5 s6 s7 s8 s9 a d) (Ef s0 s1 s2 s3 s4 s5 s6 s7 s8 s9 a d) (QL P c k Q) c) : ∀ k, ∀ s0 s1 s2 s3 s4 s5 s6 s7 s8 s9 a d, g k s0 s1 s2 s3 s4 s5 s6 s7 s8 s9 a d → CW P n (Cf s0 s1 s2 s3 s4 s5 s6 s7 s8 s9 a d) (Ef s0 s1 s2 s3 s4 s5 s6 s7 s8 s9 a d) Q (.loop c) := by
  have key : ∀ k, ∀ s0 s1 s2 s3 s4 s5 s6 s7 s8 s9 a d, g k s0 s1 s2 s3 s4 s5 s6 s7 s8 s9 a d → RW P n (Cf s0 s1 s2 s3 s4 s5 s6 s7 s8 s9 a d) (Ef s0 s1 s2 s3 s4 s5 s6 s7 s8 s9 a d) Q c k := by
    intro k
    induction k with
    | zero => intro s0 s1 s2 s3 s4 s5 s6 s7 s8 s9 a d h; exact absurd h (h0 s0 s1 s2 s3 s4 s5 s6 s7 s8 s9 a d)
    | succ k ih => intro s0 s1 s2 s3 s4 s5 s6 s7 s8 s9 a d h; exact nB (step k ih s0 s1 s2 s3 s4 s5 s6 s7 s8 s9 a d h)
  intro k s0 s1 s2 s3 s4 s5 s6 s7 s8 s9 a d h
  exact nz k (key k s0 s1 s2 s3 s4 s5 s6 s7 s8 s9 a d h)
end Go.Vk
/- Operations that only compute; facts on types. -/
namespace Go.Vk
open Go.RowKit
variable {P : Program}
def isSl (P : Program) (t e : TypeId) : Prop := P.underlying t = some (.slice e)
def zt (P : Program) (t : TypeId) : Prop := P.underlying t = some .string
def uy (P : Program) (t : TypeId) (k : IntKind) : Prop := P.underlying t = some (.int k)
def iP (P : Program) (s f off : Nat) : Prop := ∃ fs fd i, P.underlying s = some (.struct fs) ∧ fs[f]? = some fd ∧ fd.offset = off ∧ P.info? fd.type = some i ∧ i.size ≠ 0
structure fC (P : Program) (t : TypeId) (agg : Bool) (sz by_ : Nat) (z : List Value) : Prop where
  ag : ∀ w : World, (isAgg t).run P w = .ok agg w
  info : ∃ i zv, P.info? t = some i ∧ i.size = sz ∧ i.bytes = by_ ∧ i.zero = some zv ∧ zv.cells = z.toArray
  one : agg = false → sz = 1
inductive xN (P : Program) where
  | p
  | lenS (t e : TypeId) (h : isSl P t e)
  | lenT (t : TypeId) (h : zt P t)
  | fa (s f off : Nat) (h : iP P s f off)
  | cv (s t : TypeId) (k : IntKind) (hs : (P.underlying s).isSome = true) (h : uy P t k)
def rF : IntKind → IntKind → Bool
  | .i8, .i8 | .i16, .i16 | .i32, .i32 | .i64, .i64 | .u8, .u8 | .u16, .u16 | .u32, .u32 | .u64, .u64 => true
  | _, _ => false
theorem qS {a b : IntKind} (h : rF a b = true) : a = b := by cases a <;> cases b <;> first | rfl | cases h
def el (op : BinOp) (k : IntKind) (x y : Int) : Int :=
  match op with
  | .and => k.wrap (BitVec.ofInt k.bits x &&& BitVec.ofInt k.bits y).toNat
  | .or => k.wrap (BitVec.ofInt k.bits x ||| BitVec.ofInt k.bits y).toNat
  | .xor => k.wrap (BitVec.ofInt k.bits x ^^^ BitVec.ofInt k.bits y).toNat
  | _ => k.wrap (BitVec.ofInt k.bits x &&& ~~~(BitVec.ofInt k.bits y)).toNat
def yN (k : IntKind) (x y : Int) : Int := k.wrap (x * 2 ^ (min y.toNat k.bits))
def rt (k : IntKind) (x y : Int) : Int := x.fdiv (2 ^ (min y.toNat k.bits))
def wK : Int → Bool
  | .ofNat _ => true
  | .negSucc _ => false
def tj : Int → Bool
  | .ofNat (_ + 1) => true
  | _ => false
def zg (op : BinOp) (k : IntKind) (x y : Int) : Option Value :=
  match op with
  | .add => some (.int k (k.wrap (x + y)))
  | .sub => some (.int k (k.wrap (x - y)))
  | .mul => some (.int k (k.wrap (x * y)))
  | .quo => bif tj y then some (.int k (k.wrap (x.tdiv y))) else none
  | .rem => bif tj y then some (.int k (x.tmod y)) else none
  | .and => some (.int k (el .and k x y))
  | .or => some (.int k (el .or k x y))
  | .xor => some (.int k (el .xor k x y))
  | .andNot => some (.int k (el .andNot k x y))
  | .shl => none
  | .shr => none
  | .eql => some (.bool (x == y))
  | .neq => some (.bool (x != y))
  | .lss => some (.bool (decide (x < y)))
  | .leq => some (.bool (decide (x ≤ y)))
  | .gtr => some (.bool (decide (x > y)))
  | .geq => some (.bool (decide (x ≥ y)))
def Et (op : BinOp) : Value → Value → Option Value
  | .int k x, .int k' y =>
    match op with
    | .shl => bif wK y then some (.int k (yN k x y)) else none
    | .shr => bif wK y then some (.int k (rt k x y)) else none
    | _ => bif rF k k' then zg op k x y else none
  | .string ⟨⟨a⟩⟩, .string ⟨⟨b⟩⟩ =>
    match op with
    | .eql => some (.bool (a == b))
    | .neq => some (.bool (!(a == b)))
    | _ => none
  | _, _ => none
def sv (h : xN P) (E : Env) (op : Op) : Option Value :=
  match h with
  | .p =>
    match op with
    | .move x | .assign x => ev E x
    | .binOp op _ x y _ =>
      match ev E x, ev E y with
      | some a, some b => Et op a b
      | _, _ => none
    | .unOp op _ x =>
      match op, ev E x with
      | .not, some (.bool b) => some (.bool (!b))
      | .neg, some (.int k n) => some (.int k (k.wrap (0 - n)))
      | _, _ => none
    | .pick c a b =>
      match ev E c with
      | some (.bool c) =>
        match ev E a, ev E b with
        | some (.bool a), some (.bool b) => some (.bool (bif c then a else b))
        | some u, some v =>
          match c with
          | true => some u
          | false => some v
        | _, _ => none
      | _ => none
    | .extract x i =>
      match ev E x with
      | some (.tuple vs) => vs[i]?
      | _ => none
    | .nilCheck x =>
      match ev E x with
      | some (.pointer (some p)) => some (.pointer (some p))
      | _ => none
    | _ => none
  | .lenS t _ _ =>
    match op with
    | .call { callee := .builtin .len, args := ⟨[x]⟩, argTypes := ⟨[u]⟩ } =>
      bif Nat.beq u t then
        match ev E x with
        | some (.slice _ n _) => some (.int .i64 (n : Int))
        | _ => none
      else none
    | _ => none
  | .lenT t _ =>
    match op with
    | .call { callee := .builtin .len, args := ⟨[x]⟩, argTypes := ⟨[u]⟩ } =>
      bif Nat.beq u t then
        match ev E x with
        | some (.string ⟨⟨s⟩⟩) => some (.int .i64 (s.length : Int))
        | _ => none
      else none
    | _ => none
  | .fa s f off _ =>
    match op with
    | .fieldAddr s' x f' =>
      bif Nat.beq s' s && Nat.beq f' f then
        match ev E x with
        | some (.pointer (some p)) => some (.pointer (some (p.add off)))
        | _ => none
      else none
    | _ => none
  | .cv s t k _ _ =>
    match op with
    | .convert s' t' x =>
      bif Nat.beq s' s && Nat.beq t' t then
        match ev E x with
        | some (.int _ n) => some (.int k (k.wrap n))
        | _ => none
      else none
    | _ => none
def FO (P : Program) (ρ : Operand → Value) (o : Oper) (v : Value) : Prop := ∀ w, (execOp ρ o).run P w = .ok (.value v) w
theorem Ry.of_runs {n : Nat} {S : World → Prop} {E : Env} {o : Oper} {v : Value} (h : ∀ a, Fr n E a → FO P a.eval o v) : Ry P n S E o v := fun a hF w _ => h a hF w
theorem Em {s f off : Nat} (h : iP P s f off) (p : Addr) (w : World) : (Instr.fieldAt s (.pointer (some p)) f).run P w = .ok (.pointer (some (p.add off))) w := by
  obtain ⟨fs, fd, i, h1, h2, rfl, h4, h5⟩ := h
  simp [Instr.fieldAt, run_underlying h1, h2, Instr.sureAddr, fieldPlace, sizeOf, typeInfo, h4, h5]
theorem Eb {s t : TypeId} {k : IntKind} (hs : (P.underlying s).isSome = true) (h : uy P t k) (k' : IntKind) (n : Int) (w : World) : (convert s t (.int k' n)).run P w = .ok (.int k (k.wrap n)) w := by
  obtain ⟨d, hd⟩ := Option.isSome_iff_exists.1 hs
  unfold convert
  simp only [Sem.run_bind, run_underlying hd, run_underlying h, Result.andThen_ok]
  cases d <;> rfl
theorem AH {op : BinOp} {t : TypeId} {x y : Operand} {a b v : Value} (h : Et op a b = some v) (w : World) :
    (do eqGuard op t x y a b; binOp op t a b : Sem Value).run P w = .ok v w := by
  unfold Et at h
  split at h
  · rename_i k n k' m
    simp only [eqGuard_at_int, Sem.run_bind, Sem.run_pure, Result.andThen_ok]
    split at h
    · cases hl : wK m with
      | false => simp [hl] at h
      | true =>
        simp only [hl, cond_true, Option.some.injEq] at h
        subst h
        cases m with
        | ofNat m => have h0 : ¬ ((m : Int) < 0) := by omega
                     simp [binOp, Op.shift, yN, h0]
        | negSucc m => cases hl
    · cases hl : wK m with
      | false => simp [hl] at h
      | true =>
        simp only [hl, cond_true, Option.some.injEq] at h
        subst h
        cases m with
        | ofNat m => have h0 : ¬ ((m : Int) < 0) := by omega
                     simp [binOp, Op.shift, rt, h0]
        | negSucc m => cases hl
    · rename_i h1 h2
      cases hk : rF k k' with
      | false => simp [hk] at h
      | true =>
        obtain rfl := qS hk
        simp only [hk, cond_true] at h
        cases op <;> simp only [zg] at h
        case quo =>
          cases hp : tj m with
          | false => simp [hp] at h
          | true =>
            simp only [hp, cond_true, Option.some.injEq] at h
            subst h
            have hm : m ≠ 0 := by
              intro e; subst e; simp [tj] at hp
            simp [binOp_quo, Op.intDiv, hm]
        case rem =>
          cases hp : tj m with
          | false => simp [hp] at h
          | true =>
            simp only [hp, cond_true, Option.some.injEq] at h
            subst h
            have hm : m ≠ 0 := by
              intro e; subst e; simp [tj] at hp
            simp [binOp_rem, Op.intDiv, hm]
        all_goals first
          | (cases h; done)
          | (simp only [Option.some.injEq] at h; subst h; simp [binOp, Op.intArith, Op.intBits, Op.intCmp, el])
  · split at h
    · simp only [Option.some.injEq] at h; subst h
      simp [eqGuard_at_string, binOp_string_eql]
    · simp only [Option.some.injEq] at h; subst h
      simp [eqGuard_at_string, binOp_string_neq]
    · cases h
  · cases h
theorem yF {n : Nat} {E : Env} {hint : xN P} {o : Oper} {v : Value} {a : Act} (hF : Fr n E a) (h : sv hint E o.op = some v) : FO P a.eval o v := by
  intro w
  unfold execOp
  obtain ⟨dst, op, ty, pos, after, guard⟩ := o
  simp only at h ⊢
  cases hint with
  | p =>
    simp only [sv] at h
    split at h
    · simp [hF.ev h]
    · simp [hF.ev h]
    · split at h
      · rename_i op t x y u A B a b hx hy
        have := AH (P := P) (t := t) (x := x) (y := y) h w
        simp only [Sem.run_bind, hF.ev hx, hF.ev hy] at this ⊢
        rw [this]
        rfl
      · cases h
    · split at h
      · rename_i hx
        simp only [Option.some.injEq] at h; subst h
        simp [hF.ev hx, Op.unary]
      · rename_i hx
        simp only [Option.some.injEq] at h; subst h
        simp [hF.ev hx, Op.unary, Op.intArith]
      · cases h
    · split at h
      · rename_i c hx
        simp only [Sem.run_bind, hF.ev hx, asBool, Sem.run_pure, Result.andThen_ok]
        split at h
        · rename_i ha hb
          simp only [Option.some.injEq] at h; subst h
          simp only [hF.ev ha, hF.ev hb]
          cases c <;> rfl
        · rename_i _ ha hb
          simp only [hF.ev ha, hF.ev hb]
          cases c <;> simp only [Option.some.injEq] at h <;> subst h <;> rfl
        · cases h
      · cases h
    · split at h
      · rename_i hx
        simp only [Sem.run_bind, hF.ev hx, Instr.extract, h]
        rfl
      · cases h
    · split at h
      · rename_i hx
        simp only [Option.some.injEq] at h; subst h
        simp only [hF.ev hx]
        rfl
      · cases h
    · cases h
  | lenS t e hs =>
    simp only [sv] at h
    split at h
    · rename_i x u
      cases hb : Nat.beq u t with
      | false => simp [hb] at h
      | true =>
        obtain rfl := Nat.eq_of_beq_eq_true hb
        simp only [hb, cond_true] at h
        split at h
        · rename_i hx
          simp only [Option.some.injEq] at h; subst h
          have hx' := hF.ev hx
          simp [resolve, invoke, builtin, Builtin.len_, hx', run_underlying hs, goInt]
        · cases h
    · cases h
  | lenT t hs =>
    simp only [sv] at h
    split at h
    · rename_i x u
      cases hb : Nat.beq u t with
      | false => simp [hb] at h
      | true =>
        obtain rfl := Nat.eq_of_beq_eq_true hb
        simp only [hb, cond_true] at h
        split at h
        · rename_i hx
          simp only [Option.some.injEq] at h; subst h
          have hx' := hF.ev hx
          have hs' : P.underlying u = some .string := hs
          simp [resolve, invoke, builtin, Builtin.len_, hx', run_underlying hs', goInt]
          try rfl
        · cases h
    · cases h
  | fa s f off hs =>
    simp only [sv] at h
    split at h
    · rename_i s' x f'
      cases hb : Nat.beq s' s with
      | false => simp [hb] at h
      | true =>
        cases hc : Nat.beq f' f with
        | false => simp [hc] at h
        | true =>
          obtain rfl := Nat.eq_of_beq_eq_true hb
          obtain rfl := Nat.eq_of_beq_eq_true hc
          simp only [hb, hc, Bool.and_self, cond_true] at h
          split at h
          · rename_i hx
            simp only [Option.some.injEq] at h; subst h
            simp [hF.ev hx, Em hs]
          · cases h
    · cases h
  | cv s t k hs ht =>
    simp only [sv] at h
    split at h
    · rename_i s' t' x
      cases hb : Nat.beq s' s with
      | false => simp [hb] at h
      | true =>
        cases hc : Nat.beq t' t with
        | false => simp [hc] at h
        | true =>
          obtain rfl := Nat.eq_of_beq_eq_true hb
          obtain rfl := Nat.eq_of_beq_eq_true hc
          simp only [hb, hc, Bool.and_self, cond_true] at h
          split at h
          · rename_i hx
            simp only [Option.some.injEq] at h; subst h
            simp [hF.ev hx, Eb hs ht]
          · cases h
    · cases h
theorem CP {n : Nat} {S : World → Prop} {E : Env} {hint : xN P} {o : Oper} {v : Value} (h : sv hint E o.op = some v) : Ry P n S E o v :=
  Ry.of_runs fun _ hF => yF hF h
def iI (n : Nat) : Option Tmp → Bool
  | none => true
  | some t => Nat.blt t n
theorem aw {n : Nat} {d : Option Tmp} (h : iI n d = true) : ∀ t, d = some t → t < n := by
  intro t ht; subst ht; exact Nat.le_of_ble_eq_true h
def uC (n : Nat) (ops : List Oper) : List (xN P) → List Oper → Env → Option (List Oper × Env)
  | [], rest, E => some (rest, E)
  | _ :: _, [], _ => none
  | h :: hs, o :: rest, E =>
    bif iI n o.dst then
      match wt ops E o.guard with
      | some true =>
        match sv h E o.op with
        | some v => uC n ops hs rest (upd E o.dst v)
        | none => none
      | some false => uC n ops hs rest (upd E o.dst undef)
      | none => none
    else none
theorem aa {n : Nat} {C : World → Prop} {m : Md} {l : List Oper} (hs : List (xN P)) {rest rest' : List Oper} {E E' : Env} (h : uC n l hs rest E = some (rest', E'))
    (hk : OW P n l C E' m rest') : OW P n l C E m rest := by
  induction hs generalizing rest E with
  | nil => simp only [uC, Option.some.injEq, Prod.mk.injEq] at h; obtain ⟨rfl, rfl⟩ := h; exact hk
  | cons hint hs ih =>
    cases rest with
    | nil => cases h
    | cons o rest =>
      simp only [uC] at h
      cases hd : iI n o.dst with
      | false => simp [hd] at h
      | true =>
        simp only [hd, cond_true] at h
        cases hw : wt l E o.guard with
        | none => simp [hw] at h
        | some b =>
          cases b with
          | true =>
            simp only [hw] at h
            cases hv : sv hint E o.op with
            | none => simp [hv] at h
            | some v =>
              simp only [hv] at h
              exact xu hw (aw hd) (CP hv) (ih h)
          | false =>
            simp only [hw] at h
            exact Ds hw (aw hd) (ih h)
end Go.Vk
/- Operations on memory. -/
namespace Go.Vk
open Go.RowKit
variable {P : Program} {n : Nat} {C : World → Prop} {E : Env} {m : Md} {l rest : List Oper} {w0 : World} {M : List Nat} {L : List Res} {Q : Exit → Act → World → Prop}
def idx {α : Type} (xs : List α) (j : Int) : Option α := if 0 ≤ j then xs[j.toNat]? else none
theorem cg {α : Type} {xs : List α} {j : Int} {x : α} (h : idx xs j = some x) : 0 ≤ j ∧ j.toNat < xs.length ∧ xs[j.toNat]? = some x := by
  unfold idx at h
  split at h
  · exact ⟨‹_›, (List.getElem?_eq_some_iff.1 h).1, h⟩
  · cases h
theorem rN {t : TypeId} {sz by_ : Nat} {z : List Value} {w : World} {X : List Nat} {p : Addr} {agg : Bool} {cs : List Value} (ht : fC P t agg sz by_ z) (hA : At w X p cs) (hl : cs.length = sz) :
    (Instr.loadAt t (.pointer (some p))).run P w = .ok (if agg then .agg cs.toArray else cs.headD undef) w := by
  obtain ⟨i, zv, hi, hs, _, _, _⟩ := ht.info
  have hlc := run_loadCells_list (P := P) w p cs hA.2
  rw [hl] at hlc
  cases agg with
  | true => simp [Instr.loadAt, Instr.sureAddr, loadVar, ht.ag w, sizeOf, typeInfo, hi, hs, hlc]
  | false =>
    have h1 := ht.one rfl
    rw [h1] at hl
    match cs, hl with
    | [v], _ =>
      have h0 := hA.2 0 v rfl
      rw [cz] at h0
      simp [Instr.loadAt, Instr.sureAddr, loadVar, ht.ag w, h0]
theorem dk {o : Oper} {t : TypeId} {x : Operand} {p : Addr} {cs : List Value} {sz by_ : Nat} {z : List Value} (ho : o.op = .load t x) (hx : ev E x = some (.pointer (some p))) (ht : fC P t true sz by_ z)
    (hc : ∀ w, C w → At w [] p cs) (hl : cs.length = sz) : Ry P n C E o (.agg cs.toArray) := fun a hF w hC => by
  unfold execOp
  simp only [ho, hF.ev hx, Sem.run_bind, rN ht (hc w hC) hl]
  rfl
theorem aM {o : Oper} {t : TypeId} {x : Operand} {p : Addr} {v : Value} {sz by_ : Nat} {z : List Value} (ho : o.op = .load t x) (hx : ev E x = some (.pointer (some p))) (ht : fC P t false sz by_ z)
    (hc : ∀ w, C w → At w [] p [v]) : Ry P n C E o v := fun a hF w hC => by
  unfold execOp
  simp only [ho, hF.ev hx, Sem.run_bind, rN ht (hc w hC) (by rw [ht.one rfl]; rfl)]
  rfl
def Bor (w0 : World) (M : List Nat) (S : World → Prop) : Prop := ∀ w, S w → Ext M w0 w
theorem bor {w0 : World} {M : List Nat} {L : List Res} : Bor w0 M (St w0 M L) := fun _ h => h.ext
theorem ce {S : World → Prop} {p : Addr} {cs : List Value} (hB : Bor w0 M S) (h : At w0 M p cs) : ∀ w, S w → At w [] p cs := fun w hw =>
  (h.loc (fun b hb hm => (hB w hw).block b hb hm)).anti (by simp)
theorem Ey {w : World} {X : List Nat} {p : Addr} {cs ds : List Value} (h : At w X p cs) (o : Nat) (hd : (cs.drop o).take ds.length = ds) : At w X (p.add o) ds := by
  refine ⟨fun hne => ?_, fun j v hv => ?_⟩
  · rw [mK]
    refine h.1 (fun e => hne ?_)
    subst e; simp at hd; exact hd
  · rw [cS]
    refine h.2 _ v ?_
    rw [← hd, List.getElem?_take] at hv
    split at hv
    · simpa using hv
    · cases hv
def yY (S : World → Prop) (b : Nat) (T : TypeId) (cs : List Value) : Prop := ∀ w, S w → w.heap[b]? = some (.cells cs.toArray T (0, 0))
theorem bJ {i b : Nat} {T : TypeId} {cs : List Value} (hr : L[i]? = some (Res.box b T cs)) : yY (St w0 M L) b T cs := fun _ hw => hw.ok _ (List.mem_of_getElem? hr)
theorem bn {S : World → Prop} {b : Nat} {T : TypeId} {cs ds : List Value} (o : Nat) (hr : yY S b T cs) (hd : (cs.drop o).take ds.length = ds) : ∀ w, S w → At w [] ⟨b, o, none⟩ ds := fun w hw => by
  have hb : w.heap[b]? = some (.cells cs.toArray T (0, 0)) := hr w hw
  refine ⟨fun _ => by simp, fun j v hv => ?_⟩
  rw [cE, cell_of_row w b _ cs.toArray T (0, 0) hb]
  rw [← hd, List.getElem?_take] at hv
  split at hv
  · simpa using hv
  · cases hv
theorem CH {o : Oper} {t : TypeId} {x : Operand} {b off : Nat} {v : Value} {sz by_ : Nat} {z : List Value} {T : TypeId} {cs : List Value} (ho : o.op = .load t x) (hx : ev E x = some (.pointer (some ⟨b, off, none⟩)))
    (ht : fC P t false sz by_ z) (hr : yY C b T cs) (hv : cs[off]? = some v) : Ry P n C E o v :=
  aM ho hx ht (bn off hr (by
    obtain ⟨h1, h2⟩ := List.getElem?_eq_some_iff.1 hv
    rw [List.drop_eq_getElem_cons h1, h2]; rfl))
theorem DW {o : Oper} {t : TypeId} {x : Operand} {b off : Nat} {ds : List Value} {sz by_ : Nat} {z : List Value} {T : TypeId} {cs : List Value} (ho : o.op = .load t x) (hx : ev E x = some (.pointer (some ⟨b, off, none⟩)))
    (ht : fC P t true sz by_ z) (hr : yY C b T cs) (hd : (cs.drop off).take sz = ds) (hl : ds.length = sz) : Ry P n C E o (.agg ds.toArray) :=
  dk ho hx ht (bn off hr (by rw [hl]; exact hd)) hl
theorem oV {t et : TypeId} {agg : Bool} {sz by_ : Nat} {z : List Value} (ht : isSl P t et) (he : fC P et agg sz by_ z) (p : Addr) (len cap : Nat) (k : IntKind) (j : Int) (h0 : 0 ≤ j) (h1 : j.toNat < len) (w : World) :
    (Instr.indexAt t (.slice (some p) len cap) (.int k j)).run P w = .ok (.pointer (some (p.add (j.toNat * sz)))) w := by
  obtain ⟨i, zv, hi, hs, _, _, _⟩ := he.info
  have h2 : j < (len : Int) := by omega
  simp [Instr.indexAt, asIntOf, run_underlying ht, h0, h2, sizeOf, typeInfo, hi, hs]
theorem FA {α : Type} {e : Enc α} {w : World} {X : List Nat} {xs : List α} {v : Value} {j : Int} {x : α} (h : jB e w X xs [v]) (hj : idx xs j = some x) :
    ∃ p cap ds, v = .slice (some p) xs.length cap ∧ e.rd w X x ds ∧ At w X (p.add (j.toNat * e.sz)) ds := by
  obtain ⟨h0, h1, h2⟩ := cg hj
  obtain ⟨a, cap, hv, _, _, hel⟩ := h
  have hne : xs ≠ [] := fun e => by subst e; simp at h1
  obtain ⟨p, rfl, hp⟩ := hel hne
  obtain ⟨ds, hd, hA⟩ := hp _ x h2
  exact ⟨p, cap, ds, by simpa using hv, hd, hA⟩
theorem cf {α : Type} {e : Enc α} {o : Oper} {t et : TypeId} {x i : Operand} {agg : Bool} {sz by_ : Nat} {z : List Value} {xs : List α} {v : Value} {k : IntKind} {j : Int} {y : α}
    (ho : o.op = .indexAddr t x i) (hw : wt l E o.guard = some true) (hd : iI n o.dst = true) (hx : ev E x = some v) (hi : ev E i = some (.int k j)) (ht : isSl P t et) (he : fC P et agg sz by_ z) (hsz : e.sz = sz)
    (h : jB e w0 M xs [v]) (hj : idx xs j = some y) (hk : ∀ q ds, e.rd w0 M y ds → At w0 M q ds → OW P n l C (upd E o.dst (.pointer (some q))) m rest) : OW P n l C E m (o :: rest) := by
  obtain ⟨p, cap, ds, rfl, hrd, hA⟩ := FA h hj
  obtain ⟨h0, h1, _⟩ := cg hj
  refine xu hw (aw hd) (v := .pointer (some (p.add (j.toNat * e.sz)))) (fun a hF w _ => ?_) (hk _ ds hrd hA)
  unfold execOp
  simp only [ho, hF.ev hx, hF.ev hi, Sem.run_bind, oV ht he p _ cap k j h0 h1 w, hsz]
  rfl
theorem yD {α : Type} {val : α → Value} {h1 : ∀ x, (val x).oneCell' = true} {w : World} : ∀ {ys : List α} {F : List Nat} {ds : List Value}, fV (kg val h1) w F ys ds → F = [] ∧ ds = ys.map val := by
  intro ys
  induction ys with
  | nil => intro F ds h; exact h
  | cons y ys ih =>
    intro F ds h
    obtain ⟨Fa, Fb, c1, c2, rfl, rfl, _, hh, h3⟩ := h
    obtain ⟨rfl, rfl⟩ := ih h3
    rw [hh.1, hh.2]
    exact ⟨rfl, rfl⟩
theorem qr {α : Type} {val : α → Value} {h1 : ∀ x, (val x).oneCell' = true} {w : World} : ∀ (ys : List α), fV (kg val h1) w [] ys (ys.map val)
  | [] => ⟨rfl, rfl⟩
  | y :: ys => ⟨[], [], [val y], ys.map val, rfl, rfl, rfl, ⟨rfl, rfl⟩, qr ys⟩
def Dp {α : Type} (val : α → Value) (T : TypeId) (b cap : Nat) (xs : List α) (w : World) : Prop :=
  ∃ cur, w.heap[b]? = some (.cells cur T (0, 0)) ∧ xs.length ≤ cap ∧ cap ≤ maxLen ∧ cur.size = cap ∧ cur.toList.take xs.length = xs.map val
theorem Bv {α : Type} {val : α → Value} {h1 : ∀ x, (val x).oneCell' = true} {T : TypeId} {w : World} {F : List Nat} {xs : List α} {v : Value} (h : (ad (kg val h1) T).own w F xs [v]) :
    (xs = [] ∧ F = [] ∧ v = .slice none 0 0) ∨ ∃ b cap, F = [b] ∧ v = .slice (some ⟨b, 0, none⟩) xs.length cap ∧ Dp val T b cap xs w := by
  have h : mZ (kg val h1) T w F xs [v] := h
  rcases h with ⟨h1, h2, h3⟩ | ⟨b, cap, cur, F1, ds, rfl, hcs, hh, h3, h4, h5, h6, h7⟩
  · exact .inl ⟨h1, h2, by simpa using h3⟩
  · obtain ⟨rfl, rfl⟩ := yD h7
    refine .inr ⟨b, cap, rfl, by simpa using hcs, cur, hh, h3, h4, ?_, ?_⟩
    · simpa [kg] using h5
    · simpa [kg] using h6
theorem yd {α : Type} {val : α → Value} {h1 : ∀ x, (val x).oneCell' = true} {T : TypeId} {w : World} {b cap : Nat} {xs : List α} (h : Dp val T b cap xs w) :
    (ad (kg val h1) T).own w [b] xs [.slice (some ⟨b, 0, none⟩) xs.length cap] := by
  obtain ⟨cur, h1, h2, h3, h4, h5⟩ := h
  exact .inr ⟨b, cap, cur, [], xs.map val, rfl, rfl, h1, h2, h3, by simpa [kg] using h4, by simpa [kg] using h5, qr xs⟩
theorem yU {o : Oper} {t : TypeId} {x i : Operand} {s : List UInt8} {k : IntKind} {j : Int} {c : UInt8} (ho : o.op = .index t x i) (hx : ev E x = some (vS s)) (hi : ev E i = some (.int k j)) (ht : zt P t) (hj : idx s j = some c) :
    Ry P n C E o (.int .u8 (c.toNat : Int)) := fun a hF w _ => by
  obtain ⟨h0, h1, h2⟩ := cg hj
  have ht' : P.underlying t = some .string := ht
  have hg : (⟨s.toArray⟩ : ByteArray)[j.toNat]? = some c := by
    have hlt : j.toNat < (⟨s.toArray⟩ : ByteArray).size := by simpa [ByteArray.size] using h1
    rw [getElem?_pos (⟨s.toArray⟩ : ByteArray) j.toNat hlt]
    have : s[j.toNat]'h1 = c := by rw [List.getElem?_eq_getElem h1] at h2; simpa using h2
    simp [ByteArray.getElem_eq_getElem_data, this]
  unfold execOp
  simp [ho, hF.ev hx, hF.ev hi, Instr.index, asIntOf, run_underlying ht', vS, h0, hg]
def bY (P : Program) (f : FuncId) : Prop := ∃ fn, P.funcs[f]? = some fn ∧ fn.body.isSome = true ∧ fn.name ≠ "runtime.NumGoroutine"
def evs (E : Env) : List Operand → Option (List Value)
  | [] => some []
  | x :: xs =>
    match ev E x, evs E xs with
    | some v, some vs => some (v :: vs)
    | _, _ => none
theorem Fr.evs {a : Act} (hF : Fr n E a) : ∀ {xs : List Operand} {vs : List Value}, evs E xs = some vs → xs.map a.eval = vs
  | [], vs, h => by simp [Vk.evs] at h; subst h; rfl
  | x :: xs, vs, h => by
    simp only [Vk.evs] at h
    split at h
    · rename_i hx hxs
      simp only [Option.some.injEq] at h; subst h
      simp [hF.ev hx, hF.evs hxs]
    · cases h
theorem xL {o : Oper} {f : FuncId} {xs : List Operand} {ts : Array TypeId} {vs : List Value} {a : Act} (ho : o.op = .call { callee := .value (.func f), args := xs.toArray, argTypes := ts }) (hf : bY P f) (hF : Fr n E a) (hx : evs E xs = some vs) (w : World) :
    (execOp a.eval o).run P w = .ok (.enter f vs.toArray) w := by
  obtain ⟨fn, h1, h2, h3⟩ := hf
  obtain ⟨c, hc⟩ := Option.isSome_iff_exists.1 h2
  have hm : (xs.toArray.map a.eval) = vs.toArray := by rw [← hF.evs hx]; simp
  unfold execOp
  simp only [ho, resolve, Act.eval, Deferred.ofValue, hm]
  simp [invoke, callFunc, h1, h3, hc]
theorem Cv {o : Oper} {f : FuncId} {xs : List Operand} {ts : Array TypeId} {vs : List Value} {v : Value} (ho : o.op = .call { callee := .value (.func f), args := xs.toArray, argTypes := ts }) (hf : bY P f) (hx : evs E xs = some vs)
    (hc : ∀ w, St w0 M L w → Calls P f vs.toArray w fun e w' => e = .returned v ∧ Ext [] w w') : Qy P n (St w0 M L) E o v := fun a hF w hC => by
  unfold Oper.quietAt
  rw [xL ho hf hF hx w]
  exact ⟨rfl, (hc w hC).mono fun e w' ⟨he, hw⟩ => ⟨he, hC.step hw⟩⟩
theorem CQ {o : Oper} {f : FuncId} {xs : List Operand} {ts : Array TypeId} {vs : List Value} {R : Value → World → World → Prop} (ho : o.op = .call { callee := .value (.func f), args := xs.toArray, argTypes := ts }) (hf : bY P f)
    (hm : m.here (o :: rest) = true) (hw : wt l E o.guard = some true) (hd : iI n o.dst = true) (hx : evs E xs = some vs)
    (hc : ∀ w, C w → Calls P f vs.toArray w fun e w' => ∃ v, e = .returned v ∧ R v w w')
    (hk : ∀ v w w', C w → R v w w' → ∃ C' : World → Prop, C' w' ∧ (∀ u, C' u → m.keeps u) ∧ OW P n l C' (upd E o.dst v) m rest) : OW P n l C E m (o :: rest) :=
  mh hm hw fun a w hF hC _ K hK => by
    unfold Oper.wp
    rw [xL ho hf hF hx w, Oper.upon_enter]
    refine (hc w hC).mono fun e w' ⟨v, he, hR⟩ => ?_
    subst he
    obtain ⟨C', hC', hS', h⟩ := hk v w w' hC hR
    exact hK C' _ _ w' h (hF.put _ _ (aw hd)) hC' (hS' w' hC')
end Go.Vk
