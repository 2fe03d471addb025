/- Memory as a list of local resources; readers of typed data. -/
import Derived.Test.YtddoligbabahbaaGreatVkA
import Derived.Below
namespace Go.Vk
open Go.RowKit
/-- w' is w but for the blocks of M, and for new blocks -/
structure Ext (M : List Nat) (w w' : World) : Prop where
  os : w'.os = w.os
  tape : w'.tape = w.tape
  output : w'.output = w.output
  size : w.heap.size ≤ w'.heap.size
  block : ∀ b, b < w.heap.size → b ∉ M → w'.heap[b]? = w.heap[b]?
theorem Ext.refl (M : List Nat) (w : World) : Ext M w w := ⟨rfl, rfl, rfl, Nat.le_refl _, fun _ _ _ => rfl⟩
theorem Ext.trans {M : List Nat} {a b c : World} (h : Ext M a b) (k : Ext M b c) : Ext M a c :=
  ⟨k.os.trans h.os, k.tape.trans h.tape, k.output.trans h.output, Nat.le_trans h.size k.size,
   fun i hi hm => (k.block i (Nat.lt_of_lt_of_le hi h.size) hm).trans (h.block i hi hm)⟩
theorem Ext.mono {M M' : List Nat} {a b : World} (h : Ext M a b) (hm : ∀ x ∈ M, x ∈ M' ∨ a.heap.size ≤ x) : Ext M' a b :=
  ⟨h.os, h.tape, h.output, h.size, fun i hi hn => h.block i hi (fun hM => by
    rcases hm i hM with h1 | h1
    · exact hn h1
    · omega)⟩
theorem Ext.below {w w' : World} (h : Ext [] w w') : Below w.heap.size w w' := ⟨h.os, h.tape, h.output, h.size, fun k hk => h.block k hk (by simp)⟩
theorem Ext.drew {M : List Nat} {a b : World} (h : Ext M a b) : Ext M a b.drew := ⟨h.os, h.tape, h.output, h.size, h.block⟩
/-- an assertion on some blocks -/
structure Res where
  F : List Nat
  ok : World → Prop
  loc : ∀ w w', (∀ b ∈ F, w'.heap[b]? = w.heap[b]?) → ok w → ok w'
def Res.box (b : Nat) (T : TypeId) (cs : List Value) : Res :=
  ⟨[b], fun w => w.heap[b]? = some (.cells cs.toArray T (0, 0)), fun _ _ h ok => (h b (by simp)).trans ok⟩
def foot (L : List Res) : List Nat := L.flatMap (·.F)
structure St (w0 : World) (M : List Nat) (L : List Res) (w : World) : Prop where
  ext : Ext M w0 w
  ok : ∀ r ∈ L, r.ok w
  nd : (foot L).Nodup
  lt : ∀ b ∈ foot L, b < w.heap.size
  new : ∀ b ∈ foot L, w0.heap.size ≤ b ∨ b ∈ M
theorem mem_foot {L : List Res} {r : Res} (h : r ∈ L) {b : Nat} (hb : b ∈ r.F) : b ∈ foot L := List.mem_flatMap.2 ⟨r, h, hb⟩
/-- a step that leaves all resources alone -/
theorem St.step {w0 : World} {M : List Nat} {L : List Res} {w w' : World} (h : St w0 M L w) (hx : Ext [] w w') : St w0 M L w' where
  ext := h.ext.trans (hx.mono (by simp))
  ok r hr := r.loc w w' (fun b hb => hx.block b (h.lt b (mem_foot hr hb)) (by simp)) (h.ok r hr)
  nd := h.nd
  lt b hb := Nat.lt_of_lt_of_le (h.lt b hb) hx.size
  new := h.new
theorem St.drew {w0 : World} {M : List Nat} {L : List Res} {w : World} (h : St w0 M L w) : St w0 M L { w with drawn := w.drawn + 1 } :=
  h.step ⟨rfl, rfl, rfl, Nat.le_refl _, fun _ _ _ => rfl⟩
theorem foot_append (A B : List Res) : foot (A ++ B) = foot A ++ foot B := by simp [foot]
theorem foot_cons (r : Res) (B : List Res) : foot (r :: B) = r.F ++ foot B := rfl
theorem foot_one (r : Res) : foot [r] = r.F := by simp [foot]
/-- a new resource over new blocks -/
theorem St.push {w0 : World} {M : List Nat} {L : List Res} {w w' : World} (h : St w0 M L w) (hx : Ext [] w w') (r : Res) (hr : r.ok w')
    (hn : r.F.Nodup) (hge : ∀ b ∈ r.F, w.heap.size ≤ b ∧ b < w'.heap.size) : St w0 M (L ++ [r]) w' where
  ext := (h.step hx).ext
  ok s hs := by
    rcases List.mem_append.1 hs with hs | hs
    · exact (h.step hx).ok s hs
    · rw [List.mem_singleton.1 hs]; exact hr
  nd := by
    rw [foot_append, foot_one, List.nodup_append]
    exact ⟨h.nd, hn, fun a ha b hb e => by have h1 := (hge b hb).1; have h2 := h.lt a ha; omega⟩
  lt b hb := by
    rw [foot_append, foot_one] at hb
    rcases List.mem_append.1 hb with h1 | h1
    · exact (h.step hx).lt b h1
    · exact (hge b h1).2
  new b hb := by
    rw [foot_append, foot_one] at hb
    rcases List.mem_append.1 hb with h1 | h1
    · exact h.new b h1
    · exact .inl (Nat.le_trans h.ext.size (hge b h1).1)
/-- later resources let go -/
theorem St.left {w0 : World} {M : List Nat} {A B : List Res} {w : World} (h : St w0 M (A ++ B) w) : St w0 M A w := by
  have hin : ∀ b ∈ foot A, b ∈ foot (A ++ B) := fun b hb => by rw [foot_append]; simp [hb]
  refine ⟨h.ext, fun s hs => h.ok s (List.mem_append.2 (.inl hs)), ?_, fun b hb => h.lt b (hin b hb), fun b hb => h.new b (hin b hb)⟩
  have := h.nd
  rw [foot_append, List.nodup_append] at this
  exact this.1
theorem St.take {w0 : World} {M : List Nat} {L L' : List Res} {w : World} (k : Nat) (hL : L.take k = L') (h : St w0 M L w) : St w0 M L' w := by
  rw [← List.take_append_drop k L] at h
  rw [← hL]; exact h.left
/-- resource r (after A, before B) is turned into r', over its own and new blocks -/
theorem St.turn {w0 : World} {M : List Nat} {A B : List Res} {r : Res} {w w' : World} (h : St w0 M (A ++ r :: B) w) (hx : Ext r.F w w') (r' : Res) (hr : r'.ok w')
    (hn : r'.F.Nodup) (hge : ∀ b ∈ r'.F, b < w'.heap.size ∧ (b ∈ r.F ∨ w.heap.size ≤ b)) : St w0 M (A ++ r' :: B) w' := by
  have hf : foot (A ++ r :: B) = foot A ++ (r.F ++ foot B) := by rw [foot_append, foot_cons]
  have hf' : foot (A ++ r' :: B) = foot A ++ (r'.F ++ foot B) := by rw [foot_append, foot_cons]
  have hnd := h.nd
  rw [hf, List.nodup_append, List.nodup_append] at hnd
  obtain ⟨hA, ⟨hR, hB, hRB⟩, hAR⟩ := hnd
  have hAlt : ∀ b ∈ foot A, b < w.heap.size := fun b hb => h.lt b (by rw [hf]; simp [hb])
  have hBlt : ∀ b ∈ foot B, b < w.heap.size := fun b hb => h.lt b (by rw [hf]; simp [hb])
  have hRlt : ∀ b ∈ r.F, b < w.heap.size := fun b hb => h.lt b (by rw [hf]; simp [hb])
  have hAn : ∀ b ∈ foot A, b ∉ r.F := fun b hb hr => hAR b hb b (List.mem_append.2 (.inl hr)) rfl
  have hBn : ∀ b ∈ foot B, b ∉ r.F := fun b hb hr => hRB b hr b hb rfl
  refine ⟨?_, ?_, ?_, ?_, ?_⟩
  · refine ⟨hx.os.trans h.ext.os, hx.tape.trans h.ext.tape, hx.output.trans h.ext.output, Nat.le_trans h.ext.size hx.size, fun b hb hm => ?_⟩
    have hbr : b ∉ r.F := fun hin => by
      rcases h.new b (by rw [hf]; simp [hin]) with h1 | h1
      · omega
      · exact hm h1
    exact (hx.block b (Nat.lt_of_lt_of_le hb h.ext.size) hbr).trans (h.ext.block b hb hm)
  · intro s hs
    rcases List.mem_append.1 hs with h1 | h1
    · exact s.loc w w' (fun b hb => hx.block b (hAlt b (mem_foot h1 hb)) (hAn b (mem_foot h1 hb))) (h.ok s (List.mem_append.2 (.inl h1)))
    · cases h1 with
      | head => exact hr
      | tail _ h1 => exact s.loc w w' (fun b hb => hx.block b (hBlt b (mem_foot h1 hb)) (hBn b (mem_foot h1 hb))) (h.ok s (List.mem_append.2 (.inr (List.mem_cons_of_mem _ h1))))
  · rw [hf', List.nodup_append, List.nodup_append]
    have hnew : ∀ b ∈ r'.F, b ∉ foot A ∧ b ∉ foot B := fun b hb => by
      rcases (hge b hb).2 with h1 | h1
      · exact ⟨fun h2 => hAn b h2 h1, fun h2 => hBn b h2 h1⟩
      · exact ⟨fun h2 => by have := hAlt b h2; omega, fun h2 => by have := hBlt b h2; omega⟩
    refine ⟨hA, ⟨hn, hB, fun a ha b hb e => (hnew a ha).2 (e ▸ hb)⟩, fun a ha b hb e => ?_⟩
    subst e
    rcases List.mem_append.1 hb with h1 | h1
    · exact (hnew a h1).1 ha
    · exact hAR a ha a (List.mem_append.2 (.inr h1)) rfl
  · intro b hb
    rw [hf'] at hb
    rcases List.mem_append.1 hb with h1 | h1
    · exact Nat.lt_of_lt_of_le (hAlt b h1) hx.size
    · rcases List.mem_append.1 h1 with h2 | h2
      · exact (hge b h2).1
      · exact Nat.lt_of_lt_of_le (hBlt b h2) hx.size
  · intro b hb
    rw [hf'] at hb
    rcases List.mem_append.1 hb with h1 | h1
    · exact h.new b (by rw [hf]; simp [h1])
    · rcases List.mem_append.1 h1 with h2 | h2
      · rcases (hge b h2).2 with h3 | h3
        · exact h.new b (by rw [hf]; simp [h3])
        · exact .inl (Nat.le_trans h.ext.size h3)
      · exact h.new b (by rw [hf]; simp [h2])
/-- a resource is let go -/
theorem St.drop {w0 : World} {M : List Nat} {A B : List Res} {r : Res} {w : World} (h : St w0 M (A ++ r :: B) w) : St w0 M (A ++ B) w := by
  have hf : foot (A ++ r :: B) = foot A ++ (r.F ++ foot B) := by rw [foot_append, foot_cons]
  have hf' : foot (A ++ B) = foot A ++ foot B := foot_append _ _
  have hin : ∀ b ∈ foot (A ++ B), b ∈ foot (A ++ r :: B) := fun b hb => by
    rw [hf'] at hb; rw [hf]
    rcases List.mem_append.1 hb with h1 | h1 <;> simp [h1]
  have hnd := h.nd
  rw [hf, List.nodup_append, List.nodup_append] at hnd
  obtain ⟨hA, ⟨_, hB, _⟩, hAR⟩ := hnd
  refine ⟨h.ext, fun s hs => h.ok s ?_, ?_, fun b hb => h.lt b (hin b hb), fun b hb => h.new b (hin b hb)⟩
  · rcases List.mem_append.1 hs with h1 | h1
    · exact List.mem_append.2 (.inl h1)
    · exact List.mem_append.2 (.inr (List.mem_cons_of_mem _ h1))
  · rw [hf', List.nodup_append]
    exact ⟨hA, hB, fun a ha b hb e => hAR a ha b (List.mem_append.2 (.inr hb)) e⟩
def Res.nil : Res := ⟨[], fun _ => True, fun _ _ _ h => h⟩
theorem split_at {L : List Res} {i : Nat} {r : Res} (h : L[i]? = some r) : L = L.take i ++ r :: L.drop (i + 1) := by
  obtain ⟨hlt, he⟩ := List.getElem?_eq_some_iff.1 h
  rw [← he, ← List.drop_eq_getElem_cons hlt, List.take_append_drop]
theorem set_at {L : List Res} {i : Nat} {r r' : Res} (h : L[i]? = some r) : L.set i r' = L.take i ++ r' :: L.drop (i + 1) :=
  List.set_eq_take_append_cons_drop .. ▸ (by rw [if_pos (List.getElem?_eq_some_iff.1 h).1])
/-- resource number i is turned -/
theorem St.upd {w0 : World} {M : List Nat} {L : List Res} {i : Nat} {r : Res} {w w' : World} (h : St w0 M L w) (hi : L[i]? = some r) (hx : Ext r.F w w') (r' : Res) (hr : r'.ok w')
    (hn : r'.F.Nodup) (hge : ∀ b ∈ r'.F, b < w'.heap.size ∧ (b ∈ r.F ∨ w.heap.size ≤ b)) : St w0 M (L.set i r') w' := by
  rw [set_at hi]
  rw [split_at hi] at h
  exact h.turn hx r' hr hn hge
theorem St.one {w0 : World} {M : List Nat} {L : List Res} {i : Nat} {r : Res} {w : World} (h : St w0 M L w) (hi : L[i]? = some r) : r.ok w ∧ r.F.Nodup ∧ ∀ b ∈ r.F, b < w.heap.size := by
  have hnd := h.nd
  have hf : foot L = foot (L.take i) ++ (r.F ++ foot (L.drop (i + 1))) := by conv => lhs; rw [split_at hi, foot_append, foot_cons]
  rw [hf, List.nodup_append, List.nodup_append] at hnd
  exact ⟨h.ok r (List.mem_of_getElem? hi), hnd.2.1.1, fun b hb => h.lt b (mem_foot (List.mem_of_getElem? hi) hb)⟩
/-- a resource let go, its place kept -/
theorem St.clear {w0 : World} {M : List Nat} {L : List Res} {i : Nat} {r : Res} {w : World} (h : St w0 M L w) (hi : L[i]? = some r) : St w0 M (L.set i Res.nil) w :=
  h.upd hi (Ext.refl _ _) Res.nil trivial (by simp [Res.nil]) (by simp [Res.nil])
/-- the resource, read otherwise -/
theorem St.recast {w0 : World} {M : List Nat} {L : List Res} {i : Nat} {r r' : Res} {w : World} (h : St w0 M L w) (hi : L[i]? = some r) (hF : r'.F = r.F) (ho : r.ok w → r'.ok w) : St w0 M (L.set i r') w := by
  obtain ⟨h1, h2, h3⟩ := h.one hi
  exact h.upd hi (Ext.refl _ _) r' (ho h1) (hF ▸ h2) (fun b hb => by rw [hF] at hb; exact ⟨h3 b hb, .inl hb⟩)
theorem foot_perm {L : List Res} {i : Nat} {r : Res} (hi : L[i]? = some r) : (foot L).Perm (r.F ++ foot (L.set i Res.nil)) := by
  rw [set_at hi]
  conv => lhs; rw [split_at hi]
  rw [foot_append, foot_cons, foot_append, foot_cons]
  show (foot (L.take i) ++ (r.F ++ foot (L.drop (i + 1)))).Perm (r.F ++ (foot (L.take i) ++ ([] ++ foot (L.drop (i + 1)))))
  rw [List.nil_append, ← List.append_assoc, ← List.append_assoc]
  exact List.Perm.append_right _ List.perm_append_comm
/-! ### readers -/
/-- the cells at address p are cs -/
def At (w : World) (X : List Nat) (p : Addr) (cs : List Value) : Prop :=
  (cs ≠ [] → p.block ∉ X) ∧ ∀ j v, cs[j]? = some v → w.cell? (p.add j) = some v
structure Enc (α : Type) where
  sz : Nat
  rd : World → List Nat → α → List Value → Prop
  own : World → List Nat → α → List Value → Prop
  rd_len : ∀ {w X x cs}, rd w X x cs → cs.length = sz
  rd_loc : ∀ {w w' X x cs}, rd w X x cs → (∀ b, b < w.heap.size → b ∉ X → w'.heap[b]? = w.heap[b]?) → rd w' X x cs
  rd_anti : ∀ {w X X' x cs}, rd w X x cs → (∀ b, b < w.heap.size → b ∈ X' → b ∈ X) → rd w X' x cs
  own_loc : ∀ {w w' F x cs}, own w F x cs → (∀ b ∈ F, w'.heap[b]? = w.heap[b]?) → own w' F x cs
  own_rd : ∀ {w F X x cs}, own w F x cs → (∀ b ∈ F, b ∉ X) → rd w X x cs
  own_lt : ∀ {w F x cs}, own w F x cs → ∀ b ∈ F, b < w.heap.size
  one : ∀ {w X x cs}, rd w X x cs → ∀ u ∈ cs, u.oneCell' = true
/-- a datum of one cell, known by its value -/
def eVal {α : Type} (val : α → Value) (h1 : ∀ x, (val x).oneCell' = true) : Enc α where
  sz := 1
  rd _ _ x cs := cs = [val x]
  own _ F x cs := F = [] ∧ cs = [val x]
  rd_len h := by rw [h]; rfl
  rd_loc h _ := h
  rd_anti h _ := h
  own_loc h _ := h
  own_rd h _ := h.2
  own_lt h b hb := by rw [h.1] at hb; cases hb
  one h u hu := by rw [h] at hu; rw [List.mem_singleton.1 hu]; exact h1 _
def vS (l : List UInt8) : Value := .string ⟨l.toArray⟩
abbrev eU8 : Enc Int := eVal (Value.int .u8) (fun _ => rfl)
abbrev eBool : Enc Bool := eVal Value.bool (fun _ => rfl)
abbrev eStr : Enc (List UInt8) := eVal vS (fun _ => rfl)
theorem add_block (p : Addr) (j : Nat) : (p.add j).block = p.block := by unfold Addr.add; split <;> rfl
theorem add_add (p : Addr) (i j : Nat) : (p.add i).add j = p.add (i + j) := by
  unfold Addr.add
  by_cases hi : i = 0 <;> by_cases hj : j = 0 <;> simp [hi, hj, Nat.add_assoc]
theorem add_zero (p : Addr) : p.add 0 = p := by simp [Addr.add]
theorem add_lit (b o j : Nat) : (⟨b, o, none⟩ : Addr).add j = ⟨b, o + j, none⟩ := by unfold Addr.add; split <;> simp_all
theorem At.lt {w : World} {X : List Nat} {p : Addr} {cs : List Value} (h : At w X p cs) (hne : cs ≠ []) : p.block < w.heap.size := by
  obtain ⟨v, hv⟩ : ∃ v, cs[0]? = some v := by cases cs with | nil => exact absurd rfl hne | cons v _ => exact ⟨v, rfl⟩
  have := World.block_lt_of_cell? w _ (h.2 0 v hv)
  rwa [add_block] at this
theorem At.loc {w w' : World} {X : List Nat} {p : Addr} {cs : List Value} (h : At w X p cs) (hb : ∀ b, b < w.heap.size → b ∉ X → w'.heap[b]? = w.heap[b]?) : At w' X p cs := by
  refine ⟨h.1, fun j v hv => ?_⟩
  have hne : cs ≠ [] := fun e => by subst e; simp at hv
  rw [World.cell?_of_block (w := w) (a := p.add j) (by rw [add_block]; exact hb p.block (h.lt hne) (h.1 hne))]
  exact h.2 j v hv
theorem At.anti {w : World} {X X' : List Nat} {p : Addr} {cs : List Value} (h : At w X p cs) (hb : ∀ b, b < w.heap.size → b ∈ X' → b ∈ X) : At w X' p cs :=
  ⟨fun hne hin => h.1 hne (hb _ (h.lt hne) hin), h.2⟩
/-- slices that can be read -/
def rdList {α : Type} (e : Enc α) (w : World) (X : List Nat) (xs : List α) (cs : List Value) : Prop :=
  ∃ a cap, cs = [.slice a xs.length cap] ∧ xs.length ≤ cap ∧ cap ≤ maxLen ∧ (xs ≠ [] → ∃ p, a = some p ∧ ∀ i x, xs[i]? = some x → ∃ ds, e.rd w X x ds ∧ At w X (p.add (i * e.sz)) ds)
/-- the elements' own blocks, one after the other -/
def ownAll {α : Type} (e : Enc α) (w : World) : List Nat → List α → List Value → Prop
  | F, [], cs => F = [] ∧ cs = []
  | F, x :: xs, cs => ∃ F1 F2 c1 c2, F = F1 ++ F2 ∧ cs = c1 ++ c2 ∧ c1.length = e.sz ∧ e.own w F1 x c1 ∧ ownAll e w F2 xs c2
/-- slices in blocks of their own -/
def ownList {α : Type} (e : Enc α) (T : TypeId) (w : World) (F : List Nat) (xs : List α) (cs : List Value) : Prop :=
  (xs = [] ∧ F = [] ∧ cs = [.slice none 0 0]) ∨
  ∃ b cap cur F1 ds, F = b :: F1 ∧ cs = [.slice (some ⟨b, 0, none⟩) xs.length cap] ∧ w.heap[b]? = some (.cells cur T (0, 0)) ∧ xs.length ≤ cap ∧ cap ≤ maxLen ∧
    cur.size = cap * e.sz ∧ cur.toList.take (xs.length * e.sz) = ds ∧ ownAll e w F1 xs ds
theorem ownAll_one {α : Type} {e : Enc α} {w : World} {xs : List α} : ∀ {F : List Nat} {cs : List Value}, ownAll e w F xs cs → ∀ u ∈ cs, u.oneCell' = true := by
  induction xs with
  | nil => intro F cs h u hu; rw [h.2] at hu; cases hu
  | cons x xs ih =>
    intro F cs h u hu
    obtain ⟨F1, F2, c1, c2, _, rfl, h1, h3, h2⟩ := h
    rcases List.mem_append.1 hu with hu | hu
    · exact e.one (X := []) (e.own_rd h3 (by simp)) u hu
    · exact ih h2 u hu
theorem ownAll_append {α : Type} {e : Enc α} {w : World} {xs ys : List α} : ∀ {F G : List Nat} {cs ds : List Value}, ownAll e w F xs cs → ownAll e w G ys ds → ownAll e w (F ++ G) (xs ++ ys) (cs ++ ds) := by
  induction xs with
  | nil => intro F G cs ds h hg; obtain ⟨rfl, rfl⟩ := h; exact hg
  | cons x xs ih =>
    intro F G cs ds h hg
    obtain ⟨F1, F2, c1, c2, rfl, rfl, h1, h3, h2⟩ := h
    exact ⟨F1, F2 ++ G, c1, c2 ++ ds, by simp, by simp, h1, h3, ih h2 hg⟩
theorem ownAll_len {α : Type} {e : Enc α} {w : World} {xs : List α} : ∀ {F : List Nat} {cs : List Value}, ownAll e w F xs cs → cs.length = xs.length * e.sz := by
  induction xs with
  | nil => intro F cs h; rw [h.2]; simp
  | cons x xs ih =>
    intro F cs h
    obtain ⟨F1, F2, c1, c2, _, rfl, h1, _, h2⟩ := h
    simp only [List.length_append, h1, ih h2, List.length_cons, Nat.add_mul]
    omega
theorem ownAll_loc {α : Type} {e : Enc α} {w w' : World} {xs : List α} : ∀ {F : List Nat} {cs : List Value}, ownAll e w F xs cs → (∀ b ∈ F, w'.heap[b]? = w.heap[b]?) → ownAll e w' F xs cs := by
  induction xs with
  | nil => intro F cs h _; exact h
  | cons x xs ih =>
    intro F cs h hb
    obtain ⟨F1, F2, c1, c2, rfl, hc, h1, h2, h3⟩ := h
    exact ⟨F1, F2, c1, c2, rfl, hc, h1, e.own_loc h2 (fun b hm => hb b (by simp [hm])), ih h3 (fun b hm => hb b (by simp [hm]))⟩
theorem ownAll_lt {α : Type} {e : Enc α} {w : World} {xs : List α} : ∀ {F : List Nat} {cs : List Value}, ownAll e w F xs cs → ∀ b ∈ F, b < w.heap.size := by
  induction xs with
  | nil => intro F cs h b hb; rw [h.1] at hb; cases hb
  | cons x xs ih =>
    intro F cs h b hb
    obtain ⟨F1, F2, c1, c2, rfl, hc, h1, h2, h3⟩ := h
    rcases List.mem_append.1 hb with hb | hb
    · exact e.own_lt h2 b hb
    · exact ih h3 b hb
theorem ownAll_rd {α : Type} {e : Enc α} {w : World} {X : List Nat} {xs : List α} : ∀ {F : List Nat} {cs : List Value}, ownAll e w F xs cs → (∀ b ∈ F, b ∉ X) →
    ∀ i x, xs[i]? = some x → ∃ ds, e.rd w X x ds ∧ ds.length = e.sz ∧ ∀ j v, ds[j]? = some v → cs[i * e.sz + j]? = some v := by
  induction xs with
  | nil => intro F cs h _ i x hx; simp at hx
  | cons y xs ih =>
    intro F cs h hX i x hx
    obtain ⟨F1, F2, c1, c2, rfl, rfl, h1, h2, h3⟩ := h
    cases i with
    | zero =>
      simp at hx; subst hx
      refine ⟨c1, e.own_rd h2 (fun b hb => hX b (by simp [hb])), h1, fun j v hv => ?_⟩
      simp only [Nat.zero_mul, Nat.zero_add]
      have hj : j < c1.length := (List.getElem?_eq_some_iff.1 hv).1
      rw [List.getElem?_append_left hj]; exact hv
    | succ i =>
      simp at hx
      obtain ⟨ds, hd, hl, hj⟩ := ih h3 (fun b hb => hX b (by simp [hb])) i x hx
      refine ⟨ds, hd, hl, fun j v hv => ?_⟩
      have := hj j v hv
      rw [List.getElem?_append_right (by rw [h1, Nat.add_mul]; omega)]
      rw [← this]; congr 1; rw [h1, Nat.add_mul]; omega
def eList {α : Type} (e : Enc α) (T : TypeId) : Enc (List α) where
  sz := 1
  rd := rdList e
  own := ownList e T
  rd_len := by rintro w X x cs ⟨a, cap, rfl, _⟩; rfl
  rd_loc := by
    rintro w w' X xs cs ⟨a, cap, rfl, h1, h2, h⟩ hb
    refine ⟨a, cap, rfl, h1, h2, fun hne => ?_⟩
    obtain ⟨p, rfl, hp⟩ := h hne
    refine ⟨p, rfl, fun i x hx => ?_⟩
    obtain ⟨ds, hd, hA⟩ := hp i x hx
    exact ⟨ds, e.rd_loc hd hb, hA.loc hb⟩
  rd_anti := by
    rintro w X X' xs cs ⟨a, cap, rfl, h1, h2, h⟩ hb
    refine ⟨a, cap, rfl, h1, h2, fun hne => ?_⟩
    obtain ⟨p, rfl, hp⟩ := h hne
    refine ⟨p, rfl, fun i x hx => ?_⟩
    obtain ⟨ds, hd, hA⟩ := hp i x hx
    exact ⟨ds, e.rd_anti hd hb, hA.anti hb⟩
  own_loc := by
    rintro w w' F xs cs h hb
    rcases h with h | ⟨b, cap, cur, F1, ds, rfl, hcs, hh, h1, h2, h3, h4, h5⟩
    · exact .inl h
    · exact .inr ⟨b, cap, cur, F1, ds, rfl, hcs, (hb b (by simp)).trans hh, h1, h2, h3, h4, ownAll_loc h5 (fun c hc => hb c (by simp [hc]))⟩
  own_rd := by
    rintro w F X xs cs h hX
    rcases h with ⟨rfl, rfl, rfl⟩ | ⟨b, cap, cur, F1, ds, rfl, rfl, hh, h1, h2, h3, h4, h5⟩
    · exact ⟨none, 0, rfl, by simp, by simp [maxLen], fun h => absurd rfl h⟩
    · refine ⟨_, cap, rfl, h1, h2, fun _ => ⟨_, rfl, fun i x hx => ?_⟩⟩
      obtain ⟨es, hd, hl, hj⟩ := ownAll_rd h5 (fun c hc => hX c (by simp [hc])) i x hx
      refine ⟨es, hd, fun _ => ?_, fun j v hv => ?_⟩
      · rw [add_block]; exact hX b (by simp)
      · rw [add_add, add_lit]
        have := hj j v hv
        rw [← h4, List.getElem?_take] at this
        split at this
        · rw [cell_of_row w b _ cur T (0, 0) hh]
          simpa using this
        · cases this
  own_lt := by
    rintro w F xs cs h c hc
    rcases h with ⟨rfl, rfl, rfl⟩ | ⟨b, cap, cur, F1, ds, rfl, rfl, hh, h1, h2, h3, h4, h5⟩
    · cases hc
    · cases hc with
      | head => exact (Array.getElem?_eq_some_iff.1 hh).1
      | tail _ hc => exact ownAll_lt h5 c hc
  one := by
    rintro w X x cs ⟨a, cap, rfl, _⟩ u hu
    rw [List.mem_singleton.1 hu]; rfl
def Res.own {α : Type} (e : Enc α) (F : List Nat) (x : α) (cs : List Value) : Res := ⟨F, fun w => e.own w F x cs, fun _ _ h ok => e.own_loc ok h⟩
/-- in every world of the class x can be read -/
def Rds {α : Type} (C : World → Prop) (e : Enc α) (x : α) (cs : List Value) : Prop := ∀ w, C w → e.rd w [] x cs
theorem Rds.bor {α : Type} {e : Enc α} {x : α} {cs : List Value} {w0 : World} {M : List Nat} {L : List Res} (h : e.rd w0 M x cs) : Rds (St w0 M L) e x cs :=
  fun _ hw => e.rd_anti (e.rd_loc h (fun b hb hm => hw.ext.block b hb hm)) (by simp)
end Go.Vk
