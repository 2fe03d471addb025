/- Arguments that are structs, opened. -/
import Derived.Test.YtddoligbabahbaaGreatVkO
import Derived.Test.YtddoligbabahbaaGreatVkK
namespace Go.Vk
open Go.RowKit Go.WideShapes Go.ChangeShapes Go.Deep
section
variable {H : Type} {enc : TypeId × Value → H} {P : Program}
/-- a struct's fields: type and offset -/
def fieldsOf (P : Program) (t : TypeId) : Option (List (TypeId × Nat)) :=
  match P.underlying t with
  | some (.struct fs) => some (fs.toList.map fun f => (f.type, f.offset))
  | _ => none
def OpnF {α : Type} (P : Program) (fs : List (TypeId × Nat)) (o : Nat) (e : Enc α) (Ok : α → Prop) : Prop :=
  ∀ {H : Type} {enc : TypeId × Value → H} {w : World} {sp : Nat → Bool} {cs : List Value}, cs.length = e.sz →
    (∀ f ∈ fs, o ≤ f.2 ∧ ∃ n x, DataW.trod enc P w 0 sp true n f.1 ((cs.drop (f.2 - o)).take (P.cellsOf f.1)) = some x) → ∃ a, e.rd w [] a cs ∧ Ok a
theorem opnF_one {α : Type} {t : TypeId} {o : Nat} {e : Enc α} {Ok : α → Prop} (he : Opn P t e Ok) (hc : P.cellsOf t = e.sz) : OpnF P [(t, o)] o e Ok := fun {H enc w sp cs} hl h => by
  obtain ⟨_, n, x, hx⟩ := h _ (List.mem_singleton.2 rfl)
  rw [Nat.sub_self, List.drop_zero, hc, List.take_of_length_le (by omega)] at hx
  exact he hx
theorem opnF_cons {α β : Type} {t : TypeId} {o : Nat} {fs : List (TypeId × Nat)} {e : Enc α} {Ok : α → Prop} {e2 : Enc β} {Ok2 : β → Prop} (he : Opn P t e Ok) (hc : P.cellsOf t = e.sz)
    (h2 : OpnF P fs (o + e.sz) e2 Ok2) (hf : (fs.all fun f => decide (o + e.sz ≤ f.2)) = true) : OpnF P ((t, o) :: fs) o (ePair e e2) (fun x => Ok x.1 ∧ Ok2 x.2) := fun {H enc w sp cs} hl h => by
  have hl' : cs.length = e.sz + e2.sz := hl
  obtain ⟨_, n, x, hx⟩ := h _ (List.mem_cons_self ..)
  rw [Nat.sub_self, List.drop_zero, hc] at hx
  obtain ⟨a, ha, hok⟩ := he hx
  obtain ⟨b, hb, hok2⟩ := h2 (enc := enc) (w := w) (sp := sp) (cs := cs.drop e.sz) (by simp; omega) (fun f hm => by
    have hle : o + e.sz ≤ f.2 := by simpa using List.all_eq_true.1 hf f hm
    obtain ⟨_, n, x, hx⟩ := h f (List.mem_cons_of_mem _ hm)
    refine ⟨hle, n, x, ?_⟩
    rw [List.drop_drop, show e.sz + (f.2 - (o + e.sz)) = f.2 - o by omega]
    exact hx)
  have := ePair_rd ha hb
  rw [List.take_append_drop] at this
  exact ⟨(a, b), this, hok, hok2⟩
theorem opn_struct {α : Type} {t : TypeId} {fs : List (TypeId × Nat)} {e : Enc α} {Ok : α → Prop} (hf : fieldsOf P t = some fs) (ho : OpnF P fs 0 e Ok) (hc : P.cellsOf t = e.sz) : Opn P t e Ok := fun {H enc w sp n cs x} h => by
  unfold fieldsOf at hf
  split at hf
  · rename_i gs hgs
    obtain rfl := Option.some.inj hf
    obtain ⟨xs, m, _, _, hl, hxl, hg⟩ := DataW.trod_struct hgs h
    refine ho (enc := enc) (sp := sp) (by rw [hl, hc]) fun f hm => ⟨Nat.zero_le _, m, ?_⟩
    obtain ⟨g, hgm, rfl⟩ := List.mem_map.1 hm
    obtain ⟨i, hi⟩ := List.mem_iff_getElem?.1 hgm
    have hi' : gs[i]? = some g := by simpa using hi
    have hlt : i < gs.size := (Array.getElem?_eq_some_iff.1 hi').1
    refine ⟨xs[i]'(by omega), ?_⟩
    have := hg i g hi'
    rw [List.getElem?_eq_getElem (by omega)] at this
    simpa using this
  · exact absurd hf (by simp)
theorem opn_iso {α β : Type} {t : TypeId} {e : Enc α} {Ok : α → Prop} {g : β → α} (he : Opn P t e Ok) (s : α → β) (hs : ∀ a, g (s a) = a) : Opn P t (eIso e g) (fun x => Ok (g x)) := fun {H enc w sp n cs x} h => by
  obtain ⟨a, ha, hok⟩ := he h
  exact ⟨s a, by show e.rd w [] (g (s a)) cs; rw [hs]; exact ha, by show Ok (g (s a)); rw [hs]; exact hok⟩
theorem opn_map {α β : Type} {t : TypeId} {e : Enc α} {Ok : α → Prop} {e' : Enc β} {Ok' : β → Prop} (he : Opn P t e Ok) (s : α → β) (hm : ∀ {w : World} {a : α} {cs : List Value}, e.rd w [] a cs → e'.rd w [] (s a) cs) (hk : ∀ {a}, Ok a → Ok' (s a)) : Opn P t e' Ok' := fun {H enc w sp n cs x} h => by
  obtain ⟨a, ha, hok⟩ := he h
  exact ⟨s a, hm ha, hk hok⟩
/-- an argument that is a struct -/
theorem arg_struct {α : Type} {e : Enc α} {Ok : α → Prop} {w : World} {r : Reach} {b0 : Nat} {t : TypeId} {fs : List (TypeId × Nat)} {v : Value} {d : DataW H} {ps : List MemPlace} (hf : fieldsOf P t = some fs) (ho : Opn P t e Ok)
    (h : Value.okWide P w r b0 t v) (hd : DataW.Trod enc P w 0 (fun _ => true) true t v d ps) : ∃ a cs, v = .agg cs.toArray ∧ e.rd w [] a cs ∧ Ok a := by
  unfold fieldsOf at hf
  split at hf
  · rename_i gs hgs
    obtain ⟨cs, rfl, _⟩ := okWide_struct hgs h
    obtain ⟨n, hd⟩ := hd
    obtain ⟨a, ha, hok⟩ := ho hd
    exact ⟨a, cs.toList, by simp, ha, hok⟩
  · exact absurd hf (by simp)
end
end Go.Vk
