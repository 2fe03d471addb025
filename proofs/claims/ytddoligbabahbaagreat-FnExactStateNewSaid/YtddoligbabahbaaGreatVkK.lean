/- Structs: flat data, pairs of data; resources arranged anew. -/
import Derived.Test.YtddoligbabahbaaGreatVkJ
namespace Go.Vk
open Go.RowKit
/-- a datum whose cells are known by its value -/
def eFlat {α : Type} (f : α → List Value) (k : Nat) (hk : ∀ x, (f x).length = k) (h1 : ∀ x, ∀ u ∈ f x, u.oneCell' = true) : Enc α where
  sz := k
  rd _ _ x cs := cs = f x
  own _ F x cs := F = [] ∧ cs = f x
  rd_len h := by rw [h]; exact hk _
  rd_loc h _ := h
  rd_anti h _ := h
  own_loc h _ := h
  own_rd h _ := h.2
  own_lt h b hb := by rw [h.1] at hb; cases hb
  one h u hu := by rw [h] at hu; exact h1 _ u hu
/-- two data one behind the other -/
def ePair {α β : Type} (e : Enc α) (f : Enc β) : Enc (α × β) where
  sz := e.sz + f.sz
  rd w X x cs := ∃ c1 c2, cs = c1 ++ c2 ∧ e.rd w X x.1 c1 ∧ f.rd w X x.2 c2
  own w F x cs := ∃ F1 F2 c1 c2, F = F1 ++ F2 ∧ cs = c1 ++ c2 ∧ e.own w F1 x.1 c1 ∧ f.own w F2 x.2 c2
  rd_len := by rintro w X x cs ⟨c1, c2, rfl, h1, h2⟩; rw [List.length_append, e.rd_len h1, f.rd_len h2]
  rd_loc := by rintro w w' X x cs ⟨c1, c2, rfl, h1, h2⟩ hb; exact ⟨c1, c2, rfl, e.rd_loc h1 hb, f.rd_loc h2 hb⟩
  rd_anti := by rintro w X X' x cs ⟨c1, c2, rfl, h1, h2⟩ hb; exact ⟨c1, c2, rfl, e.rd_anti h1 hb, f.rd_anti h2 hb⟩
  own_loc := by
    rintro w w' F x cs ⟨F1, F2, c1, c2, rfl, rfl, h1, h2⟩ hb
    exact ⟨F1, F2, c1, c2, rfl, rfl, e.own_loc h1 (fun b h => hb b (by simp [h])), f.own_loc h2 (fun b h => hb b (by simp [h]))⟩
  own_rd := by
    rintro w F X x cs ⟨F1, F2, c1, c2, rfl, rfl, h1, h2⟩ hb
    exact ⟨c1, c2, rfl, e.own_rd h1 (fun b h => hb b (by simp [h])), f.own_rd h2 (fun b h => hb b (by simp [h]))⟩
  own_lt := by
    rintro w F x cs ⟨F1, F2, c1, c2, rfl, rfl, h1, h2⟩ b hb
    rcases List.mem_append.1 hb with h | h
    · exact e.own_lt h1 b h
    · exact f.own_lt h2 b h
  one := by
    rintro w X x cs ⟨c1, c2, rfl, h1, h2⟩ u hu
    rcases List.mem_append.1 hu with h | h
    · exact e.one h1 u h
    · exact f.one h2 u h
theorem ePair_rd {α β : Type} {e : Enc α} {f : Enc β} {w : World} {X : List Nat} {x : α} {y : β} {c1 c2 : List Value} (h1 : e.rd w X x c1) (h2 : f.rd w X y c2) : (ePair e f).rd w X (x, y) (c1 ++ c2) := ⟨c1, c2, rfl, h1, h2⟩
theorem ePair_own {α β : Type} {e : Enc α} {f : Enc β} {w : World} {F1 F2 : List Nat} {x : α} {y : β} {c1 c2 : List Value} (h1 : e.own w F1 x c1) (h2 : f.own w F2 y c2) : (ePair e f).own w (F1 ++ F2) (x, y) (c1 ++ c2) := ⟨F1, F2, c1, c2, rfl, rfl, h1, h2⟩
/-- a datum read through another type -/
def eIso {α β : Type} (e : Enc α) (g : β → α) : Enc β where
  sz := e.sz
  rd w X x cs := e.rd w X (g x) cs
  own w F x cs := e.own w F (g x) cs
  rd_len h := e.rd_len h
  rd_loc h hb := e.rd_loc h hb
  rd_anti h hb := e.rd_anti h hb
  own_loc h hb := e.own_loc h hb
  own_rd h hb := e.own_rd h hb
  own_lt h := e.own_lt h
  one h := e.one h
theorem rd_sl1 {α : Type} {e : Enc α} {w : World} {X : List Nat} {xs : List α} {cs : List Value} (h : rdList e w X xs cs) : ∃ a cap, cs = [.slice a xs.length cap] := by
  obtain ⟨a, cap, hv, _⟩ := h
  exact ⟨a, cap, hv⟩
theorem own_sl1 {α : Type} {e : Enc α} {T : TypeId} {w : World} {F : List Nat} {xs : List α} {cs : List Value} (h : (eList e T).own w F xs cs) : ∃ a cap, cs = [.slice a xs.length cap] := rd_sl1 (e := e) ((eList e T).own_rd (X := []) h (by simp))
theorem own_n {α : Type} {e : Enc α} {T : TypeId} {w : World} {F : List Nat} {xs : List α} {a : Option Addr} {n c : Nat} (h : (eList e T).own w F xs [.slice a n c]) : n = xs.length := by
  obtain ⟨a', c', hv⟩ := own_sl1 h
  simp only [List.cons.injEq, Value.slice.injEq, and_true] at hv
  exact hv.2.1
theorem rd_n {α : Type} {e : Enc α} {w : World} {X : List Nat} {xs : List α} {a : Option Addr} {n c : Nat} (h : rdList e w X xs [.slice a n c]) : n = xs.length := by
  obtain ⟨a', c', hv⟩ := rd_sl1 h
  simp only [List.cons.injEq, Value.slice.injEq, and_true] at hv
  exact hv.2.1
theorem own_a {α : Type} {e : Enc α} {T : TypeId} {w : World} {F : List Nat} {xs : List α} {a : Option Addr} {n c : Nat} (h : (eList e T).own w F xs [.slice a n c]) (hne : xs ≠ []) : a.isNone = false := by
  rcases h with ⟨rfl, _, _⟩ | ⟨b, cap, cur, F1, ds, rfl, hcs, _⟩
  · exact absurd rfl hne
  · simp only [List.cons.injEq, Value.slice.injEq, and_true] at hcs
    rw [hcs.1]; rfl
theorem own_nS {α : Type} {e : Enc α} {T : TypeId} {w0 w : World} {M : List Nat} {L : List Res} {F : List Nat} {xs : List α} {a : Option Addr} {n c i : Nat} (h : St w0 M L w) (hi : L[i]? = some (Res.own (eList e T) F xs [.slice a n c])) : n = xs.length := own_n (h.ok _ (List.mem_of_getElem? hi))
theorem own_nn {α : Type} {e : Enc α} {T : TypeId} {w0 w : World} {M : List Nat} {L : List Res} {F : List Nat} {xs : List α} {a : Option Addr} {n c i : Nat} (h : St w0 M L w) (hi : L[i]? = some (Res.own (eList e T) F xs [.slice a n c])) (hne : xs ≠ []) : a.isNone = false := own_a (h.ok _ (List.mem_of_getElem? hi)) hne
section
variable {w0 : World} {M : List Nat} {L : List Res} {w : World}
/-! ### resources picked and let go by number -/
def getR : List Res → Nat → (Res → List Res) → List Res
  | [], _, k => k Res.nil
  | r :: _, 0, k => k r
  | _ :: L, i + 1, k => getR L i k
def selR (L : List Res) : List Nat → List Res
  | [] => []
  | i :: is => getR L i (fun r => r :: selR L is)
theorem getR_eq : ∀ (L : List Res) (i : Nat) (k : Res → List Res), getR L i k = k (match L[i]? with | some r => r | none => Res.nil)
  | [], i, k => by simp [getR]
  | r :: L, 0, k => by simp [getR]
  | r :: L, i + 1, k => by rw [getR, getR_eq L i k]; simp
theorem selR_nil (L : List Res) : selR L [] = [] := rfl
theorem selR_cons (L : List Res) (i : Nat) (is : List Nat) : selR L (i :: is) = (match L[i]? with | some r => r | none => Res.nil) :: selR L is := by rw [selR, getR_eq]
def nilAt (L : List Res) : List Nat → List Res
  | [] => L
  | i :: is => nilAt (L.set i Res.nil) is
def nodB : List Nat → Bool
  | [] => true
  | i :: is => is.all (fun j => !(Nat.beq i j)) && nodB is
theorem foot_set (L : List Res) (i : Nat) : (foot L).Perm ((match L[i]? with | some r => r | none => Res.nil).F ++ foot (L.set i Res.nil)) := by
  cases hi : L[i]? with
  | some r => exact foot_perm hi
  | none =>
    have hlen : L.length ≤ i := by simpa using hi
    rw [List.set_eq_of_length_le hlen]
    exact List.Perm.refl _
theorem sel_set {L : List Res} {i : Nat} : ∀ {is : List Nat}, is.all (fun j => !(Nat.beq i j)) = true → selR (L.set i Res.nil) is = selR L is
  | [], _ => rfl
  | j :: is, h => by
    simp only [List.all_cons, Bool.and_eq_true, Bool.not_eq_true'] at h
    have hne : i ≠ j := Nat.ne_of_beq_eq_false h.1
    rw [selR_cons, selR_cons, List.getElem?_set_ne hne, sel_set h.2]
theorem foot_nilAt : ∀ {is : List Nat} {L : List Res}, nodB is = true → (foot L).Perm (foot (selR L is) ++ foot (nilAt L is))
  | [], L, _ => List.Perm.refl _
  | i :: is, L, h => by
    simp only [nodB, Bool.and_eq_true] at h
    have h1 := foot_set L i
    have h2 := foot_nilAt (is := is) (L := L.set i Res.nil) h.2
    rw [sel_set h.1] at h2
    refine h1.trans ?_
    rw [selR_cons, foot_cons]
    show ((match L[i]? with | some r => r | none => Res.nil).F ++ foot (L.set i Res.nil)).Perm (((match L[i]? with | some r => r | none => Res.nil).F ++ foot (selR L is)) ++ foot (nilAt (L.set i Res.nil) is))
    rw [List.append_assoc]
    exact List.Perm.append_left _ h2
theorem mem_nilAt : ∀ {is : List Nat} {L : List Res} {r : Res}, r ∈ nilAt L is → r ∈ L ∨ r = Res.nil
  | [], _, _, h => .inl h
  | i :: is, L, r, h => by
    rcases mem_nilAt (is := is) h with h1 | h1
    · rcases List.mem_or_eq_of_mem_set h1 with h2 | h2
      · exact .inl h2
      · exact .inr h2
    · exact .inr h1
theorem mem_sel : ∀ {is : List Nat} {r : Res}, r ∈ selR L is → r ∈ L ∨ r = Res.nil
  | [], _, h => by cases h
  | i :: is, r, h => by
    rw [selR_cons] at h
    cases h with
    | head =>
      cases hi : L[i]? with
      | some r => exact .inl (List.mem_of_getElem? hi)
      | none => exact .inr rfl
    | tail _ h => exact mem_sel h
theorem St.ok' (h : St w0 M L w) {r : Res} (hr : r ∈ L ∨ r = Res.nil) : r.ok w := by
  rcases hr with hr | rfl
  · exact h.ok r hr
  · trivial
/-- the resources of the numbers idx are replaced by Rs, over the same blocks -/
theorem St.re (idx : List Nat) (Rs : List Res) (h : St w0 M L w) (hn : nodB idx = true) (hF : (foot Rs).Perm (foot (selR L idx))) (ho : ∀ r ∈ Rs, r.ok w) : St w0 M (nilAt L idx ++ Rs) w := by
  have hp : (foot L).Perm (foot (nilAt L idx ++ Rs)) := by
    rw [foot_append]
    refine (foot_nilAt hn).trans (List.perm_append_comm.trans ?_)
    exact List.Perm.append_left _ hF.symm
  refine ⟨h.ext, fun r hr => ?_, hp.nodup_iff.1 h.nd, fun b hb => h.lt b (hp.mem_iff.2 hb), fun b hb => h.new b (hp.mem_iff.2 hb)⟩
  rcases List.mem_append.1 hr with h1 | h1
  · exact h.ok' (mem_nilAt h1)
  · exact ho r h1
theorem St.sel (idx : List Nat) {L' : List Res} (hL : selR L idx = L') (hn : nodB idx = true) (h : St w0 M L w) : St w0 M L' w := by
  subst hL
  have hp := foot_nilAt (L := L) hn
  have hsub : ∀ b ∈ foot (selR L idx), b ∈ foot L := fun b hb => hp.mem_iff.2 (by simp [hb])
  refine ⟨h.ext, fun r hr => h.ok' (mem_sel hr), ?_, fun b hb => h.lt b (hsub b hb), fun b hb => h.new b (hsub b hb)⟩
  have := hp.nodup_iff.1 h.nd
  exact (List.nodup_append.1 this).1
/-- what a callee gets -/
theorem St.carve (idx : List Nat) {L' : List Res} (hL : selR L idx = L') (hn : nodB idx = true) (h : St w0 M L w) : St w (foot L') L' w := by
  have h' := h.sel idx hL hn
  exact ⟨Ext.refl _ _, h'.ok, h'.nd, h'.lt, fun b hb => .inr hb⟩
/-- what it gives back -/
theorem St.comp {Rs : List Res} {w' : World} (idx : List Nat) {L' : List Res} (hL : selR L idx = L') (hn : nodB idx = true) (h : St w0 M L w) (k : St w (foot L') Rs w') : St w0 M (nilAt L idx ++ Rs) w' := by
  subst hL
  have hp := foot_nilAt (L := L) hn
  have hnd := hp.nodup_iff.1 h.nd
  rw [List.nodup_append] at hnd
  obtain ⟨hS, hN, hSN⟩ := hnd
  have hsub : ∀ b ∈ foot (selR L idx), b ∈ foot L := fun b hb => hp.mem_iff.2 (by simp [hb])
  have hsubN : ∀ b ∈ foot (nilAt L idx), b ∈ foot L := fun b hb => hp.mem_iff.2 (by simp [hb])
  have hNx : ∀ b ∈ foot (nilAt L idx), b ∉ foot (selR L idx) := fun b hb hs => hSN b hs b hb rfl
  refine ⟨?_, ?_, ?_, ?_, ?_⟩
  · refine ⟨k.ext.os.trans h.ext.os, k.ext.tape.trans h.ext.tape, k.ext.output.trans h.ext.output, Nat.le_trans h.ext.size k.ext.size, fun b hb hm => ?_⟩
    have hbs : b ∉ foot (selR L idx) := fun hin => by
      rcases h.new b (hsub b hin) with h1 | h1
      · omega
      · exact hm h1
    exact (k.ext.block b (Nat.lt_of_lt_of_le hb h.ext.size) hbs).trans (h.ext.block b hb hm)
  · intro r hr
    rcases List.mem_append.1 hr with h1 | h1
    · exact r.loc w w' (fun b hb => k.ext.block b (h.lt b (hsubN b (mem_foot h1 hb))) (hNx b (mem_foot h1 hb))) (h.ok' (mem_nilAt h1))
    · exact k.ok r h1
  · rw [foot_append, List.nodup_append]
    refine ⟨hN, k.nd, fun a ha b hb e => ?_⟩
    subst e
    rcases k.new a hb with h1 | h1
    · have := h.lt a (hsubN a ha); omega
    · exact hNx a ha h1
  · intro b hb
    rw [foot_append] at hb
    rcases List.mem_append.1 hb with h1 | h1
    · exact Nat.lt_of_lt_of_le (h.lt b (hsubN b h1)) k.ext.size
    · exact k.lt b h1
  · intro b hb
    rw [foot_append] at hb
    rcases List.mem_append.1 hb with h1 | h1
    · exact h.new b (hsubN b h1)
    · rcases k.new b h1 with h2 | h2
      · exact .inl (Nat.le_trans h.ext.size h2)
      · exact h.new b (hsub b h2)
theorem St.app {Rs : List Res} {w' : World} (h : St w0 M L w) (k : St w [] Rs w') : St w0 M (L ++ Rs) w' := h.comp [] rfl rfl k
theorem foot_disj {L : List Res} (hnd : (foot L).Nodup) {i j : Nat} {r s : Res} (hij : i ≠ j) (hi : L[i]? = some r) (hj : L[j]? = some s) {b : Nat} (hb : b ∈ r.F) (hs : b ∈ s.F) : False := by
  have hp := (foot_perm hi).nodup_iff.1 hnd
  rw [List.nodup_append] at hp
  refine hp.2.2 b hb b ?_ rfl
  have hj' : (L.set i Res.nil)[j]? = some s := by rw [List.getElem?_set_ne hij]; exact hj
  exact mem_foot (List.mem_of_getElem? hj') hs
end
end Go.Vk
