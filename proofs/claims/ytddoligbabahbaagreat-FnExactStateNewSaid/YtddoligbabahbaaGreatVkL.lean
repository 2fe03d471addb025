/- Steps of the walk over structs, nested slices, callees that write. -/
import Derived.Test.YtddoligbabahbaaGreatVkK
import Derived.StillTail
namespace Go.Vk
open Go.RowKit
variable {P : Program} {n : Nat} {C : World → Prop} {E : Env} {m : Md} {l rest : List Oper} {w0 : World} {M : List Nat} {L : List Res} {Q : Exit → Act → World → Prop}
/-! ### the class opened where the walk stands -/
def Md.actual : Md → Bool
  | .any _ => false
  | _ => true
theorem ow_ex {X : Type} {D : X → World → Prop} (hm : m.actual = true) (h : ∀ w, C w → ∃ x, D x w) (k : ∀ x, OW P n l (D x) E m rest) : OW P n l C E m rest := by
  cases m with
  | lex Q => exact fun a w hF hC => by obtain ⟨x, hx⟩ := h w hC; exact k x a w hF hx
  | any K => cases hm
  | held S Q fl => exact fun s h1 h2 a w hF hC hS => by obtain ⟨x, hx⟩ := h w hC; exact k x s h1 h2 a w hF hx hS
theorem xw_ex {X : Type} {D : X → World → Prop} {c : Exit} (h : ∀ w, C w → ∃ x, D x w) (k : ∀ x, XW n (D x) E Q c) : XW n C E Q c := fun a w hF hC => by
  obtain ⟨x, hx⟩ := h w hC; exact k x a w hF hx
theorem ow_ex2 {X0 : Type} {X1 : Type} {D : X0 → X1 → World → Prop} (hm : m.actual = true) (h : ∀ w, C w → ∃ x0 x1, D x0 x1 w) (k : ∀ x0 x1, OW P n l (D x0 x1) E m rest) : OW P n l C E m rest := by
  cases m with
  | lex Q => exact fun a w hF hC => by obtain ⟨x0, x1, hx⟩ := h w hC; exact k x0 x1 a w hF hx
  | any K => cases hm
  | held S Q fl => exact fun s h1 h2 a w hF hC hS => by obtain ⟨x0, x1, hx⟩ := h w hC; exact k x0 x1 s h1 h2 a w hF hx hS
theorem ow_ex3 {X0 : Type} {X1 : Type} {X2 : Type} {D : X0 → X1 → X2 → World → Prop} (hm : m.actual = true) (h : ∀ w, C w → ∃ x0 x1 x2, D x0 x1 x2 w) (k : ∀ x0 x1 x2, OW P n l (D x0 x1 x2) E m rest) : OW P n l C E m rest := by
  cases m with
  | lex Q => exact fun a w hF hC => by obtain ⟨x0, x1, x2, hx⟩ := h w hC; exact k x0 x1 x2 a w hF hx
  | any K => cases hm
  | held S Q fl => exact fun s h1 h2 a w hF hC hS => by obtain ⟨x0, x1, x2, hx⟩ := h w hC; exact k x0 x1 x2 s h1 h2 a w hF hx hS
theorem ow_ex4 {X0 : Type} {X1 : Type} {X2 : Type} {X3 : Type} {D : X0 → X1 → X2 → X3 → World → Prop} (hm : m.actual = true) (h : ∀ w, C w → ∃ x0 x1 x2 x3, D x0 x1 x2 x3 w) (k : ∀ x0 x1 x2 x3, OW P n l (D x0 x1 x2 x3) E m rest) : OW P n l C E m rest := by
  cases m with
  | lex Q => exact fun a w hF hC => by obtain ⟨x0, x1, x2, x3, hx⟩ := h w hC; exact k x0 x1 x2 x3 a w hF hx
  | any K => cases hm
  | held S Q fl => exact fun s h1 h2 a w hF hC hS => by obtain ⟨x0, x1, x2, x3, hx⟩ := h w hC; exact k x0 x1 x2 x3 s h1 h2 a w hF hx hS
/-- a fact that holds in every world of the class, known to the walk from here on -/
theorem ow_fact {φ : Prop} (hm : m.actual = true) (h : ∀ w, C w → φ) (k : φ → OW P n l C E m rest) : OW P n l C E m rest := by
  cases m with
  | lex Q => exact fun a w hF hC => k (h w hC) a w hF hC
  | any K => cases hm
  | held S Q fl => exact fun s h1 h2 a w hF hC hS => k (h w hC) s h1 h2 a w hF hC hS
theorem ow_st {C' : World → Prop} (hm : m.actual = true) (h : ∀ w, C w → C' w) (k : OW P n l C' E m rest) : OW P n l C E m rest := by
  cases m with
  | lex Q => exact fun a w hF hC => k a w hF (h w hC)
  | any K => cases hm
  | held S Q fl => exact fun s h1 h2 a w hF hC hS => k s h1 h2 a w hF (h w hC) hS
theorem xw_st {C' : World → Prop} {c : Exit} (h : ∀ w, C w → C' w) (k : XW n C' E Q c) : XW n C E Q c := fun a w hF hC => k a w hF (h w hC)
/-- resources let go, their places kept; later ones dropped -/
def maskL : List Bool → List Res → List Res
  | true :: bs, r :: L => r :: maskL bs L
  | false :: bs, _ :: L => Res.nil :: maskL bs L
  | _, _ => []
theorem mask_foot : ∀ (bs : List Bool) (L : List Res), (foot (maskL bs L)).Sublist (foot L)
  | [], L => by unfold maskL; simp [foot]
  | true :: bs, [] => by unfold maskL; simp
  | false :: bs, [] => by unfold maskL; simp
  | true :: bs, r :: L => by rw [show maskL (true :: bs) (r :: L) = r :: maskL bs L from rfl, foot_cons, foot_cons]; exact List.Sublist.append (List.Sublist.refl _) (mask_foot bs L)
  | false :: bs, r :: L => by
    rw [show maskL (false :: bs) (r :: L) = Res.nil :: maskL bs L from rfl, foot_cons, foot_cons]
    exact (mask_foot bs L).trans (List.sublist_append_right _ _)
theorem mask_mem : ∀ (bs : List Bool) (L : List Res) {r : Res}, r ∈ maskL bs L → r ∈ L ∨ r = Res.nil
  | [], L, r, h => by unfold maskL at h; cases h
  | true :: bs, [], r, h => by unfold maskL at h; cases h
  | false :: bs, [], r, h => by unfold maskL at h; cases h
  | true :: bs, s :: L, r, h => by
    rw [show maskL (true :: bs) (s :: L) = s :: maskL bs L from rfl] at h
    cases h with
    | head => exact .inl (by simp)
    | tail _ h => rcases mask_mem bs L h with h1 | h1
                  · exact .inl (by simp [h1])
                  · exact .inr h1
  | false :: bs, s :: L, r, h => by
    rw [show maskL (false :: bs) (s :: L) = Res.nil :: maskL bs L from rfl] at h
    cases h with
    | head => exact .inr rfl
    | tail _ h => rcases mask_mem bs L h with h1 | h1
                  · exact .inl (by simp [h1])
                  · exact .inr h1
theorem St.mask {L' : List Res} {w : World} (bs : List Bool) (hL : maskL bs L = L') (h : St w0 M L w) : St w0 M L' w := by
  subst hL
  have hf := mask_foot bs L
  exact ⟨h.ext, fun r hr => h.ok' (mask_mem bs L hr), hf.nodup h.nd, fun b hb => h.lt b (hf.subset hb), fun b hb => h.new b (hf.subset hb)⟩
theorem St.push0 {w : World} (h : St w0 M L w) (r : Res) (hF : r.F = []) (ho : r.ok w) : St w0 M (L ++ [r]) w := by
  have := h.re [] [r] rfl (by rw [foot_one, hF]; exact List.Perm.refl _) (fun s hs => by rw [List.mem_singleton.1 hs]; exact ho)
  exact this
theorem St.pushNil {α : Type} {e : Enc α} {T : TypeId} {w : World} (h : St w0 M L w) : St w0 M (L ++ [Res.own (eList e T) [] [] [.slice none 0 0]]) w := h.push0 _ rfl own_nil
/-! ### a region whose head is quiet and whose tail comes in one order -/
section
variable {ops : Array Oper} {md : Region.Mode}
end
/-! ### an own slice with one element taken out -/
def holeOk {α : Type} (e : Enc α) (T : TypeId) (b cap : Nat) (xs : List α) (i : Nat) (G : List Nat) (c : List Value) (w : World) : Prop :=
  ∃ cur G1 G2 c1 c2, w.heap[b]? = some (.cells cur T (0, 0)) ∧ xs.length ≤ cap ∧ cap ≤ maxLen ∧ cur.size = cap * e.sz ∧ cur.toList.take (xs.length * e.sz) = c1 ++ (c ++ c2) ∧ c1.length = i * e.sz ∧ c.length = e.sz ∧ i < xs.length ∧
    G = G1 ++ G2 ∧ ownAll e w G1 (xs.take i) c1 ∧ ownAll e w G2 (xs.drop (i + 1)) c2
def Res.hole {α : Type} (e : Enc α) (T : TypeId) (b cap : Nat) (xs : List α) (i : Nat) (G : List Nat) (c : List Value) : Res :=
  ⟨b :: G, holeOk e T b cap xs i G c, fun w w' h ok => by
    obtain ⟨cur, G1, G2, c1, c2, h1, h2, h3, h4, h5, h6, h7, h8, rfl, h9, h10⟩ := ok
    exact ⟨cur, G1, G2, c1, c2, (h b (by simp)).trans h1, h2, h3, h4, h5, h6, h7, h8, rfl, ownAll_loc h9 (fun c hc => h c (by simp [hc])), ownAll_loc h10 (fun c hc => h c (by simp [hc]))⟩⟩
theorem ownAll_split {α : Type} {e : Enc α} {w : World} : ∀ {xs : List α} {F : List Nat} {cs : List Value} {i : Nat} {x : α}, ownAll e w F xs cs → xs[i]? = some x →
    ∃ G1 Fi G2 c1 ci c2, F = G1 ++ (Fi ++ G2) ∧ cs = c1 ++ (ci ++ c2) ∧ c1.length = i * e.sz ∧ ci.length = e.sz ∧ ownAll e w G1 (xs.take i) c1 ∧ e.own w Fi x ci ∧ ownAll e w G2 (xs.drop (i + 1)) c2
  | [], _, _, i, x, _, hx => by simp at hx
  | y :: xs, F, cs, 0, x, h, hx => by
    obtain ⟨F1, F2, c1, c2, rfl, rfl, h1, h2, h3⟩ := h
    simp at hx; subst hx
    exact ⟨[], F1, F2, [], c1, c2, rfl, rfl, by simp, h1, ⟨rfl, rfl⟩, h2, by simpa using h3⟩
  | y :: xs, F, cs, i + 1, x, h, hx => by
    obtain ⟨F1, F2, c1, c2, rfl, rfl, h1, h2, h3⟩ := h
    simp only [List.getElem?_cons_succ] at hx
    obtain ⟨G1, Fi, G2, d1, di, d2, rfl, rfl, k1, k2, k3, k4, k5⟩ := ownAll_split h3 hx
    refine ⟨F1 ++ G1, Fi, G2, c1 ++ d1, di, d2, by simp, by simp, ?_, k2, ⟨F1, G1, c1, d1, rfl, rfl, h1, h2, k3⟩, k4, by simpa using k5⟩
    rw [List.length_append, h1, k1, Nat.add_mul]; omega
theorem ownAll_join {α : Type} {e : Enc α} {w : World} {xs : List α} {i : Nat} {x : α} (hi : i < xs.length) {G1 Fi G2 : List Nat} {c1 ci c2 : List Value} (h1 : ownAll e w G1 (xs.take i) c1) (h2 : e.own w Fi x ci) (hl : ci.length = e.sz) (h3 : ownAll e w G2 (xs.drop (i + 1)) c2) :
    ownAll e w (G1 ++ (Fi ++ G2)) (xs.set i x) (c1 ++ (ci ++ c2)) := by
  rw [List.set_eq_take_append_cons_drop, if_pos hi]
  exact ownAll_append h1 ⟨Fi, G2, ci, c2, rfl, rfl, hl, h2, h3⟩
theorem foc {α : Type} {e : Enc α} {T : TypeId} {w : World} {F : List Nat} {xs : List α} {a : Option Addr} {nn c : Nat} {j : Int} {x : α} {r : Nat} (h : St w0 M L w) (hr : L[r]? = some (Res.own (eList e T) F xs [.slice a nn c])) (hj : idx xs j = some x) :
    ∃ (b : Nat) (G Fi : List Nat) (ci : List Value), (a = some ⟨b, 0, none⟩ ∧ nn = xs.length) ∧ St w0 M (nilAt L [r] ++ [Res.hole e T b c xs j.toNat G ci, Res.own e Fi x ci]) w := by
  obtain ⟨h0, hlt, hx⟩ := idx_some hj
  obtain ⟨hok, _, _⟩ := h.one hr
  rcases hok with ⟨rfl, _, _⟩ | ⟨b, cap, cur, F1, ds, rfl, hcs, hh, h1, h2, h3, h4, h5⟩
  · simp at hlt
  · simp only [List.cons.injEq, Value.slice.injEq, and_true] at hcs
    obtain ⟨rfl, rfl, rfl⟩ := hcs
    obtain ⟨G1, Fi, G2, c1, ci, c2, rfl, rfl, k1, k2, k3, k4, k5⟩ := ownAll_split h5 hx
    refine ⟨b, G1 ++ G2, Fi, ci, ⟨rfl, rfl⟩, h.re [r] _ rfl ?_ ?_⟩
    · have hs : selR L [r] = [Res.own (eList e T) (b :: (G1 ++ (Fi ++ G2))) xs [.slice (some ⟨b, 0, none⟩) xs.length c]] := by
        simp only [selR_cons, selR_nil, hr]
      rw [hs, foot_one]
      show (foot [Res.hole e T b c xs j.toNat (G1 ++ G2) ci, Res.own e Fi x ci]).Perm (b :: (G1 ++ (Fi ++ G2)))
      rw [foot_cons, foot_one]
      show (b :: ((G1 ++ G2) ++ Fi)).Perm (b :: (G1 ++ (Fi ++ G2)))
      refine List.Perm.cons _ ?_
      rw [List.append_assoc]
      exact List.Perm.append_left _ List.perm_append_comm
    · intro s hs
      simp only [List.mem_cons, List.not_mem_nil, or_false] at hs
      rcases hs with rfl | rfl
      · exact ⟨cur, G1, G2, c1, c2, hh, h1, h2, h3, h4, k1, k2, hlt, rfl, k3, k5⟩
      · exact k4
theorem unf {α : Type} {e : Enc α} {T : TypeId} {w : World} {b cap i : Nat} {xs : List α} {G Fi : List Nat} {c : List Value} {x' : α} {nn : Nat} {p q : Nat} (h : St w0 M L w) (hp : L[p]? = some (Res.hole e T b cap xs i G c)) (hq : L[q]? = some (Res.own e Fi x' c)) (hpq : nodB [p, q] = true) (hn : nn = xs.length) {a : Option Addr} (ha : a = some ⟨b, 0, none⟩) :
    ∃ F', St w0 M (nilAt L [p, q] ++ [Res.own (eList e T) F' (xs.set i x') [.slice a nn cap]]) w := by
  subst ha
  obtain ⟨cur, G1, G2, c1, c2, h1, h2, h3, h4, h5, h6, h7, h8, rfl, h9, h10⟩ := h.ok _ (List.mem_of_getElem? hp)
  have hx : e.own w Fi x' c := h.ok _ (List.mem_of_getElem? hq)
  have hs : selR L [p, q] = [Res.hole e T b cap xs i (G1 ++ G2) c, Res.own e Fi x' c] := by simp only [selR_cons, selR_nil, hp, hq]
  refine ⟨b :: (G1 ++ (Fi ++ G2)), h.re [p, q] _ hpq ?_ ?_⟩
  · rw [hs, foot_one, foot_cons, foot_one]
    show (b :: (G1 ++ (Fi ++ G2))).Perm (b :: ((G1 ++ G2) ++ Fi))
    refine List.Perm.cons _ ?_
    rw [List.append_assoc]
    exact List.Perm.append_left _ List.perm_append_comm
  · intro s hs
    rw [List.mem_singleton.1 hs]
    refine .inr ⟨b, cap, cur, _, _, rfl, by rw [hn, List.length_set], h1, by rw [List.length_set]; exact h2, h3, h4, by rw [List.length_set]; exact h5, ownAll_join h8 h9 hx h7 h10⟩
/-! ### opened data -/
theorem opn_sl {α : Type} {e : Enc α} {T : TypeId} {w : World} {F : List Nat} {xs : List α} {cs : List Value} {i : Nat} (h : St w0 M L w) (hi : L[i]? = some (Res.own (eList e T) F xs cs)) :
    ∃ (a : Option Addr) (c : Nat), cs = [.slice a xs.length c] ∧ St w0 M L w := by
  obtain ⟨a, c, hc⟩ := own_sl1 (h.ok _ (List.mem_of_getElem? hi))
  exact ⟨a, c, hc, h⟩
theorem opn_flat {α : Type} {f : α → List Value} {k : Nat} {hk : ∀ x, (f x).length = k} {h1 : ∀ x, ∀ u ∈ f x, u.oneCell' = true} {w : World} {F : List Nat} {x : α} {cs : List Value} {i : Nat} (h : St w0 M L w) (hi : L[i]? = some (Res.own (eFlat f k hk h1) F x cs)) :
    (F = [] ∧ cs = f x) := h.ok _ (List.mem_of_getElem? hi)
/-! ### cells of boxes and holes -/
theorem at_hole {α : Type} {e : Enc α} {T : TypeId} {S : World → Prop} {b cap i : Nat} {xs : List α} {G : List Nat} {c : List Value} (hr : ∀ w, S w → holeOk e T b cap xs i G c w) : ∀ w, S w → At w [] ⟨b, i * e.sz, none⟩ c := fun w hw => by
  obtain ⟨cur, G1, G2, c1, c2, h1, h2, h3, h4, h5, h6, h7, h8, _⟩ := hr w hw
  refine ⟨fun _ => by simp, fun j v hv => ?_⟩
  have hj : j < c.length := (List.getElem?_eq_some_iff.1 hv).1
  rw [add_lit, cell_of_row w b _ cur T (0, 0) h1]
  have hg : (c1 ++ (c ++ c2))[i * e.sz + j]? = some v := by
    rw [← h6, List.getElem?_append_right (by omega), show c1.length + j - c1.length = j by omega, List.getElem?_append_left hj]; exact hv
  rw [← h5, List.getElem?_take] at hg
  split at hg
  · simpa using hg
  · cases hg
theorem holeIn {α : Type} {e : Enc α} {T : TypeId} {b cap i : Nat} {xs : List α} {G : List Nat} {c : List Value} {p : Nat} (hr : L[p]? = some (Res.hole e T b cap xs i G c)) : ∀ w, St w0 M L w → holeOk e T b cap xs i G c w := fun _ hw => hw.ok _ (List.mem_of_getElem? hr)
theorem at_subA {S : World → Prop} {p : Addr} {cs ds : List Value} (h : ∀ w, S w → At w [] p cs) (o : Nat) (hd : (cs.drop o).take ds.length = ds) : ∀ w, S w → At w [] (p.add o) ds := fun w hw => at_sub (h w hw) o hd
theorem at_K {w : World} {X : List Nat} {p : Addr} {cs : List Value} (h : At w X p cs) (o k : Nat) : At w X (p.add o) ((cs.drop o).take k) := by
  refine ⟨fun hne => ?_, fun j v hv => ?_⟩
  · rw [add_block]
    refine h.1 (fun e => hne ?_)
    subst e; simp
  · rw [add_add]
    refine h.2 _ v ?_
    rw [List.getElem?_take] at hv
    split at hv
    · simpa using hv
    · cases hv
theorem at_KA {S : World → Prop} {p : Addr} {cs : List Value} (h : ∀ w, S w → At w [] p cs) (o k : Nat) : ∀ w, S w → At w [] (p.add o) ((cs.drop o).take k) := fun w hw => at_K (h w hw) o k
theorem at_castA {S : World → Prop} {p q : Addr} {cs : List Value} (h : ∀ w, S w → At w [] p cs) (hq : q = p) : ∀ w, S w → At w [] q cs := hq ▸ h
/-- into the element taken out -/
theorem ow_storeH {α : Type} {e : Enc α} {o : Oper} {t : TypeId} {x y : Operand} {q : Addr} {b cap i off : Nat} {v : Value} (vs : List Value) {agg : Bool} {sz by_ : Nat} {z : List Value} {p : Nat} {T : TypeId} {xs : List α} {G : List Nat} {c : List Value} (ho : o.op = .store t x y) (hm : m.here (o :: rest) = true) (hw : wt l E o.guard = some true) (hd : dstOk n o.dst = true)
    (hx : ev E x = some (.pointer (some q))) (hq : q = ⟨b, i * e.sz + off, none⟩) (hy : ev E y = some v) (ht : isTy P t agg sz by_ z) (hv : v.cells = vs.toArray) (hl : vs.length = sz) (h1 : ∀ u ∈ vs, u.oneCell' = true) (hr : L[p]? = some (Res.hole e T b cap xs i G c)) (hfit : Nat.ble (off + sz) e.sz = true) {c' : List Value} (hc' : splice c off vs = c')
    (hS : Kp m (St w0 M (L.set p (Res.hole e T b cap xs i G c')))) (hk : OW P n l (St w0 M (L.set p (Res.hole e T b cap xs i G c'))) (upd E o.dst undef) m rest) : OW P n l (St w0 M L) E m (o :: rest) :=
  ow_loud hm hw fun a w hF hC _ _ hK => by
    subst hq hc'
    obtain ⟨hok, hnd, hlt⟩ := hC.one hr
    obtain ⟨cur, G1, G2, c1, c2, hb, h2, h3, h4, h5, h6, h7, h8, rfl, h9, h10⟩ := hok
    have hfit' := Nat.le_of_ble_eq_true hfit
    have hpos : (i + 1) * e.sz ≤ xs.length * e.sz := Nat.mul_le_mul_right _ h8
    have hpos2 : xs.length * e.sz ≤ cap * e.sz := Nat.mul_le_mul_right _ h2
    rw [Nat.add_mul, Nat.one_mul] at hpos
    have hrun := run_storeAt ht hb hv hl (off := i * e.sz + off) (by omega) h1
    have hb1 : b ∉ G1 ++ G2 := by
      have := hnd
      simp only [Res.hole] at this
      exact (List.nodup_cons.1 this).1
    have hst : St w0 M (L.set p (Res.hole e T b cap xs i (G1 ++ G2) (splice c off vs))) (w.setRow b (splice cur.toList (i * e.sz + off) vs).toArray) := by
      refine hC.upd hr (Ext.mono (ext_setRow hb) (by simp [Res.hole])) _ ?_ hnd (fun d hd' => ⟨by have := hlt d hd'; simpa using this, .inl hd'⟩)
      refine ⟨_, G1, G2, c1, c2, setRow_heap w b _ _ T _ hb, h2, h3, ?_, ?_, h6, ?_, h8, rfl, ?_, ?_⟩
      · simp only [List.size_toArray]; rw [splice_len (by simp; omega)]; simpa using h4
      · have hcl : (cur.toList.take (xs.length * e.sz)).length = xs.length * e.sz := by simp; omega
        have hc2l : c1.length + (c.length + c2.length) = xs.length * e.sz := by rw [← hcl, h5]; simp
        have key : splice (cur.toList.take (xs.length * e.sz)) (i * e.sz + off) vs = c1 ++ (splice c off vs ++ c2) := by
          rw [h5]
          simp only [splice]
          have hA : i * e.sz + off = c1.length + off := by rw [h6]
          rw [hA, List.take_length_add_append, List.take_append_of_le_length (by omega), show c1.length + off + vs.length = c1.length + (off + vs.length) by omega, List.drop_length_add_append, List.drop_append_of_le_length (by omega)]
          simp [List.append_assoc]
        rw [← key]
        show (splice cur.toList (i * e.sz + off) vs).take (xs.length * e.sz) = _
        simp only [splice]
        rw [List.take_append, List.take_append, List.take_take, List.take_take, List.drop_take]
        have e1 : min (xs.length * e.sz) (i * e.sz + off) = i * e.sz + off := by omega
        have e2 : (cur.toList.take (i * e.sz + off)).length = i * e.sz + off := by simp; omega
        rw [e1, show min (i * e.sz + off) (xs.length * e.sz) = i * e.sz + off by omega, e2, List.take_of_length_le (l := vs) (by omega)]
        congr 2
        rw [List.length_append, e2]
      · rw [splice_len (by omega)]; exact h7
      · exact ownAll_loc h9 (fun d hd' => setRow_other w b d _ (fun e => hb1 (by rw [← e]; simp [hd'])))
      · exact ownAll_loc h10 (fun d hd' => setRow_other w b d _ (fun e => hb1 (by rw [← e]; simp [hd'])))
    refine upon_skip ?_ (hK _ _ _ _ hk (hF.put _ _ (dstOk_lt hd)) hst (hS _ hst))
    unfold execOp
    simp only [ho, hF.ev hx, hF.ev hy, Sem.run_bind, hrun]
    rfl
end Go.Vk
