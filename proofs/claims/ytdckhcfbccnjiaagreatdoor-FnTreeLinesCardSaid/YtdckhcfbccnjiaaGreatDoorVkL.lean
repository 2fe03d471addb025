/- Steps of the walk over structs, nested slices, callees that write. -/
import Derived.Test.YtdckhcfbccnjiaaGreatDoorVkG
import Derived.StillTail
import Derived.Laws.StructEq
import Derived.ChangeKeysEq
import Derived.MapKept
namespace Go.Vk
open Go.RowKit
variable {P : Program} {n : Nat} {C : World → Prop} {E : Env} {m : Md} {l rest : List Oper} {w0 : World} {M : List Nat} {L : List Res} {Q : Exit → Act → World → Prop}
def Md.actual : Md → Bool
  | .any _ => false
  | _ => true
theorem qB {X : Type} {D : X → World → Prop} (hm : m.actual = true) (h : ∀ w, C w → ∃ x, D x w) (k : ∀ x, OW P n l (D x) E m rest) : OW P n l C E m rest := by
  cases m with
  | lex Q => exact fun a w hF hC => by obtain ⟨x, hx⟩ := h w hC; exact k x a w hF hx
  | any K => cases hm
  | held S Q fl => exact fun s h1 h2 a w hF hC hS => by obtain ⟨x, hx⟩ := h w hC; exact k x s h1 h2 a w hF hx hS
theorem AN {X : Type} {D : X → World → Prop} {c : Code} (h : ∀ w, C w → ∃ x, D x w) (k : ∀ x, CW P n (D x) E Q c) : CW P n C E Q c := fun a w hF hC => by
  obtain ⟨x, hx⟩ := h w hC; exact k x a w hF hx
theorem gW {X : Type} {D : X → World → Prop} {c : Exit} (h : ∀ w, C w → ∃ x, D x w) (k : ∀ x, XW n (D x) E Q c) : XW n C E Q c := fun a w hF hC => by
  obtain ⟨x, hx⟩ := h w hC; exact k x a w hF hx
theorem wd {X0 : Type} {X1 : Type} {D : X0 → X1 → World → Prop} {c : Code} (h : ∀ w, C w → ∃ x0 x1, D x0 x1 w) (k : ∀ x0 x1, CW P n (D x0 x1) E Q c) : CW P n C E Q c := fun a w hF hC => by
  obtain ⟨x0, x1, hx⟩ := h w hC; exact k x0 x1 a w hF hx
theorem dH {X0 : Type} {X1 : Type} {X2 : Type} {D : X0 → X1 → X2 → World → Prop} (hm : m.actual = true) (h : ∀ w, C w → ∃ x0 x1 x2, D x0 x1 x2 w) (k : ∀ x0 x1 x2, OW P n l (D x0 x1 x2) E m rest) : OW P n l C E m rest := by
  cases m with
  | lex Q => exact fun a w hF hC => by obtain ⟨x0, x1, x2, hx⟩ := h w hC; exact k x0 x1 x2 a w hF hx
  | any K => cases hm
  | held S Q fl => exact fun s h1 h2 a w hF hC hS => by obtain ⟨x0, x1, x2, hx⟩ := h w hC; exact k x0 x1 x2 s h1 h2 a w hF hx hS
theorem mi {X0 : Type} {X1 : Type} {X2 : Type} {D : X0 → X1 → X2 → World → Prop} {c : Code} (h : ∀ w, C w → ∃ x0 x1 x2, D x0 x1 x2 w) (k : ∀ x0 x1 x2, CW P n (D x0 x1 x2) E Q c) : CW P n C E Q c := fun a w hF hC => by
  obtain ⟨x0, x1, x2, hx⟩ := h w hC; exact k x0 x1 x2 a w hF hx
theorem nB {X0 : Type} {X1 : Type} {X2 : Type} {X3 : Type} {D : X0 → X1 → X2 → X3 → World → Prop} (hm : m.actual = true) (h : ∀ w, C w → ∃ x0 x1 x2 x3, D x0 x1 x2 x3 w) (k : ∀ x0 x1 x2 x3, OW P n l (D x0 x1 x2 x3) E m rest) : OW P n l C E m rest := by
  cases m with
  | lex Q => exact fun a w hF hC => by obtain ⟨x0, x1, x2, x3, hx⟩ := h w hC; exact k x0 x1 x2 x3 a w hF hx
  | any K => cases hm
  | held S Q fl => exact fun s h1 h2 a w hF hC hS => by obtain ⟨x0, x1, x2, x3, hx⟩ := h w hC; exact k x0 x1 x2 x3 s h1 h2 a w hF hx hS
theorem qZ {X0 : Type} {X1 : Type} {X2 : Type} {X3 : Type} {D : X0 → X1 → X2 → X3 → World → Prop} {c : Code} (h : ∀ w, C w → ∃ x0 x1 x2 x3, D x0 x1 x2 x3 w) (k : ∀ x0 x1 x2 x3, CW P n (D x0 x1 x2 x3) E Q c) : CW P n C E Q c := fun a w hF hC => by
  obtain ⟨x0, x1, x2, x3, hx⟩ := h w hC; exact k x0 x1 x2 x3 a w hF hx
theorem cg {φ : Prop} (hm : m.actual = true) (h : ∀ w, C w → φ) (k : φ → OW P n l C E m rest) : OW P n l C E m rest := by
  cases m with
  | lex Q => exact fun a w hF hC => k (h w hC) a w hF hC
  | any K => cases hm
  | held S Q fl => exact fun s h1 h2 a w hF hC hS => k (h w hC) s h1 h2 a w hF hC hS
theorem ky {φ : Prop} {c : Code} (h : ∀ w, C w → φ) (k : φ → CW P n C E Q c) : CW P n C E Q c := fun a w hF hC => k (h w hC) a w hF hC
theorem eU {C' : World → Prop} (hm : m.actual = true) (h : ∀ w, C w → C' w) (k : OW P n l C' E m rest) : OW P n l C E m rest := by
  cases m with
  | lex Q => exact fun a w hF hC => k a w hF (h w hC)
  | any K => cases hm
  | held S Q fl => exact fun s h1 h2 a w hF hC hS => k s h1 h2 a w hF (h w hC) hS
theorem fo {C' : World → Prop} {c : Exit} (h : ∀ w, C w → C' w) (k : XW n C' E Q c) : XW n C E Q c := fun a w hF hC => k a w hF (h w hC)
def kJ : List Bool → List Res → List Res
  | true :: bs, r :: L => r :: kJ bs L
  | false :: bs, _ :: L => Res.nil :: kJ bs L
  | _, _ => []
theorem qT : ∀ (bs : List Bool) (L : List Res), (dr (kJ bs L)).Sublist (dr L)
  | [], L => by unfold kJ; simp [dr]
  | true :: bs, [] => by unfold kJ; simp
  | false :: bs, [] => by unfold kJ; simp
  | true :: bs, r :: L => by rw [show kJ (true :: bs) (r :: L) = r :: kJ bs L from rfl, ed, ed]; exact List.Sublist.append (List.Sublist.refl _) (qT bs L)
  | false :: bs, r :: L => by
    rw [show kJ (false :: bs) (r :: L) = Res.nil :: kJ bs L from rfl, ed, ed]
    exact (qT bs L).trans (List.sublist_append_right _ _)
theorem sO : ∀ (bs : List Bool) (L : List Res) {r : Res}, r ∈ kJ bs L → r ∈ L ∨ r = Res.nil
  | [], L, r, h => by unfold kJ at h; cases h
  | true :: bs, [], r, h => by unfold kJ at h; cases h
  | false :: bs, [], r, h => by unfold kJ at h; cases h
  | true :: bs, s :: L, r, h => by
    rw [show kJ (true :: bs) (s :: L) = s :: kJ bs L from rfl] at h
    cases h with
    | head => exact .inl (by simp)
    | tail _ h => rcases sO bs L h with h1 | h1
                  · exact .inl (by simp [h1])
                  · exact .inr h1
  | false :: bs, s :: L, r, h => by
    rw [show kJ (false :: bs) (s :: L) = Res.nil :: kJ bs L from rfl] at h
    cases h with
    | head => exact .inr rfl
    | tail _ h => rcases sO bs L h with h1 | h1
                  · exact .inl (by simp [h1])
                  · exact .inr h1
theorem St.mask {L' : List Res} {w : World} (bs : List Bool) (hL : kJ bs L = L') (h : St w0 M L w) : St w0 M L' w := by
  subst hL
  have hf := qT bs L
  exact ⟨h.ext, fun r hr => h.ok' (sO bs L hr), hf.nodup h.nd, fun b hb => h.lt b (hf.subset hb), fun b hb => h.new b (hf.subset hb)⟩
theorem St.push0 {w : World} (h : St w0 M L w) (r : Res) (hF : r.F = []) (ho : r.ok w) : St w0 M (L ++ [r]) w := by
  have := h.re [] [r] rfl (by rw [eK, hF]; exact List.Perm.refl _) (fun s hs => by rw [List.mem_singleton.1 hs]; exact ho)
  exact this
theorem St.pushNil {α : Type} {e : Enc α} {T : TypeId} {w : World} (h : St w0 M L w) : St w0 M (L ++ [Res.own (af e T) [] [] [.slice none 0 0]]) w := h.push0 _ rfl Ad
section
variable {ops : Array Oper} {md : Region.Mode}
def qA (P : Program) (md : Region.Mode) (ops : Array Oper) (C : World → Prop) (nn : Nat) (K : Array Bool → Act → Prop) : Nat → Array Bool → Act → Prop
  | 0, listed, a => K listed a
  | f + 1, listed, a =>
    Region.ready md ops listed ≠ [] ∧ ∀ i ∈ Region.ready md ops listed, i < nn ∧ qOp P ops C i (qA P md ops C nn K f (listed.setIfInBounds i true)) a
theorem po {nn g : Nat} {K : Array Bool → Act → Prop} {Q' : Exit → Act → World → Prop} (hL : ∀ listed a w, C w → K listed a → wpAny P md ops Q' g listed a w) :
    ∀ (f : Nat) (listed : Array Bool) (a : Act) (w : World), C w → qA P md ops C nn K f listed a → wpAny P md ops Q' (f + g) listed a w
  | 0, listed, a, w, hw, h => by rw [Nat.zero_add]; exact hL _ _ _ hw h
  | f + 1, listed, a, w, hw, h => by
    rw [show f + 1 + g = (f + g) + 1 by omega]
    exact ⟨fun h0 => absurd h0 h.1, fun i hi => wpOp_of_qOp hw (fun a' w' hw' h' => po hL f _ a' w' hw' h') (h.2 i hi).2⟩
theorem tm {nn i : Nat} {oi : Oper} {v : Value} {K : Array Bool → Act → Prop} (hi : ops[i]? = some oi) (hsel : ∀ (j : Nat) (o : Oper) cs b, ops[j]? = some o → o.op ≠ .select cs b)
    (hs : Region.sinkB md ops nn = true) (hc : Region.chainB md ops nn = true) (hn : nn < ops.size) (hin : i < nn)
    (hdone : ∀ listed a, K listed a → ∀ j ∈ Region.ready md ops listed, nn ≤ j) :
    ∀ (f : Nat) (listed : Array Bool) (a : Act), HeadInv md ops nn listed →
      (∀ j oj, ops[j]? = some oj → j ≠ i → listed.getD j true = false → (∀ e ∈ oj.after, Region.binds md e = true → e.on ≠ i) → oi.apart ops oj = true) →
      i ∈ Region.ready md ops listed → YieldsIn P ops C oi v a →
      qA P md ops C nn K f (listed.setIfInBounds i true) (a.put oi.dst v) → qA P md ops C nn K (f + 1) listed a := by
  intro f
  induction f with
  | zero =>
    intro listed a inv _ hr hy H
    have hun := (mem_ready.1 hr).1
    refine ⟨fun h => (by rw [h] at hr; cases hr), fun j hj => ?_⟩
    have hjn : j < nn := by
      rcases Nat.lt_or_ge j nn with h | h
      · exact h
      · exact absurd hj (tail_waits hs hc hn inv _ i rfl hin hun j h)
    refine ⟨hjn, ?_⟩
    by_cases hji : j = i
    · subst hji; exact hy.qOp hi H
    · have := hdone _ _ H j (ready_mono hj hji)
      omega
  | succ f ih =>
    intro listed a inv hfree hr hy H
    have hun := (mem_ready.1 hr).1
    refine ⟨fun h => (by rw [h] at hr; cases hr), fun j hj => ?_⟩
    have hjn : j < nn := by
      rcases Nat.lt_or_ge j nn with h | h
      · exact h
      · exact absurd hj (tail_waits hs hc hn inv _ i rfl hin hun j h)
    refine ⟨hjn, ?_⟩
    by_cases hji : j = i
    · subst hji; exact hy.qOp hi H
    · have h1 := (H.2 j (ready_mono hj hji)).2
      obtain ⟨hjun, oj, hoj, hall⟩ := mem_ready.1 hj
      have hnot : ∀ e ∈ oj.after, Region.binds md e = true → e.on ≠ i := fun e he hb heq => by
        have h1 := hall e he hb
        rw [heq, getD_both hun] at h1
        cases h1
      have h2 := qOp_put hoj (hfree j oj hoj hji hjun hnot) (fun cs b => hsel i oi cs b hi) (fun cs b => hsel j oj cs b hoj) hy h1
      have hfree' : ∀ k ok, ops[k]? = some ok → k ≠ i → (listed.setIfInBounds j true).getD k true = false →
          (∀ e ∈ ok.after, Region.binds md e = true → e.on ≠ i) → oi.apart ops ok = true := fun k ok hk hki hun hno => by
        refine hfree k ok hk hki ?_ hno
        by_cases hjk : j = k
        · subst hjk; exact hjun
        · rw [getD_set_ne true hjk] at hun; exact hun
      refine qOp_mono (fun a' h3 => ih (listed.setIfInBounds j true) a' (inv.set hj hjn) hfree' (ready_mono hr (Ne.symm hji)) h3.1 ?_) h2
      rw [Array.setIfInBounds_comm _ _ hji]
      exact h3.2
theorem rD {nn g : Nat} {Lq : Act → Prop} (hsel : Region.noSelect ops = true) (hs : Region.sinkB md ops nn = true) (hc : Region.chainB md ops nn = true) (hn : nn < ops.size) :
    ∀ (l : List Oper) (k : Nat) (listed : Array Bool) (a : Act), (∀ j, j < l.length → l[j]? = ops[k + j]?) → k + l.length = nn → HeadInv md ops nn listed →
    Region.lexHead md ops g l.length k listed = true → wpQuiet P ops C Lq l a →
    qA P md ops C nn (fun listed' a' => Region.seqB md ops g nn listed' = true ∧ Lq a') l.length listed a
  | [], k, listed, a, _, hk, _, hB, h => by
    have : k = nn := by simpa using hk
    subst this
    exact ⟨by simpa [Region.lexHead] using hB, h⟩
  | o :: l, k, listed, a, hl, hk, inv, hB, h => by
    have h0 : ops[k]? = some o := by simpa using (hl 0 (by simp)).symm
    simp only [List.length_cons, Region.lexHead, Bool.and_eq_true] at hB
    obtain ⟨⟨hr, hf⟩, hB'⟩ := hB
    have hkn : k < nn := by simp only [List.length_cons] at hk; omega
    have hr' : k ∈ Region.ready md ops listed := by simpa using hr
    have hst : qOp P ops C k (wpQuiet P ops C Lq l) a := by unfold qOp; simp only [h0]; exact h
    obtain ⟨v, hy, hK⟩ := yieldsIn_of_qOp h0 hst
    exact tm h0 (Region.noSelect_spec hsel) hs hc hn hkn (fun listed' a' hL => seqB_ready hL.1) l.length listed a inv (Region.free_spec h0 hf) hr' hy
      (rD hsel hs hc hn l (k + 1) _ _ (fun j hj => by have := hl (j + 1) (by simp; omega); simpa [Nat.add_assoc, Nat.add_comm 1 j] using this) (by simp only [List.length_cons] at hk; omega) (inv.set hr' hkn) hB' hK)
theorem pB {id : Nat} {a : Act} {w : World} {l : List Oper} (nn : Nat) (hm : P.follows .mixedOrders = true) (hB : Region.lexTailB .any l.toArray nn = true) (hC : C { w with drawn := w.drawn + 1 })
    (h : wpQuiet P l.toArray C (fun a' => ∀ w', C w' → wpList P l.toArray Q (l.drop nn) a' w') (l.take nn) a) : (Code.region id l.toArray true).wp P Q a w := by
  simp only [Region.lexTailB, Bool.and_eq_true, decide_eq_true_eq] at hB
  obtain ⟨⟨⟨⟨hsel, hn⟩, hs⟩, hc⟩, hlex⟩ := hB
  have hn' : nn < l.length := by simpa using hn
  have htl : (l.take nn).length = nn := by simp; omega
  have hdl : (l.drop nn).length = l.toArray.size - nn := by simp
  have inv0 : HeadInv .any l.toArray nn (Array.replicate l.toArray.size false) :=
    ⟨by simp, fun j oj _ hl => (by rw [getD_replicate_false] at hl; cases hl), fun t _ ht => getD_in (by simpa using ht) (getD_replicate_false _ _)⟩
  have H := rD (md := .any) (g := l.toArray.size - nn) hsel hs hc hn (l.take nn) 0 _ a (fun j hj => by
    have hj' : j < nn := by rw [htl] at hj; exact hj
    simp [hj']) (by simpa using htl) inv0 (by rw [htl]; exact hlex) h
  refine wp_region_any hm ?_
  have := po (C := C) (Q' := Q) (g := l.toArray.size - nn) (fun listed a' w' hw' hL => by
    have := wpAny_of_seq (md := .any) (Q' := Q) (l.drop nn) nn listed a' w' (fun j => by simp [List.getElem?_drop]) (by rw [hdl]; exact hL.1) (hL.2 w' hw')
    rwa [hdl] at this) _ _ _ _ hC H
  rw [htl, show nn + (l.toArray.size - nn) = l.toArray.size by omega] at this
  exact this
end
theorem oa {id : Nat} {l : List Oper} (nn : Nat) (hm : P.follows .mixedOrders = true) (hB : Region.lexTailB .any l.toArray nn = true)
    (h : OW P n l (St w0 M L) E (.any (fun E' => OW P n l (St w0 M L) E' (.lex Q) (l.drop nn))) (l.take nn)) : CW P n (St w0 M L) E Q (.region id l.toArray true) := fun a w hF hC =>
  pB (C := St w0 M L) nn hm hB hC.drew (by
    refine mx ?_ _ _ (h a hF)
    rintro a' ⟨E', hF', hK⟩ w' hC'
    exact hK a' w' hF' hC')
def uB {α : Type} (e : Enc α) (T : TypeId) (b cap : Nat) (xs : List α) (i : Nat) (G : List Nat) (c : List Value) (w : World) : Prop :=
  ∃ cur G1 G2 c1 c2, w.heap[b]? = some (.cells cur T (0, 0)) ∧ xs.length ≤ cap ∧ cap ≤ maxLen ∧ cur.size = cap * e.sz ∧ cur.toList.take (xs.length * e.sz) = c1 ++ (c ++ c2) ∧ c1.length = i * e.sz ∧ c.length = e.sz ∧ i < xs.length ∧
    G = G1 ++ G2 ∧ fw e w G1 (xs.take i) c1 ∧ fw e w G2 (xs.drop (i + 1)) c2
def Res.hole {α : Type} (e : Enc α) (T : TypeId) (b cap : Nat) (xs : List α) (i : Nat) (G : List Nat) (c : List Value) : Res :=
  ⟨b :: G, uB e T b cap xs i G c, fun w w' h ok => by
    obtain ⟨cur, G1, G2, c1, c2, h1, h2, h3, h4, h5, h6, h7, h8, rfl, h9, a⟩ := ok
    exact ⟨cur, G1, G2, c1, c2, (h b (by simp)).trans h1, h2, h3, h4, h5, h6, h7, h8, rfl, kC h9 (fun c hc => h c (by simp [hc])), kC a (fun c hc => h c (by simp [hc]))⟩⟩
theorem qx {α : Type} {e : Enc α} {w : World} : ∀ {xs : List α} {F : List Nat} {cs : List Value} {i : Nat} {x : α}, fw e w F xs cs → xs[i]? = some x →
    ∃ G1 Fi G2 c1 ci c2, F = G1 ++ (Fi ++ G2) ∧ cs = c1 ++ (ci ++ c2) ∧ c1.length = i * e.sz ∧ ci.length = e.sz ∧ fw e w G1 (xs.take i) c1 ∧ e.own w Fi x ci ∧ fw e w G2 (xs.drop (i + 1)) c2
  | [], _, _, i, x, _, hx => by simp at hx
  | y :: xs, F, cs, 0, x, h, hx => by
    obtain ⟨F1, F2, c1, c2, rfl, rfl, h1, h2, h3⟩ := h
    simp at hx; subst hx
    exact ⟨[], F1, F2, [], c1, c2, rfl, rfl, by simp, h1, ⟨rfl, rfl⟩, h2, by simpa using h3⟩
  | y :: xs, F, cs, i + 1, x, h, hx => by
    obtain ⟨F1, F2, c1, c2, rfl, rfl, h1, h2, h3⟩ := h
    simp only [List.getElem?_cons_succ] at hx
    obtain ⟨G1, Fi, G2, d1, di, d2, rfl, rfl, k1, k2, k3, k4, k5⟩ := qx h3 hx
    refine ⟨F1 ++ G1, Fi, G2, c1 ++ d1, di, d2, by simp, by simp, ?_, k2, ⟨F1, G1, c1, d1, rfl, rfl, h1, h2, k3⟩, k4, by simpa using k5⟩
    rw [List.length_append, h1, k1, Nat.add_mul]; omega
theorem uT {α : Type} {e : Enc α} {w : World} {xs : List α} {i : Nat} {x : α} (hi : i < xs.length) {G1 Fi G2 : List Nat} {c1 ci c2 : List Value} (h1 : fw e w G1 (xs.take i) c1) (h2 : e.own w Fi x ci) (hl : ci.length = e.sz) (h3 : fw e w G2 (xs.drop (i + 1)) c2) :
    fw e w (G1 ++ (Fi ++ G2)) (xs.set i x) (c1 ++ (ci ++ c2)) := by
  rw [List.set_eq_take_append_cons_drop, if_pos hi]
  exact pU h1 ⟨Fi, G2, ci, c2, rfl, rfl, hl, h2, h3⟩
theorem foc {α : Type} {e : Enc α} {T : TypeId} {w : World} {F : List Nat} {xs : List α} {a : Option Addr} {nn c : Nat} {j : Int} {x : α} {r : Nat} (h : St w0 M L w) (hr : L[r]? = some (Res.own (af e T) F xs [.slice a nn c])) (hj : idx xs j = some x) :
    ∃ (b : Nat) (G Fi : List Nat) (ci : List Value), (a = some ⟨b, 0, none⟩ ∧ nn = xs.length) ∧ St w0 M (kH L [r] ++ [Res.hole e T b c xs j.toNat G ci, Res.own e Fi x ci]) w := by
  obtain ⟨h0, hlt, hx⟩ := dg hj
  obtain ⟨hok, _, _⟩ := h.one hr
  rcases hok with ⟨rfl, _, _⟩ | ⟨b, cap, cur, F1, ds, rfl, hcs, hh, h1, h2, h3, h4, h5⟩
  · simp at hlt
  · simp only [List.cons.injEq, Value.slice.injEq, and_true] at hcs
    obtain ⟨rfl, rfl, rfl⟩ := hcs
    obtain ⟨G1, Fi, G2, c1, ci, c2, rfl, rfl, k1, k2, k3, k4, k5⟩ := qx h5 hx
    refine ⟨b, G1 ++ G2, Fi, ci, ⟨rfl, rfl⟩, h.re [r] _ rfl ?_ ?_⟩
    · have hs : jr L [r] = [Res.own (af e T) (b :: (G1 ++ (Fi ++ G2))) xs [.slice (some ⟨b, 0, none⟩) xs.length c]] := by
        simp only [iU, mU, hr]
      rw [hs, eK]
      show (dr [Res.hole e T b c xs j.toNat (G1 ++ G2) ci, Res.own e Fi x ci]).Perm (b :: (G1 ++ (Fi ++ G2)))
      rw [ed, eK]
      show (b :: ((G1 ++ G2) ++ Fi)).Perm (b :: (G1 ++ (Fi ++ G2)))
      refine List.Perm.cons _ ?_
      rw [List.append_assoc]
      exact List.Perm.append_left _ List.perm_append_comm
    · intro s hs
      simp only [List.mem_cons, List.not_mem_nil, or_false] at hs
      rcases hs with rfl | rfl
      · exact ⟨cur, G1, G2, c1, c2, hh, h1, h2, h3, h4, k1, k2, hlt, rfl, k3, k5⟩
      · exact k4
theorem unf {α : Type} {e : Enc α} {T : TypeId} {w : World} {b cap i : Nat} {xs : List α} {G Fi : List Nat} {c : List Value} {x' : α} {nn : Nat} {p q : Nat} (h : St w0 M L w) (hp : L[p]? = some (Res.hole e T b cap xs i G c)) (hq : L[q]? = some (Res.own e Fi x' c)) (hpq : pK [p, q] = true) (hn : nn = xs.length) {a : Option Addr} (ha : a = some ⟨b, 0, none⟩) :
    ∃ F', St w0 M (kH L [p, q] ++ [Res.own (af e T) F' (xs.set i x') [.slice a nn cap]]) w := by
  subst ha
  obtain ⟨cur, G1, G2, c1, c2, h1, h2, h3, h4, h5, h6, h7, h8, rfl, h9, d⟩ := h.ok _ (List.mem_of_getElem? hp)
  have hx : e.own w Fi x' c := h.ok _ (List.mem_of_getElem? hq)
  have hs : jr L [p, q] = [Res.hole e T b cap xs i (G1 ++ G2) c, Res.own e Fi x' c] := by simp only [iU, mU, hp, hq]
  refine ⟨b :: (G1 ++ (Fi ++ G2)), h.re [p, q] _ hpq ?_ ?_⟩
  · rw [hs, eK, ed, eK]
    show (b :: (G1 ++ (Fi ++ G2))).Perm (b :: ((G1 ++ G2) ++ Fi))
    refine List.Perm.cons _ ?_
    rw [List.append_assoc]
    exact List.Perm.append_left _ List.perm_append_comm
  · intro s hs
    rw [List.mem_singleton.1 hs]
    refine .inr ⟨b, cap, cur, _, _, rfl, by rw [hn, List.length_set], h1, by rw [List.length_set]; exact h2, h3, h4, by rw [List.length_set]; exact h5, uT h8 h9 hx h7 d⟩
theorem wh {α : Type} {e : Enc α} {T : TypeId} {w : World} {F : List Nat} {xs : List α} {cs : List Value} {i : Nat} (h : St w0 M L w) (hi : L[i]? = some (Res.own (af e T) F xs cs)) :
    ∃ (a : Option Addr) (c : Nat), cs = [.slice a xs.length c] ∧ St w0 M L w := by
  obtain ⟨a, c, hc⟩ := ox (h.ok _ (List.mem_of_getElem? hi))
  exact ⟨a, c, hc, h⟩
theorem wX {α : Type} {e : Enc α} {T : TypeId} {S : World → Prop} {b cap i : Nat} {xs : List α} {G : List Nat} {c : List Value} (hr : ∀ w, S w → uB e T b cap xs i G c w) : ∀ w, S w → At w [] ⟨b, i * e.sz, none⟩ c := fun w hw => by
  obtain ⟨cur, G1, G2, c1, c2, h1, h2, h3, h4, h5, h6, h7, h8, _⟩ := hr w hw
  refine ⟨fun _ => by simp, fun j v hv => ?_⟩
  have hj : j < c.length := (List.getElem?_eq_some_iff.1 hv).1
  rw [dG, cell_of_row w b _ cur T (0, 0) h1]
  have hg : (c1 ++ (c ++ c2))[i * e.sz + j]? = some v := by
    rw [← h6, List.getElem?_append_right (by omega), show c1.length + j - c1.length = j by omega, List.getElem?_append_left hj]; exact hv
  rw [← h5, List.getElem?_take] at hg
  split at hg
  · simpa using hg
  · cases hg
theorem gp {α : Type} {e : Enc α} {T : TypeId} {b cap i : Nat} {xs : List α} {G : List Nat} {c : List Value} {p : Nat} (hr : L[p]? = some (Res.hole e T b cap xs i G c)) : ∀ w, St w0 M L w → uB e T b cap xs i G c w := fun _ hw => hw.ok _ (List.mem_of_getElem? hr)
theorem wH {S : World → Prop} {p : Addr} {cs ds : List Value} (h : ∀ w, S w → At w [] p cs) (o : Nat) (hd : (cs.drop o).take ds.length = ds) : ∀ w, S w → At w [] (p.add o) ds := fun w hw => BE (h w hw) o hd
theorem lk {w : World} {X : List Nat} {p : Addr} {cs : List Value} (h : At w X p cs) (o k : Nat) : At w X (p.add o) ((cs.drop o).take k) := by
  refine ⟨fun hne => ?_, fun j v hv => ?_⟩
  · rw [lz]
    refine h.1 (fun e => hne ?_)
    subst e; simp
  · rw [eg]
    refine h.2 _ v ?_
    rw [List.getElem?_take] at hv
    split at hv
    · simpa using hv
    · cases hv
theorem CX {S : World → Prop} {p : Addr} {cs : List Value} (h : ∀ w, S w → At w [] p cs) (o k : Nat) : ∀ w, S w → At w [] (p.add o) ((cs.drop o).take k) := fun w hw => lk (h w hw) o k
theorem mH {S : World → Prop} {p q : Addr} {cs : List Value} (h : ∀ w, S w → At w [] p cs) (hq : q = p) : ∀ w, S w → At w [] q cs := hq ▸ h
theorem fQ {α : Type} {e : Enc α} {o : Oper} {t : TypeId} {x y : Operand} {q : Addr} {b cap i off : Nat} {v : Value} (vs : List Value) {agg : Bool} {sz by_ : Nat} {z : List Value} {p : Nat} {T : TypeId} {xs : List α} {G : List Nat} {c : List Value} (ho : o.op = .store t x y) (hm : m.here (o :: rest) = true) (hw : wt l E o.guard = some true) (hd : gI n o.dst = true)
    (hx : ev E x = some (.pointer (some q))) (hq : q = ⟨b, i * e.sz + off, none⟩) (hy : ev E y = some v) (ht : fp P t agg sz by_ z) (hv : v.cells = vs.toArray) (hl : vs.length = sz) (h1 : ∀ u ∈ vs, u.oneCell' = true) (hr : L[p]? = some (Res.hole e T b cap xs i G c)) (hfit : Nat.ble (off + sz) e.sz = true) {c' : List Value} (hc' : fK c off vs = c')
    (hS : Kp m (St w0 M (L.set p (Res.hole e T b cap xs i G c')))) (hk : OW P n l (St w0 M (L.set p (Res.hole e T b cap xs i G c'))) (upd E o.dst undef) m rest) : OW P n l (St w0 M L) E m (o :: rest) :=
  kR hm hw fun a w hF hC _ _ hK => by
    subst hq hc'
    obtain ⟨hok, hnd, hlt⟩ := hC.one hr
    obtain ⟨cur, G1, G2, c1, c2, hb, h2, h3, h4, h5, h6, h7, h8, rfl, h9, f⟩ := hok
    have hfit' := Nat.le_of_ble_eq_true hfit
    have hpos : (i + 1) * e.sz ≤ xs.length * e.sz := Nat.mul_le_mul_right _ h8
    have hpos2 : xs.length * e.sz ≤ cap * e.sz := Nat.mul_le_mul_right _ h2
    rw [Nat.add_mul, Nat.one_mul] at hpos
    have hrun := pC ht hb hv hl (off := i * e.sz + off) (by omega) h1
    have hb1 : b ∉ G1 ++ G2 := by
      have := hnd
      simp only [Res.hole] at this
      exact (List.nodup_cons.1 this).1
    have hst : St w0 M (L.set p (Res.hole e T b cap xs i (G1 ++ G2) (fK c off vs))) (w.setRow b (fK cur.toList (i * e.sz + off) vs).toArray) := by
      refine hC.upd hr (Ext.mono (pZ hb) (by simp [Res.hole])) _ ?_ hnd (fun d hd' => ⟨by have := hlt d hd'; simpa using this, .inl hd'⟩)
      refine ⟨_, G1, G2, c1, c2, setRow_heap w b _ _ T _ hb, h2, h3, ?_, ?_, h6, ?_, h8, rfl, ?_, ?_⟩
      · simp only [List.size_toArray]; rw [oA (by simp; omega)]; simpa using h4
      · have hcl : (cur.toList.take (xs.length * e.sz)).length = xs.length * e.sz := by simp; omega
        have hc2l : c1.length + (c.length + c2.length) = xs.length * e.sz := by rw [← hcl, h5]; simp
        have key : fK (cur.toList.take (xs.length * e.sz)) (i * e.sz + off) vs = c1 ++ (fK c off vs ++ c2) := by
          rw [h5]
          simp only [fK]
          have hA : i * e.sz + off = c1.length + off := by rw [h6]
          rw [hA, List.take_length_add_append, List.take_append_of_le_length (by omega), show c1.length + off + vs.length = c1.length + (off + vs.length) by omega, List.drop_length_add_append, List.drop_append_of_le_length (by omega)]
          simp [List.append_assoc]
        rw [← key]
        show (fK cur.toList (i * e.sz + off) vs).take (xs.length * e.sz) = _
        simp only [fK]
        rw [List.take_append, List.take_append, List.take_take, List.take_take, List.drop_take]
        have e1 : min (xs.length * e.sz) (i * e.sz + off) = i * e.sz + off := by omega
        have e2 : (cur.toList.take (i * e.sz + off)).length = i * e.sz + off := by simp; omega
        rw [e1, show min (i * e.sz + off) (xs.length * e.sz) = i * e.sz + off by omega, e2, List.take_of_length_le (l := vs) (by omega)]
        congr 2
        rw [List.length_append, e2]
      · rw [oA (by omega)]; exact h7
      · exact kC h9 (fun d hd' => setRow_other w b d _ (fun e => hb1 (by rw [← e]; simp [hd'])))
      · exact kC f (fun d hd' => setRow_other w b d _ (fun e => hb1 (by rw [← e]; simp [hd'])))
    refine qX ?_ (hK _ _ _ _ hk (hF.put _ _ (ax hd)) hst (hS _ hst))
    unfold execOp
    simp only [ho, hF.ev hx, hF.ev hy, Sem.run_bind, hrun]
    rfl
end Go.Vk
/- Flat structs in slices, elements moved, calls with state, results in cells. -/
namespace Go.Vk
open Go.RowKit
variable {P : Program} {n : Nat} {C : World → Prop} {E : Env} {m : Md} {l rest : List Oper} {w0 : World} {M : List Nat} {L : List Res} {Q : Exit → Act → World → Prop}
theorem bq {α : Type} {e : Enc α} {o : Oper} {t et : TypeId} {x i : Operand} {agg : Bool} {sz by_ : Nat} {z : List Value} {xs : List α} {k : IntKind} {j : Int} {y : α} {a : Option Addr} {nn cap : Nat}
    (ho : o.op = .indexAddr t x i) (hw : wt l E o.guard = some true) (hd : gI n o.dst = true) (hx : ev E x = some (.slice a nn cap)) (hi : ev E i = some (.int k j)) (ht : isSl P t et) (he : fp P et agg sz by_ z) (_hsz : e.sz = sz)
    (hS : ∀ w, m.cls C w → ig e w [] xs [.slice a nn cap]) (hj : idx xs j = some y) {q : Addr} (hq : q = sf a (j.toNat * sz))
    (hk : OW P n l C (upd E o.dst (.pointer (some q))) m rest) : OW P n l C E m (o :: rest) := by
  subst hq
  obtain ⟨h0, hl, h2⟩ := dg hj
  refine vD hw (ax hd) (v := .pointer (some (sf a (j.toNat * sz)))) (fun fr hF w hw' => ?_) hk
  obtain ⟨a', cap', hv, _, _, hel⟩ := hS w hw'
  simp only [List.cons.injEq, Value.slice.injEq, and_true] at hv
  obtain ⟨rfl, rfl, rfl⟩ := hv
  obtain ⟨p, rfl, hp⟩ := hel (fun e => by subst e; simp at hl)
  unfold execOp
  simp only [ho, hF.ev hx, hF.ev hi, Sem.run_bind, nu ht he p xs.length cap k j h0 hl w, sf, Option.getD_some]
  rfl
theorem nh {α : Type} {e : Enc α} {S : World → Prop} {xs : List α} {a : Option Addr} {nn cap : Nat} {j : Int} {y : α} {cs : List Value} (hS : ∀ w, S w → ig e w [] xs [.slice a nn cap]) (hj : idx xs j = some y) (hc : ∀ w ds, e.rd w [] y ds → ds = cs) :
    ∀ w, S w → At w [] (sf a (j.toNat * e.sz)) cs := fun w hw => by
  obtain ⟨h0, hl, h2⟩ := dg hj
  obtain ⟨a', cap', hv, _, _, hel⟩ := hS w hw
  simp only [List.cons.injEq, Value.slice.injEq, and_true] at hv
  obtain ⟨rfl, rfl, rfl⟩ := hv
  obtain ⟨p, rfl, hp⟩ := hel (fun e => by subst e; simp at hl)
  obtain ⟨ds, hd, hA⟩ := hp _ y h2
  rw [← hc w ds hd]
  exact hA
theorem ii {α : Type} {e : Enc α} {o : Oper} {t et : TypeId} {x i : Operand} {agg : Bool} {sz by_ : Nat} {z : List Value} {k : IntKind} {j : Int} {nn b cap cap' : Nat} {a : Option Addr} {T : TypeId} {xs : List α} {G : List Nat} {c : List Value}
    (ho : o.op = .indexAddr t x i) (hw : wt l E o.guard = some true) (hd : gI n o.dst = true) (hx : ev E x = some (.slice a nn cap')) (hi : ev E i = some (.int k j)) (ht : isSl P t et) (he : fp P et agg sz by_ z) (_hsz : e.sz = sz)
    (hS : ∀ w, m.cls C w → uB e T b cap xs j.toNat G c w) (hnn : nn = xs.length) (ha : a = some ⟨b, 0, none⟩) (h0 : 0 ≤ j)
    (hk : OW P n l C (upd E o.dst (.pointer (some ⟨b, j.toNat * sz, none⟩))) m rest) : OW P n l C E m (o :: rest) := by
  subst ha
  refine vD hw (ax hd) (v := .pointer (some ⟨b, j.toNat * sz, none⟩)) (fun fr hF w hw' => ?_) hk
  obtain ⟨cur, G1, G2, c1, c2, _, _, _, _, _, _, _, hlt, _⟩ := hS w hw'
  have hr := nu (P := P) ht he ⟨b, 0, none⟩ nn cap' k j h0 (by omega) w
  rw [dG, Nat.zero_add] at hr
  unfold execOp
  simp only [ho, hF.ev hx, hF.ev hi, Sem.run_bind, hr]
  rfl
theorem bC {α : Type} {val : α → Value} {h1 : ∀ x, (val x).oneCell' = true} {S : World → Prop} {xs : List α} {a : Option Addr} {nn cap : Nat} {j : Int} {y : α} (hS : ∀ w, S w → ig (jf val h1) w [] xs [.slice a nn cap]) (hj : idx xs j = some y) :
    ∀ w, S w → At w [] (sf a j.toNat) [val y] := fun w hw => by
  have := nh (e := jf val h1) hS hj (cs := [val y]) (fun _ _ h => h) w hw
  rwa [show (jf val h1).sz = 1 from rfl, Nat.mul_one] at this
def oS (a : Option Addr) (cap i sz : Nat) : Option Addr := if cap = i then a else a.map (·.add (i * sz))
theorem xV {α : Type} {e : Enc α} {S : World → Prop} {xs ys : List α} {a : Option Addr} {nn cap : Nat} {i j : Int} (hS : ∀ w, S w → ig e w [] xs [.slice a nn cap]) (h : sub xs i j = some ys) :
    ∀ w, S w → ig e w [] ys [.slice (oS a cap i.toNat e.sz) ys.length (cap - i.toNat)] := fun w hw => by
  obtain ⟨h0, h1, h2, rfl⟩ := pc h
  obtain ⟨a', cap', hv, hle, hc, hel⟩ := hS w hw
  simp only [List.cons.injEq, Value.slice.injEq, and_true] at hv
  obtain ⟨rfl, rfl, rfl⟩ := hv
  refine ⟨_, cap - i.toNat, rfl, by simp only [List.length_take, List.length_drop]; omega, by omega, fun hne => ?_⟩
  have hxs : xs ≠ [] := fun e => by subst e; simp at hne
  obtain ⟨p, rfl, hp⟩ := hel hxs
  have hlt : i.toNat < cap := by
    have : 0 < ((xs.drop i.toNat).take (j.toNat - i.toNat)).length := List.length_pos_iff.2 hne
    simp only [List.length_take, List.length_drop] at this; omega
  unfold oS
  rw [if_neg (by omega)]
  refine ⟨p.add (i.toNat * e.sz), rfl, fun q x hq => ?_⟩
  rw [List.getElem?_take] at hq
  split at hq
  · rw [List.getElem?_drop] at hq
    obtain ⟨ds, hd', hA⟩ := hp _ x hq
    refine ⟨ds, hd', ?_⟩
    have hmul : i.toNat * e.sz + q * e.sz = (i.toNat + q) * e.sz := by rw [Nat.add_mul]
    rw [eg, hmul]
    exact hA
  · cases hq
theorem sn {α : Type} {e : Enc α} {o : Oper} {t et : TypeId} {x : Operand} {lo hi : Option Operand} {xs ys : List α} {a : Option Addr} {nn cap : Nat} {i j : Int} {agg : Bool} {sz by_ : Nat} {z : List Value} (ho : o.op = .slice t x lo hi none) (hw : wt l E o.guard = some true) (hd : gI n o.dst = true) (hx : ev E x = some (.slice a nn cap)) (ht : isSl P t et) (he : fp P et agg sz by_ z) (_hsz : e.sz = sz)
    (hi' : bnd E lo 0 = some i) (hj' : bnd E hi nn = some j) (h : sub xs i j = some ys) (hr : ∀ w, m.cls C w → ig e w [] xs [.slice a nn cap]) (hk : OW P n l C (upd E o.dst (.slice (oS a cap i.toNat sz) ys.length (cap - i.toNat))) m rest) : OW P n l C E m (o :: rest) := by
  obtain ⟨h0, h1, h2, rfl⟩ := pc h
  obtain ⟨ti, zv, hti, hs, _, _, _⟩ := he.info
  have ht' : P.underlying t = some (.slice et) := ht
  have hylen : ((xs.drop i.toNat).take (j.toNat - i.toNat)).length = j.toNat - i.toNat := by simp; omega
  refine vD hw (ax hd) (v := .slice (oS a cap i.toNat sz) ((xs.drop i.toNat).take (j.toNat - i.toNat)).length (cap - i.toNat)) (fun fr hF w hw' => ?_) hk
  obtain ⟨a', cap', hv, hle, hc, hel⟩ := hr w hw'
  simp only [List.cons.injEq, Value.slice.injEq, and_true] at hv
  obtain ⟨rfl, rfl, rfl⟩ := hv
  have hlo : (lo.map fr.eval = none ∧ i = 0) ∨ ∃ k, lo.map fr.eval = some (.int k i) := by
    rcases rg hF hi' with ⟨rfl, rfl⟩ | ⟨y, k, rfl, hy⟩
    · exact .inl ⟨rfl, rfl⟩
    · exact .inr ⟨k, by simp [hy]⟩
  have hhi : (hi.map fr.eval = none ∧ j = xs.length) ∨ ∃ k, hi.map fr.eval = some (.int k j) := by
    rcases rg hF hj' with ⟨rfl, rfl⟩ | ⟨y, k, rfl, hy⟩
    · exact .inl ⟨rfl, rfl⟩
    · exact .inr ⟨k, by simp [hy]⟩
  have hb := qj (P := P) (isSl := true) (len := xs.length) (cap := cap) hlo hhi h0 h1 h2 hle (fun h => by cases h) w
  unfold execOp
  simp [ho, hF.ev hx, Instr.sliceAt, Instr.slice, run_underlying ht', hb, sizeOf, typeInfo, hti, hs, oS, hylen]
theorem eG {α : Type} {xs zs : List α} {y : α} {ys : List α} (h : app xs (y :: ys) = some zs) : zs ≠ [] := by
  rw [(qG h).1]; simp
theorem zW {o : Oper} {t et u : TypeId} {x : Operand} {a : Option Addr} {nn cap : Nat} {b : Bool} (ho : o.op = .binOp .eql t x (.const (.slice none 0 0)) u) (hx : ev E x = some (.slice a nn cap)) (ht : isSl P t et) (hb : a.isNone = b) : Ry P n C E o (.bool b) := hb ▸ BH ho hx ht
def fsB (P : Program) (s : TypeId) (tab : List (Nat × Nat)) : Bool :=
  match P.underlying s with
  | some (.struct fs) => (match fs.toList.mapM (fun f => (P.info? f.type).map fun i => (f.offset, i.size)) with | some t => t == tab | none => false)
  | _ => false
theorem kv {s : TypeId} {tab : List (Nat × Nat)} (h : fsB P s tab = true) : qd P s tab := by
  unfold fsB at h
  split at h
  · rename_i fs hu
    refine ⟨fs, hu, ?_⟩
    split at h
    · rename_i t ht
      rw [ht]; simp only [beq_iff_eq] at h; rw [h]
    · cases h
  · cases h
theorem bI {o : Oper} {t : TypeId} {ps : List (Nat × Operand)} {vs : List Value} (qs : List (Nat × List Value)) (cs : List Value) {tab : List (Nat × Nat)} {sz by_ : Nat} {z : List Value} (ho : o.op = .build t ps.toArray) (hx : evs E (ps.map (·.2)) = some vs)
    (ht : fp P t true sz by_ z) (hs : qd P t tab) (hz : z.length = sz) (hp : sW (tab.toArray[·]?) sz ((ps.map (·.1)).zip vs) qs) (hl : tl z qs = cs) : Ry P n C E o (.agg cs.toArray) := hl ▸ zA qs ho hx ht hs hz hp
theorem br {S : World → Prop} {fl : List (Nat × Bool)} {l : List Oper} {o : Oper} {rest : List Oper} {v : Value} (hw : wt l E o.guard = some true) (hd : ∀ t, o.dst = some t → t < n) (hq : Ry P n S E o v)
    (h : OW P n l C (upd E o.dst v) (.held S Q fl) rest) : OW P n l C E (.held S Q fl) (o :: rest) := vD (m := .held S Q fl) hw hd hq h
theorem nC {α : Type} {e : Enc α} {o : Oper} {t : TypeId} {x : Operand} {q : Addr} {b cap i : Nat} {T : TypeId} {xs : List α} {G : List Nat} {c : List Value} {v : Value} {sz by_ : Nat} {z : List Value} (p off : Nat) (hr : L[p]? = some (Res.hole e T b cap xs i G c)) (ho : o.op = .load t x) (hx : ev E x = some (.pointer (some q)))
    (ht : fp P t false sz by_ z) (hq : q = ⟨b, i * e.sz + off, none⟩) (hv : c[off]? = some v) : Ry P n (St w0 M L) E o v :=
  aF ho hx ht (by
    subst hq
    have h1 := wH (wX (gp (w0 := w0) (M := M) hr)) off (ds := [v]) (by
      obtain ⟨h1, h2⟩ := List.getElem?_eq_some_iff.1 hv
      rw [List.drop_eq_getElem_cons h1, h2]; rfl)
    rwa [dG] at h1)
theorem zo {α : Type} {e : Enc α} {o : Oper} {t : TypeId} {x : Operand} {q : Addr} {b cap i : Nat} {T : TypeId} {xs : List α} {G : List Nat} {c : List Value} (ds : List Value) {sz by_ : Nat} {z : List Value} (p off : Nat) (hr : L[p]? = some (Res.hole e T b cap xs i G c)) (ho : o.op = .load t x) (hx : ev E x = some (.pointer (some q)))
    (ht : fp P t true sz by_ z) (hq : q = ⟨b, i * e.sz + off, none⟩) (hv : (c.drop off).take ds.length = ds) (hl : ds.length = sz) : Ry P n (St w0 M L) E o (.agg ds.toArray) :=
  cV ho hx ht (by
    subst hq
    have h1 := wH (wX (gp (w0 := w0) (M := M) hr)) off (ds := ds) hv
    rwa [dG] at h1) hl
theorem bo {o : Oper} {t : TypeId} {x y : Operand} {b off : Nat} {v : Value} (vs : List Value) (cs' : List Value) {agg : Bool} {sz by_ : Nat} {z : List Value} {i : Nat} {T : TypeId} {cs : List Value} (ho : o.op = .store t x y) (hm : m.here (o :: rest) = true) (hw : wt l E o.guard = some true) (hd : gI n o.dst = true)
    (hx : ev E x = some (.pointer (some ⟨b, off, none⟩))) (hy : ev E y = some v) (ht : fp P t agg sz by_ z) (hv : v.cells = vs.toArray) (hl : vs.length = sz) (h1 : ∀ u ∈ vs, u.oneCell' = true) (hr : L[i]? = some (Res.box b T cs)) (hfit : Nat.ble (off + sz) cs.length = true) (hc : fK cs off vs = cs')
    (hS : Kp m (St w0 M (L.set i (Res.box b T cs')))) (hk : OW P n l (St w0 M (L.set i (Res.box b T cs'))) (upd E o.dst undef) m rest) : OW P n l (St w0 M L) E m (o :: rest) := by
  subst hc
  exact yT vs ho hm hw hd hx hy ht hv hl h1 hr hfit hS hk
section
variable {α : Type} {f : α → List Value} {k : Nat} {hk : ∀ x, (f x).length = k} {h1 : ∀ x, ∀ u ∈ f x, u.oneCell' = true}
theorem oo {w : World} : ∀ (ys : List α), fw (kG f k hk h1) w [] ys (ys.flatMap f)
  | [] => ⟨rfl, rfl⟩
  | y :: ys => ⟨[], [], f y, ys.flatMap f, rfl, rfl, hk y, ⟨rfl, rfl⟩, oo ys⟩
theorem xt {w : World} {X : List Nat} {xs : List α} {p : Addr} {nn cap : Nat} (h : ig (kG f k hk h1) w X xs [.slice (some p) nn cap]) : nn = xs.length ∧ At w X p (xs.flatMap f) := by
  obtain ⟨a, cap', hv, hle, hc, hel⟩ := h
  simp only [List.cons.injEq, Value.slice.injEq, and_true] at hv
  obtain ⟨rfl, rfl, rfl⟩ := hv
  refine ⟨rfl, ?_⟩
  by_cases hne : xs = []
  · subst hne
    exact ⟨fun h => absurd rfl h, fun j v hv => by simp at hv⟩
  · obtain ⟨q, hq, hp⟩ := hel hne
    cases hq
    have hfl : ∀ (ys : List α) (o : Nat), (∀ i x, ys[i]? = some x → ∃ ds, (kG f k hk h1).rd w X x ds ∧ At w X (p.add ((o + i) * k)) ds) → ∀ j v, (ys.flatMap f)[j]? = some v → p.block ∉ X ∧ w.cell? (p.add (o * k + j)) = some v := by
      intro ys
      induction ys with
      | nil => intro o _ j v hv; simp at hv
      | cons y ys ih =>
        intro o hel j v hv
        rw [List.flatMap_cons] at hv
        by_cases hj : j < (f y).length
        · rw [List.getElem?_append_left hj] at hv
          obtain ⟨ds, hd, hA⟩ := hel 0 y rfl
          have hd' : ds = f y := hd
          subst hd'
          have h2 := hA.2 j v hv
          have h3 := hA.1 (fun e => by rw [e] at hv; simp at hv)
          rw [lz] at h3
          rw [eg, Nat.add_zero] at h2
          exact ⟨h3, h2⟩
        · rw [List.getElem?_append_right (by omega)] at hv
          have := ih (o + 1) (fun i x hx => by
            have := hel (i + 1) x (by simpa using hx)
            rwa [show o + (i + 1) = o + 1 + i by omega] at this) _ v hv
          rw [hk y] at this hj
          refine ⟨this.1, ?_⟩
          rw [← this.2]; congr 2
          rw [Nat.add_mul]; omega
    have hall := hfl xs 0 (fun i x hx => by have := hp i x hx; rwa [show (0 + i) * k = i * (kG f k hk h1).sz by rw [Nat.zero_add]; rfl])
    refine ⟨fun hne2 => ?_, fun j v hv => by have := (hall j v hv).2; simpa using this⟩
    obtain ⟨v, hv⟩ : ∃ v, (xs.flatMap f)[0]? = some v := by cases hx : xs.flatMap f with | nil => exact absurd hx hne2 | cons v _ => exact ⟨v, rfl⟩
    exact (hall 0 v hv).1
theorem za {b : Nat} {T : TypeId} {w : World} (xs : List α) (hl : xs.length ≤ maxLen) (h : (Res.box b T (xs.flatMap f)).ok w) :
    (Res.own (af (kG f k hk h1) T) [b] xs [.slice (some ⟨b, 0, none⟩) xs.length xs.length]).ok w := by
  have hlen : ∀ ys : List α, (ys.flatMap f).length = ys.length * k := by
    intro ys
    induction ys with
    | nil => simp
    | cons y ys ih => rw [List.flatMap_cons, List.length_append, hk, ih, List.length_cons, Nat.add_mul]; omega
  refine .inr ⟨b, xs.length, _, [], xs.flatMap f, rfl, rfl, h, Nat.le_refl _, hl, ?_, ?_, oo xs⟩
  · simp only [List.size_toArray]; exact hlen xs
  · exact List.take_of_length_le (by simp only [hlen]; exact Nat.le_refl _)
theorem qF {o : Oper} {t et : TypeId} {len : Nat} {ps : List (Nat × Operand)} {vs : List Value} (xs : List α) (qs : List (Nat × List Value)) {agg : Bool} {sz by_ : Nat} {z : List Value} (ho : o.op = .buildSlice t len ps.toArray) (hm : m.here (o :: rest) = true) (hw : wt l E o.guard = some true) (hd : gI n o.dst = true)
    (hx : evs E (ps.map (·.2)) = some vs) (ht : isSl P t et) (he : fp P et agg sz by_ z) (hpos : Nat.blt 0 (len * sz) = true) (hsm : Nat.ble (len * sz) 16777216 = true) (hsm2 : Nat.ble len 16777216 = true) (hlen : xs.length = len)
    (hp : sW (fun i => some (i * sz, sz)) (len * sz) ((ps.map (·.1)).zip vs) qs) (hds : tl ((List.range (len * sz)).map fun i => z[i % z.length]!) qs = xs.flatMap f)
    (hS : ∀ b, Kp m (St w0 M (L ++ [Res.own (af (kG f k hk h1) et) [b] xs [.slice (some ⟨b, 0, none⟩) xs.length len]])))
    (hk' : ∀ b, OW P n l (St w0 M (L ++ [Res.own (af (kG f k hk h1) et) [b] xs [.slice (some ⟨b, 0, none⟩) xs.length len]])) (upd E o.dst (.slice (some ⟨b, 0, none⟩) xs.length len)) m rest) : OW P n l (St w0 M L) E m (o :: rest) := by
  have hst : ∀ b w, St w0 M (L ++ [Res.box b et (xs.flatMap f)]) w → St w0 M (L ++ [Res.own (af (kG f k hk h1) et) [b] xs [.slice (some ⟨b, 0, none⟩) xs.length len]]) w := fun b w h => by
    have hi : (L ++ [Res.box b et (xs.flatMap f)])[L.length]? = some (Res.box b et (xs.flatMap f)) := by simp
    have := h.recast (r' := Res.own (af (kG f k hk h1) et) [b] xs [.slice (some ⟨b, 0, none⟩) xs.length len]) hi rfl (fun ho => by
      have hmx : xs.length ≤ maxLen := by
        rw [hlen]; have := Nat.le_of_ble_eq_true hsm2; simp only [maxLen]; omega
      have := za (hk := hk) (h1 := h1) xs hmx ho
      rwa [← hlen])
    simpa using this
  subst hlen
  refine il qs ho hm hw hd hx ht he hpos hsm hp _ hds (fun b w hw' => hS b w (hst b w hw')) (fun b => ?_)
  have := hk' b
  cases m with
  | lex Q => exact fun a w hF hC => this a w hF (hst b w hC)
  | any K => cases hm
  | held S Q fl => exact fun s h1 h2 a w hF hC => this s h1 h2 a w hF (hst b w hC)
theorem pE {o : Oper} {t et : TypeId} {x y : Operand} {agg : Bool} {sz by_ : Nat} {z : List Value} {r : Nat} {F : List Nat} {xs ys zs : List α} {a : Option Addr} {nn cap : Nat} {a2 : Option Addr} {n2 cap2 : Nat}
    (ho : o.op = .call { callee := .builtin .append, args := #[x, y], argTypes := #[t, t] }) (hm : m.here (o :: rest) = true) (hw : wt l E o.guard = some true) (hd : gI n o.dst = true) (hx : ev E x = some (.slice a nn cap)) (hy : ev E y = some (.slice a2 n2 cap2))
    (ht : isSl P t et) (he : fp P et agg sz by_ z) (hby : Nat.ble by_ 2048 = true) (hsz : k = sz) (hpos : Nat.blt 0 sz = true) (hzl : z.length = sz) (hr : L[r]? = some (Res.own (af (kG f k hk h1) et) F xs [.slice a nn cap])) (hA : ∀ w, St w0 M L w → ig (kG f k hk h1) w [] ys [.slice a2 n2 cap2]) (hz : app xs ys = some zs)
    (hS : ∀ a' c' F', Kp m (St w0 M (L.set r (Res.own (af (kG f k hk h1) et) F' zs [.slice a' zs.length c']))))
    (hk' : ∀ a' c' F', OW P n l (St w0 M (L.set r (Res.own (af (kG f k hk h1) et) F' zs [.slice a' zs.length c']))) (upd E o.dst (.slice a' zs.length c')) m rest) : OW P n l (St w0 M L) E m (o :: rest) := by
  obtain ⟨rfl, hlen⟩ := qG hz
  refine kR hm hw fun fr w hF hC _ _ hK => ?_
  obtain ⟨hok, hnd, hlt⟩ := hC.one hr
  have hr2 := hA w hC
  obtain ⟨i, zv, hi, hs, hb, hzv, hzc⟩ := he.info
  have fin : ∀ v' w' F', (Builtin.append_ #[t, t] o.type #[.slice a nn cap, .slice a2 n2 cap2]).run P w = .ok v' w' → lQ (kG f k hk h1) et w' F' (xs ++ ys) [v'] → Ext F w w' → F'.Nodup → (∀ b ∈ F', b < w'.heap.size ∧ (b ∈ F ∨ w.heap.size ≤ b)) →
      o.wp P fr w _ m.ends := fun v' w' F' hrun hown hext hnd' hF' => by
    obtain ⟨a', c', hv, _⟩ := (af (kG f k hk h1) et).own_rd (X := []) hown (by simp)
    simp only [List.cons.injEq, and_true] at hv
    subst hv
    have hst : St w0 M (L.set r (Res.own (af (kG f k hk h1) et) F' (xs ++ ys) [.slice a' (xs ++ ys).length c'])) w' := hC.upd hr hext _ hown hnd' hF'
    refine nF ?_ (hK _ _ _ _ (hk' a' c' F') (hF.put _ _ (ax hd)) hst (hS a' c' F' _ hst))
    unfold execOp
    simp only [ho, resolve, invoke, builtin, Sem.run_bind, Sem.run_pure, Result.andThen_ok, List.map_toArray, List.map_cons, List.map_nil, hF.ev hx, hF.ev hy, hrun]
  cases a2 with
  | none =>
    have hys : ys = [] ∧ n2 = 0 := by
      obtain ⟨a', cap', hv, _, _, hel⟩ := hr2
      simp only [List.cons.injEq, Value.slice.injEq, and_true] at hv
      obtain ⟨rfl, rfl, rfl⟩ := hv
      by_cases hne : ys = []
      · subst hne; exact ⟨rfl, rfl⟩
      · obtain ⟨p, hp, _⟩ := hel hne; cases hp
    obtain ⟨rfl, rfl⟩ := hys
    have hle : nn ≤ cap := by
      obtain ⟨a', cap', hv, h2, _⟩ := (af (kG f k hk h1) et).own_rd (X := []) hok (by simp)
      simp only [List.cons.injEq, Value.slice.injEq, and_true] at hv
      obtain ⟨rfl, rfl, rfl⟩ := hv
      exact h2
    have hrun := run_append_nothing (P := P) w t t o.type et i ht hi a nn cap hle (.slice none 0 cap2) (Src.ofNil w ht cap2)
    exact fin _ _ F hrun (by rw [List.append_nil]; exact hok) (Ext.refl _ _) hnd (fun b hb => ⟨hlt b hb, .inl hb⟩)
  | some p =>
    obtain ⟨hn, hAt⟩ := xt hr2
    obtain ⟨v', w', F', hrun, hown, hext, hnd', hF'⟩ := pz (ty := o.type) ht he hby (e := kG f k hk h1) hsz hpos hzl (F := F) (Fy := []) hok (mm := n2) (cap := cap2) hn hAt (oo ys) hlen (by rw [List.append_nil]; exact hnd) (by simp)
    exact fin v' w' F' hrun hown hext hnd' (fun b hb => by
      obtain ⟨h2, h3⟩ := hF' b hb
      refine ⟨h2, ?_⟩
      rcases h3 with h3 | h3 | h3
      · exact .inl h3
      · cases h3
      · exact .inr h3)
end
theorem mz {α : Type} {e : Enc α} {o : Oper} {t et : TypeId} {x y : Operand} {agg : Bool} {sz by_ : Nat} {z : List Value} {r j : Nat} {F Fy : List Nat} {xs ys zs : List α} {a a2 : Option Addr} {nn cap n2 cap2 : Nat}
    (ho : o.op = .call { callee := .builtin .append, args := #[x, y], argTypes := #[t, t] }) (hm : m.here (o :: rest) = true) (hw : wt l E o.guard = some true) (hd : gI n o.dst = true) (hx : ev E x = some (.slice a nn cap)) (hy : ev E y = some (.slice a2 n2 cap2))
    (ht : isSl P t et) (he : fp P et agg sz by_ z) (hby : Nat.ble by_ 2048 = true) (hsz : e.sz = sz) (hpos : Nat.blt 0 sz = true) (hzl : z.length = sz) (hr : L[r]? = some (Res.own (af e et) F xs [.slice a nn cap])) (hj : L[j]? = some (Res.own (af e et) Fy ys [.slice a2 n2 cap2])) (hrj : pK [r, j] = true) (hz : app xs ys = some zs)
    (hS : ∀ a' c' F', Kp m (St w0 M (kH L [r, j] ++ [Res.own (af e et) F' zs [.slice a' zs.length c']])))
    (hk : ∀ a' c' F', OW P n l (St w0 M (kH L [r, j] ++ [Res.own (af e et) F' zs [.slice a' zs.length c']])) (upd E o.dst (.slice a' zs.length c')) m rest) : OW P n l (St w0 M L) E m (o :: rest) := by
  obtain ⟨rfl, hlen⟩ := qG hz
  refine kR hm hw fun fr w hF hC _ _ hK => ?_
  have hne : r ≠ j := by
    simp only [pK, List.all_cons, List.all_nil, Bool.and_true, Bool.not_eq_true'] at hrj
    exact Nat.ne_of_beq_eq_false hrj
  obtain ⟨hok, hnd, hlt⟩ := hC.one hr
  obtain ⟨hok2, hnd2, hlt2⟩ := hC.one hj
  have hdj : ∀ b, b ∈ F → b ∈ Fy → False := fun b hb hs => tV hC.nd hne hr hj (r := Res.own (af e et) F xs [.slice a nn cap]) (s := Res.own (af e et) Fy ys [.slice a2 n2 cap2]) hb hs
  have hL : jr L [r, j] = [Res.own (af e et) F xs [.slice a nn cap], Res.own (af e et) Fy ys [.slice a2 n2 cap2]] := by simp only [iU, mU, hr, hj]
  obtain ⟨i, zv, hi, hs, hb, hzv, hzc⟩ := he.info
  have fin : ∀ v' w' F', (Builtin.append_ #[t, t] o.type #[.slice a nn cap, .slice a2 n2 cap2]).run P w = .ok v' w' → lQ e et w' F' (xs ++ ys) [v'] → Ext F w w' → F'.Nodup → (∀ b ∈ F', b < w'.heap.size ∧ (b ∈ F ∨ b ∈ Fy ∨ w.heap.size ≤ b)) →
      o.wp P fr w _ m.ends := fun v' w' F' hrun hown hext hnd' hF' => by
    obtain ⟨a', c', hv⟩ := ox (e := e) (T := et) hown
    simp only [List.cons.injEq, and_true] at hv
    subst hv
    have hst : St w0 M (kH L [r, j] ++ [Res.own (af e et) F' (xs ++ ys) [.slice a' (xs ++ ys).length c']]) w' := by
      refine hC.comp [r, j] hL hrj ⟨hext.mono (fun b hb => .inl (by rw [ed, eK]; simp [Res.own, hb])), ?_, ?_, ?_, ?_⟩
      · intro s hs; rw [List.mem_singleton.1 hs]; exact hown
      · rw [eK]; exact hnd'
      · intro b hb; rw [eK] at hb; exact (hF' b hb).1
      · intro b hb
        rw [eK] at hb
        rw [ed, eK]
        rcases (hF' b hb).2 with h3 | h3 | h3
        · exact .inr (by simp [Res.own, h3])
        · exact .inr (by simp [Res.own, h3])
        · exact .inl h3
    refine nF ?_ (hK _ _ _ _ (hk a' c' F') (hF.put _ _ (ax hd)) hst (hS a' c' F' _ hst))
    unfold execOp
    simp only [ho, resolve, invoke, builtin, Sem.run_bind, Sem.run_pure, Result.andThen_ok, List.map_toArray, List.map_cons, List.map_nil, hF.ev hx, hF.ev hy, hrun]
  rcases hok2 with ⟨rfl, rfl, hcs2⟩ | ⟨b, cap', cur, F1, ds, rfl, hcs2, hh, k1, k2, k3, k4, k5⟩
  · simp only [List.cons.injEq, Value.slice.injEq, and_true] at hcs2
    obtain ⟨rfl, rfl, rfl⟩ := hcs2
    have hle : nn ≤ cap := by
      obtain ⟨a', cap', hv, h2, _⟩ := (af e et).own_rd (X := []) hok (by simp)
      simp only [List.cons.injEq, Value.slice.injEq, and_true] at hv
      obtain ⟨rfl, rfl, rfl⟩ := hv
      exact h2
    have hrun := run_append_nothing (P := P) w t t o.type et i ht hi a nn cap hle (.slice none 0 0) (Src.ofNil w ht 0)
    exact fin _ _ F hrun (by rw [List.append_nil]; exact hok) (Ext.refl _ _) hnd (fun b hb => ⟨hlt b hb, .inl hb⟩)
  · simp only [List.cons.injEq, Value.slice.injEq, and_true] at hcs2
    obtain ⟨rfl, rfl, rfl⟩ := hcs2
    have hAt : At w [] ⟨b, 0, none⟩ ds := by
      refine ⟨fun _ => by simp, fun q c hq => ?_⟩
      rw [dG, cell_of_row w b _ cur et (0, 0) hh]
      rw [← k4, List.getElem?_take] at hq
      split at hq
      · simpa using hq
      · cases hq
    have hnd1 : (F ++ F1).Nodup := by
      rw [List.nodup_append]
      exact ⟨hnd, (List.nodup_cons.1 hnd2).2, fun c hc d hd e => by subst e; exact hdj c hc (by simp [hd])⟩
    have hdis : ∀ c, (Value.slice a nn cap).ownBlock = some c → c ∉ F1 := by
      intro c hc hin
      have hcF : c ∈ F := by
        rcases hok with ⟨_, _, hv⟩ | ⟨c', cap', cur', F1', ds', rfl, hcs, _⟩
        · simp only [List.cons.injEq, and_true] at hv; rw [hv] at hc; cases hc
        · simp only [List.cons.injEq, and_true] at hcs; rw [hcs] at hc; cases hc; simp
      exact hdj c hcF (by simp [hin])
    obtain ⟨v', w', F', hrun, hown, hext, hnd', hF'⟩ := pz (ty := o.type) ht he hby hsz hpos hzl (F := F) (Fy := F1) hok (mm := ys.length) (cap := cap2) rfl hAt k5 hlen hnd1 hdis
    exact fin v' w' F' hrun hown hext hnd' (fun c hc => by
      obtain ⟨h2, h3⟩ := hF' c hc
      refine ⟨h2, ?_⟩
      rcases h3 with h3 | h3 | h3
      · exact .inl h3
      · exact .inr (.inl (by simp [h3]))
      · exact .inr (.inr h3))
theorem tz {α : Type} {e : Enc α} {w : World} {b p q : Nat} {T : TypeId} {Fy : List Nat} {u : α} {cs : List Value} (h : St w0 M L w) (hp : L[p]? = some (Res.box b T cs)) (hq : L[q]? = some (Res.own e Fy u cs)) (hpq : pK [p, q] = true) :
    St w0 M (kH L [p, q] ++ [Res.own (af e T) (b :: Fy) [u] [.slice (some ⟨b, 0, none⟩) 1 1]]) w := by
  have h1 : w.heap[b]? = some (.cells cs.toArray T (0, 0)) := h.ok _ (List.mem_of_getElem? hp)
  have h2 : e.own w Fy u cs := h.ok _ (List.mem_of_getElem? hq)
  have hl : cs.length = e.sz := e.rd_len (e.own_rd (X := []) h2 (by simp))
  refine h.re [p, q] _ hpq ?_ ?_
  · simp only [iU, mU, hp, hq]
    rw [eK, ed, eK]
    exact List.Perm.refl _
  · intro s hs
    rw [List.mem_singleton.1 hs]
    exact .inr ⟨b, 1, _, Fy, cs, rfl, rfl, h1, Nat.le_refl _, by simp [maxLen], by simp [hl], by simp only [List.length_singleton, Nat.one_mul]; exact List.take_of_length_le (Nat.le_of_eq hl), ⟨Fy, [], cs, [], by simp, by simp, hl, h2, rfl, rfl⟩⟩
theorem aq {o : Oper} {f : FuncId} {xs : List Operand} {ts : Array TypeId} {vs : List Value} {R : Value → World → World → Prop} (ho : o.op = .call { callee := .value (.func f), args := xs.toArray, argTypes := ts }) (hf : bP P f)
    (hm : m.here (o :: rest) = true) (hw : wt l E o.guard = some true) (hd : gI n o.dst = true) (hx : evs E xs = some vs)
    (hc : ∀ w, C w → Calls P f vs.toArray w fun e w' => ∃ v, e = .returned v ∧ R v w w')
    (hk : ∀ v w w', C w → R v w w' → ∃ C' : World → Prop, C' w' ∧ (∀ u, C' u → m.keeps u) ∧ OW P n l C' (upd E o.dst v) m rest) : OW P n l C E m (o :: rest) :=
  zS ho hf hm hw hd hx hc hk
def zi : List Value → Value
  | [v] => v
  | vs => .tuple vs.toArray
def yP (P : Program) (C : World → Prop) (E : Env) : List ResultVar → List Value → Prop
  | [], [] => True
  | .tmp t :: rs, v :: vs => oV E t = some v ∧ yP P C E rs vs
  | .cell t T :: rs, v :: vs => (∃ p cs sz by_ z, oV E t = some (.pointer (some p)) ∧ fp P T true sz by_ z ∧ (∀ w, C w → At w [] p cs) ∧ cs.length = sz ∧ v = .agg cs.toArray) ∧ yP P C E rs vs
  | _, _ => False
def rG (a : Act) : ResultVar → Sem Value
  | .tmp t => pure (a.tmps.getD t undef)
  | .cell p t => do loadVar t (← asAddr (a.tmps.getD p undef))
theorem vU (fn : Func) (a : Act) : results fn a.tmps = (do let vs ← fn.results.mapM (rG a); pure (if h : vs.size = 1 then vs[0] else .tuple vs)) := by
  unfold results
  have : (fun x => (match x with | .tmp t => pure (a.tmps.getD t undef) | .cell p t => do loadVar t (← asAddr (a.tmps.getD p undef)) : Sem Value)) = rG a := by
    funext x; cases x <;> rfl
  rw [← this]
  rfl
theorem sv {a : Act} {w : World} (hF : Fr n E a) (hC : C w) : ∀ {rs : List ResultVar} {vs : List Value}, yP P C E rs vs → (rs.mapM (rG a)).run P w = .ok vs w
  | [], [], _ => rfl
  | .tmp t :: rs, v :: vs, h => by
    have ih := sv hF hC h.2
    have h0 : (rG a (.tmp t)).run P w = .ok v w := by simp only [rG, Sem.run_pure, hF.f_ t v h.1]
    rw [List.mapM_cons]
    simp only [Sem.run_bind, Sem.run_pure, Result.andThen_ok, h0, ih]
  | .cell t T :: rs, v :: vs, h => by
    have ih := sv hF hC h.2
    obtain ⟨p, cs, sz, by_, z, h1, h2, h3, h4, rfl⟩ := h.1
    have h5 := qh h2 (h3 w hC) h4
    have h0 : (rG a (.cell t T)).run P w = .ok (.agg cs.toArray) w := by
      simp only [Instr.loadAt, Instr.sureAddr, Sem.run_bind, Sem.run_pure, Result.andThen_ok, if_true] at h5
      simp only [rG, Sem.run_bind, Sem.run_pure, Result.andThen_ok, hF.f_ t _ h1, asAddr, h5]
    rw [List.mapM_cons]
    simp only [Sem.run_bind, Sem.run_pure, Result.andThen_ok, h0, ih]
  | [], _ :: _, h => h.elim
  | .tmp _ :: _, [], h => h.elim
  | .cell _ _ :: _, [], h => h.elim
theorem vp {fn : Func} {a : Act} {w : World} {rs : List ResultVar} {vs : List Value} (hr : fn.results = rs.toArray) (hF : Fr n E a) (hC : C w) (h : yP P C E rs vs) : (results fn a.tmps).run P w = .ok (zi vs) w := by
  have h1 := sv hF hC h
  have h2 : (rs.toArray.mapM (rG a)).run P w = .ok vs.toArray w := by
    rw [List.mapM_toArray, map_eq_pure_bind]
    simp only [Sem.run_bind, h1, Result.andThen_ok, Sem.run_pure]
  rw [vU, hr]
  simp only [Sem.run_bind, h2, Result.andThen_ok, Sem.run_pure]
  congr 1
  match vs with
  | [] => rfl
  | [v] => rfl
  | v :: u :: vs => rfl
theorem aY {fn : Func} {R : Ending → World → Prop} {rs : List ResultVar} {vs : List Value} (hr : fn.results = rs.toArray) (hv : yP P C E rs vs) (hR : ∀ w, C w → R (.returned (zi vs)) w) : XW n C E (bodyPost P fn R) .ret := fun _ w hF hC =>
  ⟨hF.df, zi vs, vp hr hF hC hv, hR w hC⟩
end Go.Vk
/- Regions whose head makes and reads memory, and whose tail comes in one order. -/
namespace Go.Vk
open Go.RowKit
variable {P : Program} {n : Nat} {C : World → Prop} {E : Env} {m : Md} {l rest : List Oper} {w0 : World} {M : List Nat} {L : List Res} {Q : Exit → Act → World → Prop}
def QT (P : Program) (l : List Oper) (nn : Nat) (Q : Exit → Act → World → Prop) : Exit → Act → World → Prop
  | .normal, a, w => wpList P l.toArray Q (l.drop nn) a w
  | e, a, w => Q e a w
theorem Bp {Q1 Q2 : Exit → Act → World → Prop} (h : ∀ e a w, e ≠ .normal → Q1 e a w → Q2 e a w) {o : Oper} {a : Act} {K : Act → World → Prop} {r : Result Next} (hu : o.upon P a K Q1 r) : o.upon P a K Q2 r := by
  cases r with
  | ok x w' =>
    cases x <;> simp only [Oper.upon] at hu ⊢
    case value => exact hu
    case skip => exact hu
    case defer => exact hu
    case enter f args =>
      refine hu.mono fun e w'' he => ?_
      cases e with
      | returned v => exact he
      | panicked c => exact h _ _ _ (by simp) he
      | outgrown => obtain ⟨a, w, hq⟩ := (show LetsOut Q1 from he); exact ⟨a, w, h _ _ _ (by simp) hq⟩
    case row => exact hu
  | halt x w' =>
    cases x <;> simp only [Oper.upon] at hu ⊢
    exact h _ _ _ (by simp) hu
theorem uM {Q1 Q2 : Exit → Act → World → Prop} {ops : Array Oper} (h : ∀ e a w, e ≠ .normal → Q1 e a w → Q2 e a w) {i : Nat} {K : Act → World → Prop} {a : Act} {w : World} (hu : wpOp P ops Q1 i K a w) : wpOp P ops Q2 i K a w := by
  unfold wpOp at hu ⊢
  cases ho : ops[i]? with
  | none => rw [ho] at hu; exact hu
  | some o =>
    rw [ho] at hu
    simp only at hu ⊢
    split at hu
    · rename_i hw
      rw [if_pos hw]
      rcases hu with hu | ⟨h1, h2⟩
      · exact .inl (Bp h hu)
      · obtain ⟨a, w, hq⟩ := h2
        exact .inr ⟨h1, a, w, h _ _ _ (by simp) hq⟩
    · rename_i hw
      rw [if_neg hw]
      exact hu
section
variable {ops : Array Oper} {md : Region.Mode} {S : World → Prop}
def mt (P : Program) (md : Region.Mode) (ops : Array Oper) (Q : Exit → Act → World → Prop) (S : World → Prop) (nn : Nat) (K : Array Bool → Act → World → Prop) : Nat → Array Bool → Act → World → Prop
  | 0, listed, a, w => K listed a w
  | f + 1, listed, a, w =>
    Region.ready md ops listed ≠ [] ∧ ∀ i ∈ Region.ready md ops listed, i < nn ∧ wpOp P ops Q i (fun a' w' => S w' ∧ mt P md ops Q S nn K f (listed.setIfInBounds i true) a' w') a w
theorem mG {nn g : Nat} {K : Array Bool → Act → World → Prop} (hL : ∀ listed a w, K listed a w → wpAny P md ops Q g listed a w) :
    ∀ (f : Nat) (listed : Array Bool) (a : Act) (w : World), mt P md ops Q S nn K f listed a w → wpAny P md ops Q (f + g) listed a w
  | 0, listed, a, w, h => by rw [Nat.zero_add]; exact hL _ _ _ h
  | f + 1, listed, a, w, h => by
    rw [show f + 1 + g = (f + g) + 1 by omega]
    exact ⟨fun h0 => absurd h0 h.1, fun i hi => wpOp_mono (fun a' w' h' => mG hL f _ a' w' h'.2) (h.2 i hi).2⟩
theorem pV {nn i : Nat} {oi : Oper} {v : Value} {K : Array Bool → Act → World → Prop} (hi : ops[i]? = some oi) (hsel : ∀ (j : Nat) (o : Oper) cs b, ops[j]? = some o → o.op ≠ .select cs b)
    (hs : Region.sinkB md ops nn = true) (hc : Region.chainB md ops nn = true) (hn : nn < ops.size) (hin : i < nn) (hQ : jx Q)
    (hdone : ∀ listed a w, K listed a w → ∀ j ∈ Region.ready md ops listed, nn ≤ j) :
    ∀ (f : Nat) (listed : Array Bool) (a : Act) (w : World), HeadInv md ops nn listed →
      (∀ j oj, ops[j]? = some oj → j ≠ i → listed.getD j true = false → (∀ e ∈ oj.after, Region.binds md e = true → e.on ≠ i) → oi.apart ops oj = true) →
      i ∈ Region.ready md ops listed → YieldsIf P ops S oi v a → S w →
      mt P md ops Q S nn K f (listed.setIfInBounds i true) (a.put oi.dst v) w → mt P md ops Q S nn K (f + 1) listed a w := by
  intro f
  induction f with
  | zero =>
    intro listed a w inv _ hr hy hS H
    have hun := (mem_ready.1 hr).1
    refine ⟨fun h => (by rw [h] at hr; cases hr), fun j hj => ?_⟩
    have hjn : j < nn := by
      rcases Nat.lt_or_ge j nn with h | h
      · exact h
      · exact absurd hj (tail_waits hs hc hn inv _ i rfl hin hun j h)
    refine ⟨hjn, ?_⟩
    by_cases hji : j = i
    · subst hji; exact hy.wpOp hi hS ⟨hS, H⟩
    · have := hdone _ _ _ H j (ready_mono hj hji)
      omega
  | succ f ih =>
    intro listed a w inv hfree hr hy hS H
    have hun := (mem_ready.1 hr).1
    refine ⟨fun h => (by rw [h] at hr; cases hr), fun j hj => ?_⟩
    have hjn : j < nn := by
      rcases Nat.lt_or_ge j nn with h | h
      · exact h
      · exact absurd hj (tail_waits hs hc hn inv _ i rfl hin hun j h)
    refine ⟨hjn, ?_⟩
    by_cases hji : j = i
    · subst hji; exact hy.wpOp hi hS ⟨hS, H⟩
    · have h1 := (H.2 j (ready_mono hj hji)).2
      obtain ⟨hjun, oj, hoj, hall⟩ := mem_ready.1 hj
      have hnot : ∀ e ∈ oj.after, Region.binds md e = true → e.on ≠ i := fun e he hb heq => by
        have h1 := hall e he hb
        rw [heq, getD_both hun] at h1
        cases h1
      have h2 := wpOp_putIf hoj (hfree j oj hoj hji hjun hnot) (fun cs b => hsel i oi cs b hi) (fun cs b => hsel j oj cs b hoj) (fun c a w => hQ c a oi.dst v w) hy h1
      have hfree' : ∀ k ok, ops[k]? = some ok → k ≠ i → (listed.setIfInBounds j true).getD k true = false →
          (∀ e ∈ ok.after, Region.binds md e = true → e.on ≠ i) → oi.apart ops ok = true := fun k ok hk hki hun hno => by
        refine hfree k ok hk hki ?_ hno
        by_cases hjk : j = k
        · subst hjk; exact hjun
        · rw [getD_set_ne true hjk] at hun; exact hun
      refine wpOp_mono (fun a' w' h3 => ⟨h3.2.1, ih (listed.setIfInBounds j true) a' w' (inv.set hj hjn) hfree' (ready_mono hr (Ne.symm hji)) h3.1 h3.2.1 ?_⟩) h2
      rw [Array.setIfInBounds_comm _ _ hji]
      exact h3.2.2
def tQ (ops : Array Oper) (nn g : Nat) : List (Nat × Bool) → Array Bool → Bool
  | [], listed => Region.seqB .any ops g nn listed
  | (i, q) :: s, listed =>
    Nat.blt i nn && (match q with
     | true => Region.free .any ops listed i && (Region.ready .any ops listed).contains i
     | false => Region.ready .any ops listed == [i]) && tQ ops nn g s (listed.setIfInBounds i true)
theorem mI {nn g : Nat} {K : Act → World → Prop} (hsel : Region.noSelect ops = true) (hs : Region.sinkB .any ops nn = true) (hc : Region.chainB .any ops nn = true) (hn : nn < ops.size) (hQ : jx Q) {Q1 : Exit → Act → World → Prop} (hq1 : ∀ e a w, e ≠ .normal → Q1 e a w → Q e a w) (hq2 : ∀ a w, Q1 .normal a w → K a w) :
    ∀ (s : List (Nat × Bool)) (listed : Array Bool) (a : Act) (w : World), HeadInv .any ops nn listed →
    tQ ops nn g s listed = true → mq P ops S Q1 s a w → mt P .any ops Q S nn (fun listed' a' w' => Region.seqB .any ops g nn listed' = true ∧ K a' w') s.length listed a w
  | [], listed, a, w, _, hB, h => by
    rw [mq] at h
    exact ⟨by simpa [tQ] using hB, hq2 _ _ h⟩
  | (i, true) :: s, listed, a, w, inv, hB, h => by
    simp only [tQ, Bool.and_eq_true] at hB
    obtain ⟨⟨hlt, hf, hr⟩, hB⟩ := hB
    have hlt := Nat.le_of_ble_eq_true hlt
    rw [mq] at h
    obtain ⟨o, v, ho, hy, hS, h⟩ := h
    have hr' : i ∈ Region.ready .any ops listed := by simpa using hr
    exact pV ho (Region.noSelect_spec hsel) hs hc hn hlt hQ (fun listed' a' w' hL => seqB_ready hL.1) s.length listed a w inv (Region.free_spec ho hf) hr' hy hS
      (mI hsel hs hc hn hQ hq1 hq2 s _ _ _ (inv.set hr' hlt) hB h)
  | (i, false) :: s, listed, a, w, inv, hB, h => by
    simp only [tQ, Bool.and_eq_true, beq_iff_eq] at hB
    obtain ⟨⟨hlt, hr⟩, hB⟩ := hB
    have hlt := Nat.le_of_ble_eq_true hlt
    rw [mq] at h
    have hr' : i ∈ Region.ready .any ops listed := by rw [hr]; simp
    refine ⟨by rw [hr]; simp, fun j hj => ?_⟩
    rw [hr] at hj
    obtain rfl := List.mem_singleton.1 hj
    exact ⟨hlt, wpOp_mono (fun a' w' h' => ⟨h'.1, mI hsel hs hc hn hQ hq1 hq2 s _ _ _ (inv.set hr' hlt) hB h'.2⟩) (uM hq1 h)⟩
end
theorem cW {id : Nat} {l : List Oper} (nn : Nat) (fl : List (Nat × Bool)) (S : World → Prop) (hm : P.follows .mixedOrders = true)
    (hB : (Region.noSelect l.toArray && decide (nn < l.toArray.size) && Region.sinkB .any l.toArray nn && Region.chainB .any l.toArray nn && tQ l.toArray nn (l.toArray.size - nn) fl (Array.replicate l.length false) && inB l fl && Nat.beq fl.length nn) = true)
    (hQ : jx Q) (hS : ∀ w, St w0 M L w → S w) (h : OW P n l (St w0 M L) E (.held S (QT P l nn Q) fl) (ph l fl)) : CW P n (St w0 M L) E Q (.region id l.toArray true) := fun a w hF hC => by
  simp only [Bool.and_eq_true, decide_eq_true_eq] at hB
  obtain ⟨⟨⟨⟨⟨⟨hsel, hn⟩, hs⟩, hc⟩, h2⟩, h3⟩, h4⟩ := hB
  have hlen : fl.length = nn := Nat.eq_of_beq_eq_true h4
  have hn' : nn < l.length := by simpa using hn
  refine wp_region_any hm ?_
  have inv0 : HeadInv .any l.toArray nn (Array.replicate l.toArray.size false) :=
    ⟨by simp, fun j oj _ hl => (by rw [getD_replicate_false] at hl; cases hl), fun t _ ht => getD_in (by simpa using ht) (getD_replicate_false _ _)⟩
  have hseq := h fl ⟨[], rfl⟩ (mB h3) a _ hF hC.drew (hS _ hC.drew)
  have H := mI (P := P) (S := S) (Q := Q) (Q1 := QT P l nn Q) (K := fun a w => wpList P l.toArray Q (l.drop nn) a w) (g := l.toArray.size - nn) hsel hs hc hn hQ
    (fun e a w he h => by cases e <;> first | exact absurd rfl he | exact h) (fun a w h => h) fl (Array.replicate l.toArray.size false) a _ inv0 (by simpa using h2) hseq
  have hdl : (l.drop nn).length = l.toArray.size - nn := by simp
  have := mG (Q := Q) (g := l.toArray.size - nn) (fun listed a' w' hL => by
    have := wpAny_of_seq (md := .any) (Q' := Q) (l.drop nn) nn listed a' w' (fun j => by simp [List.getElem?_drop]) (by rw [hdl]; exact hL.1) hL.2
    rwa [hdl] at this) _ _ _ _ H
  rw [hlen, show nn + (l.toArray.size - nn) = l.toArray.size by omega] at this
  exact this
theorem iY {l : List Oper} {nn : Nat} (h : OW P n l C E (.lex Q) (l.drop nn)) : XW n C E (QT P l nn Q) .normal := fun a w hF hC => h a w hF hC
end Go.Vk
/- Calls of function values. -/
namespace Go.Vk
section
variable {P : Program} {n : Nat} {E : Env} {w0 : World} {M : List Nat} {L : List Res}
theorem xL {o : Oper} {y : Operand} {f : FuncId} {xs : List Operand} {ts : Array TypeId} {vs cap : List Value} {a : Act} (ho : o.op = .call { callee := .value y, args := xs.toArray, argTypes := ts }) (hf : bP P f) (hF : Fr n E a)
    (hy : ev E y = some (.func (.func f) #[] cap.toArray)) (hx : evs E xs = some vs) (w : World) : (execOp a.eval o).run P w = .ok (.enter f (vs ++ cap).toArray) w := by
  obtain ⟨fn, h1, h2, h3⟩ := hf
  obtain ⟨c, hc⟩ := Option.isSome_iff_exists.1 h2
  have hm : (xs.toArray.map a.eval) = vs.toArray := by rw [← hF.evs hx]; simp
  unfold execOp
  simp only [ho, resolve, hF.ev hy, Deferred.ofValue, hm]
  simp [invoke, callFunc, h1, h3, hc]
theorem sH {o : Oper} {y : Operand} {f : FuncId} {xs : List Operand} {ts : Array TypeId} {vs cap : List Value} {v : Value} (ho : o.op = .call { callee := .value y, args := xs.toArray, argTypes := ts }) (hf : bP P f)
    (hy : ev E y = some (.func (.func f) #[] cap.toArray)) (hx : evs E xs = some vs)
    (hc : ∀ w, St w0 M L w → Calls P f (vs ++ cap).toArray w fun e w' => e = .returned v ∧ Ext [] w w') : Qy P n (St w0 M L) E o v := fun a hF w hC => by
  unfold Oper.quietAt
  rw [xL ho hf hF hy hx w]
  exact ⟨rfl, (hc w hC).mono fun e w' ⟨he, hw⟩ => ⟨he, hC.step hw⟩⟩
end
end Go.Vk
/- Structs compared, min, maps that the call makes. -/
namespace Go.Vk
open Go.RowKit
section
variable {P : Program} {n : Nat} {S C : World → Prop} {E : Env} {m : Md} {l rest : List Oper} {w0 : World} {M : List Nat} {L : List Res}
def ww (d : TypeDesc) (x y : Value) : Option Bool :=
  match d, x, y with
  | .int _, .int k a, .int k' b => bif qa k k' then some (a == b) else none
  | .bool, .bool a, .bool b => some (a == b)
  | .string, .string a, .string b => some (a.data.toList == b.data.toList)
  | _, _, _ => none
def zQ (P : Program) (xs ys : List Value) : List Field → Option Bool
  | [] => some true
  | f :: fs =>
    match decide (f.name = "_"), P.underlying f.type, xs[f.offset]?, ys[f.offset]? with
    | false, some d, some x, some y =>
      match ww d x y, zQ P xs ys fs with
      | some b, some r => some (b && r)
      | _, _ => none
    | _, _, _, _ => none
def zm (P : Program) (t : TypeId) (xs ys : List Value) : Option Bool :=
  match P.underlying t with
  | some (.struct fs) => bif P.stoodInHeld t || P.eqGuardType P.depth t then none else zQ P xs ys fs.toList
  | _ => none
theorem wj {d : Nat} {t : TypeId} {td : TypeDesc} {x y : Value} {b : Bool} (hu : P.underlying t = some td) (h : ww td x y = some b) (w : World) :
    (Op.equalIn (d + 1) t x y).run P w = .ok b w ∧ P.plainKey t = true := by
  unfold ww at h
  split at h
  · rename_i k a k' b'
    cases hk : qa k k' with
    | false => rw [hk] at h; cases h
    | true =>
      rw [hk] at h
      obtain rfl := pD hk
      cases h
      exact ⟨run_equalIn_int w d t _ _ _ _ hu, by simp [Program.plainKey, hu]⟩
  · cases h
    exact ⟨run_equalIn_bool' w d t _ _ hu, by simp [Program.plainKey, hu]⟩
  · cases h
    exact ⟨by rw [run_equalIn_string w d t _ _ hu, ByteArray.toList_eq, ByteArray.toList_eq], by simp [Program.plainKey, hu]⟩
  · cases h
theorem yt {d : Nat} {xs ys : List Value} (w : World) : ∀ {fs : List Field} {b : Bool}, zQ P xs ys fs = some b → (Op.eqFields (d + 1) xs.toArray ys.toArray fs).run P w = .ok b w := by
  intro fs
  induction fs with
  | nil => intro b h; cases h; simp [Op.eqFields]
  | cons f fs ih =>
    intro b h
    unfold zQ at h
    split at h
    · rename_i hn d' x y h1 h2 hx hy
      split at h
      · rename_i b1 r e1 e2
        cases h
        obtain ⟨hr, hp⟩ := wj (d := d) h2 e1 w
        have hne : f.name ≠ "_" := by simpa using h1
        have px := run_part_plain w hp (xs := xs.toArray) (off := f.offset) (by simpa using hx)
        have py := run_part_plain w hp (xs := ys.toArray) (off := f.offset) (by simpa using hy)
        simp only [Op.eqFields, hne, ne_eq, not_false_eq_true, if_true, Sem.run_bind, px, py, hr, Result.andThen_ok]
        cases b1
        · simp
        · simp [ih e2]
      · cases h
    · cases h
theorem uX {d : Nat} {t : TypeId} {xs ys : List Value} {b : Bool} (h : zm P t xs ys = some b) (w : World) :
    (Op.equalIn (d + 2) t (.agg xs.toArray) (.agg ys.toArray)).run P w = .ok b w ∧ P.eqGuardType P.depth t = false := by
  unfold zm at h
  split at h
  · rename_i fs hu
    cases hs : P.stoodInHeld t with
    | true => rw [hs] at h; cases h
    | false =>
      cases hg : P.eqGuardType P.depth t with
      | true => rw [hs, hg] at h; cases h
      | false =>
        rw [hs, hg] at h
        have hf : P.fieldsOf t = fs := by unfold Program.fieldsOf; rw [hu]
        refine ⟨?_, rfl⟩
        rw [run_equalIn_struct w (d + 1) t _ _ (by rw [hf]; exact hu) hs, hf]
        exact yt w h
  · cases h
theorem zB {o : Oper} {t u : TypeId} {x y : Operand} {xs ys : List Value} {b : Bool} (ho : o.op = .binOp .eql t x y u) (hx : ev E x = some (.agg xs.toArray)) (hy : ev E y = some (.agg ys.toArray)) (h : zm P t xs ys = some b) : Ry P n S E o (.bool b) := fun a hF w _ => by
  obtain ⟨h1, h2⟩ := uX (d := 9998) h w
  unfold execOp
  simp only [ho, hF.ev hx, hF.ev hy, Sem.run_bind, run_eqGuard_agg w _ _ _ _ _ _ h2, Result.andThen_ok, run_eql_struct, h1, Sem.run_pure]
theorem Al {o : Oper} {t u : TypeId} {x y : Operand} {xs ys : List Value} {b : Bool} (ho : o.op = .binOp .neq t x y u) (hx : ev E x = some (.agg xs.toArray)) (hy : ev E y = some (.agg ys.toArray)) (h : zm P t xs ys = some b) : Ry P n S E o (.bool (!b)) := fun a hF w _ => by
  obtain ⟨h1, h2⟩ := uX (d := 9998) h w
  unfold execOp
  simp only [ho, hF.ev hx, hF.ev hy, Sem.run_bind, run_eqGuard_agg w _ _ _ _ _ _ h2, Result.andThen_ok, run_neq_struct, h1, Sem.run_pure]
theorem xk {α : Type} {e : Enc α} {w : World} {X : List Nat} {xs : List α} {a : Option Addr} {nn c : Nat} (h : ig e w X xs [.slice a nn c]) (ha : a.isNone = true) : xs = [] := by
  obtain ⟨a', c', hv, _, _, hel⟩ := h
  simp only [List.cons.injEq, Value.slice.injEq, and_true] at hv
  obtain ⟨rfl, _, _⟩ := hv
  by_cases hne : xs = []
  · exact hne
  · obtain ⟨p, rfl, _⟩ := hel hne
    cases ha
variable {κ : Type}
section
variable [DecidableEq κ]
end
def Dj (f : κ → List Value) : Nat → List (κ × Int) → List MapEntry
  | _, [] => []
  | i, (k, v) :: es => { key := .agg (f k).toArray, val := .int .i64 v, born := i } :: Dj f (i + 1) es
def Res.map (f : κ → List Value) (b : Nat) (es : List (κ × Int)) : Res :=
  ⟨[b], fun w => w.heap[b]? = some (.map (Dj f 0 es).toArray es.length), fun _ _ h ok => (h b (by simp)).trans ok⟩
section
variable [DecidableEq κ]
end
section
variable [DecidableEq κ]
end
theorem vz {o : Oper} {f : FuncId} {xs : List Operand} {vs : List Value} (ho : o.op = .makeFunc (.func f) #[] xs.toArray) (hx : evs E xs = some vs) : Ry P n S E o (.func (.func f) #[] vs.toArray) := fun a hF w _ => by
  have hm : (xs.toArray.map a.eval) = vs.toArray := by rw [← hF.evs hx]; simp
  unfold execOp
  simp [ho, hm, Instr.makeFunc]
end
end Go.Vk
/- Elements deleted from a slice of the call's own: what stands behind moved up, the rest cleared. -/
namespace Go.Vk
open Go.RowKit
section
variable {α : Type} {e : Enc α} {f : α → List Value}
end
section
variable {P : Program} {n : Nat} {C : World → Prop} {E : Env} {m : Md} {l rest : List Oper} {w0 : World} {M : List Nat} {L : List Res}
end
end Go.Vk
/- Regions whose head comes in several orders: a tree of orders. -/
namespace Go.Vk
open Go.RowKit
variable {P : Program} {n : Nat} {C : World → Prop} {E : Env} {l rest : List Oper} {w0 : World} {M : List Nat} {L : List Res} {Q : Exit → Act → World → Prop}
inductive Br where
  | done : Br
  | q (i : Nat) (t : Br) : Br
  | l (i : Nat) (t : Br) : Br
  | alt (i : Nat) (t u : Br) : Br
def Br.depth : Br → Nat
  | .done => 0
  | .q _ t => t.depth + 1
  | .l _ t => t.depth + 1
  | .alt _ t _ => t.depth + 1
def Br.heads : Br → List Nat
  | .alt i _ u => i :: u.heads
  | .l i _ => [i]
  | _ => []
def Br.pre : List (Nat × Bool) → Br → Br
  | [], b => b
  | (i, true) :: s, b => .q i (Br.pre s b)
  | (i, false) :: s, b => .l i (Br.pre s b)
def oN (ops : Array Oper) (nn g : Nat) : Bool → Br → Array Bool → Bool
  | top, .done, listed => top && Region.seqB .any ops g nn listed
  | top, .q i t, listed => top && Nat.blt i nn && (ops[i]?).isSome && Region.free .any ops listed i && (Region.ready .any ops listed).contains i && oN ops nn g true t (listed.setIfInBounds i true)
  | top, .l i t, listed => (!top || Region.ready .any ops listed == [i]) && Nat.blt i nn && oN ops nn g true t (listed.setIfInBounds i true)
  | top, .alt i t u, listed => (!top || Region.ready .any ops listed == i :: u.heads) && Nat.blt i nn && Nat.beq u.depth (t.depth + 1) && oN ops nn g true t (listed.setIfInBounds i true) && oN ops nn g false u listed
def vc (P : Program) (ops : Array Oper) (S : World → Prop) (Q : Exit → Act → World → Prop) : Br → Act → World → Prop
  | .done, a, w => Q .normal a w
  | .q i t, a, w => ∃ o v, ops[i]? = some o ∧ YieldsIf P ops S o v a ∧ S w ∧ vc P ops S Q t (a.put o.dst v) w
  | .l i t, a, w => wpOp P ops Q i (fun a' w' => S w' ∧ vc P ops S Q t a' w') a w
  | .alt i t u, a, w => wpOp P ops Q i (fun a' w' => S w' ∧ vc P ops S Q t a' w') a w ∧ vc P ops S Q u a w
section
variable {ops : Array Oper} {S : World → Prop}
theorem tB {nn g : Nat} {K : Act → World → Prop} (hsel : Region.noSelect ops = true) (hs : Region.sinkB .any ops nn = true) (hc : Region.chainB .any ops nn = true) (hn : nn < ops.size) (hQ : jx Q) {Q1 : Exit → Act → World → Prop} (hq1 : ∀ e a w, e ≠ .normal → Q1 e a w → Q e a w) (hq2 : ∀ a w, Q1 .normal a w → K a w) :
    ∀ (b : Br) (listed : Array Bool) (a : Act) (w : World), HeadInv .any ops nn listed → vc P ops S Q1 b a w →
      (oN ops nn g true b listed = true → mt P .any ops Q S nn (fun listed' a' w' => Region.seqB .any ops g nn listed' = true ∧ K a' w') b.depth listed a w) ∧
      (oN ops nn g false b listed = true → ∀ j ∈ b.heads, j ∈ Region.ready .any ops listed → j < nn ∧ wpOp P ops Q j (fun a' w' => S w' ∧ mt P .any ops Q S nn (fun listed' a' w' => Region.seqB .any ops g nn listed' = true ∧ K a' w') (b.depth - 1) (listed.setIfInBounds j true) a' w') a w) := by
  intro b
  induction b with
  | done =>
    intro listed a w _ h
    refine ⟨fun hB => ⟨by simpa [oN] using hB, hq2 _ _ h⟩, fun hB => ?_⟩
    simp [oN] at hB
  | q i t ih =>
    intro listed a w inv h
    refine ⟨fun hB => ?_, fun hB => ?_⟩
    · simp only [oN, Bool.and_eq_true] at hB
      obtain ⟨⟨⟨⟨⟨_, hlt⟩, _⟩, hf⟩, hr⟩, hB⟩ := hB
      have hlt := Nat.le_of_ble_eq_true hlt
      obtain ⟨o, v, ho, hy, hS, h⟩ := h
      have hr' : i ∈ Region.ready .any ops listed := by simpa using hr
      exact pV ho (Region.noSelect_spec hsel) hs hc hn hlt hQ (fun listed' a' w' hL => seqB_ready hL.1) t.depth listed a w inv (Region.free_spec ho hf) hr' hy hS
        ((ih _ _ _ (inv.set hr' hlt) h).1 hB)
    · simp [oN] at hB
  | l i t ih =>
    intro listed a w inv h
    have key : ∀ j ∈ [i], j ∈ Region.ready .any ops listed → i < nn → oN ops nn g true t (listed.setIfInBounds i true) = true → j < nn ∧ wpOp P ops Q j (fun a' w' => S w' ∧ mt P .any ops Q S nn (fun listed' a' w' => Region.seqB .any ops g nn listed' = true ∧ K a' w') t.depth (listed.setIfInBounds j true) a' w') a w := by
      intro j hj hr hlt hB
      obtain rfl := List.mem_singleton.1 hj
      exact ⟨hlt, wpOp_mono (fun a' w' h' => ⟨h'.1, (ih _ _ _ (inv.set hr hlt) h'.2).1 hB⟩) (uM hq1 h)⟩
    refine ⟨fun hB => ?_, fun hB => ?_⟩
    · simp only [oN, Bool.and_eq_true, Bool.not_true, Bool.false_or, beq_iff_eq] at hB
      obtain ⟨⟨hr, hlt⟩, hB⟩ := hB
      have hlt := Nat.le_of_ble_eq_true hlt
      refine ⟨by rw [hr]; simp, fun j hj => ?_⟩
      have hj' := hj
      rw [hr] at hj
      exact key j hj hj' hlt hB
    · simp only [oN, Bool.and_eq_true] at hB
      obtain ⟨⟨_, hlt⟩, hB⟩ := hB
      intro j hj hr
      exact key j hj hr (Nat.le_of_ble_eq_true hlt) hB
  | alt i t u iht ihu =>
    intro listed a w inv h
    have key : i < nn → u.depth = t.depth + 1 → oN ops nn g true t (listed.setIfInBounds i true) = true → oN ops nn g false u listed = true → ∀ j ∈ i :: u.heads, j ∈ Region.ready .any ops listed → j < nn ∧ wpOp P ops Q j (fun a' w' => S w' ∧ mt P .any ops Q S nn (fun listed' a' w' => Region.seqB .any ops g nn listed' = true ∧ K a' w') t.depth (listed.setIfInBounds j true) a' w') a w := by
      intro hlt hd hB hU j hj hr
      rcases List.mem_cons.1 hj with rfl | hj
      · exact ⟨hlt, wpOp_mono (fun a' w' h' => ⟨h'.1, (iht _ _ _ (inv.set hr hlt) h'.2).1 hB⟩) (uM hq1 h.1)⟩
      · have := (ihu listed a w inv h.2).2 hU j hj hr
        rwa [hd, Nat.add_sub_cancel] at this
    refine ⟨fun hB => ?_, fun hB => ?_⟩
    · simp only [oN, Bool.and_eq_true, Bool.not_true, Bool.false_or, beq_iff_eq] at hB
      obtain ⟨⟨⟨⟨hr, hlt⟩, hd⟩, hB⟩, hU⟩ := hB
      refine ⟨by rw [hr]; simp, fun j hj => ?_⟩
      exact key (Nat.le_of_ble_eq_true hlt) (Nat.eq_of_beq_eq_true hd) hB hU j (by rw [hr] at hj; exact hj) hj
    · simp only [oN, Bool.and_eq_true] at hB
      obtain ⟨⟨⟨⟨_, hlt⟩, hd⟩, hB⟩, hU⟩ := hB
      exact key (Nat.le_of_ble_eq_true hlt) (Nat.eq_of_beq_eq_true hd) hB hU
def QBr (P : Program) (ops : Array Oper) (S : World → Prop) (Q1 : Exit → Act → World → Prop) (b : Br) : Exit → Act → World → Prop
  | .normal, a, w => vc P ops S Q1 b a w
  | e, a, w => Q1 e a w
theorem DZ {Q1 : Exit → Act → World → Prop} {b : Br} (e : Exit) (a : Act) (w : World) (he : e ≠ .normal) (h : QBr P ops S Q1 b e a w) : Q1 e a w := by
  cases e <;> first | exact absurd rfl he | exact h
theorem nL {Q1 : Exit → Act → World → Prop} {b : Br} : ∀ (s : List (Nat × Bool)) (a : Act) (w : World), mq P ops S (QBr P ops S Q1 b) s a w → vc P ops S Q1 (Br.pre s b) a w
  | [], a, w, h => h
  | (i, true) :: s, a, w, h => by
    rw [mq] at h
    obtain ⟨o, v, ho, hy, hS, h⟩ := h
    exact ⟨o, v, ho, hy, hS, nL s _ _ h⟩
  | (i, false) :: s, a, w, h => by
    rw [mq] at h
    exact wpOp_mono (fun a' w' h' => ⟨h'.1, nL s _ _ h'.2⟩) (uM DZ h)
end
theorem om {id : Nat} {l : List Oper} (nn : Nat) (fl : List (Nat × Bool)) (b : Br) (S : World → Prop) (hm : P.follows .mixedOrders = true)
    (hB : (Region.noSelect l.toArray && decide (nn < l.toArray.size) && Region.sinkB .any l.toArray nn && Region.chainB .any l.toArray nn && oN l.toArray nn (l.toArray.size - nn) true (Br.pre fl b) (Array.replicate l.length false) && inB l fl && Nat.beq (Br.pre fl b).depth nn) = true)
    (hQ : jx Q) (hS : ∀ w, St w0 M L w → S w) (h : OW P n l (St w0 M L) E (.held S (QBr P l.toArray S (QT P l nn Q) b) fl) (ph l fl)) : CW P n (St w0 M L) E Q (.region id l.toArray true) := fun a w hF hC => by
  simp only [Bool.and_eq_true, decide_eq_true_eq] at hB
  obtain ⟨⟨⟨⟨⟨⟨hsel, hn⟩, hs⟩, hc⟩, h2⟩, h3⟩, h4⟩ := hB
  have hlen : (Br.pre fl b).depth = nn := Nat.eq_of_beq_eq_true h4
  have hn' : nn < l.length := by simpa using hn
  refine wp_region_any hm ?_
  have inv0 : HeadInv .any l.toArray nn (Array.replicate l.toArray.size false) :=
    ⟨by simp, fun j oj _ hl => (by rw [getD_replicate_false] at hl; cases hl), fun t _ ht => getD_in (by simpa using ht) (getD_replicate_false _ _)⟩
  have hseq := nL fl a _ (h fl ⟨[], rfl⟩ (mB h3) a _ hF hC.drew (hS _ hC.drew))
  have H := (tB (P := P) (S := S) (Q := Q) (Q1 := QT P l nn Q) (K := fun a w => wpList P l.toArray Q (l.drop nn) a w) (g := l.toArray.size - nn) hsel hs hc hn hQ
    (fun e a w he h => by cases e <;> first | exact absurd rfl he | exact h) (fun a w h => h) (Br.pre fl b) (Array.replicate l.toArray.size false) a _ inv0 hseq).1 (by simpa using h2)
  have hdl : (l.drop nn).length = l.toArray.size - nn := by simp
  have := mG (Q := Q) (g := l.toArray.size - nn) (fun listed a' w' hL => by
    have := wpAny_of_seq (md := .any) (Q' := Q) (l.drop nn) nn listed a' w' (fun j => by simp [List.getElem?_drop]) (by rw [hdl]; exact hL.1) hL.2
    rwa [hdl] at this) _ _ _ _ H
  rw [hlen, show nn + (l.toArray.size - nn) = l.toArray.size by omega] at this
  exact this
theorem ei {S : World → Prop} {Q1 : Exit → Act → World → Prop} {i : Nat} {s : List (Nat × Bool)} {b u : Br} (hS : ∀ w, C w → S w) (hi : inB l ((i, false) :: s) = true)
    (h : OW P n l C E (.held S (QBr P l.toArray S Q1 b) ((i, false) :: s)) (ph l ((i, false) :: s))) (h' : XW n C E (QBr P l.toArray S Q1 u) .normal) :
    XW n C E (QBr P l.toArray S Q1 (.alt i (Br.pre s b) u)) .normal := fun a w hF hC =>
  ⟨nL ((i, false) :: s) a w (h _ ⟨[], rfl⟩ (mB hi) a w hF hC (hS w hC)), h' a w hF hC⟩
theorem dB {S : World → Prop} {Q1 : Exit → Act → World → Prop} {s : List (Nat × Bool)} {b : Br} (hS : ∀ w, C w → S w) (hi : inB l s = true)
    (h : OW P n l C E (.held S (QBr P l.toArray S Q1 b) s) (ph l s)) : XW n C E (QBr P l.toArray S Q1 (Br.pre s b)) .normal := fun a w hF hC =>
  nL s a w (h _ ⟨[], rfl⟩ (mB hi) a w hF hC (hS w hC))
theorem cK {S : World → Prop} {nn : Nat} (h : OW P n l C E (.lex Q) (l.drop nn)) : XW n C E (QBr P l.toArray S (QT P l nn Q) .done) .normal := fun a w hF hC => h a w hF hC
end Go.Vk
namespace Go.Vk
open Go.RowKit
variable {P : Program} {n : Nat} {C : World → Prop} {E : Env} {m : Md} {l rest : List Oper} {w0 : World} {M : List Nat} {L : List Res} {Q : Exit → Act → World → Prop}
def oO (ops : Array Oper) : Bool → Br → Array Bool → Bool
  | top, .done, listed => top && (Region.ready .any ops listed).isEmpty
  | top, .q i t, listed => top && Region.free .any ops listed i && (Region.ready .any ops listed).contains i && oO ops true t (listed.setIfInBounds i true)
  | top, .l i t, listed => (!top || Region.ready .any ops listed == [i]) && oO ops true t (listed.setIfInBounds i true)
  | top, .alt i t u, listed => (!top || Region.ready .any ops listed == i :: u.heads) && Nat.beq u.depth (t.depth + 1) && oO ops true t (listed.setIfInBounds i true) && oO ops false u listed
theorem uK {ops : Array Oper} {S : World → Prop} (hsel : Region.noSelect ops = true) (hQ : jx Q) :
    ∀ (b : Br) (listed : Array Bool) (a : Act) (w : World), vc P ops S Q b a w →
      (oO ops true b listed = true → wpAnyH P .any ops Q S b.depth listed a w) ∧
      (oO ops false b listed = true → ∀ j ∈ b.heads, wpOp P ops Q j (fun a' w' => S w' ∧ wpAnyH P .any ops Q S (b.depth - 1) (listed.setIfInBounds j true) a' w') a w) := by
  intro b
  induction b with
  | done =>
    intro listed a w h
    refine ⟨fun hB => wpAnyH_done (by simpa [oO] using hB) h 0, fun hB => ?_⟩
    simp [oO] at hB
  | q i t ih =>
    intro listed a w h
    refine ⟨fun hB => ?_, fun hB => ?_⟩
    · simp only [oO, Bool.and_eq_true] at hB
      obtain ⟨⟨⟨_, hf⟩, hr⟩, hB⟩ := hB
      obtain ⟨o, v, ho, hy, hS, h⟩ := h
      exact wpAnyH_take ho hsel hf hr (fun c a' w' => hQ c a' o.dst v w') hy hS ((ih _ _ _ h).1 hB)
    · simp [oO] at hB
  | l i t ih =>
    intro listed a w h
    have key : ∀ j ∈ [i], oO ops true t (listed.setIfInBounds i true) = true → wpOp P ops Q j (fun a' w' => S w' ∧ wpAnyH P .any ops Q S t.depth (listed.setIfInBounds j true) a' w') a w := by
      intro j hj hB
      obtain rfl := List.mem_singleton.1 hj
      exact wpOp_mono (fun a' w' h' => ⟨h'.1, (ih _ _ _ h'.2).1 hB⟩) h
    refine ⟨fun hB => ?_, fun hB => ?_⟩
    · simp only [oO, Bool.and_eq_true, Bool.not_true, Bool.false_or, beq_iff_eq] at hB
      exact wpAnyH_all hB.1 (by simp) (fun j hj => key j hj hB.2)
    · simp only [oO, Bool.and_eq_true] at hB
      exact fun j hj => key j hj hB.2
  | alt i t u iht ihu =>
    intro listed a w h
    have key : u.depth = t.depth + 1 → oO ops true t (listed.setIfInBounds i true) = true → oO ops false u listed = true → ∀ j ∈ i :: u.heads, wpOp P ops Q j (fun a' w' => S w' ∧ wpAnyH P .any ops Q S t.depth (listed.setIfInBounds j true) a' w') a w := by
      intro hd hB hU j hj
      rcases List.mem_cons.1 hj with rfl | hj
      · exact wpOp_mono (fun a' w' h' => ⟨h'.1, (iht _ _ _ h'.2).1 hB⟩) h.1
      · have := (ihu listed a w h.2).2 hU j hj
        rwa [hd, Nat.add_sub_cancel] at this
    refine ⟨fun hB => ?_, fun hB => ?_⟩
    · simp only [oO, Bool.and_eq_true, Bool.not_true, Bool.false_or, beq_iff_eq] at hB
      obtain ⟨⟨⟨hr, hd⟩, hB⟩, hU⟩ := hB
      exact wpAnyH_all hr (by simp) (key (Nat.eq_of_beq_eq_true hd) hB hU)
    · simp only [oO, Bool.and_eq_true] at hB
      obtain ⟨⟨⟨_, hd⟩, hB⟩, hU⟩ := hB
      exact key (Nat.eq_of_beq_eq_true hd) hB hU
theorem zZ {id : Nat} {l : List Oper} (fl : List (Nat × Bool)) (b : Br) (S : World → Prop) (hm : P.follows .mixedOrders = true)
    (hB : (Region.noSelect l.toArray && oO l.toArray true (Br.pre fl b) (Array.replicate l.length false) && inB l fl && Nat.beq (Br.pre fl b).depth l.length) = true)
    (hQ : jx Q) (hS : ∀ w, St w0 M L w → S w) (h : OW P n l (St w0 M L) E (.held S (QBr P l.toArray S Q b) fl) (ph l fl)) : CW P n (St w0 M L) E Q (.region id l.toArray true) := fun a w hF hC => by
  simp only [Bool.and_eq_true] at hB
  obtain ⟨⟨⟨h1, h2⟩, h3⟩, h4⟩ := hB
  refine wp_region_held (S := S) hm ?_
  have hlen : (Br.pre fl b).depth = l.toArray.size := by simpa using Nat.eq_of_beq_eq_true h4
  have hseq := nL fl a _ (h fl ⟨[], rfl⟩ (mB h3) a _ hF hC.drew (hS _ hC.drew))
  rw [← hlen]
  exact (uK h1 hQ (Br.pre fl b) _ a _ hseq).1 (by rw [hlen]; simpa using h2)
theorem ux {S : World → Prop} (h : XW n C E Q .normal) : XW n C E (QBr P l.toArray S Q .done) .normal := fun a w hF hC => h a w hF hC
theorem tR {o : Oper} {v : Value} (hm : m.here (o :: rest) = true) (hw : wt l E o.guard = some true) (hd : ∀ t, o.dst = some t → t < n) (hq : Ry P n C E o v)
    (h : OW P n l C (upd E o.dst v) m rest) : OW P n l C E m (o :: rest) :=
  kR hm hw fun a w hF hC hS _ hK => nF (hq a hF w hC) (hK _ _ _ _ h (hF.put _ _ hd) hC hS)
theorem xa {α : Type} {e : Enc α} {o : Oper} {t et : TypeId} {x i : Operand} {agg : Bool} {sz by_ : Nat} {z : List Value} {xs : List α} {k : IntKind} {j : Int} {y : α} {a : Option Addr} {nn cap : Nat}
    (ho : o.op = .indexAddr t x i) (hm : m.here (o :: rest) = true) (hw : wt l E o.guard = some true) (hd : gI n o.dst = true) (hx : ev E x = some (.slice a nn cap)) (hi : ev E i = some (.int k j)) (ht : isSl P t et) (he : fp P et agg sz by_ z) (_hsz : e.sz = sz)
    (hS : ∀ w, C w → ig e w [] xs [.slice a nn cap]) (hj : idx xs j = some y) {q : Addr} (hq : q = sf a (j.toNat * sz))
    (hk : OW P n l C (upd E o.dst (.pointer (some q))) m rest) : OW P n l C E m (o :: rest) := by
  subst hq
  obtain ⟨h0, hl, h2⟩ := dg hj
  refine tR hm hw (ax hd) (v := .pointer (some (sf a (j.toNat * sz)))) (fun fr hF w hw' => ?_) hk
  obtain ⟨a', cap', hv, _, _, hel⟩ := hS w hw'
  simp only [List.cons.injEq, Value.slice.injEq, and_true] at hv
  obtain ⟨rfl, rfl, rfl⟩ := hv
  obtain ⟨p, rfl, hp⟩ := hel (fun e => by subst e; simp at hl)
  unfold execOp
  simp only [ho, hF.ev hx, hF.ev hi, Sem.run_bind, nu ht he p xs.length cap k j h0 hl w, sf, Option.getD_some]
  rfl
end Go.Vk
