/- Steps of the walk over structs, nested slices, callees that write. -/
import Derived.Test.YthdoeealefnabaaGreatDoorVkG
import Derived.StillTail
import Derived.Laws.StructEq
import Derived.ChangeKeysEq
import Derived.MapKept
import Derived.IntWalk
namespace Go.Vk
open Go.RowKit
variable {P : Program} {n : Nat} {C : World → Prop} {E : Env} {m : Md} {l rest : List Oper} {w0 : World} {M : List Nat} {L : List Res} {Q : Exit → Act → World → Prop}
def Md.actual : Md → Bool
  | .any _ => false
  | _ => true
theorem qq {X : Type} {D : X → World → Prop} {c : Exit} (h : ∀ w, C w → ∃ x, D x w) (k : ∀ x, XW n (D x) E Q c) : XW n C E Q c := fun a w hF hC => by
  obtain ⟨x, hx⟩ := h w hC; exact k x a w hF hx
theorem IK {X0 : Type} {X1 : Type} {D : X0 → X1 → World → Prop} (hm : m.actual = true) (h : ∀ w, C w → ∃ x0 x1, D x0 x1 w) (k : ∀ x0 x1, OW P n l (D x0 x1) E m rest) : OW P n l C E m rest := by
  cases m with
  | lex Q => exact fun a w hF hC => by obtain ⟨x0, x1, hx⟩ := h w hC; exact k x0 x1 a w hF hx
  | any K => cases hm
  | held S Q fl => exact fun s h1 h2 a w hF hC hS => by obtain ⟨x0, x1, hx⟩ := h w hC; exact k x0 x1 s h1 h2 a w hF hx hS
theorem jW {X0 : Type} {X1 : Type} {X2 : Type} {D : X0 → X1 → X2 → World → Prop} (hm : m.actual = true) (h : ∀ w, C w → ∃ x0 x1 x2, D x0 x1 x2 w) (k : ∀ x0 x1 x2, OW P n l (D x0 x1 x2) E m rest) : OW P n l C E m rest := by
  cases m with
  | lex Q => exact fun a w hF hC => by obtain ⟨x0, x1, x2, hx⟩ := h w hC; exact k x0 x1 x2 a w hF hx
  | any K => cases hm
  | held S Q fl => exact fun s h1 h2 a w hF hC hS => by obtain ⟨x0, x1, x2, hx⟩ := h w hC; exact k x0 x1 x2 s h1 h2 a w hF hx hS
theorem sd {X0 : Type} {X1 : Type} {X2 : Type} {X3 : Type} {D : X0 → X1 → X2 → X3 → World → Prop} (hm : m.actual = true) (h : ∀ w, C w → ∃ x0 x1 x2 x3, D x0 x1 x2 x3 w) (k : ∀ x0 x1 x2 x3, OW P n l (D x0 x1 x2 x3) E m rest) : OW P n l C E m rest := by
  cases m with
  | lex Q => exact fun a w hF hC => by obtain ⟨x0, x1, x2, x3, hx⟩ := h w hC; exact k x0 x1 x2 x3 a w hF hx
  | any K => cases hm
  | held S Q fl => exact fun s h1 h2 a w hF hC hS => by obtain ⟨x0, x1, x2, x3, hx⟩ := h w hC; exact k x0 x1 x2 x3 s h1 h2 a w hF hx hS
theorem el {φ : Prop} (hm : m.actual = true) (h : ∀ w, C w → φ) (k : φ → OW P n l C E m rest) : OW P n l C E m rest := by
  cases m with
  | lex Q => exact fun a w hF hC => k (h w hC) a w hF hC
  | any K => cases hm
  | held S Q fl => exact fun s h1 h2 a w hF hC hS => k (h w hC) s h1 h2 a w hF hC hS
theorem mo {C' : World → Prop} (hm : m.actual = true) (h : ∀ w, C w → C' w) (k : OW P n l C' E m rest) : OW P n l C E m rest := by
  cases m with
  | lex Q => exact fun a w hF hC => k a w hF (h w hC)
  | any K => cases hm
  | held S Q fl => exact fun s h1 h2 a w hF hC hS => k s h1 h2 a w hF (h w hC) hS
theorem ml {C' : World → Prop} {c : Exit} (h : ∀ w, C w → C' w) (k : XW n C' E Q c) : XW n C E Q c := fun a w hF hC => k a w hF (h w hC)
def nv : List Bool → List Res → List Res
  | true :: bs, r :: L => r :: nv bs L
  | false :: bs, _ :: L => Res.nil :: nv bs L
  | _, _ => []
theorem xL : ∀ (bs : List Bool) (L : List Res), (dF (nv bs L)).Sublist (dF L)
  | [], L => by unfold nv; simp [dF]
  | true :: bs, [] => by unfold nv; simp
  | false :: bs, [] => by unfold nv; simp
  | true :: bs, r :: L => by rw [show nv (true :: bs) (r :: L) = r :: nv bs L from rfl, gX, gX]; exact List.Sublist.append (List.Sublist.refl _) (xL bs L)
  | false :: bs, r :: L => by
    rw [show nv (false :: bs) (r :: L) = Res.nil :: nv bs L from rfl, gX, gX]
    exact (xL bs L).trans (List.sublist_append_right _ _)
theorem Ab : ∀ (bs : List Bool) (L : List Res) {r : Res}, r ∈ nv bs L → r ∈ L ∨ r = Res.nil
  | [], L, r, h => by unfold nv at h; cases h
  | true :: bs, [], r, h => by unfold nv at h; cases h
  | false :: bs, [], r, h => by unfold nv at h; cases h
  | true :: bs, s :: L, r, h => by
    rw [show nv (true :: bs) (s :: L) = s :: nv bs L from rfl] at h
    cases h with
    | head => exact .inl (by simp)
    | tail _ h => rcases Ab bs L h with h1 | h1
                  · exact .inl (by simp [h1])
                  · exact .inr h1
  | false :: bs, s :: L, r, h => by
    rw [show nv (false :: bs) (s :: L) = Res.nil :: nv bs L from rfl] at h
    cases h with
    | head => exact .inr rfl
    | tail _ h => rcases Ab bs L h with h1 | h1
                  · exact .inl (by simp [h1])
                  · exact .inr h1
theorem St.mask {L' : List Res} {w : World} (bs : List Bool) (hL : nv bs L = L') (h : St w0 M L w) : St w0 M L' w := by
  subst hL
  have hf := xL bs L
  exact ⟨h.ext, fun r hr => h.ok' (Ab bs L hr), hf.nodup h.nd, fun b hb => h.lt b (hf.subset hb), fun b hb => h.new b (hf.subset hb)⟩
theorem St.push0 {w : World} (h : St w0 M L w) (r : Res) (hF : r.F = []) (ho : r.ok w) : St w0 M (L ++ [r]) w := by
  have := h.re [] [r] rfl (by rw [pD, hF]; exact List.Perm.refl _) (fun s hs => by rw [List.mem_singleton.1 hs]; exact ho)
  exact this
theorem St.pushNil {α : Type} {e : Enc α} {T : TypeId} {w : World} (h : St w0 M L w) : St w0 M (L ++ [Res.own (ae e T) [] [] [.slice none 0 0]]) w := h.push0 _ rfl Kb
section
variable {ops : Array Oper} {md : Region.Mode}
def wQ (P : Program) (md : Region.Mode) (ops : Array Oper) (C : World → Prop) (nn : Nat) (K : Array Bool → Act → Prop) : Nat → Array Bool → Act → Prop
  | 0, listed, a => K listed a
  | f + 1, listed, a =>
    Region.ready md ops listed ≠ [] ∧ ∀ i ∈ Region.ready md ops listed, i < nn ∧ qOp P ops C i (wQ P md ops C nn K f (listed.setIfInBounds i true)) a
theorem tS {nn g : Nat} {K : Array Bool → Act → Prop} {Q' : Exit → Act → World → Prop} (hL : ∀ listed a w, C w → K listed a → wpAny P md ops Q' g listed a w) :
    ∀ (f : Nat) (listed : Array Bool) (a : Act) (w : World), C w → wQ P md ops C nn K f listed a → wpAny P md ops Q' (f + g) listed a w
  | 0, listed, a, w, hw, h => by rw [Nat.zero_add]; exact hL _ _ _ hw h
  | f + 1, listed, a, w, hw, h => by
    rw [show f + 1 + g = (f + g) + 1 by omega]
    exact ⟨fun h0 => absurd h0 h.1, fun i hi => wpOp_of_qOp hw (fun a' w' hw' h' => tS hL f _ a' w' hw' h') (h.2 i hi).2⟩
theorem Bo {nn i : Nat} {oi : Oper} {v : Value} {K : Array Bool → Act → Prop} (hi : ops[i]? = some oi) (hsel : ∀ (j : Nat) (o : Oper) cs b, ops[j]? = some o → o.op ≠ .select cs b)
    (hs : Region.sinkB md ops nn = true) (hc : Region.chainB md ops nn = true) (hn : nn < ops.size) (hin : i < nn)
    (hdone : ∀ listed a, K listed a → ∀ j ∈ Region.ready md ops listed, nn ≤ j) :
    ∀ (f : Nat) (listed : Array Bool) (a : Act), HeadInv md ops nn listed →
      (∀ j oj, ops[j]? = some oj → j ≠ i → listed.getD j true = false → (∀ e ∈ oj.after, Region.binds md e = true → e.on ≠ i) → oi.apart ops oj = true) →
      i ∈ Region.ready md ops listed → YieldsIn P ops C oi v a →
      wQ P md ops C nn K f (listed.setIfInBounds i true) (a.put oi.dst v) → wQ P md ops C nn K (f + 1) listed a := by
  intro f
  induction f with
  | zero =>
    intro listed a inv _ hr hy H
    have hun := (mem_ready.1 hr).1
    refine ⟨fun h => (by rw [h] at hr; cases hr), fun j hj => ?_⟩
    have hjn : j < nn := by
      rcases Nat.lt_or_ge j nn with h | h
      · exact h
      · exact absurd hj (tail_waits hs hc hn inv _ i rfl hin hun j h)
    refine ⟨hjn, ?_⟩
    by_cases hji : j = i
    · subst hji; exact hy.qOp hi H
    · have := hdone _ _ H j (ready_mono hj hji)
      omega
  | succ f ih =>
    intro listed a inv hfree hr hy H
    have hun := (mem_ready.1 hr).1
    refine ⟨fun h => (by rw [h] at hr; cases hr), fun j hj => ?_⟩
    have hjn : j < nn := by
      rcases Nat.lt_or_ge j nn with h | h
      · exact h
      · exact absurd hj (tail_waits hs hc hn inv _ i rfl hin hun j h)
    refine ⟨hjn, ?_⟩
    by_cases hji : j = i
    · subst hji; exact hy.qOp hi H
    · have h1 := (H.2 j (ready_mono hj hji)).2
      obtain ⟨hjun, oj, hoj, hall⟩ := mem_ready.1 hj
      have hnot : ∀ e ∈ oj.after, Region.binds md e = true → e.on ≠ i := fun e he hb heq => by
        have h1 := hall e he hb
        rw [heq, getD_both hun] at h1
        cases h1
      have h2 := qOp_put hoj (hfree j oj hoj hji hjun hnot) (fun cs b => hsel i oi cs b hi) (fun cs b => hsel j oj cs b hoj) hy h1
      have hfree' : ∀ k ok, ops[k]? = some ok → k ≠ i → (listed.setIfInBounds j true).getD k true = false →
          (∀ e ∈ ok.after, Region.binds md e = true → e.on ≠ i) → oi.apart ops ok = true := fun k ok hk hki hun hno => by
        refine hfree k ok hk hki ?_ hno
        by_cases hjk : j = k
        · subst hjk; exact hjun
        · rw [getD_set_ne true hjk] at hun; exact hun
      refine qOp_mono (fun a' h3 => ih (listed.setIfInBounds j true) a' (inv.set hj hjn) hfree' (ready_mono hr (Ne.symm hji)) h3.1 ?_) h2
      rw [Array.setIfInBounds_comm _ _ hji]
      exact h3.2
theorem yh {nn g : Nat} {Lq : Act → Prop} (hsel : Region.noSelect ops = true) (hs : Region.sinkB md ops nn = true) (hc : Region.chainB md ops nn = true) (hn : nn < ops.size) :
    ∀ (l : List Oper) (k : Nat) (listed : Array Bool) (a : Act), (∀ j, j < l.length → l[j]? = ops[k + j]?) → k + l.length = nn → HeadInv md ops nn listed →
    Region.lexHead md ops g l.length k listed = true → wpQuiet P ops C Lq l a →
    wQ P md ops C nn (fun listed' a' => Region.seqB md ops g nn listed' = true ∧ Lq a') l.length listed a
  | [], k, listed, a, _, hk, _, hB, h => by
    have : k = nn := by simpa using hk
    subst this
    exact ⟨by simpa [Region.lexHead] using hB, h⟩
  | o :: l, k, listed, a, hl, hk, inv, hB, h => by
    have h0 : ops[k]? = some o := by simpa using (hl 0 (by simp)).symm
    simp only [List.length_cons, Region.lexHead, Bool.and_eq_true] at hB
    obtain ⟨⟨hr, hf⟩, hB'⟩ := hB
    have hkn : k < nn := by simp only [List.length_cons] at hk; omega
    have hr' : k ∈ Region.ready md ops listed := by simpa using hr
    have hst : qOp P ops C k (wpQuiet P ops C Lq l) a := by unfold qOp; simp only [h0]; exact h
    obtain ⟨v, hy, hK⟩ := yieldsIn_of_qOp h0 hst
    exact Bo h0 (Region.noSelect_spec hsel) hs hc hn hkn (fun listed' a' hL => seqB_ready hL.1) l.length listed a inv (Region.free_spec h0 hf) hr' hy
      (yh hsel hs hc hn l (k + 1) _ _ (fun j hj => by have := hl (j + 1) (by simp; omega); simpa [Nat.add_assoc, Nat.add_comm 1 j] using this) (by simp only [List.length_cons] at hk; omega) (inv.set hr' hkn) hB' hK)
theorem uE {id : Nat} {a : Act} {w : World} {l : List Oper} (nn : Nat) (hm : P.follows .mixedOrders = true) (hB : Region.lexTailB .any l.toArray nn = true) (hC : C { w with drawn := w.drawn + 1 })
    (h : wpQuiet P l.toArray C (fun a' => ∀ w', C w' → wpList P l.toArray Q (l.drop nn) a' w') (l.take nn) a) : (Code.region id l.toArray true).wp P Q a w := by
  simp only [Region.lexTailB, Bool.and_eq_true, decide_eq_true_eq] at hB
  obtain ⟨⟨⟨⟨hsel, hn⟩, hs⟩, hc⟩, hlex⟩ := hB
  have hn' : nn < l.length := by simpa using hn
  have htl : (l.take nn).length = nn := by simp; omega
  have hdl : (l.drop nn).length = l.toArray.size - nn := by simp
  have inv0 : HeadInv .any l.toArray nn (Array.replicate l.toArray.size false) :=
    ⟨by simp, fun j oj _ hl => (by rw [getD_replicate_false] at hl; cases hl), fun t _ ht => getD_in (by simpa using ht) (getD_replicate_false _ _)⟩
  have H := yh (md := .any) (g := l.toArray.size - nn) hsel hs hc hn (l.take nn) 0 _ a (fun j hj => by
    have hj' : j < nn := by rw [htl] at hj; exact hj
    simp [hj']) (by simpa using htl) inv0 (by rw [htl]; exact hlex) h
  refine wp_region_any hm ?_
  have := tS (C := C) (Q' := Q) (g := l.toArray.size - nn) (fun listed a' w' hw' hL => by
    have := wpAny_of_seq (md := .any) (Q' := Q) (l.drop nn) nn listed a' w' (fun j => by simp [List.getElem?_drop]) (by rw [hdl]; exact hL.1) (hL.2 w' hw')
    rwa [hdl] at this) _ _ _ _ hC H
  rw [htl, show nn + (l.toArray.size - nn) = l.toArray.size by omega] at this
  exact this
end
theorem ME {id : Nat} {l : List Oper} (nn : Nat) (hm : P.follows .mixedOrders = true) (hB : Region.lexTailB .any l.toArray nn = true)
    (h : OW P n l (St w0 M L) E (.any (fun E' => OW P n l (St w0 M L) E' (.lex Q) (l.drop nn))) (l.take nn)) : CW P n (St w0 M L) E Q (.region id l.toArray true) := fun a w hF hC =>
  uE (C := St w0 M L) nn hm hB hC.drew (by
    refine qA ?_ _ _ (h a hF)
    rintro a' ⟨E', hF', hK⟩ w' hC'
    exact hK a' w' hF' hC')
def CA {α : Type} (e : Enc α) (T : TypeId) (b cap : Nat) (xs : List α) (i : Nat) (G : List Nat) (c : List Value) (w : World) : Prop :=
  ∃ cur G1 G2 c1 c2, mJ w b cur T ∧ xs.length ≤ cap ∧ cap ≤ maxLen ∧ cur.size = cap * e.sz ∧ cur.toList.take (xs.length * e.sz) = c1 ++ (c ++ c2) ∧ c1.length = i * e.sz ∧ c.length = e.sz ∧ i < xs.length ∧
    G = G1 ++ G2 ∧ gI e w G1 (xs.take i) c1 ∧ gI e w G2 (xs.drop (i + 1)) c2
def Res.hole {α : Type} (e : Enc α) (T : TypeId) (b cap : Nat) (xs : List α) (i : Nat) (G : List Nat) (c : List Value) : Res :=
  ⟨b :: G, CA e T b cap xs i G c, fun w w' h ok => by
    obtain ⟨cur, G1, G2, c1, c2, h1, h2, h3, h4, h5, h6, h7, h8, rfl, h9, a⟩ := ok
    exact ⟨cur, G1, G2, c1, c2, h1.ext (h b (by simp)), h2, h3, h4, h5, h6, h7, h8, rfl, lD h9 (fun c hc => h c (by simp [hc])), lD a (fun c hc => h c (by simp [hc]))⟩⟩
theorem wH {α : Type} {e : Enc α} {w : World} : ∀ {xs : List α} {F : List Nat} {cs : List Value} {i : Nat} {x : α}, gI e w F xs cs → xs[i]? = some x →
    ∃ G1 Fi G2 c1 ci c2, F = G1 ++ (Fi ++ G2) ∧ cs = c1 ++ (ci ++ c2) ∧ c1.length = i * e.sz ∧ ci.length = e.sz ∧ gI e w G1 (xs.take i) c1 ∧ e.own w Fi x ci ∧ gI e w G2 (xs.drop (i + 1)) c2
  | [], _, _, i, x, _, hx => by simp at hx
  | y :: xs, F, cs, 0, x, h, hx => by
    obtain ⟨F1, F2, c1, c2, rfl, rfl, h1, h2, h3⟩ := h
    simp at hx; subst hx
    exact ⟨[], F1, F2, [], c1, c2, rfl, rfl, by simp, h1, ⟨rfl, rfl⟩, h2, by simpa using h3⟩
  | y :: xs, F, cs, i + 1, x, h, hx => by
    obtain ⟨F1, F2, c1, c2, rfl, rfl, h1, h2, h3⟩ := h
    simp only [List.getElem?_cons_succ] at hx
    obtain ⟨G1, Fi, G2, d1, di, d2, rfl, rfl, k1, k2, k3, k4, k5⟩ := wH h3 hx
    refine ⟨F1 ++ G1, Fi, G2, c1 ++ d1, di, d2, by simp, by simp, ?_, k2, ⟨F1, G1, c1, d1, rfl, rfl, h1, h2, k3⟩, k4, by simpa using k5⟩
    rw [List.length_append, h1, k1, Nat.add_mul]; omega
theorem Fl {α : Type} {e : Enc α} {w : World} {xs : List α} {i : Nat} {x : α} (hi : i < xs.length) {G1 Fi G2 : List Nat} {c1 ci c2 : List Value} (h1 : gI e w G1 (xs.take i) c1) (h2 : e.own w Fi x ci) (hl : ci.length = e.sz) (h3 : gI e w G2 (xs.drop (i + 1)) c2) :
    gI e w (G1 ++ (Fi ++ G2)) (xs.set i x) (c1 ++ (ci ++ c2)) := by
  rw [List.set_eq_take_append_cons_drop, if_pos hi]
  exact vd h1 ⟨Fi, G2, ci, c2, rfl, rfl, hl, h2, h3⟩
theorem foc {α : Type} {e : Enc α} {T : TypeId} {w : World} {F : List Nat} {xs : List α} {a : Option Addr} {nn c : Nat} {j : Int} {x : α} {r : Nat} (h : St w0 M L w) (hr : L[r]? = some (Res.own (ae e T) F xs [.slice a nn c])) (hj : idx xs j = some x) :
    ∃ (b : Nat) (G Fi : List Nat) (ci : List Value), (a = some ⟨b, 0, none⟩ ∧ nn = xs.length) ∧ St w0 M (pC L [r] ++ [Res.hole e T b c xs j.toNat G ci, Res.own e Fi x ci]) w := by
  obtain ⟨h0, hlt, hx⟩ := cE hj
  obtain ⟨hok, _, _⟩ := h.one hr
  rcases hok with ⟨rfl, _, _⟩ | ⟨b, cap, cur, F1, ds, rfl, hcs, hh, h1, h2, h3, h4, h5⟩
  · simp at hlt
  · simp only [List.cons.injEq, Value.slice.injEq, and_true] at hcs
    obtain ⟨rfl, rfl, rfl⟩ := hcs
    obtain ⟨G1, Fi, G2, c1, ci, c2, rfl, rfl, k1, k2, k3, k4, k5⟩ := wH h5 hx
    refine ⟨b, G1 ++ G2, Fi, ci, ⟨rfl, rfl⟩, h.re [r] _ rfl ?_ ?_⟩
    · have hs : kx L [r] = [Res.own (ae e T) (b :: (G1 ++ (Fi ++ G2))) xs [.slice (some ⟨b, 0, none⟩) xs.length c]] := by
        simp only [kS, sG, hr]
      rw [hs, pD]
      show (dF [Res.hole e T b c xs j.toNat (G1 ++ G2) ci, Res.own e Fi x ci]).Perm (b :: (G1 ++ (Fi ++ G2)))
      rw [gX, pD]
      show (b :: ((G1 ++ G2) ++ Fi)).Perm (b :: (G1 ++ (Fi ++ G2)))
      refine List.Perm.cons _ ?_
      rw [List.append_assoc]
      exact List.Perm.append_left _ List.perm_append_comm
    · intro s hs
      simp only [List.mem_cons, List.not_mem_nil, or_false] at hs
      rcases hs with rfl | rfl
      · exact ⟨cur, G1, G2, c1, c2, hh, h1, h2, h3, h4, k1, k2, hlt, rfl, k3, k5⟩
      · exact k4
theorem unf {α : Type} {e : Enc α} {T : TypeId} {w : World} {b cap i : Nat} {xs : List α} {G Fi : List Nat} {c : List Value} {x' : α} {nn : Nat} {p q : Nat} (h : St w0 M L w) (hp : L[p]? = some (Res.hole e T b cap xs i G c)) (hq : L[q]? = some (Res.own e Fi x' c)) (hpq : xR [p, q] = true) (hn : nn = xs.length) {a : Option Addr} (ha : a = some ⟨b, 0, none⟩) :
    ∃ F', St w0 M (pC L [p, q] ++ [Res.own (ae e T) F' (xs.set i x') [.slice a nn cap]]) w := by
  subst ha
  obtain ⟨cur, G1, G2, c1, c2, h1, h2, h3, h4, h5, h6, h7, h8, rfl, h9, d⟩ := h.ok _ (List.mem_of_getElem? hp)
  have hx : e.own w Fi x' c := h.ok _ (List.mem_of_getElem? hq)
  have hs : kx L [p, q] = [Res.hole e T b cap xs i (G1 ++ G2) c, Res.own e Fi x' c] := by simp only [kS, sG, hp, hq]
  refine ⟨b :: (G1 ++ (Fi ++ G2)), h.re [p, q] _ hpq ?_ ?_⟩
  · rw [hs, pD, gX, pD]
    show (b :: (G1 ++ (Fi ++ G2))).Perm (b :: ((G1 ++ G2) ++ Fi))
    refine List.Perm.cons _ ?_
    rw [List.append_assoc]
    exact List.Perm.append_left _ List.perm_append_comm
  · intro s hs
    rw [List.mem_singleton.1 hs]
    refine .inr ⟨b, cap, cur, _, _, rfl, by rw [hn, List.length_set], h1, by rw [List.length_set]; exact h2, h3, h4, by rw [List.length_set]; exact h5, Fl h8 h9 hx h7 d⟩
theorem Jh {α : Type} {e : Enc α} {T : TypeId} {w : World} {F : List Nat} {xs : List α} {cs : List Value} {i : Nat} (h : St w0 M L w) (hi : L[i]? = some (Res.own (ae e T) F xs cs)) :
    ∃ (a : Option Addr) (c : Nat), cs = [.slice a xs.length c] ∧ St w0 M L w := by
  obtain ⟨a, c, hc⟩ := mU (h.ok _ (List.mem_of_getElem? hi))
  exact ⟨a, c, hc, h⟩
theorem EN {α : Type} {f : α → List Value} {k : Nat} {hk : ∀ x, (f x).length = k} {h1 : ∀ x, ∀ u ∈ f x, u.oneCell' = true} {w : World} {F : List Nat} {x : α} {cs : List Value} {i : Nat} (h : St w0 M L w) (hi : L[i]? = some (Res.own (zV f k hk h1) F x cs)) :
    (F = [] ∧ cs = f x) := h.ok _ (List.mem_of_getElem? hi)
theorem Kc {α : Type} {e : Enc α} {T : TypeId} {S : World → Prop} {b cap i : Nat} {xs : List α} {G : List Nat} {c : List Value} (hr : ∀ w, S w → CA e T b cap xs i G c w) : ∀ w, S w → At w [] ⟨b, i * e.sz, none⟩ c := fun w hw => by
  obtain ⟨cur, G1, G2, c1, c2, h1, h2, h3, h4, h5, h6, h7, h8, _⟩ := hr w hw
  refine ⟨fun _ => by simp, fun j v hv => ?_⟩
  have hj : j < c.length := (List.getElem?_eq_some_iff.1 hv).1
  rw [dd, h1.cell]
  have hg : (c1 ++ (c ++ c2))[i * e.sz + j]? = some v := by
    rw [← h6, List.getElem?_append_right (by omega), show c1.length + j - c1.length = j by omega, List.getElem?_append_left hj]; exact hv
  rw [← h5, List.getElem?_take] at hg
  split at hg
  · simpa using hg
  · cases hg
theorem fG {α : Type} {e : Enc α} {T : TypeId} {b cap i : Nat} {xs : List α} {G : List Nat} {c : List Value} {p : Nat} (hr : L[p]? = some (Res.hole e T b cap xs i G c)) : ∀ w, St w0 M L w → CA e T b cap xs i G c w := fun _ hw => hw.ok _ (List.mem_of_getElem? hr)
theorem Ku {S : World → Prop} {p : Addr} {cs ds : List Value} (h : ∀ w, S w → At w [] p cs) (o : Nat) (hd : (cs.drop o).take ds.length = ds) : ∀ w, S w → At w [] (p.add o) ds := fun w hw => Mr (h w hw) o hd
theorem Aq {w : World} {X : List Nat} {p : Addr} {cs : List Value} (h : At w X p cs) (o k : Nat) : At w X (p.add o) ((cs.drop o).take k) := by
  refine ⟨fun hne => ?_, fun j v hv => ?_⟩
  · rw [qD]
    refine h.1 (fun e => hne ?_)
    subst e; simp
  · rw [dK]
    refine h.2 _ v ?_
    rw [List.getElem?_take] at hv
    split at hv
    · simpa using hv
    · cases hv
theorem Cs {S : World → Prop} {p : Addr} {cs : List Value} (h : ∀ w, S w → At w [] p cs) (o k : Nat) : ∀ w, S w → At w [] (p.add o) ((cs.drop o).take k) := fun w hw => Aq (h w hw) o k
theorem ls {S : World → Prop} {p q : Addr} {cs : List Value} (h : ∀ w, S w → At w [] p cs) (hq : q = p) : ∀ w, S w → At w [] q cs := hq ▸ h
theorem ff {α : Type} {e : Enc α} {o : Oper} {t : TypeId} {x y : Operand} {q : Addr} {b cap i off : Nat} {v : Value} (vs : List Value) {agg : Bool} {sz by_ : Nat} {z : List Value} {p : Nat} {T : TypeId} {xs : List α} {G : List Nat} {c : List Value} (ho : o.op = .store t x y) (hm : m.here (o :: rest) = true) (hw : wt l E o.guard = some true) (hd : iA n o.dst = true)
    (hx : ev E x = some (.pointer (some q))) (hq : q = ⟨b, i * e.sz + off, none⟩) (hy : ev E y = some v) (ht : ee P t agg sz by_ z) (hv : v.cells = vs.toArray) (hl : vs.length = sz) (h1 : ∀ u ∈ vs, u.oneCell' = true) (hr : L[p]? = some (Res.hole e T b cap xs i G c)) (hfit : Nat.ble (off + sz) e.sz = true) {c' : List Value} (hc' : fI c off vs = c')
    (hS : Kp m (St w0 M (L.set p (Res.hole e T b cap xs i G c')))) (hk : OW P n l (St w0 M (L.set p (Res.hole e T b cap xs i G c'))) (upd E o.dst undef) m rest) : OW P n l (St w0 M L) E m (o :: rest) :=
  lk hm hw fun a w hF hC _ _ hK => by
    subst hq hc'
    obtain ⟨hok, hnd, hlt⟩ := hC.one hr
    obtain ⟨cur, G1, G2, c1, c2, hb, h2, h3, h4, h5, h6, h7, h8, rfl, h9, f⟩ := hok
    have hfit' := Nat.le_of_ble_eq_true hfit
    have hpos : (i + 1) * e.sz ≤ xs.length * e.sz := Nat.mul_le_mul_right _ h8
    have hpos2 : xs.length * e.sz ≤ cap * e.sz := Nat.mul_le_mul_right _ h2
    rw [Nat.add_mul, Nat.one_mul] at hpos
    have hrun := tL ht hb hv hl (off := i * e.sz + off) (by omega) h1
    have hb1 : b ∉ G1 ++ G2 := by
      have := hnd
      simp only [Res.hole] at this
      exact (List.nodup_cons.1 this).1
    have hst : St w0 M (L.set p (Res.hole e T b cap xs i (G1 ++ G2) (fI c off vs))) (w.setRow b (fI cur.toList (i * e.sz + off) vs).toArray) := by
      refine hC.upd hr (Ext.mono (yr hb) (by simp [Res.hole])) _ ?_ hnd (fun d hd' => ⟨by have := hlt d hd'; simpa using this, .inl hd'⟩)
      refine ⟨_, G1, G2, c1, c2, hb.set (by simp only [List.size_toArray]; rw [pn (by simp; omega)]; simp), h2, h3, ?_, ?_, h6, ?_, h8, rfl, ?_, ?_⟩
      · simp only [List.size_toArray]; rw [pn (by simp; omega)]; simpa using h4
      · have hcl : (cur.toList.take (xs.length * e.sz)).length = xs.length * e.sz := by simp; omega
        have hc2l : c1.length + (c.length + c2.length) = xs.length * e.sz := by rw [← hcl, h5]; simp
        have key : fI (cur.toList.take (xs.length * e.sz)) (i * e.sz + off) vs = c1 ++ (fI c off vs ++ c2) := by
          rw [h5]
          simp only [fI]
          have hA : i * e.sz + off = c1.length + off := by rw [h6]
          rw [hA, List.take_length_add_append, List.take_append_of_le_length (by omega), show c1.length + off + vs.length = c1.length + (off + vs.length) by omega, List.drop_length_add_append, List.drop_append_of_le_length (by omega)]
          simp [List.append_assoc]
        rw [← key]
        show (fI cur.toList (i * e.sz + off) vs).take (xs.length * e.sz) = _
        simp only [fI]
        rw [List.take_append, List.take_append, List.take_take, List.take_take, List.drop_take]
        have e1 : min (xs.length * e.sz) (i * e.sz + off) = i * e.sz + off := by omega
        have e2 : (cur.toList.take (i * e.sz + off)).length = i * e.sz + off := by simp; omega
        rw [e1, show min (i * e.sz + off) (xs.length * e.sz) = i * e.sz + off by omega, e2, List.take_of_length_le (l := vs) (by omega)]
        congr 2
        rw [List.length_append, e2]
      · rw [pn (by omega)]; exact h7
      · exact lD h9 (fun d hd' => setRow_other w b d _ (fun e => hb1 (by rw [← e]; simp [hd'])))
      · exact lD f (fun d hd' => setRow_other w b d _ (fun e => hb1 (by rw [← e]; simp [hd'])))
    refine uX ?_ (hK _ _ _ _ hk (hF.put _ _ (bU hd)) hst (hS _ hst))
    unfold execOp
    simp only [ho, hF.ev hx, hF.ev hy, Sem.run_bind, hrun]
    rfl
end Go.Vk
/- Flat structs in slices, elements moved, calls with state, results in cells. -/
namespace Go.Vk
open Go.RowKit
variable {P : Program} {n : Nat} {C : World → Prop} {E : Env} {m : Md} {l rest : List Oper} {w0 : World} {M : List Nat} {L : List Res} {Q : Exit → Act → World → Prop}
theorem bO {α : Type} {e : Enc α} {o : Oper} {t et : TypeId} {x i : Operand} {agg : Bool} {sz by_ : Nat} {z : List Value} {xs : List α} {k : IntKind} {j : Int} {y : α} {a : Option Addr} {nn cap : Nat}
    (ho : o.op = .indexAddr t x i) (hw : wt l E o.guard = some true) (hd : iA n o.dst = true) (hx : ev E x = some (.slice a nn cap)) (hi : ev E i = some (.int k j)) (ht : isSl P t et) (he : ee P et agg sz by_ z) (_hsz : e.sz = sz)
    (hS : ∀ w, m.cls C w → oO e w [] xs [.slice a nn cap]) (hj : idx xs j = some y) {q : Addr} (hq : q = ER a (j.toNat * sz))
    (hk : OW P n l C (upd E o.dst (.pointer (some q))) m rest) : OW P n l C E m (o :: rest) := by
  subst hq
  obtain ⟨h0, hl, h2⟩ := cE hj
  refine FY hw (bU hd) (v := .pointer (some (ER a (j.toNat * sz)))) (fun fr hF w hw' => ?_) hk
  obtain ⟨a', cap', hv, _, _, hel⟩ := hS w hw'
  simp only [List.cons.injEq, Value.slice.injEq, and_true] at hv
  obtain ⟨rfl, rfl, rfl⟩ := hv
  obtain ⟨p, rfl, hp⟩ := hel (fun e => by subst e; simp at hl)
  unfold execOp
  simp only [ho, hF.ev hx, hF.ev hi, Sem.run_bind, uG ht he p xs.length cap k j h0 hl w, ER, Option.getD_some]
  rfl
theorem mS {α : Type} {e : Enc α} {S : World → Prop} {xs : List α} {a : Option Addr} {nn cap : Nat} {j : Int} {y : α} {cs : List Value} (hS : ∀ w, S w → oO e w [] xs [.slice a nn cap]) (hj : idx xs j = some y) (hc : ∀ w ds, e.rd w [] y ds → ds = cs) :
    ∀ w, S w → At w [] (ER a (j.toNat * e.sz)) cs := fun w hw => by
  obtain ⟨h0, hl, h2⟩ := cE hj
  obtain ⟨a', cap', hv, _, _, hel⟩ := hS w hw
  simp only [List.cons.injEq, Value.slice.injEq, and_true] at hv
  obtain ⟨rfl, rfl, rfl⟩ := hv
  obtain ⟨p, rfl, hp⟩ := hel (fun e => by subst e; simp at hl)
  obtain ⟨ds, hd, hA⟩ := hp _ y h2
  rw [← hc w ds hd]
  exact hA
theorem fR {α : Type} {e : Enc α} {o : Oper} {t et : TypeId} {x i : Operand} {agg : Bool} {sz by_ : Nat} {z : List Value} {k : IntKind} {j : Int} {nn b cap cap' : Nat} {a : Option Addr} {T : TypeId} {xs : List α} {G : List Nat} {c : List Value}
    (ho : o.op = .indexAddr t x i) (hw : wt l E o.guard = some true) (hd : iA n o.dst = true) (hx : ev E x = some (.slice a nn cap')) (hi : ev E i = some (.int k j)) (ht : isSl P t et) (he : ee P et agg sz by_ z) (_hsz : e.sz = sz)
    (hS : ∀ w, m.cls C w → CA e T b cap xs j.toNat G c w) (hnn : nn = xs.length) (ha : a = some ⟨b, 0, none⟩) (h0 : 0 ≤ j)
    (hk : OW P n l C (upd E o.dst (.pointer (some ⟨b, j.toNat * sz, none⟩))) m rest) : OW P n l C E m (o :: rest) := by
  subst ha
  refine FY hw (bU hd) (v := .pointer (some ⟨b, j.toNat * sz, none⟩)) (fun fr hF w hw' => ?_) hk
  obtain ⟨cur, G1, G2, c1, c2, _, _, _, _, _, _, _, hlt, _⟩ := hS w hw'
  have hr := uG (P := P) ht he ⟨b, 0, none⟩ nn cap' k j h0 (by omega) w
  rw [dd, Nat.zero_add] at hr
  unfold execOp
  simp only [ho, hF.ev hx, hF.ev hi, Sem.run_bind, hr]
  rfl
theorem cq {α : Type} {val : α → Value} {h1 : ∀ x, (val x).oneCell' = true} {S : World → Prop} {xs : List α} {a : Option Addr} {nn cap : Nat} {j : Int} {y : α} (hS : ∀ w, S w → oO (il val h1) w [] xs [.slice a nn cap]) (hj : idx xs j = some y) :
    ∀ w, S w → At w [] (ER a j.toNat) [val y] := fun w hw => by
  have := mS (e := il val h1) hS hj (cs := [val y]) (fun _ _ h => h) w hw
  rwa [show (il val h1).sz = 1 from rfl, Nat.mul_one] at this
theorem sa {α : Type} {xs zs : List α} {y : α} {ys : List α} (h : app xs (y :: ys) = some zs) : zs ≠ [] := by
  rw [(An h).1]; simp
theorem KT {o : Oper} {t et u : TypeId} {x : Operand} {a : Option Addr} {nn cap : Nat} {b : Bool} (ho : o.op = .binOp .eql t x (.const (.slice none 0 0)) u) (hx : ev E x = some (.slice a nn cap)) (ht : isSl P t et) (hb : a.isNone = b) : Ry P n C E o (.bool b) := hb ▸ Mo ho hx ht
theorem Ix {o : Oper} {t et u : TypeId} {x : Operand} {a : Option Addr} {nn cap : Nat} {b : Bool} (ho : o.op = .binOp .neq t x (.const (.slice none 0 0)) u) (hx : ev E x = some (.slice a nn cap)) (ht : isSl P t et) (hb : a.isNone = b) : Ry P n C E o (.bool (!b)) := hb ▸ Kz ho hx ht
def fsB (P : Program) (s : TypeId) (tab : List (Nat × Nat)) : Bool :=
  match P.underlying s with
  | some (.struct fs) => (match fs.toList.mapM (fun f => (P.info? f.type).map fun i => (f.offset, i.size)) with | some t => t == tab | none => false)
  | _ => false
theorem CG {s : TypeId} {tab : List (Nat × Nat)} (h : fsB P s tab = true) : Is P s tab := by
  unfold fsB at h
  split at h
  · rename_i fs hu
    refine ⟨fs, hu, ?_⟩
    split at h
    · rename_i t ht
      rw [ht]; simp only [beq_iff_eq] at h; rw [h]
    · cases h
  · cases h
theorem uU {o : Oper} {t : TypeId} {ps : List (Nat × Operand)} {vs : List Value} (qs : List (Nat × List Value)) (cs : List Value) {tab : List (Nat × Nat)} {sz by_ : Nat} {z : List Value} (ho : o.op = .build t ps.toArray) (hx : evs E (ps.map (·.2)) = some vs)
    (ht : ee P t true sz by_ z) (hs : Is P t tab) (hz : z.length = sz) (hp : Cl (tab.toArray[·]?) sz ((ps.map (·.1)).zip vs) qs) (hl : zb z qs = cs) : Ry P n C E o (.agg cs.toArray) := hl ▸ JP qs ho hx ht hs hz hp
theorem nr {S : World → Prop} {fl : List (Nat × Bool)} {l : List Oper} {o : Oper} {rest : List Oper} {v : Value} (hw : wt l E o.guard = some true) (hd : ∀ t, o.dst = some t → t < n) (hq : Ry P n S E o v)
    (h : OW P n l C (upd E o.dst v) (.held S Q fl) rest) : OW P n l C E (.held S Q fl) (o :: rest) := FY (m := .held S Q fl) hw hd hq h
theorem lG {α : Type} {e : Enc α} {o : Oper} {t : TypeId} {x : Operand} {q : Addr} {b cap i : Nat} {T : TypeId} {xs : List α} {G : List Nat} {c : List Value} {v : Value} {sz by_ : Nat} {z : List Value} (p off : Nat) (hr : L[p]? = some (Res.hole e T b cap xs i G c)) (ho : o.op = .load t x) (hx : ev E x = some (.pointer (some q)))
    (ht : ee P t false sz by_ z) (hq : q = ⟨b, i * e.sz + off, none⟩) (hv : c[off]? = some v) : Ry P n (St w0 M L) E o v :=
  aF ho hx ht (by
    subst hq
    have h1 := Ku (Kc (fG (w0 := w0) (M := M) hr)) off (ds := [v]) (by
      obtain ⟨h1, h2⟩ := List.getElem?_eq_some_iff.1 hv
      rw [List.drop_eq_getElem_cons h1, h2]; rfl)
    rwa [dd] at h1)
theorem Ho {o : Oper} {t : TypeId} {x y : Operand} {b off : Nat} {v : Value} (vs : List Value) (cs' : List Value) {agg : Bool} {sz by_ : Nat} {z : List Value} {i : Nat} {T : TypeId} {cs : List Value} (ho : o.op = .store t x y) (hm : m.here (o :: rest) = true) (hw : wt l E o.guard = some true) (hd : iA n o.dst = true)
    (hx : ev E x = some (.pointer (some ⟨b, off, none⟩))) (hy : ev E y = some v) (ht : ee P t agg sz by_ z) (hv : v.cells = vs.toArray) (hl : vs.length = sz) (h1 : ∀ u ∈ vs, u.oneCell' = true) (hr : L[i]? = some (Res.box b T cs)) (hfit : Nat.ble (off + sz) cs.length = true) (hc : fI cs off vs = cs')
    (hS : Kp m (St w0 M (L.set i (Res.box b T cs')))) (hk : OW P n l (St w0 M (L.set i (Res.box b T cs'))) (upd E o.dst undef) m rest) : OW P n l (St w0 M L) E m (o :: rest) := by
  subst hc
  exact Jz vs ho hm hw hd hx hy ht hv hl h1 hr hfit hS hk
section
variable {α : Type} {f : α → List Value} {k : Nat} {hk : ∀ x, (f x).length = k} {h1 : ∀ x, ∀ u ∈ f x, u.oneCell' = true}
end
theorem aC {o : Oper} {f : FuncId} {xs : List Operand} {ts : Array TypeId} {vs : List Value} {R : Value → World → World → Prop} (ho : o.op = .call { callee := .value (.func f), args := xs.toArray, argTypes := ts }) (hf : bl P f)
    (hm : m.here (o :: rest) = true) (hw : wt l E o.guard = some true) (hd : iA n o.dst = true) (hx : evs E xs = some vs)
    (hc : ∀ w, C w → Calls P f vs.toArray w fun e w' => ∃ v, e = .returned v ∧ R v w w')
    (hk : ∀ v w w', C w → R v w w' → ∃ C' : World → Prop, C' w' ∧ (∀ u, C' u → m.keeps u) ∧ OW P n l C' (upd E o.dst v) m rest) : OW P n l C E m (o :: rest) :=
  KN ho hf hm hw hd hx hc hk
def EI : List Value → Value
  | [v] => v
  | vs => .tuple vs.toArray
def If (P : Program) (C : World → Prop) (E : Env) : List ResultVar → List Value → Prop
  | [], [] => True
  | .tmp t :: rs, v :: vs => tY E t = some v ∧ If P C E rs vs
  | .cell t T :: rs, v :: vs => (∃ p cs sz by_ z, tY E t = some (.pointer (some p)) ∧ ee P T true sz by_ z ∧ (∀ w, C w → At w [] p cs) ∧ cs.length = sz ∧ v = .agg cs.toArray) ∧ If P C E rs vs
  | _, _ => False
def yj (a : Act) : ResultVar → Sem Value
  | .tmp t => pure (a.tmps.getD t undef)
  | .cell p t => do loadVar t (← asAddr (a.tmps.getD p undef))
theorem Gc (fn : Func) (a : Act) : results fn a.tmps = (do let vs ← fn.results.mapM (yj a); pure (if h : vs.size = 1 then vs[0] else .tuple vs)) := by
  unfold results
  have : (fun x => (match x with | .tmp t => pure (a.tmps.getD t undef) | .cell p t => do loadVar t (← asAddr (a.tmps.getD p undef)) : Sem Value)) = yj a := by
    funext x; cases x <;> rfl
  rw [← this]
  rfl
theorem Az {a : Act} {w : World} (hF : Fr n E a) (hC : C w) : ∀ {rs : List ResultVar} {vs : List Value}, If P C E rs vs → (rs.mapM (yj a)).run P w = .ok vs w
  | [], [], _ => rfl
  | .tmp t :: rs, v :: vs, h => by
    have ih := Az hF hC h.2
    have h0 : (yj a (.tmp t)).run P w = .ok v w := by simp only [yj, Sem.run_pure, hF.e_ t v h.1]
    rw [List.mapM_cons]
    simp only [Sem.run_bind, Sem.run_pure, Result.andThen_ok, h0, ih]
  | .cell t T :: rs, v :: vs, h => by
    have ih := Az hF hC h.2
    obtain ⟨p, cs, sz, by_, z, h1, h2, h3, h4, rfl⟩ := h.1
    have h5 := vD h2 (h3 w hC) h4
    have h0 : (yj a (.cell t T)).run P w = .ok (.agg cs.toArray) w := by
      simp only [Instr.loadAt, Instr.sureAddr, Sem.run_bind, Sem.run_pure, Result.andThen_ok, if_true] at h5
      simp only [yj, Sem.run_bind, Sem.run_pure, Result.andThen_ok, hF.e_ t _ h1, asAddr, h5]
    rw [List.mapM_cons]
    simp only [Sem.run_bind, Sem.run_pure, Result.andThen_ok, h0, ih]
  | [], _ :: _, h => h.elim
  | .tmp _ :: _, [], h => h.elim
  | .cell _ _ :: _, [], h => h.elim
theorem yw {fn : Func} {a : Act} {w : World} {rs : List ResultVar} {vs : List Value} (hr : fn.results = rs.toArray) (hF : Fr n E a) (hC : C w) (h : If P C E rs vs) : (results fn a.tmps).run P w = .ok (EI vs) w := by
  have h1 := Az hF hC h
  have h2 : (rs.toArray.mapM (yj a)).run P w = .ok vs.toArray w := by
    rw [List.mapM_toArray, map_eq_pure_bind]
    simp only [Sem.run_bind, h1, Result.andThen_ok, Sem.run_pure]
  rw [Gc, hr]
  simp only [Sem.run_bind, h2, Result.andThen_ok, Sem.run_pure]
  congr 1
  match vs with
  | [] => rfl
  | [v] => rfl
  | v :: u :: vs => rfl
theorem ca {fn : Func} {R : Ending → World → Prop} {rs : List ResultVar} {vs : List Value} (hr : fn.results = rs.toArray) (hv : If P C E rs vs) (hR : ∀ w, C w → R (.returned (EI vs)) w) : XW n C E (bodyPost P fn R) .ret := fun _ w hF hC =>
  ⟨hF.df, EI vs, yw hr hF hC hv, hR w hC⟩
theorem CL {fn : Func} {R : Ending → World → Prop} {rs : List ResultVar} {vs : List Value} (hr : fn.results = rs.toArray) (hv : If P C E rs vs) (hR : ∀ w, C w → R (.returned (EI vs)) w) : XW n C E (bodyPost P fn R) .normal := fun _ w hF hC =>
  ⟨hF.df, EI vs, yw hr hF hC hv, hR w hC⟩
end Go.Vk
/- Regions whose head makes and reads memory, and whose tail comes in one order. -/
namespace Go.Vk
open Go.RowKit
variable {P : Program} {n : Nat} {C : World → Prop} {E : Env} {m : Md} {l rest : List Oper} {w0 : World} {M : List Nat} {L : List Res} {Q : Exit → Act → World → Prop}
def QT (P : Program) (l : List Oper) (nn : Nat) (Q : Exit → Act → World → Prop) : Exit → Act → World → Prop
  | .normal, a, w => wpList P l.toArray Q (l.drop nn) a w
  | e, a, w => Q e a w
theorem Mi {Q1 Q2 : Exit → Act → World → Prop} (h : ∀ e a w, e ≠ .normal → Q1 e a w → Q2 e a w) {o : Oper} {a : Act} {K : Act → World → Prop} {r : Result Next} (hu : o.upon P a K Q1 r) : o.upon P a K Q2 r := by
  cases r with
  | ok x w' =>
    cases x <;> simp only [Oper.upon] at hu ⊢
    case value => exact hu
    case skip => exact hu
    case defer => exact hu
    case enter f args =>
      refine hu.mono fun e w'' he => ?_
      cases e with
      | returned v => exact he
      | panicked c => exact h _ _ _ (by simp) he
      | outgrown => obtain ⟨a, w, hq⟩ := (show LetsOut Q1 from he); exact ⟨a, w, h _ _ _ (by simp) hq⟩
    case row => exact hu
  | halt x w' =>
    cases x <;> simp only [Oper.upon] at hu ⊢
    exact h _ _ _ (by simp) hu
theorem Ma {Q1 Q2 : Exit → Act → World → Prop} {ops : Array Oper} (h : ∀ e a w, e ≠ .normal → Q1 e a w → Q2 e a w) {i : Nat} {K : Act → World → Prop} {a : Act} {w : World} (hu : wpOp P ops Q1 i K a w) : wpOp P ops Q2 i K a w := by
  unfold wpOp at hu ⊢
  cases ho : ops[i]? with
  | none => rw [ho] at hu; exact hu
  | some o =>
    rw [ho] at hu
    simp only at hu ⊢
    split at hu
    · rename_i hw
      rw [if_pos hw]
      rcases hu with hu | ⟨h1, h2⟩
      · exact .inl (Mi h hu)
      · obtain ⟨a, w, hq⟩ := h2
        exact .inr ⟨h1, a, w, h _ _ _ (by simp) hq⟩
    · rename_i hw
      rw [if_neg hw]
      exact hu
section
variable {ops : Array Oper} {md : Region.Mode} {S : World → Prop}
def wD (P : Program) (md : Region.Mode) (ops : Array Oper) (Q : Exit → Act → World → Prop) (S : World → Prop) (nn : Nat) (K : Array Bool → Act → World → Prop) : Nat → Array Bool → Act → World → Prop
  | 0, listed, a, w => K listed a w
  | f + 1, listed, a, w =>
    Region.ready md ops listed ≠ [] ∧ ∀ i ∈ Region.ready md ops listed, i < nn ∧ wpOp P ops Q i (fun a' w' => S w' ∧ wD P md ops Q S nn K f (listed.setIfInBounds i true) a' w') a w
theorem uf {nn g : Nat} {K : Array Bool → Act → World → Prop} (hL : ∀ listed a w, K listed a w → wpAny P md ops Q g listed a w) :
    ∀ (f : Nat) (listed : Array Bool) (a : Act) (w : World), wD P md ops Q S nn K f listed a w → wpAny P md ops Q (f + g) listed a w
  | 0, listed, a, w, h => by rw [Nat.zero_add]; exact hL _ _ _ h
  | f + 1, listed, a, w, h => by
    rw [show f + 1 + g = (f + g) + 1 by omega]
    exact ⟨fun h0 => absurd h0 h.1, fun i hi => wpOp_mono (fun a' w' h' => uf hL f _ a' w' h'.2) (h.2 i hi).2⟩
theorem BA {nn i : Nat} {oi : Oper} {v : Value} {K : Array Bool → Act → World → Prop} (hi : ops[i]? = some oi) (hsel : ∀ (j : Nat) (o : Oper) cs b, ops[j]? = some o → o.op ≠ .select cs b)
    (hs : Region.sinkB md ops nn = true) (hc : Region.chainB md ops nn = true) (hn : nn < ops.size) (hin : i < nn) (hQ : pu Q)
    (hdone : ∀ listed a w, K listed a w → ∀ j ∈ Region.ready md ops listed, nn ≤ j) :
    ∀ (f : Nat) (listed : Array Bool) (a : Act) (w : World), HeadInv md ops nn listed →
      (∀ j oj, ops[j]? = some oj → j ≠ i → listed.getD j true = false → (∀ e ∈ oj.after, Region.binds md e = true → e.on ≠ i) → oi.apart ops oj = true) →
      i ∈ Region.ready md ops listed → YieldsIf P ops S oi v a → S w →
      wD P md ops Q S nn K f (listed.setIfInBounds i true) (a.put oi.dst v) w → wD P md ops Q S nn K (f + 1) listed a w := by
  intro f
  induction f with
  | zero =>
    intro listed a w inv _ hr hy hS H
    have hun := (mem_ready.1 hr).1
    refine ⟨fun h => (by rw [h] at hr; cases hr), fun j hj => ?_⟩
    have hjn : j < nn := by
      rcases Nat.lt_or_ge j nn with h | h
      · exact h
      · exact absurd hj (tail_waits hs hc hn inv _ i rfl hin hun j h)
    refine ⟨hjn, ?_⟩
    by_cases hji : j = i
    · subst hji; exact hy.wpOp hi hS ⟨hS, H⟩
    · have := hdone _ _ _ H j (ready_mono hj hji)
      omega
  | succ f ih =>
    intro listed a w inv hfree hr hy hS H
    have hun := (mem_ready.1 hr).1
    refine ⟨fun h => (by rw [h] at hr; cases hr), fun j hj => ?_⟩
    have hjn : j < nn := by
      rcases Nat.lt_or_ge j nn with h | h
      · exact h
      · exact absurd hj (tail_waits hs hc hn inv _ i rfl hin hun j h)
    refine ⟨hjn, ?_⟩
    by_cases hji : j = i
    · subst hji; exact hy.wpOp hi hS ⟨hS, H⟩
    · have h1 := (H.2 j (ready_mono hj hji)).2
      obtain ⟨hjun, oj, hoj, hall⟩ := mem_ready.1 hj
      have hnot : ∀ e ∈ oj.after, Region.binds md e = true → e.on ≠ i := fun e he hb heq => by
        have h1 := hall e he hb
        rw [heq, getD_both hun] at h1
        cases h1
      have h2 := wpOp_putIf hoj (hfree j oj hoj hji hjun hnot) (fun cs b => hsel i oi cs b hi) (fun cs b => hsel j oj cs b hoj) (fun c a w => hQ c a oi.dst v w) hy h1
      have hfree' : ∀ k ok, ops[k]? = some ok → k ≠ i → (listed.setIfInBounds j true).getD k true = false →
          (∀ e ∈ ok.after, Region.binds md e = true → e.on ≠ i) → oi.apart ops ok = true := fun k ok hk hki hun hno => by
        refine hfree k ok hk hki ?_ hno
        by_cases hjk : j = k
        · subst hjk; exact hjun
        · rw [getD_set_ne true hjk] at hun; exact hun
      refine wpOp_mono (fun a' w' h3 => ⟨h3.2.1, ih (listed.setIfInBounds j true) a' w' (inv.set hj hjn) hfree' (ready_mono hr (Ne.symm hji)) h3.1 h3.2.1 ?_⟩) h2
      rw [Array.setIfInBounds_comm _ _ hji]
      exact h3.2.2
def BX (ops : Array Oper) (nn g : Nat) : List (Nat × Bool) → Array Bool → Bool
  | [], listed => Region.seqB .any ops g nn listed
  | (i, q) :: s, listed =>
    Nat.blt i nn && (match q with
     | true => Region.free .any ops listed i && (Region.ready .any ops listed).contains i
     | false => Region.ready .any ops listed == [i]) && BX ops nn g s (listed.setIfInBounds i true)
theorem qZ {nn g : Nat} {K : Act → World → Prop} (hsel : Region.noSelect ops = true) (hs : Region.sinkB .any ops nn = true) (hc : Region.chainB .any ops nn = true) (hn : nn < ops.size) (hQ : pu Q) {Q1 : Exit → Act → World → Prop} (hq1 : ∀ e a w, e ≠ .normal → Q1 e a w → Q e a w) (hq2 : ∀ a w, Q1 .normal a w → K a w) :
    ∀ (s : List (Nat × Bool)) (listed : Array Bool) (a : Act) (w : World), HeadInv .any ops nn listed →
    BX ops nn g s listed = true → se P ops S Q1 s a w → wD P .any ops Q S nn (fun listed' a' w' => Region.seqB .any ops g nn listed' = true ∧ K a' w') s.length listed a w
  | [], listed, a, w, _, hB, h => by
    rw [se] at h
    exact ⟨by simpa [BX] using hB, hq2 _ _ h⟩
  | (i, true) :: s, listed, a, w, inv, hB, h => by
    simp only [BX, Bool.and_eq_true] at hB
    obtain ⟨⟨hlt, hf, hr⟩, hB⟩ := hB
    have hlt := Nat.le_of_ble_eq_true hlt
    rw [se] at h
    obtain ⟨o, v, ho, hy, hS, h⟩ := h
    have hr' : i ∈ Region.ready .any ops listed := by simpa using hr
    exact BA ho (Region.noSelect_spec hsel) hs hc hn hlt hQ (fun listed' a' w' hL => seqB_ready hL.1) s.length listed a w inv (Region.free_spec ho hf) hr' hy hS
      (qZ hsel hs hc hn hQ hq1 hq2 s _ _ _ (inv.set hr' hlt) hB h)
  | (i, false) :: s, listed, a, w, inv, hB, h => by
    simp only [BX, Bool.and_eq_true, beq_iff_eq] at hB
    obtain ⟨⟨hlt, hr⟩, hB⟩ := hB
    have hlt := Nat.le_of_ble_eq_true hlt
    rw [se] at h
    have hr' : i ∈ Region.ready .any ops listed := by rw [hr]; simp
    refine ⟨by rw [hr]; simp, fun j hj => ?_⟩
    rw [hr] at hj
    obtain rfl := List.mem_singleton.1 hj
    exact ⟨hlt, wpOp_mono (fun a' w' h' => ⟨h'.1, qZ hsel hs hc hn hQ hq1 hq2 s _ _ _ (inv.set hr' hlt) hB h'.2⟩) (Ma hq1 h)⟩
end
theorem tj {id : Nat} {l : List Oper} (nn : Nat) (fl : List (Nat × Bool)) (S : World → Prop) (hm : P.follows .mixedOrders = true)
    (hB : (Region.noSelect l.toArray && decide (nn < l.toArray.size) && Region.sinkB .any l.toArray nn && Region.chainB .any l.toArray nn && BX l.toArray nn (l.toArray.size - nn) fl (Array.replicate l.length false) && inB l fl && Nat.beq fl.length nn) = true)
    (hQ : pu Q) (hS : ∀ w, St w0 M L w → S w) (h : OW P n l (St w0 M L) E (.held S (QT P l nn Q) fl) (Dl l fl)) : CW P n (St w0 M L) E Q (.region id l.toArray true) := fun a w hF hC => by
  simp only [Bool.and_eq_true, decide_eq_true_eq] at hB
  obtain ⟨⟨⟨⟨⟨⟨hsel, hn⟩, hs⟩, hc⟩, h2⟩, h3⟩, h4⟩ := hB
  have hlen : fl.length = nn := Nat.eq_of_beq_eq_true h4
  have hn' : nn < l.length := by simpa using hn
  refine wp_region_any hm ?_
  have inv0 : HeadInv .any l.toArray nn (Array.replicate l.toArray.size false) :=
    ⟨by simp, fun j oj _ hl => (by rw [getD_replicate_false] at hl; cases hl), fun t _ ht => getD_in (by simpa using ht) (getD_replicate_false _ _)⟩
  have hseq := h fl ⟨[], rfl⟩ (BZ h3) a _ hF hC.drew (hS _ hC.drew)
  have H := qZ (P := P) (S := S) (Q := Q) (Q1 := QT P l nn Q) (K := fun a w => wpList P l.toArray Q (l.drop nn) a w) (g := l.toArray.size - nn) hsel hs hc hn hQ
    (fun e a w he h => by cases e <;> first | exact absurd rfl he | exact h) (fun a w h => h) fl (Array.replicate l.toArray.size false) a _ inv0 (by simpa using h2) hseq
  have hdl : (l.drop nn).length = l.toArray.size - nn := by simp
  have := uf (Q := Q) (g := l.toArray.size - nn) (fun listed a' w' hL => by
    have := wpAny_of_seq (md := .any) (Q' := Q) (l.drop nn) nn listed a' w' (fun j => by simp [List.getElem?_drop]) (by rw [hdl]; exact hL.1) hL.2
    rwa [hdl] at this) _ _ _ _ H
  rw [hlen, show nn + (l.toArray.size - nn) = l.toArray.size by omega] at this
  exact this
theorem Fz {l : List Oper} {nn : Nat} (h : OW P n l C E (.lex Q) (l.drop nn)) : XW n C E (QT P l nn Q) .normal := fun a w hF hC => h a w hF hC
end Go.Vk
/- Calls of function values. -/
namespace Go.Vk
section
variable {P : Program} {n : Nat} {E : Env} {w0 : World} {M : List Nat} {L : List Res}
theorem HN {o : Oper} {y : Operand} {f : FuncId} {xs : List Operand} {ts : Array TypeId} {vs cap : List Value} {a : Act} (ho : o.op = .call { callee := .value y, args := xs.toArray, argTypes := ts }) (hf : bl P f) (hF : Fr n E a)
    (hy : ev E y = some (.func (.func f) #[] cap.toArray)) (hx : evs E xs = some vs) (w : World) : (execOp a.eval o).run P w = .ok (.enter f (vs ++ cap).toArray) w := by
  obtain ⟨fn, h1, h2, h3⟩ := hf
  obtain ⟨c, hc⟩ := Option.isSome_iff_exists.1 h2
  have hm : (xs.toArray.map a.eval) = vs.toArray := by rw [← hF.evs hx]; simp
  unfold execOp
  simp only [ho, resolve, hF.ev hy, Deferred.ofValue, hm]
  simp [invoke, callFunc, h1, h3, hc]
theorem pB {o : Oper} {y : Operand} {f : FuncId} {xs : List Operand} {ts : Array TypeId} {vs cap : List Value} {v : Value} (ho : o.op = .call { callee := .value y, args := xs.toArray, argTypes := ts }) (hf : bl P f)
    (hy : ev E y = some (.func (.func f) #[] cap.toArray)) (hx : evs E xs = some vs)
    (hc : ∀ w, St w0 M L w → Calls P f (vs ++ cap).toArray w fun e w' => e = .returned v ∧ Ext [] w w') : Qy P n (St w0 M L) E o v := fun a hF w hC => by
  unfold Oper.quietAt
  rw [HN ho hf hF hy hx w]
  exact ⟨rfl, (hc w hC).mono fun e w' ⟨he, hw⟩ => ⟨he, hC.step hw⟩⟩
end
end Go.Vk
/- Structs compared, min, maps that the call makes. -/
namespace Go.Vk
open Go.RowKit
section
variable {P : Program} {n : Nat} {S C : World → Prop} {E : Env} {m : Md} {l rest : List Oper} {w0 : World} {M : List Nat} {L : List Res}
def Av (d : TypeDesc) (x y : Value) : Option Bool :=
  match d, x, y with
  | .int _, .int k a, .int k' b => bif vB k k' then some (a == b) else none
  | .bool, .bool a, .bool b => some (a == b)
  | .string, .string a, .string b => some (a.data.toList == b.data.toList)
  | _, _, _ => none
def Hy (P : Program) (xs ys : List Value) : List Field → Option Bool
  | [] => some true
  | f :: fs =>
    match decide (f.name = "_"), P.underlying f.type, xs[f.offset]?, ys[f.offset]? with
    | false, some d, some x, some y =>
      match Av d x y, Hy P xs ys fs with
      | some b, some r => some (b && r)
      | _, _ => none
    | _, _, _, _ => none
def CS (P : Program) (t : TypeId) (xs ys : List Value) : Option Bool :=
  match P.underlying t with
  | some (.struct fs) => bif P.stoodInHeld t || P.eqGuardType P.depth t then none else Hy P xs ys fs.toList
  | _ => none
theorem Ag {d : Nat} {t : TypeId} {td : TypeDesc} {x y : Value} {b : Bool} (hu : P.underlying t = some td) (h : Av td x y = some b) (w : World) :
    (Op.equalIn (d + 1) t x y).run P w = .ok b w ∧ P.plainKey t = true := by
  unfold Av at h
  split at h
  · rename_i k a k' b'
    cases hk : vB k k' with
    | false => rw [hk] at h; cases h
    | true =>
      rw [hk] at h
      obtain rfl := uI hk
      cases h
      exact ⟨run_equalIn_int w d t _ _ _ _ hu, by simp [Program.plainKey, hu]⟩
  · cases h
    exact ⟨run_equalIn_bool' w d t _ _ hu, by simp [Program.plainKey, hu]⟩
  · cases h
    exact ⟨by rw [run_equalIn_string w d t _ _ hu, ByteArray.toList_eq, ByteArray.toList_eq], by simp [Program.plainKey, hu]⟩
  · cases h
theorem JM {d : Nat} {xs ys : List Value} (w : World) : ∀ {fs : List Field} {b : Bool}, Hy P xs ys fs = some b → (Op.eqFields (d + 1) xs.toArray ys.toArray fs).run P w = .ok b w := by
  intro fs
  induction fs with
  | nil => intro b h; cases h; simp [Op.eqFields]
  | cons f fs ih =>
    intro b h
    unfold Hy at h
    split at h
    · rename_i hn d' x y h1 h2 hx hy
      split at h
      · rename_i b1 r e1 e2
        cases h
        obtain ⟨hr, hp⟩ := Ag (d := d) h2 e1 w
        have hne : f.name ≠ "_" := by simpa using h1
        have px := run_part_plain w hp (xs := xs.toArray) (off := f.offset) (by simpa using hx)
        have py := run_part_plain w hp (xs := ys.toArray) (off := f.offset) (by simpa using hy)
        simp only [Op.eqFields, hne, ne_eq, not_false_eq_true, if_true, Sem.run_bind, px, py, hr, Result.andThen_ok]
        cases b1
        · simp
        · simp [ih e2]
      · cases h
    · cases h
theorem AV {d : Nat} {t : TypeId} {xs ys : List Value} {b : Bool} (h : CS P t xs ys = some b) (w : World) :
    (Op.equalIn (d + 2) t (.agg xs.toArray) (.agg ys.toArray)).run P w = .ok b w ∧ P.eqGuardType P.depth t = false := by
  unfold CS at h
  split at h
  · rename_i fs hu
    cases hs : P.stoodInHeld t with
    | true => rw [hs] at h; cases h
    | false =>
      cases hg : P.eqGuardType P.depth t with
      | true => rw [hs, hg] at h; cases h
      | false =>
        rw [hs, hg] at h
        have hf : P.fieldsOf t = fs := by unfold Program.fieldsOf; rw [hu]
        refine ⟨?_, rfl⟩
        rw [run_equalIn_struct w (d + 1) t _ _ (by rw [hf]; exact hu) hs, hf]
        exact JM w h
  · cases h
theorem GM {o : Oper} {t u : TypeId} {x y : Operand} {xs ys : List Value} {b : Bool} (ho : o.op = .binOp .eql t x y u) (hx : ev E x = some (.agg xs.toArray)) (hy : ev E y = some (.agg ys.toArray)) (h : CS P t xs ys = some b) : Ry P n S E o (.bool b) := fun a hF w _ => by
  obtain ⟨h1, h2⟩ := AV (d := 9998) h w
  unfold execOp
  simp only [ho, hF.ev hx, hF.ev hy, Sem.run_bind, run_eqGuard_agg w _ _ _ _ _ _ h2, Result.andThen_ok, run_eql_struct, h1, Sem.run_pure]
theorem Kk {o : Oper} {t u : TypeId} {x y : Operand} {xs ys : List Value} {b : Bool} (ho : o.op = .binOp .neq t x y u) (hx : ev E x = some (.agg xs.toArray)) (hy : ev E y = some (.agg ys.toArray)) (h : CS P t xs ys = some b) : Ry P n S E o (.bool (!b)) := fun a hF w _ => by
  obtain ⟨h1, h2⟩ := AV (d := 9998) h w
  unfold execOp
  simp only [ho, hF.ev hx, hF.ev hy, Sem.run_bind, run_eqGuard_agg w _ _ _ _ _ _ h2, Result.andThen_ok, run_neq_struct, h1, Sem.run_pure]
theorem MP {o : Oper} {x y : Operand} {ts : Array TypeId} {k k' : IntKind} {a b : Int} (ho : o.op = .call { callee := .builtin .min, args := #[x, y], argTypes := ts }) (hx : ev E x = some (.int k a)) (hy : ev E y = some (.int k' b)) : Ry P n S E o (.int k (if b < a then b else a)) := fun fr hF w _ => by
  unfold execOp
  simp [ho, resolve, invoke, builtin, hF.ev hx, hF.ev hy, Builtin.min_, Builtin.min2, List.foldlM]
variable {κ : Type}
section
variable [DecidableEq κ]
def gr : List (κ × Int) → κ → Int
  | [], _ => 0
  | (k', v) :: es, k => if k = k' then v else gr es k
def lx : List (κ × Int) → κ → Option Nat
  | [], _ => none
  | (k', _) :: es, k => if k = k' then some 0 else (lx es k).map (· + 1)
def tm (es : List (κ × Int)) (k : κ) : List (κ × Int) × Nat :=
  match lx es k with
  | some i => (es, i)
  | none => (es ++ [(k, 0)], es.length)
def vy (es : List (κ × Int)) (k : κ) (x : Int) : List (κ × Int) := (tm es k).1.modify (tm es k).2 (fun e => (e.1, x))
end
def mw (f : κ → List Value) : Nat → List (κ × Int) → List MapEntry
  | _, [] => []
  | i, (k, v) :: es => { key := .agg (f k).toArray, val := .int .i64 v, born := i } :: mw f (i + 1) es
def Res.map (f : κ → List Value) (b : Nat) (es : List (κ × Int)) : Res :=
  ⟨[b], fun w => w.heap[b]? = some (.map (mw f 0 es).toArray es.length), fun _ _ h ok => (h b (by simp)).trans ok⟩
theorem Eu {f : κ → List Value} {b : Nat} {es : List (κ × Int)} {i : Nat} (hr : L[i]? = some (Res.map f b es)) : ∀ w, St w0 M L w → w.heap[b]? = some (.map (mw f 0 es).toArray es.length) := fun _ hw => hw.ok _ (List.mem_of_getElem? hr)
theorem Eb {f : κ → List Value} : ∀ {es : List (κ × Int)} {i q : Nat} {e : κ × Int}, es[q]? = some e → (mw f i es)[q]? = some { key := .agg (f e.1).toArray, val := .int .i64 e.2, born := i + q }
  | (k, v) :: es, i, 0, e, h => by cases h; rfl
  | (k, v) :: es, i, q + 1, e, h => by
    have := Eb (f := f) (i := i + 1) (q := q) (e := e) (by simpa using h)
    simp only [mw, List.getElem?_cons_succ, this]
    congr 2; omega
  | [], _, _, _, h => by cases h
theorem Et {f : κ → List Value} : ∀ (es ds : List (κ × Int)) (i : Nat), mw f i (es ++ ds) = mw f i es ++ mw f (i + es.length) ds
  | [], _, _ => rfl
  | (k, v) :: es, ds, i => by
    simp only [List.cons_append, mw, Et es, List.length_cons]
    rw [show i + 1 + es.length = i + (es.length + 1) by omega]
theorem yp {f : κ → List Value} (x : Int) : ∀ (es : List (κ × Int)) (i q : Nat), mw f i (es.modify q fun e => (e.1, x)) = (mw f i es).modify q fun e => { e with val := .int .i64 x }
  | [], _, _ => by simp [mw]
  | (k, v) :: es, i, 0 => rfl
  | (k, v) :: es, i, q + 1 => by simp [mw, yp x es]
theorem BM {f : κ → List Value} : ∀ (es : List (κ × Int)) (i q : Nat), q < es.length → (mw f i es).findIdx? (fun e => (e.born : Int) == ((i + q : Nat) : Int)) = some q
  | [], _, _, h => by simp at h
  | (k, v) :: es, i, 0, _ => by simp [mw, List.findIdx?_cons]
  | (k, v) :: es, i, q + 1, h => by
    have := BM (f := f) es (i + 1) q (by simpa using h)
    rw [show i + 1 + q = i + (q + 1) by omega] at this
    simp only [mw, List.findIdx?_cons]
    rw [if_neg (by simp; omega), this]
    rfl
section
variable [DecidableEq κ]
structure Ck (P : Program) (kt : TypeId) (f : κ → List Value) : Prop where
  eq : ∀ (a b : κ) (w : World), (Op.equal kt (.agg (f a).toArray) (.agg (f b).toArray)).run P w = .ok (decide (a = b)) w
  chk : ∀ (e : Bool) (a : κ) (w : World), (Instr.checkKey e 10000 kt (.agg (f a).toArray)).run P w = .ok () w
  wide : (match P.underlying kt with | some (.array _ _) | some (.struct _) => true | _ => false) = true
  same : ∀ a : κ, Instr.sameBits 10000 (.agg (f a).toArray) (.agg (f a).toArray) = true
def Iw (P : Program) (t kt et : TypeId) : Prop := P.underlying t = some (.map kt et)
theorem JA {f : κ → List Value} {kt : TypeId} (hK : Ck P kt f) (k : κ) (w : World) : ∀ (es : List (κ × Int)) (i j : Nat),
    (Instr.findAsking kt (.agg (f k).toArray) (mw f i es) j).run P w = .ok ((lx es k).map fun q => (j + q, .int .i64 (gr es k))) w := by
  intro es
  induction es with
  | nil => intro i j; simp [mw, Instr.findAsking, lx]
  | cons e es ih =>
    intro i j
    obtain ⟨k', v⟩ := e
    simp only [mw, Instr.findAsking, Sem.run_bind, hK.eq, Result.andThen_ok]
    by_cases h : k = k'
    · simp [h, lx, gr]
    · simp only [h, decide_false, Bool.false_eq_true, if_false, ih, lx, gr]
      cases lx es k with
      | none => rfl
      | some q => simp [Nat.add_comm, Nat.add_left_comm]
theorem vg {f : κ → List Value} {kt : TypeId} (hK : Ck P kt f) (k : κ) (w : World) (es : List (κ × Int)) :
    (Instr.findKey kt (.agg (f k).toArray) (mw f 0 es)).run P w = .ok ((lx es k).map fun q => (q, .int .i64 (gr es k))) w := by
  have hw := hK.wide
  have key := JA hK k w es 0 0
  cases hu : P.underlying kt with
  | none => simp [hu] at hw
  | some kd =>
    cases hes : mw f 0 es with
    | nil =>
      rw [hes] at key
      rw [show (fun q => (0 + q, Value.int .i64 (gr es k))) = (fun q => (q, Value.int .i64 (gr es k))) by funext q; rw [Nat.zero_add]] at key
      rw [← key]
      simp [Instr.findKey, run_underlying hu, Instr.findNow, Instr.findAsking]
    | cons e es' =>
      rw [hes] at key
      rw [show (fun q => (0 + q, Value.int .i64 (gr es k))) = (fun q => (q, Value.int .i64 (gr es k))) by funext q; rw [Nat.zero_add]] at key
      rw [← key]
      cases kd <;> simp [hu] at hw <;> simp [Instr.findKey, run_underlying hu, Instr.findNow, Instr.sameNow]
theorem Cj {es : List (κ × Int)} {k : κ} (h : lx es k = none) : gr es k = 0 := by
  induction es with
  | nil => rfl
  | cons e es ih =>
    obtain ⟨k', v⟩ := e
    unfold lx at h
    unfold gr
    by_cases hk : k = k'
    · simp [hk] at h
    · rw [if_neg hk] at h ⊢
      exact ih (by simpa using h)
theorem DO {es : List (κ × Int)} {k : κ} {i : Nat} (h : lx es k = some i) : i < es.length ∧ ∃ v, es[i]? = some (k, v) := by
  induction es generalizing i with
  | nil => cases h
  | cons e es ih =>
    obtain ⟨k', v⟩ := e
    unfold lx at h
    by_cases hk : k = k'
    · rw [if_pos hk] at h
      cases h
      exact ⟨by simp, v, by simp [hk]⟩
    · rw [if_neg hk] at h
      cases hq : lx es k with
      | none => rw [hq] at h; cases h
      | some q =>
        rw [hq] at h
        cases h
        obtain ⟨h1, v', h2⟩ := ih hq
        exact ⟨by simp; omega, v', by simpa using h2⟩
theorem Kr (es : List (κ × Int)) (k : κ) : (tm es k).2 < (tm es k).1.length := by
  unfold tm
  cases h : lx es k with
  | none => simp
  | some i => exact (DO h).1
theorem DR {xs : List MapEntry} {i : Nat} {e : MapEntry} (h : xs[i]? = some e) (g : MapEntry → MapEntry) (hg : g e = e) : xs.modify i g = xs := by
  apply List.ext_getElem?
  intro j
  rw [List.getElem?_modify]
  by_cases hj : i = j
  · subst hj; rw [h]; simp [hg]
  · simp [hj]
end
def World.setMap (w : World) (b : Nat) (o : Obj) : World := { w with heap := w.heap.setIfInBounds b o }
theorem FR {w : World} {b : Nat} {o : Obj} : Ext [b] w (World.setMap w b o) :=
  ⟨rfl, rfl, rfl, by simp [World.setMap], fun c hc hn => by
    have : b ≠ c := fun e => hn (by simp [e])
    simp [World.setMap, this]⟩
theorem Jd {f : κ → List Value} {b : Nat} {es es' : List (κ × Int)} {i : Nat} {w : World} (hC : St w0 M L w) (hr : L[i]? = some (Res.map f b es)) :
    St w0 M (L.set i (Res.map f b es')) (World.setMap w b (.map (mw f 0 es').toArray es'.length)) :=
  hC.upd hr FR (Res.map f b es') (Go.MapKept.heap_set (Eu hr w hC)).1 (by simp [Res.map]) (fun c hc => by
    have hcb : c = b := by simpa [Res.map] using hc
    subst hcb
    exact ⟨by simpa [World.setMap] using (Array.getElem?_eq_some_iff.1 (Eu hr w hC)).1, .inl (by simp [Res.map])⟩)
theorem Gf {o : Oper} {T : TypeId} (f : κ → List Value) (ho : o.op = .makeMap T none) (hm : m.here (o :: rest) = true) (hw : wt l E o.guard = some true) (hd : iA n o.dst = true)
    (hS : ∀ b, Kp m (St w0 M (L ++ [Res.map f b []]))) (hk : ∀ b, OW P n l (St w0 M (L ++ [Res.map f b []])) (upd E o.dst (.map (some b))) m rest) : OW P n l (St w0 M L) E m (o :: rest) :=
  lk hm hw fun a w hF hC _ _ hK => by
    have hst : St w0 M (L ++ [Res.map f w.heap.size []]) (w.alloc (.map #[] 0)) := hC.push (xl w _) _ (Go.MapKept.heap_alloc w _).1 (by simp [Res.map]) (by simp [Res.map])
    exact pW (by unfold execOp; simp [ho, Instr.makeMap]) (hK _ _ _ _ (hk w.heap.size) (hF.put _ _ (bU hd)) hst (hS _ _ hst))
def LJ (P : Program) (t : TypeId) : Bool :=
  match P.info? t with
  | some i => (match i.zero with | some (.int .i64 (.ofNat 0)) => true | _ => false)
  | none => false
def Kq (P : Program) (t : TypeId) : Prop := ∀ w : World, (zeroValue t).run P w = .ok (.int .i64 0) w
theorem Lk {t : TypeId} (h : LJ P t = true) : Kq P t := fun w => by
  unfold LJ at h
  split at h
  · rename_i i hi
    split at h
    · rename_i hz
      simp [zeroValue, typeInfo, hi, hz]
    · cases h
  · cases h
section
variable [DecidableEq κ]
theorem Cg {f : κ → List Value} {o : Oper} {t kt et : TypeId} {x y : Operand} {b : Nat} {es : List (κ × Int)} {k : κ} (ho : o.op = .lookup t x y false) (hx : ev E x = some (.map (some b))) (hy : ev E y = some (.agg (f k).toArray))
    (ht : Iw P t kt et) (he : Kq P et) (hK : Ck P kt f) (hr : ∀ w, S w → ∃ es', w.heap[b]? = some (.map (mw f 0 es').toArray es'.length) ∧ ∀ q, gr es' q = gr es q) : Ry P n S E o (.int .i64 (gr es k)) := fun a hF w hw => by
  obtain ⟨es', hb, hg⟩ := hr w hw
  rw [← hg k]
  have ht' : P.underlying t = some (.map kt et) := ht
  unfold execOp
  simp only [ho, hF.ev hx, hF.ev hy]
  simp only [Instr.lookup, Sem.run_bind, run_underlying ht', Result.andThen_ok, Go.MapKept.run_getObj_map hb, Sem.run_pure, hK.chk, vg hK]
  cases hf : lx es' k with
  | none =>
    simp [he w, Cj hf]
  | some q => simp
theorem Jm (es : List (κ × Int)) (k k' : κ) : gr (tm es k).1 k' = gr es k' := by
  unfold tm
  cases lx es k with
  | some i => rfl
  | none =>
    show gr (es ++ [(k, 0)]) k' = _
    induction es with
    | nil => simp [gr]
    | cons e es ih =>
      obtain ⟨k2, v2⟩ := e
      simp only [List.cons_append, gr, ih]
def Res.mapG (f : κ → List Value) (b : Nat) (es : List (κ × Int)) : Res :=
  ⟨[b], fun w => ∃ es', w.heap[b]? = some (.map (mw f 0 es').toArray es'.length) ∧ ∀ q, gr es' q = gr es q, fun _ _ h ok => by
    obtain ⟨es', h1, h2⟩ := ok
    exact ⟨es', (h b (by simp)).trans h1, h2⟩⟩
theorem St.toG {f : κ → List Value} {b : Nat} {es1 es : List (κ × Int)} {w : World} (i : Nat) (hr : L[i]? = some (Res.map f b es1)) (hg : ∀ q, gr es1 q = gr es q) (h : St w0 M L w) : St w0 M (L.set i (Res.mapG f b es)) w :=
  h.recast hr rfl (fun ho => ⟨es1, ho, hg⟩)
theorem MO {f : κ → List Value} {b : Nat} {es : List (κ × Int)} {i : Nat} (hr : L[i]? = some (Res.map f b es)) : ∀ w, St w0 M L w → ∃ es', w.heap[b]? = some (.map (mw f 0 es').toArray es'.length) ∧ ∀ q, gr es' q = gr es q := fun w hw => ⟨es, Eu hr w hw, fun _ => rfl⟩
theorem MJ {f : κ → List Value} {b : Nat} {es : List (κ × Int)} {i : Nat} (hr : L[i]? = some (Res.mapG f b es)) : ∀ w, St w0 M L w → ∃ es', w.heap[b]? = some (.map (mw f 0 es').toArray es'.length) ∧ ∀ q, gr es' q = gr es q := fun _ hw => hw.ok _ (List.mem_of_getElem? hr)
theorem Ff {f : κ → List Value} {o : Oper} {t kt et : TypeId} {x y : Operand} {b r : Nat} {es : List (κ × Int)} {k : κ} (ho : o.op = .mapEntry t x y) (hm : m.here (o :: rest) = true) (hw : wt l E o.guard = some true) (hd : iA n o.dst = true)
    (hx : ev E x = some (.map (some b))) (hy : ev E y = some (.agg (f k).toArray)) (ht : Iw P t kt et) (he : Kq P et) (hK : Ck P kt f) (hr : L[r]? = some (Res.map f b es))
    (hS : Kp m (St w0 M (L.set r (Res.map f b (tm es k).1))))
    (hk : OW P n l (St w0 M (L.set r (Res.map f b (tm es k).1))) (upd E o.dst (.tuple #[.int .i64 (gr es k), .int .i64 ((tm es k).2 : Int)])) m rest) : OW P n l (St w0 M L) E m (o :: rest) :=
  lk hm hw fun a w hF hC _ _ hK2 => by
    have hb := Eu hr w hC
    have ht' : P.underlying t = some (.map kt et) := ht
    have hst := Jd (es' := (tm es k).1) hC hr
    refine pW ?_ (hK2 _ _ _ _ hk (hF.put _ _ (bU hd)) hst (hS _ hst))
    unfold execOp
    simp only [ho, hF.ev hx, hF.ev hy]
    simp only [Instr.mapEntry, Sem.run_bind, run_underlying ht', Result.andThen_ok, Go.MapKept.run_getObj_map hb, hK.chk, vg hK]
    cases hf : lx es k with
    | none =>
      have e1 : (mw f 0 (es ++ [(k, 0)])).toArray = (mw f 0 es).toArray.push { key := .agg (f k).toArray, val := .int .i64 0, born := es.length } := by
        rw [Et]; simp [mw]
      simp [he w, Cj hf, tm, hf, Go.MapKept.run_setObj_map _ hb, World.setMap, goInt, e1]
    | some q =>
      obtain ⟨hq, v, hv⟩ := DO hf
      have hg := Eb (f := f) (i := 0) hv
      simp only [Nat.zero_add] at hg
      have e0 : (mw f 0 es)[q]? = some { key := .agg (f k).toArray, val := .int .i64 v, born := q } := hg
      have e1 : (mw f 0 es).modify q (fun e => { key := .agg (f k).toArray, val := e.val, born := e.born }) = mw f 0 es := DR e0 _ rfl
      simp only [Option.map_some, List.getElem?_toArray, e0, Option.getD_some, Instr.keyThatStays, hK.same, if_true, Sem.run_pure, Sem.run_bind, Result.andThen_ok, Go.MapKept.run_setObj_map _ hb, tm, hf, goInt, List.modify_toArray]
      rw [e1]
      rfl
theorem BL {f : κ → List Value} {o : Oper} {t : TypeId} {x y u : Operand} {b r : Nat} {es : List (κ × Int)} {k : κ} {v : Int} (ho : o.op = .entryStore t x y u) (hm : m.here (o :: rest) = true) (hw : wt l E o.guard = some true) (hd : iA n o.dst = true)
    (hx : ev E x = some (.map (some b))) (hy : ev E y = some (.int .i64 ((tm es k).2 : Int))) (hu : ev E u = some (.int .i64 v)) (hr : L[r]? = some (Res.map f b (tm es k).1))
    (hS : Kp m (St w0 M (L.set r (Res.map f b (vy es k v)))))
    (hk : OW P n l (St w0 M (L.set r (Res.map f b (vy es k v)))) (upd E o.dst undef) m rest) : OW P n l (St w0 M L) E m (o :: rest) :=
  lk hm hw fun a w hF hC _ _ hK2 => by
    have hb := Eu hr w hC
    have hst := Jd (es' := vy es k v) hC hr
    refine uX ?_ (hK2 _ _ _ _ hk (hF.put _ _ (bU hd)) hst (hS _ hst))
    unfold execOp
    simp only [ho, hF.ev hx, hF.ev hy, hF.ev hu]
    have hbn := BM (f := f) (tm es k).1 0 (tm es k).2 (Kr es k)
    simp only [Nat.zero_add] at hbn
    have hl : (vy es k v).length = (tm es k).1.length := by simp [vy]
    simp only [Instr.entryStore, Sem.run_bind, Go.MapKept.run_getObj_map hb, Result.andThen_ok, asInt, asIntOf, Sem.run_pure, List.findIdx?_toArray, hbn, Go.MapKept.run_setObj_map _ hb, World.setMap, List.modify_toArray, hl]
    rw [vy, yp]
end
theorem EQ [DecidableEq κ] (es : List (κ × Int)) (k : κ) (v : Int) (k' : κ) : gr (vy es k v) k' = if k' = k then v else gr es k' := by
  have app : ∀ es : List (κ × Int), lx es k = none → gr ((es ++ [(k, 0)]).modify es.length fun e => (e.1, v)) k' = if k' = k then v else gr es k' := by
    intro es
    induction es with
    | nil => intro _; simp [gr]
    | cons e es ih =>
      intro h
      obtain ⟨k2, v2⟩ := e
      unfold lx at h
      by_cases hk : k = k2
      · simp [hk] at h
      · rw [if_neg hk] at h
        have := ih (by simpa using h)
        simp only [List.cons_append, List.length_cons, List.modify_succ_cons, gr]
        rw [this]
        by_cases h2 : k' = k2
        · have : k' ≠ k := fun e => hk (e ▸ h2)
          simp [h2]
          intro h3; exact absurd h3.symm hk
        · simp [h2]
  have found : ∀ (es : List (κ × Int)) (i : Nat), lx es k = some i → gr (es.modify i fun e => (e.1, v)) k' = if k' = k then v else gr es k' := by
    intro es
    induction es with
    | nil => intro i h; cases h
    | cons e es ih =>
      intro i h
      obtain ⟨k2, v2⟩ := e
      unfold lx at h
      by_cases hk : k = k2
      · rw [if_pos hk] at h
        cases h
        simp only [List.modify_zero_cons, gr]
        subst hk
        by_cases h2 : k' = k <;> simp [h2]
      · rw [if_neg hk] at h
        cases hq : lx es k with
        | none => rw [hq] at h; cases h
        | some q =>
          rw [hq] at h
          cases h
          simp only [List.modify_succ_cons, gr, ih q hq]
          by_cases h2 : k' = k2
          · have : k' ≠ k := fun e => hk (e ▸ h2)
            simp [h2]
            intro h3; exact absurd h3.symm hk
          · simp [h2]
  unfold vy tm
  cases h : lx es k with
  | none => exact app es h
  | some i => exact found es i h
theorem AJ {e : TypeId} (v : Value) (em : Bool) (n : Nat) (w : World) (hv : ∃ d, P.underlying e = some d ∧ ∃ b, Av d v v = some b) : (Instr.checkKey em (n + 1) e v).run P w = .ok () w := by
  obtain ⟨d, hu, b, hb⟩ := hv
  unfold Av at hb
  split at hb
  · simp [Instr.checkKey, run_underlying hu]
  · simp [Instr.checkKey, run_underlying hu]
  · simp [Instr.checkKey, run_underlying hu]
  · cases hb
theorem zk {xs : List Value} {n : Nat} {em : Bool} (w : World) : ∀ {fs : List Field} {b : Bool}, Hy P xs xs fs = some b →
    (forIn fs PUnit.unit (fun f (_ : PUnit) => (if f.name ≠ "_" then (part f.type xs.toArray f.offset) >>= (fun x => Instr.checkKey em (n + 1) f.type x >>= fun _ => pure (ForInStep.yield PUnit.unit)) else pure (ForInStep.yield PUnit.unit) : Sem (ForInStep PUnit))) : Sem PUnit).run P w = .ok PUnit.unit w := by
  intro fs
  induction fs with
  | nil => intro b _; simp
  | cons f fs ih =>
    intro b h
    unfold Hy at h
    split at h
    · rename_i hn d' x y h1 h2 hx hy
      rw [hx] at hy
      cases hy
      split at h
      · rename_i b1 r e1 e2
        obtain ⟨hr, hp⟩ := Ag (d := 0) h2 e1 w
        have hne : f.name ≠ "_" := by simpa using h1
        have px := run_part_plain w hp (xs := xs.toArray) (off := f.offset) (by simpa using hx)
        have hc := AJ x em n w ⟨_, h2, _, e1⟩
        simp only [List.forIn_cons, hne, ne_eq, not_false_eq_true, if_true, Sem.run_bind, px, hc, Result.andThen_ok, Sem.run_pure]
        exact ih e2
      · cases h
    · cases h
theorem Gq {t : TypeId} {xs : List Value} {b : Bool} {em : Bool} {n : Nat} (h : CS P t xs xs = some b) (w : World) : (Instr.checkKey em (n + 2) t (.agg xs.toArray)).run P w = .ok () w := by
  unfold CS at h
  split at h
  · rename_i fs hu
    cases hs : P.stoodInHeld t with
    | true => rw [hs] at h; cases h
    | false =>
      cases hg : P.eqGuardType P.depth t with
      | true => rw [hs, hg] at h; cases h
      | false =>
        rw [hs, hg] at h
        have := zk (n := n) (em := em) w h
        unfold Instr.checkKey
        simp only [Sem.run_bind, run_underlying hu, Result.andThen_ok]
        rw [← Array.forIn_toList]
        exact (congrArg (fun r => Result.andThen r fun _ w' => Result.ok () w') this).trans rfl
  · cases h
theorem JN [DecidableEq κ] {kt : TypeId} {f : κ → List Value} {g : κ → κ → Bool} (he : ∀ a b, CS P kt (f a) (f b) = some (g a b)) (hg : ∀ a b, g a b = decide (a = b)) (hs : ∀ a : κ, Instr.sameBits 10000 (.agg (f a).toArray) (.agg (f a).toArray) = true)
    (hw : (match P.underlying kt with | some (.array _ _) | some (.struct _) => true | _ => false) = true) : Ck P kt f :=
  ⟨fun a b w => by rw [← hg]; exact (AV (d := 9998) (he a b) w).1, fun e a w => Gq (n := 9998) (he a a) w, hw, hs⟩
theorem uv {o : Oper} {f : FuncId} {xs : List Operand} {vs : List Value} (ho : o.op = .makeFunc (.func f) #[] xs.toArray) (hx : evs E xs = some vs) : Ry P n S E o (.func (.func f) #[] vs.toArray) := fun a hF w _ => by
  have hm : (xs.toArray.map a.eval) = vs.toArray := by rw [← hF.evs hx]; simp
  unfold execOp
  simp [ho, hm, Instr.makeFunc]
end
end Go.Vk
/- Elements deleted from a slice of the call's own: what stands behind moved up, the rest cleared. -/
namespace Go.Vk
open Go.RowKit
section
variable {α : Type} {e : Enc α} {f : α → List Value}
end
section
variable {P : Program} {n : Nat} {C : World → Prop} {E : Env} {m : Md} {l rest : List Oper} {w0 : World} {M : List Nat} {L : List Res}
end
end Go.Vk
/- Regions whose head comes in several orders: a tree of orders. -/
namespace Go.Vk
open Go.RowKit
variable {P : Program} {n : Nat} {C : World → Prop} {E : Env} {l rest : List Oper} {w0 : World} {M : List Nat} {L : List Res} {Q : Exit → Act → World → Prop}
inductive Br where
  | done : Br
  | q (i : Nat) (t : Br) : Br
  | l (i : Nat) (t : Br) : Br
  | alt (i : Nat) (t u : Br) : Br
def Br.depth : Br → Nat
  | .done => 0
  | .q _ t => t.depth + 1
  | .l _ t => t.depth + 1
  | .alt _ t _ => t.depth + 1
def Br.pre : List (Nat × Bool) → Br → Br
  | [], b => b
  | (i, true) :: s, b => .q i (Br.pre s b)
  | (i, false) :: s, b => .l i (Br.pre s b)
section
variable {ops : Array Oper} {S : World → Prop}
end
end Go.Vk
namespace Go.Vk
open Go.RowKit
variable {P : Program} {n : Nat} {C : World → Prop} {E : Env} {m : Md} {l rest : List Oper} {w0 : World} {M : List Nat} {L : List Res} {Q : Exit → Act → World → Prop}
end Go.Vk
/- Plain laws of the loops that copy, compare, mark and weigh. No program in sight. -/
namespace Go.Vk
theorem cd {n : Int} (h0 : -9223372036854775808 ≤ n) (h1 : n ≤ 9223372036854775807) : IntKind.i64.wrap n = n := IntWalk.i64_in n ⟨h0, h1⟩
theorem jV {n : Nat} (h : n < 9223372036854775808) : IntKind.i64.wrap (n : Int) = n := cd (by omega) (by omega)
theorem aD {i : Nat} (h : i < 9223372036854775807) : IntKind.i64.wrap ((i : Int) + 1) = ((i + 1 : Nat) : Int) := by rw [cd (by omega) (by omega)]; simp
theorem bf {α : Type} {xs : List α} {i : Nat} (h : i < xs.length) : idx xs (i : Int) = some xs[i] := by simp [idx, h]
theorem eh {α : Type} {xs ys : List α} (h : xs.length + ys.length ≤ 68719476736) : app xs ys = some (xs ++ ys) := if_pos h
theorem sg (a b : Nat) : Int.tmod (a : Int) (b : Int) = ((a % b : Nat) : Int) := by rw [Int.tmod_eq_emod_of_nonneg (by omega)]; simp
theorem si (a b : Nat) : Int.tdiv (a : Int) (b : Int) = ((a / b : Nat) : Int) := by rw [Int.tdiv_eq_ediv_of_nonneg (by omega)]; simp
theorem yz {α : Type} (z : α) {n : Nat} (h : n ≤ 68719476736) : mk z (n : Int) = some (List.replicate n z) := by
  unfold mk; rw [if_pos (by omega)]; simp
theorem pk {α β : Type} {F : α → Option β} {g : α → β} {p : List α} (Lp : Nat → List β → Int → Option (List β))
    (step : ∀ k l i, Lp (k + 1) l i = if decide (i < (p.length : Int)) then (idx p i).bind fun e => (F e).bind fun y => (idx l i).bind fun _ => Lp k (l.set i.toNat y) (IntKind.i64.wrap (i + 1)) else some l)
    (hp : p.length < 1000000000000) (hF : ∀ x ∈ p, F x = some (g x)) (z : β) : Lp aK (List.replicate p.length z) 0 = some (p.map g) := by
  have key : ∀ (d k i : Nat) (l : List β), p.length - i = d → d < k → i ≤ p.length → l.length = p.length → l.take i = (p.map g).take i → Lp k l (i : Int) = some (p.map g) := by
    intro d
    induction d with
    | zero =>
      intro k i l hd hk hi hl ht
      obtain ⟨k, rfl⟩ : ∃ q, k = q + 1 := ⟨k - 1, by omega⟩
      rw [step, if_neg (by simp; omega)]
      have : i = p.length := by omega
      subst this
      rw [List.take_of_length_le (by omega), List.take_of_length_le (by simp)] at ht
      rw [ht]
    | succ d ih =>
      intro k i l hd hk hi hl ht
      obtain ⟨k, rfl⟩ : ∃ q, k = q + 1 := ⟨k - 1, by omega⟩
      have hlt : i < p.length := by omega
      rw [step, if_pos (by simp; omega), bf hlt]
      simp only [Option.bind_some]
      rw [hF _ (List.getElem_mem hlt)]
      simp only [Option.bind_some]
      rw [bf (by omega : i < l.length)]
      simp only [Option.bind_some]
      rw [aD (by omega)]
      refine ih k (i + 1) _ (by omega) (by omega) (by omega) (by simp [hl]) ?_
      apply List.ext_getElem?
      intro j
      have hj : (l.take i)[j]? = ((p.map g).take i)[j]? := by rw [ht]
      simp only [List.getElem?_take, List.getElem?_set, Int.toNat_natCast, List.getElem?_map] at hj ⊢
      by_cases c1 : j < i
      · simp only [c1, if_true] at hj
        simp [show j < i + 1 by omega, show ¬ i = j by omega, hj]
      · by_cases c2 : i = j
        · subst c2; simp [show i < l.length by omega, hlt]
        · simp [show ¬ j < i + 1 by omega]
  exact key p.length aK 0 _ (by omega) (fe (by omega)) (by omega) (by simp) (by simp)
theorem nm {α : Type} {p : List α} (Lp : Nat → Int → Option Bool) (G : α → Option Bool → Option Bool)
    (step : ∀ k i, Lp (k + 1) i = if decide (i < (p.length : Int)) then (idx p i).bind fun e => G e (Lp k (IntKind.i64.wrap (i + 1))) else some true)
    (hp : p.length < 1000000000000) (hG : ∀ x ∈ p, ∀ o, G x o = o) : Lp aK 0 = some true := by
  have key : ∀ (d k i : Nat), p.length - i = d → d < k → i ≤ p.length → Lp k (i : Int) = some true := by
    intro d
    induction d with
    | zero =>
      intro k i hd hk hi
      obtain ⟨k, rfl⟩ : ∃ q, k = q + 1 := ⟨k - 1, by omega⟩
      rw [step, if_neg (by simp; omega)]
    | succ d ih =>
      intro k i hd hk hi
      obtain ⟨k, rfl⟩ : ∃ q, k = q + 1 := ⟨k - 1, by omega⟩
      have hlt : i < p.length := by omega
      rw [step, if_pos (by simp; omega), bf hlt]
      simp only [Option.bind_some]
      rw [hG _ (List.getElem_mem hlt), aD (by omega)]
      exact ih k (i + 1) (by omega) (by omega) (by omega)
  exact key p.length aK 0 (by omega) (fe (by omega)) (by omega)
def JH {α : Type} (Mk : α → Int → Option (Int × α)) (Hd : α → Int → Option Int) (c : Nat) (x : α) : Prop :=
  ∀ m : Nat, m + c < 4611686018427387904 → ∃ (m' : Nat) (x' : α), Mk x (m : Int) = some ((m' : Int), x') ∧ Hd x' (m : Int) = some (m' : Int) ∧ m ≤ m' ∧ m' ≤ m + c
def jS {α : Type} (Z : α → Int → Option Int) (size : α → Nat) (x : α) : Prop :=
  ∀ s : Nat, s ≤ 1048576 → ∃ r, Z x (s : Int) = some r ∧ ((r < 0 ∧ s < size x) ∨ (size x ≤ s ∧ r = ((s - size x : Nat) : Int)))
theorem rm {α : Type} {p : List α} {Z : α → Int → Option Int} {size : α → Nat} (Lp : Nat → Int → Int → Option Int)
    (step : ∀ k s i, Lp (k + 1) s i = if decide (i < (p.length : Int)) then (idx p i).bind fun e => (Z e s).bind fun y => if decide (y < 0) then some (-1) else Lp k y (IntKind.i64.wrap (i + 1)) else some s)
    (hp : p.length ≤ 1048576) (hZ : ∀ x ∈ p, jS Z size x) : ∀ s : Nat, s ≤ 1048576 → ∃ r, Lp aK (s : Int) 0 = some r ∧ ((r < 0 ∧ s < (p.map size).sum) ∨ ((p.map size).sum ≤ s ∧ r = ((s - (p.map size).sum : Nat) : Int))) := by
  have key : ∀ (d k i s : Nat), p.length - i = d → d < k → i ≤ p.length → s ≤ 1048576 → ∃ r, Lp k (s : Int) (i : Int) = some r ∧ ((r < 0 ∧ s < ((p.drop i).map size).sum) ∨ (((p.drop i).map size).sum ≤ s ∧ r = ((s - ((p.drop i).map size).sum : Nat) : Int))) := by
    intro d
    induction d with
    | zero =>
      intro k i s hd hk hi hs
      obtain ⟨k, rfl⟩ : ∃ q, k = q + 1 := ⟨k - 1, by omega⟩
      rw [step, if_neg (by simp; omega), List.drop_of_length_le (by omega)]
      exact ⟨_, rfl, .inr (by simp)⟩
    | succ d ih =>
      intro k i s hd hk hi hs
      obtain ⟨k, rfl⟩ : ∃ q, k = q + 1 := ⟨k - 1, by omega⟩
      have hlt : i < p.length := by omega
      rw [step, if_pos (by simp; omega), bf hlt]
      simp only [Option.bind_some]
      have hsum : ((p.drop i).map size).sum = size p[i] + ((p.drop (i + 1)).map size).sum := by rw [List.drop_eq_getElem_cons hlt, List.map_cons, List.sum_cons]
      obtain ⟨r, h1, h2⟩ := hZ _ (List.getElem_mem hlt) s hs
      rw [h1]
      simp only [Option.bind_some]
      rcases h2 with ⟨h2, h3⟩ | ⟨h2, rfl⟩
      · rw [if_pos (by simpa using h2)]
        exact ⟨_, rfl, .inl ⟨by omega, by omega⟩⟩
      · rw [if_neg (by simp), aD (by omega)]
        obtain ⟨r', h4, h5⟩ := ih k (i + 1) (s - size p[i]) (by omega) (by omega) (by omega) (by omega)
        refine ⟨r', h4, ?_⟩
        rcases h5 with ⟨h5, h6⟩ | ⟨h5, h6⟩
        · exact .inl ⟨h5, by omega⟩
        · exact .inr ⟨by omega, by rw [h6]; congr 1; omega⟩
  intro s hs
  have := key p.length aK 0 s (by omega) (fe (by omega)) (by omega) hs
  simpa using this
theorem vH {α : Type} {p : List α} : ∀ s : Nat, s ≤ 1048576 → ∃ r, (if decide ((IntKind.i64.wrap ((s : Int) - (p.length : Int))) < 0) then some (-1) else some (IntKind.i64.wrap ((s : Int) - (p.length : Int)))) = some r ∧ (p.length < 9223372036854775808 → (r < 0 ∧ s < p.length) ∨ (p.length ≤ s ∧ r = ((s - p.length : Nat) : Int))) := by
  intro s hs
  by_cases h : p.length < 9223372036854775808
  · rw [cd (by omega) (by omega)]
    by_cases h1 : s < p.length
    · rw [if_pos (by simp; omega)]; exact ⟨_, rfl, fun _ => .inl ⟨by omega, h1⟩⟩
    · rw [if_neg (by simp; omega)]; exact ⟨_, rfl, fun _ => .inr ⟨by omega, by omega⟩⟩
  · split
    · exact ⟨_, rfl, fun h' => absurd h' h⟩
    · exact ⟨_, rfl, fun h' => absurd h' h⟩
end Go.Vk
/- Bits of words that are not negative; truth of tests. No program in sight. -/
namespace Go.Vk
theorem pd (n : Nat) (h : n < 9223372036854775808) : (BitVec.ofInt 64 (n : Int)).toNat = n := by
  rw [BitVec.ofInt_natCast, BitVec.toNat_ofNat]; omega
theorem uN (x y : Nat) (hx : x < 9223372036854775808) (hy : y < 9223372036854775808) : io .xor .i64 x y = ((x ^^^ y : Nat) : Int) ∧ x ^^^ y < 9223372036854775808 := by
  have hlt : x ^^^ y < 2 ^ 63 := Nat.xor_lt_two_pow (by omega) (by omega)
  refine ⟨?_, by omega⟩
  unfold io
  show IntKind.i64.wrap _ = _
  rw [BitVec.toNat_xor]
  show IntKind.i64.wrap (((BitVec.ofInt 64 (x : Int)).toNat ^^^ (BitVec.ofInt 64 (y : Int)).toNat : Nat) : Int) = _
  rw [pd x hx, pd y hy]
  exact jV (by omega)
theorem GH (x y : Nat) (hx : x < 9223372036854775808) (hy : y < 9223372036854775808) : io .and .i64 x y = ((x &&& y : Nat) : Int) := by
  have hlt : x &&& y ≤ x := Nat.and_le_left
  unfold io
  show IntKind.i64.wrap _ = _
  rw [BitVec.toNat_and]
  show IntKind.i64.wrap (((BitVec.ofInt 64 (x : Int)).toNat &&& (BitVec.ofInt 64 (y : Int)).toNat : Nat) : Int) = _
  rw [pd x hx, pd y hy]
  exact jV (by omega)
theorem Jp (x : Nat) : nO .i64 (x : Int) 1 = ((x / 2 : Nat) : Int) := by
  unfold nO
  show (x : Int).fdiv (2 ^ 1) = _
  rw [Int.fdiv_eq_ediv_of_nonneg _ (by decide)]
  simp
theorem MH (n : Nat) (h : n < 9223372036854775808) : io .and .i64 (n : Int) 127 = ((n % 128 : Nat) : Int) := by
  rw [show (127 : Int) = ((127 : Nat) : Int) from rfl, GH n 127 h (by omega), show 127 = 2 ^ 7 - 1 from rfl, Nat.and_two_pow_sub_one_eq_mod]
theorem MG (x y : Nat) (hx : x < 9223372036854775808) (hy : y < 9223372036854775808) : io .or .i64 x y = ((x ||| y : Nat) : Int) := by
  have hlt : x ||| y < 2 ^ 63 := Nat.or_lt_two_pow (by omega) (by omega)
  unfold io
  show IntKind.i64.wrap _ = _
  rw [BitVec.toNat_or]
  show IntKind.i64.wrap (((BitVec.ofInt 64 (x : Int)).toNat ||| (BitVec.ofInt 64 (y : Int)).toNat : Nat) : Int) = _
  rw [pd x hx, pd y hy]
  exact jV (by omega)
theorem NQ (n : Nat) (h : n < 128) : io .or .i64 (n : Int) 128 = ((n + 128 : Nat) : Int) := by
  rw [show (128 : Int) = ((128 : Nat) : Int) from rfl, MG n 128 (by omega) (by omega), Nat.or_comm, show 128 = 2 ^ 7 * 1 from rfl, ← Nat.two_pow_add_eq_or_of_lt (by omega)]
  simp; omega
theorem Qu (n : Nat) : nO .i64 (n : Int) 7 = ((n / 128 : Nat) : Int) := by
  unfold nO
  show (n : Int).fdiv (2 ^ 7) = _
  rw [Int.fdiv_eq_ediv_of_nonneg _ (by decide)]
  simp
theorem pq {x a b : Int} (h : a ≤ x ∧ x ≤ b) : (decide (x ≥ a) && decide (x ≤ b)) = true := by simp; omega
theorem pP {x a b : Int} (h : ¬ (a ≤ x ∧ x ≤ b)) : (decide (x ≥ a) && decide (x ≤ b)) = false := by
  simp only [Bool.and_eq_false_iff, decide_eq_false_iff_not]; omega
end Go.Vk
/- Loops over a list, as recursion over the list. No program in sight. -/
namespace Go.Vk
def run {α σ ρ : Type} (f : σ → α → Option ρ ⊕ σ) (fin : σ → Option ρ) : σ → List α → Option ρ
  | s, [] => fin s
  | s, x :: xs => match f s x with
    | .inl r => r
    | .inr s' => run f fin s' xs
theorem wM {α σ ρ : Type} {p : List α} (Lp : Nat → σ → Int → Option ρ) (f : σ → α → Option ρ ⊕ σ) (fin : σ → Option ρ) (I : Nat → σ → Prop)
    (hz : ∀ k s, I p.length s → Lp (k + 1) s (p.length : Int) = fin s)
    (hs : ∀ k s (i : Nat) (h : i < p.length), I i s → (Lp (k + 1) s (i : Int) = match f s p[i] with | .inl r => r | .inr s' => Lp k s' ((i + 1 : Nat) : Int)) ∧ ∀ s', f s p[i] = .inr s' → I (i + 1) s')
    (hp : p.length < 1000000000000) : ∀ s, I 0 s → Lp aK s 0 = run f fin s p := by
  have key : ∀ (d k i : Nat) (s : σ), p.length - i = d → d < k → i ≤ p.length → I i s → Lp k s (i : Int) = run f fin s (p.drop i) := by
    intro d
    induction d with
    | zero =>
      intro k i s hd hk hi hI
      obtain ⟨k, rfl⟩ : ∃ q, k = q + 1 := ⟨k - 1, by omega⟩
      have : i = p.length := by omega
      subst this
      rw [hz _ _ hI, List.drop_length]
      rfl
    | succ d ih =>
      intro k i s hd hk hi hI
      obtain ⟨k, rfl⟩ : ∃ q, k = q + 1 := ⟨k - 1, by omega⟩
      have hlt : i < p.length := by omega
      obtain ⟨h1, h2⟩ := hs k s i hlt hI
      rw [h1, List.drop_eq_getElem_cons hlt]
      unfold run
      cases h : f s p[i] with
      | inl r => rfl
      | inr s' => exact ih k (i + 1) s' (by omega) (by omega) (by omega) (h2 s' h)
  intro s hI
  have := key p.length aK 0 s (by omega) (fe (by omega)) (by omega) hI
  simpa using this
theorem Fc {α : Type} {p : List α} {P : α → Prop} [DecidablePred P] (Lp : Nat → Int → Option Bool)
    (hz : ∀ k, Lp (k + 1) (p.length : Int) = some true)
    (hs : ∀ k (i : Nat) (h : i < p.length), Lp (k + 1) (i : Int) = if P p[i] then Lp k ((i + 1 : Nat) : Int) else some false)
    (hp : p.length < 1000000000000) : Lp aK 0 = some (decide (∀ x ∈ p, P x)) := by
  rw [wM (p := p) (σ := Unit) (fun k _ i => Lp k i) (fun _ x => if P x then .inr () else .inl (some false)) (fun _ => some true) (fun _ _ => True) (fun k _ _ => hz k) (fun k _ i h _ => ⟨by
    show Lp _ _ = _
    rw [hs k i h]
    split <;> rfl, fun _ _ => trivial⟩) hp () trivial]
  clear hz hs hp Lp
  induction p with
  | nil => simp [run]
  | cons x p ih =>
    unfold run
    by_cases h : P x
    · simp only [h, if_true, ih]
      simp [h]
    · simp [h]
theorem BR {α ρ : Type} {p : List α} {P : α → Prop} [DecidablePred P] {fin bad : Option ρ} (Lp : Nat → Int → Option ρ)
    (hz : ∀ k, Lp (k + 1) (p.length : Int) = fin)
    (hs : ∀ k (i : Nat) (h : i < p.length), Lp (k + 1) (i : Int) = if P p[i] then Lp k ((i + 1 : Nat) : Int) else bad)
    (hp : p.length < 1000000000000) : Lp aK 0 = if ∀ x ∈ p, P x then fin else bad := by
  rw [wM (p := p) (σ := Unit) (fun k _ i => Lp k i) (fun _ x => if P x then .inr () else .inl bad) (fun _ => fin) (fun _ _ => True) (fun k _ _ => hz k) (fun k _ i h _ => ⟨by
    show Lp _ _ = _
    rw [hs k i h]
    split <;> rfl, fun _ _ => trivial⟩) hp () trivial]
  clear hz hs hp Lp
  induction p with
  | nil => simp [run]
  | cons x p ih =>
    unfold run
    by_cases h : P x
    · simp only [h, if_true, ih]
      simp [h]
    · simp [h]
theorem Ez {α σ ρ : Type} {p : List α} (B : α → List Int) (u : σ → α → σ) (Lp : Nat → List Int → σ → Int → Option ρ) (fin : List Int → σ → Option ρ)
    (hz : ∀ k l q, Lp (k + 1) l q (p.length : Int) = fin l q)
    (hs : ∀ k l q (i : Nat) (h : i < p.length), l.length + (B p[i]).length ≤ 800000000 → Lp (k + 1) l q (i : Int) = Lp k (l ++ B p[i]) (u q p[i]) ((i + 1 : Nat) : Int))
    (hp : p.length < 1000000000000) (l : List Int) (q : σ) (hl : l.length + (p.flatMap B).length ≤ 800000000) : Lp aK l q 0 = fin (l ++ p.flatMap B) (p.foldl u q) := by
  have key : ∀ (d k i : Nat) (l : List Int) (q : σ), p.length - i = d → d < k → i ≤ p.length → l.length + ((p.drop i).flatMap B).length ≤ 800000000 → Lp k l q (i : Int) = fin (l ++ (p.drop i).flatMap B) ((p.drop i).foldl u q) := by
    intro d
    induction d with
    | zero =>
      intro k i l q hd hk hi hl
      obtain ⟨k, rfl⟩ : ∃ q, k = q + 1 := ⟨k - 1, by omega⟩
      have : i = p.length := by omega
      subst this
      rw [hz, List.drop_length]
      simp
    | succ d ih =>
      intro k i l q hd hk hi hl
      obtain ⟨k, rfl⟩ : ∃ q, k = q + 1 := ⟨k - 1, by omega⟩
      have hlt : i < p.length := by omega
      rw [List.drop_eq_getElem_cons hlt] at hl ⊢
      simp only [List.flatMap_cons, List.length_append, List.foldl_cons] at hl ⊢
      rw [hs k l q i hlt (by omega), ih k (i + 1) _ _ (by omega) (by omega) (by omega) (by simp only [List.length_append]; omega), List.append_assoc]
  have := key p.length aK 0 l q (by omega) (fe (by omega)) (by omega) (by simpa using hl)
  simpa using this
theorem Ca {α : Type} {P : α → Prop} [DecidablePred P] (p : List α) (q : Bool) : p.foldl (fun q x => q || decide (¬ P x)) q = (q || decide (¬ ∀ x ∈ p, P x)) := by
  induction p generalizing q with
  | nil => simp
  | cons x p ih =>
    rw [List.foldl_cons, ih]
    by_cases h : P x <;> simp [h]
end Go.Vk
