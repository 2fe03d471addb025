/- Steps of the walk over structs, nested slices, callees that write. -/
import Derived.Test.YtmdkpmcoaalaoaaGreatVkG
import Derived.StillTail
import Derived.Laws.StructEq
import Derived.ChangeKeysEq
import Derived.MapKept
import Derived.IntWalk
import Derived.Deep.Slices
import Derived.ReadAgain
import Derived.ChangeSame
import Derived.ChangeMaps5
import Derived.ProofKit
namespace Go.Vk
open Go.RowKit
variable {P : Program} {n : Nat} {C : World → Prop} {E : Env} {m : Md} {l rest : List Oper} {w0 : World} {M : List Nat} {L : List Res} {Q : Exit → Act → World → Prop}
/-! ### the class opened where the walk stands -/
def Md.actual : Md → Bool
  | .any _ => false
  | _ => true
theorem xw_ex {X : Type} {D : X → World → Prop} {c : Exit} (h : ∀ w, C w → ∃ x, D x w) (k : ∀ x, XW n (D x) E Q c) : XW n C E Q c := fun a w hF hC => by
  obtain ⟨x, hx⟩ := h w hC; exact k x a w hF hx
theorem ow_ex2 {X0 : Type} {X1 : Type} {D : X0 → X1 → World → Prop} (hm : m.actual = true) (h : ∀ w, C w → ∃ x0 x1, D x0 x1 w) (k : ∀ x0 x1, OW P n l (D x0 x1) E m rest) : OW P n l C E m rest := by
  cases m with
  | lex Q => exact fun a w hF hC => by obtain ⟨x0, x1, hx⟩ := h w hC; exact k x0 x1 a w hF hx
  | any K => cases hm
  | held S Q fl => exact fun s h1 h2 a w hF hC hS => by obtain ⟨x0, x1, hx⟩ := h w hC; exact k x0 x1 s h1 h2 a w hF hx hS
theorem ow_ex3 {X0 : Type} {X1 : Type} {X2 : Type} {D : X0 → X1 → X2 → World → Prop} (hm : m.actual = true) (h : ∀ w, C w → ∃ x0 x1 x2, D x0 x1 x2 w) (k : ∀ x0 x1 x2, OW P n l (D x0 x1 x2) E m rest) : OW P n l C E m rest := by
  cases m with
  | lex Q => exact fun a w hF hC => by obtain ⟨x0, x1, x2, hx⟩ := h w hC; exact k x0 x1 x2 a w hF hx
  | any K => cases hm
  | held S Q fl => exact fun s h1 h2 a w hF hC hS => by obtain ⟨x0, x1, x2, hx⟩ := h w hC; exact k x0 x1 x2 s h1 h2 a w hF hx hS
theorem ow_ex4 {X0 : Type} {X1 : Type} {X2 : Type} {X3 : Type} {D : X0 → X1 → X2 → X3 → World → Prop} (hm : m.actual = true) (h : ∀ w, C w → ∃ x0 x1 x2 x3, D x0 x1 x2 x3 w) (k : ∀ x0 x1 x2 x3, OW P n l (D x0 x1 x2 x3) E m rest) : OW P n l C E m rest := by
  cases m with
  | lex Q => exact fun a w hF hC => by obtain ⟨x0, x1, x2, x3, hx⟩ := h w hC; exact k x0 x1 x2 x3 a w hF hx
  | any K => cases hm
  | held S Q fl => exact fun s h1 h2 a w hF hC hS => by obtain ⟨x0, x1, x2, x3, hx⟩ := h w hC; exact k x0 x1 x2 x3 s h1 h2 a w hF hx hS
/-- a fact that holds in every world of the class, known to the walk from here on -/
theorem ow_fact {φ : Prop} (hm : m.actual = true) (h : ∀ w, C w → φ) (k : φ → OW P n l C E m rest) : OW P n l C E m rest := by
  cases m with
  | lex Q => exact fun a w hF hC => k (h w hC) a w hF hC
  | any K => cases hm
  | held S Q fl => exact fun s h1 h2 a w hF hC hS => k (h w hC) s h1 h2 a w hF hC hS
theorem ow_st {C' : World → Prop} (hm : m.actual = true) (h : ∀ w, C w → C' w) (k : OW P n l C' E m rest) : OW P n l C E m rest := by
  cases m with
  | lex Q => exact fun a w hF hC => k a w hF (h w hC)
  | any K => cases hm
  | held S Q fl => exact fun s h1 h2 a w hF hC hS => k s h1 h2 a w hF (h w hC) hS
theorem xw_st {C' : World → Prop} {c : Exit} (h : ∀ w, C w → C' w) (k : XW n C' E Q c) : XW n C E Q c := fun a w hF hC => k a w hF (h w hC)
/-- resources let go, their places kept; later ones dropped -/
def maskL : List Bool → List Res → List Res
  | true :: bs, r :: L => r :: maskL bs L
  | false :: bs, _ :: L => Res.nil :: maskL bs L
  | _, _ => []
theorem mask_foot : ∀ (bs : List Bool) (L : List Res), (foot (maskL bs L)).Sublist (foot L)
  | [], L => by unfold maskL; simp [foot]
  | true :: bs, [] => by unfold maskL; simp
  | false :: bs, [] => by unfold maskL; simp
  | true :: bs, r :: L => by rw [show maskL (true :: bs) (r :: L) = r :: maskL bs L from rfl, foot_cons, foot_cons]; exact List.Sublist.append (List.Sublist.refl _) (mask_foot bs L)
  | false :: bs, r :: L => by
    rw [show maskL (false :: bs) (r :: L) = Res.nil :: maskL bs L from rfl, foot_cons, foot_cons]
    exact (mask_foot bs L).trans (List.sublist_append_right _ _)
theorem mask_mem : ∀ (bs : List Bool) (L : List Res) {r : Res}, r ∈ maskL bs L → r ∈ L ∨ r = Res.nil
  | [], L, r, h => by unfold maskL at h; cases h
  | true :: bs, [], r, h => by unfold maskL at h; cases h
  | false :: bs, [], r, h => by unfold maskL at h; cases h
  | true :: bs, s :: L, r, h => by
    rw [show maskL (true :: bs) (s :: L) = s :: maskL bs L from rfl] at h
    cases h with
    | head => exact .inl (by simp)
    | tail _ h => rcases mask_mem bs L h with h1 | h1
                  · exact .inl (by simp [h1])
                  · exact .inr h1
  | false :: bs, s :: L, r, h => by
    rw [show maskL (false :: bs) (s :: L) = Res.nil :: maskL bs L from rfl] at h
    cases h with
    | head => exact .inr rfl
    | tail _ h => rcases mask_mem bs L h with h1 | h1
                  · exact .inl (by simp [h1])
                  · exact .inr h1
theorem St.mask {L' : List Res} {w : World} (bs : List Bool) (hL : maskL bs L = L') (h : St w0 M L w) : St w0 M L' w := by
  subst hL
  have hf := mask_foot bs L
  exact ⟨h.ext, fun r hr => h.ok' (mask_mem bs L hr), hf.nodup h.nd, fun b hb => h.lt b (hf.subset hb), fun b hb => h.new b (hf.subset hb)⟩
theorem St.push0 {w : World} (h : St w0 M L w) (r : Res) (hF : r.F = []) (ho : r.ok w) : St w0 M (L ++ [r]) w := by
  have := h.re [] [r] rfl (by rw [foot_one, hF]; exact List.Perm.refl _) (fun s hs => by rw [List.mem_singleton.1 hs]; exact ho)
  exact this
theorem St.pushNil {α : Type} {e : Enc α} {T : TypeId} {w : World} (h : St w0 M L w) : St w0 M (L ++ [Res.own (eList e T) [] [] [.slice none 0 0]]) w := h.push0 _ rfl own_nil
/-! ### a region whose head is quiet and whose tail comes in one order -/
section
variable {ops : Array Oper} {md : Region.Mode}
def wpAnyLQ (P : Program) (md : Region.Mode) (ops : Array Oper) (C : World → Prop) (nn : Nat) (K : Array Bool → Act → Prop) : Nat → Array Bool → Act → Prop
  | 0, listed, a => K listed a
  | f + 1, listed, a =>
    Region.ready md ops listed ≠ [] ∧ ∀ i ∈ Region.ready md ops listed, i < nn ∧ qOp P ops C i (wpAnyLQ P md ops C nn K f (listed.setIfInBounds i true)) a
theorem wpAny_of_headQ {nn g : Nat} {K : Array Bool → Act → Prop} {Q' : Exit → Act → World → Prop} (hL : ∀ listed a w, C w → K listed a → wpAny P md ops Q' g listed a w) :
    ∀ (f : Nat) (listed : Array Bool) (a : Act) (w : World), C w → wpAnyLQ P md ops C nn K f listed a → wpAny P md ops Q' (f + g) listed a w
  | 0, listed, a, w, hw, h => by rw [Nat.zero_add]; exact hL _ _ _ hw h
  | f + 1, listed, a, w, hw, h => by
    rw [show f + 1 + g = (f + g) + 1 by omega]
    exact ⟨fun h0 => absurd h0 h.1, fun i hi => wpOp_of_qOp hw (fun a' w' hw' h' => wpAny_of_headQ hL f _ a' w' hw' h') (h.2 i hi).2⟩
theorem wpAnyLQ_first {nn i : Nat} {oi : Oper} {v : Value} {K : Array Bool → Act → Prop} (hi : ops[i]? = some oi) (hsel : ∀ (j : Nat) (o : Oper) cs b, ops[j]? = some o → o.op ≠ .select cs b)
    (hs : Region.sinkB md ops nn = true) (hc : Region.chainB md ops nn = true) (hn : nn < ops.size) (hin : i < nn)
    (hdone : ∀ listed a, K listed a → ∀ j ∈ Region.ready md ops listed, nn ≤ j) :
    ∀ (f : Nat) (listed : Array Bool) (a : Act), HeadInv md ops nn listed →
      (∀ j oj, ops[j]? = some oj → j ≠ i → listed.getD j true = false → (∀ e ∈ oj.after, Region.binds md e = true → e.on ≠ i) → oi.apart ops oj = true) →
      i ∈ Region.ready md ops listed → YieldsIn P ops C oi v a →
      wpAnyLQ P md ops C nn K f (listed.setIfInBounds i true) (a.put oi.dst v) → wpAnyLQ P md ops C nn K (f + 1) listed a := by
  intro f
  induction f with
  | zero =>
    intro listed a inv _ hr hy H
    have hun := (mem_ready.1 hr).1
    refine ⟨fun h => (by rw [h] at hr; cases hr), fun j hj => ?_⟩
    have hjn : j < nn := by
      rcases Nat.lt_or_ge j nn with h | h
      · exact h
      · exact absurd hj (tail_waits hs hc hn inv _ i rfl hin hun j h)
    refine ⟨hjn, ?_⟩
    by_cases hji : j = i
    · subst hji; exact hy.qOp hi H
    · have := hdone _ _ H j (ready_mono hj hji)
      omega
  | succ f ih =>
    intro listed a inv hfree hr hy H
    have hun := (mem_ready.1 hr).1
    refine ⟨fun h => (by rw [h] at hr; cases hr), fun j hj => ?_⟩
    have hjn : j < nn := by
      rcases Nat.lt_or_ge j nn with h | h
      · exact h
      · exact absurd hj (tail_waits hs hc hn inv _ i rfl hin hun j h)
    refine ⟨hjn, ?_⟩
    by_cases hji : j = i
    · subst hji; exact hy.qOp hi H
    · have h1 := (H.2 j (ready_mono hj hji)).2
      obtain ⟨hjun, oj, hoj, hall⟩ := mem_ready.1 hj
      have hnot : ∀ e ∈ oj.after, Region.binds md e = true → e.on ≠ i := fun e he hb heq => by
        have h1 := hall e he hb
        rw [heq, getD_both hun] at h1
        cases h1
      have h2 := qOp_put hoj (hfree j oj hoj hji hjun hnot) (fun cs b => hsel i oi cs b hi) (fun cs b => hsel j oj cs b hoj) hy h1
      have hfree' : ∀ k ok, ops[k]? = some ok → k ≠ i → (listed.setIfInBounds j true).getD k true = false →
          (∀ e ∈ ok.after, Region.binds md e = true → e.on ≠ i) → oi.apart ops ok = true := fun k ok hk hki hun hno => by
        refine hfree k ok hk hki ?_ hno
        by_cases hjk : j = k
        · subst hjk; exact hjun
        · rw [getD_set_ne true hjk] at hun; exact hun
      refine qOp_mono (fun a' h3 => ih (listed.setIfInBounds j true) a' (inv.set hj hjn) hfree' (ready_mono hr (Ne.symm hji)) h3.1 ?_) h2
      rw [Array.setIfInBounds_comm _ _ hji]
      exact h3.2
theorem wpAnyLQ_lex {nn g : Nat} {Lq : Act → Prop} (hsel : Region.noSelect ops = true) (hs : Region.sinkB md ops nn = true) (hc : Region.chainB md ops nn = true) (hn : nn < ops.size) :
    ∀ (l : List Oper) (k : Nat) (listed : Array Bool) (a : Act), (∀ j, j < l.length → l[j]? = ops[k + j]?) → k + l.length = nn → HeadInv md ops nn listed →
    Region.lexHead md ops g l.length k listed = true → wpQuiet P ops C Lq l a →
    wpAnyLQ P md ops C nn (fun listed' a' => Region.seqB md ops g nn listed' = true ∧ Lq a') l.length listed a
  | [], k, listed, a, _, hk, _, hB, h => by
    have : k = nn := by simpa using hk
    subst this
    exact ⟨by simpa [Region.lexHead] using hB, h⟩
  | o :: l, k, listed, a, hl, hk, inv, hB, h => by
    have h0 : ops[k]? = some o := by simpa using (hl 0 (by simp)).symm
    simp only [List.length_cons, Region.lexHead, Bool.and_eq_true] at hB
    obtain ⟨⟨hr, hf⟩, hB'⟩ := hB
    have hkn : k < nn := by simp only [List.length_cons] at hk; omega
    have hr' : k ∈ Region.ready md ops listed := by simpa using hr
    have hst : qOp P ops C k (wpQuiet P ops C Lq l) a := by unfold qOp; simp only [h0]; exact h
    obtain ⟨v, hy, hK⟩ := yieldsIn_of_qOp h0 hst
    exact wpAnyLQ_first h0 (Region.noSelect_spec hsel) hs hc hn hkn (fun listed' a' hL => seqB_ready hL.1) l.length listed a inv (Region.free_spec h0 hf) hr' hy
      (wpAnyLQ_lex hsel hs hc hn l (k + 1) _ _ (fun j hj => by have := hl (j + 1) (by simp; omega); simpa [Nat.add_assoc, Nat.add_comm 1 j] using this) (by simp only [List.length_cons] at hk; omega) (inv.set hr' hkn) hB' hK)
theorem wp_region_quiet_tail {id : Nat} {a : Act} {w : World} {l : List Oper} (nn : Nat) (hm : P.follows .mixedOrders = true) (hB : Region.lexTailB .any l.toArray nn = true) (hC : C { w with drawn := w.drawn + 1 })
    (h : wpQuiet P l.toArray C (fun a' => ∀ w', C w' → wpList P l.toArray Q (l.drop nn) a' w') (l.take nn) a) : (Code.region id l.toArray true).wp P Q a w := by
  simp only [Region.lexTailB, Bool.and_eq_true, decide_eq_true_eq] at hB
  obtain ⟨⟨⟨⟨hsel, hn⟩, hs⟩, hc⟩, hlex⟩ := hB
  have hn' : nn < l.length := by simpa using hn
  have htl : (l.take nn).length = nn := by simp; omega
  have hdl : (l.drop nn).length = l.toArray.size - nn := by simp
  have inv0 : HeadInv .any l.toArray nn (Array.replicate l.toArray.size false) :=
    ⟨by simp, fun j oj _ hl => (by rw [getD_replicate_false] at hl; cases hl), fun t _ ht => getD_in (by simpa using ht) (getD_replicate_false _ _)⟩
  have H := wpAnyLQ_lex (md := .any) (g := l.toArray.size - nn) hsel hs hc hn (l.take nn) 0 _ a (fun j hj => by
    have hj' : j < nn := by rw [htl] at hj; exact hj
    simp [hj']) (by simpa using htl) inv0 (by rw [htl]; exact hlex) h
  refine wp_region_any hm ?_
  have := wpAny_of_headQ (C := C) (Q' := Q) (g := l.toArray.size - nn) (fun listed a' w' hw' hL => by
    have := wpAny_of_seq (md := .any) (Q' := Q) (l.drop nn) nn listed a' w' (fun j => by simp [List.getElem?_drop]) (by rw [hdl]; exact hL.1) (hL.2 w' hw')
    rwa [hdl] at this) _ _ _ _ hC H
  rw [htl, show nn + (l.toArray.size - nn) = l.toArray.size by omega] at this
  exact this
end
/-- the head (n operations, quiet) in whatever order, then the tail -/
theorem c_regT {id : Nat} {l : List Oper} (nn : Nat) (hm : P.follows .mixedOrders = true) (hB : Region.lexTailB .any l.toArray nn = true)
    (h : OW P n l (St w0 M L) E (.any (fun E' => OW P n l (St w0 M L) E' (.lex Q) (l.drop nn))) (l.take nn)) : CW P n (St w0 M L) E Q (.region id l.toArray true) := fun a w hF hC =>
  wp_region_quiet_tail (C := St w0 M L) nn hm hB hC.drew (by
    refine wpQuiet_weak ?_ _ _ (h a hF)
    rintro a' ⟨E', hF', hK⟩ w' hC'
    exact hK a' w' hF' hC')
/-! ### an own slice with one element taken out -/
def holeOk {α : Type} (e : Enc α) (T : TypeId) (b cap : Nat) (xs : List α) (i : Nat) (G : List Nat) (c : List Value) (w : World) : Prop :=
  ∃ cur G1 G2 c1 c2, w.heap[b]? = some (.cells cur T (0, 0)) ∧ xs.length ≤ cap ∧ cap ≤ maxLen ∧ cur.size = cap * e.sz ∧ cur.toList.take (xs.length * e.sz) = c1 ++ (c ++ c2) ∧ c1.length = i * e.sz ∧ c.length = e.sz ∧ i < xs.length ∧
    G = G1 ++ G2 ∧ ownAll e w G1 (xs.take i) c1 ∧ ownAll e w G2 (xs.drop (i + 1)) c2
def Res.hole {α : Type} (e : Enc α) (T : TypeId) (b cap : Nat) (xs : List α) (i : Nat) (G : List Nat) (c : List Value) : Res :=
  ⟨b :: G, holeOk e T b cap xs i G c, fun w w' h ok => by
    obtain ⟨cur, G1, G2, c1, c2, h1, h2, h3, h4, h5, h6, h7, h8, rfl, h9, h10⟩ := ok
    exact ⟨cur, G1, G2, c1, c2, (h b (by simp)).trans h1, h2, h3, h4, h5, h6, h7, h8, rfl, ownAll_loc h9 (fun c hc => h c (by simp [hc])), ownAll_loc h10 (fun c hc => h c (by simp [hc]))⟩⟩
theorem ownAll_split {α : Type} {e : Enc α} {w : World} : ∀ {xs : List α} {F : List Nat} {cs : List Value} {i : Nat} {x : α}, ownAll e w F xs cs → xs[i]? = some x →
    ∃ G1 Fi G2 c1 ci c2, F = G1 ++ (Fi ++ G2) ∧ cs = c1 ++ (ci ++ c2) ∧ c1.length = i * e.sz ∧ ci.length = e.sz ∧ ownAll e w G1 (xs.take i) c1 ∧ e.own w Fi x ci ∧ ownAll e w G2 (xs.drop (i + 1)) c2
  | [], _, _, i, x, _, hx => by simp at hx
  | y :: xs, F, cs, 0, x, h, hx => by
    obtain ⟨F1, F2, c1, c2, rfl, rfl, h1, h2, h3⟩ := h
    simp at hx; subst hx
    exact ⟨[], F1, F2, [], c1, c2, rfl, rfl, by simp, h1, ⟨rfl, rfl⟩, h2, by simpa using h3⟩
  | y :: xs, F, cs, i + 1, x, h, hx => by
    obtain ⟨F1, F2, c1, c2, rfl, rfl, h1, h2, h3⟩ := h
    simp only [List.getElem?_cons_succ] at hx
    obtain ⟨G1, Fi, G2, d1, di, d2, rfl, rfl, k1, k2, k3, k4, k5⟩ := ownAll_split h3 hx
    refine ⟨F1 ++ G1, Fi, G2, c1 ++ d1, di, d2, by simp, by simp, ?_, k2, ⟨F1, G1, c1, d1, rfl, rfl, h1, h2, k3⟩, k4, by simpa using k5⟩
    rw [List.length_append, h1, k1, Nat.add_mul]; omega
theorem ownAll_join {α : Type} {e : Enc α} {w : World} {xs : List α} {i : Nat} {x : α} (hi : i < xs.length) {G1 Fi G2 : List Nat} {c1 ci c2 : List Value} (h1 : ownAll e w G1 (xs.take i) c1) (h2 : e.own w Fi x ci) (hl : ci.length = e.sz) (h3 : ownAll e w G2 (xs.drop (i + 1)) c2) :
    ownAll e w (G1 ++ (Fi ++ G2)) (xs.set i x) (c1 ++ (ci ++ c2)) := by
  rw [List.set_eq_take_append_cons_drop, if_pos hi]
  exact ownAll_append h1 ⟨Fi, G2, ci, c2, rfl, rfl, hl, h2, h3⟩
theorem foc {α : Type} {e : Enc α} {T : TypeId} {w : World} {F : List Nat} {xs : List α} {a : Option Addr} {nn c : Nat} {j : Int} {x : α} {r : Nat} (h : St w0 M L w) (hr : L[r]? = some (Res.own (eList e T) F xs [.slice a nn c])) (hj : idx xs j = some x) :
    ∃ (b : Nat) (G Fi : List Nat) (ci : List Value), (a = some ⟨b, 0, none⟩ ∧ nn = xs.length) ∧ St w0 M (nilAt L [r] ++ [Res.hole e T b c xs j.toNat G ci, Res.own e Fi x ci]) w := by
  obtain ⟨h0, hlt, hx⟩ := idx_some hj
  obtain ⟨hok, _, _⟩ := h.one hr
  rcases hok with ⟨rfl, _, _⟩ | ⟨b, cap, cur, F1, ds, rfl, hcs, hh, h1, h2, h3, h4, h5⟩
  · simp at hlt
  · simp only [List.cons.injEq, Value.slice.injEq, and_true] at hcs
    obtain ⟨rfl, rfl, rfl⟩ := hcs
    obtain ⟨G1, Fi, G2, c1, ci, c2, rfl, rfl, k1, k2, k3, k4, k5⟩ := ownAll_split h5 hx
    refine ⟨b, G1 ++ G2, Fi, ci, ⟨rfl, rfl⟩, h.re [r] _ rfl ?_ ?_⟩
    · have hs : selR L [r] = [Res.own (eList e T) (b :: (G1 ++ (Fi ++ G2))) xs [.slice (some ⟨b, 0, none⟩) xs.length c]] := by
        simp only [selR_cons, selR_nil, hr]
      rw [hs, foot_one]
      show (foot [Res.hole e T b c xs j.toNat (G1 ++ G2) ci, Res.own e Fi x ci]).Perm (b :: (G1 ++ (Fi ++ G2)))
      rw [foot_cons, foot_one]
      show (b :: ((G1 ++ G2) ++ Fi)).Perm (b :: (G1 ++ (Fi ++ G2)))
      refine List.Perm.cons _ ?_
      rw [List.append_assoc]
      exact List.Perm.append_left _ List.perm_append_comm
    · intro s hs
      simp only [List.mem_cons, List.not_mem_nil, or_false] at hs
      rcases hs with rfl | rfl
      · exact ⟨cur, G1, G2, c1, c2, hh, h1, h2, h3, h4, k1, k2, hlt, rfl, k3, k5⟩
      · exact k4
theorem unf {α : Type} {e : Enc α} {T : TypeId} {w : World} {b cap i : Nat} {xs : List α} {G Fi : List Nat} {c : List Value} {x' : α} {nn : Nat} {p q : Nat} (h : St w0 M L w) (hp : L[p]? = some (Res.hole e T b cap xs i G c)) (hq : L[q]? = some (Res.own e Fi x' c)) (hpq : nodB [p, q] = true) (hn : nn = xs.length) {a : Option Addr} (ha : a = some ⟨b, 0, none⟩) :
    ∃ F', St w0 M (nilAt L [p, q] ++ [Res.own (eList e T) F' (xs.set i x') [.slice a nn cap]]) w := by
  subst ha
  obtain ⟨cur, G1, G2, c1, c2, h1, h2, h3, h4, h5, h6, h7, h8, rfl, h9, h10⟩ := h.ok _ (List.mem_of_getElem? hp)
  have hx : e.own w Fi x' c := h.ok _ (List.mem_of_getElem? hq)
  have hs : selR L [p, q] = [Res.hole e T b cap xs i (G1 ++ G2) c, Res.own e Fi x' c] := by simp only [selR_cons, selR_nil, hp, hq]
  refine ⟨b :: (G1 ++ (Fi ++ G2)), h.re [p, q] _ hpq ?_ ?_⟩
  · rw [hs, foot_one, foot_cons, foot_one]
    show (b :: (G1 ++ (Fi ++ G2))).Perm (b :: ((G1 ++ G2) ++ Fi))
    refine List.Perm.cons _ ?_
    rw [List.append_assoc]
    exact List.Perm.append_left _ List.perm_append_comm
  · intro s hs
    rw [List.mem_singleton.1 hs]
    refine .inr ⟨b, cap, cur, _, _, rfl, by rw [hn, List.length_set], h1, by rw [List.length_set]; exact h2, h3, h4, by rw [List.length_set]; exact h5, ownAll_join h8 h9 hx h7 h10⟩
/-! ### opened data -/
theorem opn_sl {α : Type} {e : Enc α} {T : TypeId} {w : World} {F : List Nat} {xs : List α} {cs : List Value} {i : Nat} (h : St w0 M L w) (hi : L[i]? = some (Res.own (eList e T) F xs cs)) :
    ∃ (a : Option Addr) (c : Nat), cs = [.slice a xs.length c] ∧ St w0 M L w := by
  obtain ⟨a, c, hc⟩ := own_sl1 (h.ok _ (List.mem_of_getElem? hi))
  exact ⟨a, c, hc, h⟩
theorem opn_flat {α : Type} {f : α → List Value} {k : Nat} {hk : ∀ x, (f x).length = k} {h1 : ∀ x, ∀ u ∈ f x, u.oneCell' = true} {w : World} {F : List Nat} {x : α} {cs : List Value} {i : Nat} (h : St w0 M L w) (hi : L[i]? = some (Res.own (eFlat f k hk h1) F x cs)) :
    (F = [] ∧ cs = f x) := h.ok _ (List.mem_of_getElem? hi)
/-! ### cells of boxes and holes -/
theorem at_hole {α : Type} {e : Enc α} {T : TypeId} {S : World → Prop} {b cap i : Nat} {xs : List α} {G : List Nat} {c : List Value} (hr : ∀ w, S w → holeOk e T b cap xs i G c w) : ∀ w, S w → At w [] ⟨b, i * e.sz, none⟩ c := fun w hw => by
  obtain ⟨cur, G1, G2, c1, c2, h1, h2, h3, h4, h5, h6, h7, h8, _⟩ := hr w hw
  refine ⟨fun _ => by simp, fun j v hv => ?_⟩
  have hj : j < c.length := (List.getElem?_eq_some_iff.1 hv).1
  rw [add_lit, cell_of_row w b _ cur T (0, 0) h1]
  have hg : (c1 ++ (c ++ c2))[i * e.sz + j]? = some v := by
    rw [← h6, List.getElem?_append_right (by omega), show c1.length + j - c1.length = j by omega, List.getElem?_append_left hj]; exact hv
  rw [← h5, List.getElem?_take] at hg
  split at hg
  · simpa using hg
  · cases hg
theorem holeIn {α : Type} {e : Enc α} {T : TypeId} {b cap i : Nat} {xs : List α} {G : List Nat} {c : List Value} {p : Nat} (hr : L[p]? = some (Res.hole e T b cap xs i G c)) : ∀ w, St w0 M L w → holeOk e T b cap xs i G c w := fun _ hw => hw.ok _ (List.mem_of_getElem? hr)
theorem at_subA {S : World → Prop} {p : Addr} {cs ds : List Value} (h : ∀ w, S w → At w [] p cs) (o : Nat) (hd : (cs.drop o).take ds.length = ds) : ∀ w, S w → At w [] (p.add o) ds := fun w hw => at_sub (h w hw) o hd
theorem at_K {w : World} {X : List Nat} {p : Addr} {cs : List Value} (h : At w X p cs) (o k : Nat) : At w X (p.add o) ((cs.drop o).take k) := by
  refine ⟨fun hne => ?_, fun j v hv => ?_⟩
  · rw [add_block]
    refine h.1 (fun e => hne ?_)
    subst e; simp
  · rw [add_add]
    refine h.2 _ v ?_
    rw [List.getElem?_take] at hv
    split at hv
    · simpa using hv
    · cases hv
theorem at_KA {S : World → Prop} {p : Addr} {cs : List Value} (h : ∀ w, S w → At w [] p cs) (o k : Nat) : ∀ w, S w → At w [] (p.add o) ((cs.drop o).take k) := fun w hw => at_K (h w hw) o k
theorem at_castA {S : World → Prop} {p q : Addr} {cs : List Value} (h : ∀ w, S w → At w [] p cs) (hq : q = p) : ∀ w, S w → At w [] q cs := hq ▸ h
/-- into the element taken out -/
theorem ow_storeH {α : Type} {e : Enc α} {o : Oper} {t : TypeId} {x y : Operand} {q : Addr} {b cap i off : Nat} {v : Value} (vs : List Value) {agg : Bool} {sz by_ : Nat} {z : List Value} {p : Nat} {T : TypeId} {xs : List α} {G : List Nat} {c : List Value} (ho : o.op = .store t x y) (hm : m.here (o :: rest) = true) (hw : wt l E o.guard = some true) (hd : dstOk n o.dst = true)
    (hx : ev E x = some (.pointer (some q))) (hq : q = ⟨b, i * e.sz + off, none⟩) (hy : ev E y = some v) (ht : isTy P t agg sz by_ z) (hv : v.cells = vs.toArray) (hl : vs.length = sz) (h1 : ∀ u ∈ vs, u.oneCell' = true) (hr : L[p]? = some (Res.hole e T b cap xs i G c)) (hfit : Nat.ble (off + sz) e.sz = true) {c' : List Value} (hc' : splice c off vs = c')
    (hS : Kp m (St w0 M (L.set p (Res.hole e T b cap xs i G c')))) (hk : OW P n l (St w0 M (L.set p (Res.hole e T b cap xs i G c'))) (upd E o.dst undef) m rest) : OW P n l (St w0 M L) E m (o :: rest) :=
  ow_loud hm hw fun a w hF hC _ _ hK => by
    subst hq hc'
    obtain ⟨hok, hnd, hlt⟩ := hC.one hr
    obtain ⟨cur, G1, G2, c1, c2, hb, h2, h3, h4, h5, h6, h7, h8, rfl, h9, h10⟩ := hok
    have hfit' := Nat.le_of_ble_eq_true hfit
    have hpos : (i + 1) * e.sz ≤ xs.length * e.sz := Nat.mul_le_mul_right _ h8
    have hpos2 : xs.length * e.sz ≤ cap * e.sz := Nat.mul_le_mul_right _ h2
    rw [Nat.add_mul, Nat.one_mul] at hpos
    have hrun := run_storeAt ht hb hv hl (off := i * e.sz + off) (by omega) h1
    have hb1 : b ∉ G1 ++ G2 := by
      have := hnd
      simp only [Res.hole] at this
      exact (List.nodup_cons.1 this).1
    have hst : St w0 M (L.set p (Res.hole e T b cap xs i (G1 ++ G2) (splice c off vs))) (w.setRow b (splice cur.toList (i * e.sz + off) vs).toArray) := by
      refine hC.upd hr (Ext.mono (ext_setRow hb) (by simp [Res.hole])) _ ?_ hnd (fun d hd' => ⟨by have := hlt d hd'; simpa using this, .inl hd'⟩)
      refine ⟨_, G1, G2, c1, c2, setRow_heap w b _ _ T _ hb, h2, h3, ?_, ?_, h6, ?_, h8, rfl, ?_, ?_⟩
      · simp only [List.size_toArray]; rw [splice_len (by simp; omega)]; simpa using h4
      · have hcl : (cur.toList.take (xs.length * e.sz)).length = xs.length * e.sz := by simp; omega
        have hc2l : c1.length + (c.length + c2.length) = xs.length * e.sz := by rw [← hcl, h5]; simp
        have key : splice (cur.toList.take (xs.length * e.sz)) (i * e.sz + off) vs = c1 ++ (splice c off vs ++ c2) := by
          rw [h5]
          simp only [splice]
          have hA : i * e.sz + off = c1.length + off := by rw [h6]
          rw [hA, List.take_length_add_append, List.take_append_of_le_length (by omega), show c1.length + off + vs.length = c1.length + (off + vs.length) by omega, List.drop_length_add_append, List.drop_append_of_le_length (by omega)]
          simp [List.append_assoc]
        rw [← key]
        show (splice cur.toList (i * e.sz + off) vs).take (xs.length * e.sz) = _
        simp only [splice]
        rw [List.take_append, List.take_append, List.take_take, List.take_take, List.drop_take]
        have e1 : min (xs.length * e.sz) (i * e.sz + off) = i * e.sz + off := by omega
        have e2 : (cur.toList.take (i * e.sz + off)).length = i * e.sz + off := by simp; omega
        rw [e1, show min (i * e.sz + off) (xs.length * e.sz) = i * e.sz + off by omega, e2, List.take_of_length_le (l := vs) (by omega)]
        congr 2
        rw [List.length_append, e2]
      · rw [splice_len (by omega)]; exact h7
      · exact ownAll_loc h9 (fun d hd' => setRow_other w b d _ (fun e => hb1 (by rw [← e]; simp [hd'])))
      · exact ownAll_loc h10 (fun d hd' => setRow_other w b d _ (fun e => hb1 (by rw [← e]; simp [hd'])))
    refine upon_skip ?_ (hK _ _ _ _ hk (hF.put _ _ (dstOk_lt hd)) hst (hS _ hst))
    unfold execOp
    simp only [ho, hF.ev hx, hF.ev hy, Sem.run_bind, hrun]
    rfl
end Go.Vk
/- Flat structs in slices, elements moved, calls with state, results in cells. -/
namespace Go.Vk
open Go.RowKit
variable {P : Program} {n : Nat} {C : World → Prop} {E : Env} {m : Md} {l rest : List Oper} {w0 : World} {M : List Nat} {L : List Res} {Q : Exit → Act → World → Prop}
/-! ### elements by address, of slices that can be read -/
theorem ow_ixE {α : Type} {e : Enc α} {o : Oper} {t et : TypeId} {x i : Operand} {agg : Bool} {sz by_ : Nat} {z : List Value} {xs : List α} {k : IntKind} {j : Int} {y : α} {a : Option Addr} {nn cap : Nat}
    (ho : o.op = .indexAddr t x i) (hw : wt l E o.guard = some true) (hd : dstOk n o.dst = true) (hx : ev E x = some (.slice a nn cap)) (hi : ev E i = some (.int k j)) (ht : isSl P t et) (he : isTy P et agg sz by_ z) (_hsz : e.sz = sz)
    (hS : ∀ w, m.cls C w → rdList e w [] xs [.slice a nn cap]) (hj : idx xs j = some y) {q : Addr} (hq : q = eltP a (j.toNat * sz))
    (hk : OW P n l C (upd E o.dst (.pointer (some q))) m rest) : OW P n l C E m (o :: rest) := by
  subst hq
  obtain ⟨h0, hl, h2⟩ := idx_some hj
  refine ow_r hw (dstOk_lt hd) (v := .pointer (some (eltP a (j.toNat * sz)))) (fun fr hF w hw' => ?_) hk
  obtain ⟨a', cap', hv, _, _, hel⟩ := hS w hw'
  simp only [List.cons.injEq, Value.slice.injEq, and_true] at hv
  obtain ⟨rfl, rfl, rfl⟩ := hv
  obtain ⟨p, rfl, hp⟩ := hel (fun e => by subst e; simp at hl)
  unfold execOp
  simp only [ho, hF.ev hx, hF.ev hi, Sem.run_bind, run_indexAt ht he p xs.length cap k j h0 hl w, eltP, Option.getD_some]
  rfl
theorem at_eltE {α : Type} {e : Enc α} {S : World → Prop} {xs : List α} {a : Option Addr} {nn cap : Nat} {j : Int} {y : α} {cs : List Value} (hS : ∀ w, S w → rdList e w [] xs [.slice a nn cap]) (hj : idx xs j = some y) (hc : ∀ w ds, e.rd w [] y ds → ds = cs) :
    ∀ w, S w → At w [] (eltP a (j.toNat * e.sz)) cs := fun w hw => by
  obtain ⟨h0, hl, h2⟩ := idx_some hj
  obtain ⟨a', cap', hv, _, _, hel⟩ := hS w hw
  simp only [List.cons.injEq, Value.slice.injEq, and_true] at hv
  obtain ⟨rfl, rfl, rfl⟩ := hv
  obtain ⟨p, rfl, hp⟩ := hel (fun e => by subst e; simp at hl)
  obtain ⟨ds, hd, hA⟩ := hp _ y h2
  rw [← hc w ds hd]
  exact hA
/-- the place of an own element taken out, as the code reckons it -/
theorem ow_ixH {α : Type} {e : Enc α} {o : Oper} {t et : TypeId} {x i : Operand} {agg : Bool} {sz by_ : Nat} {z : List Value} {k : IntKind} {j : Int} {nn b cap cap' : Nat} {a : Option Addr} {T : TypeId} {xs : List α} {G : List Nat} {c : List Value}
    (ho : o.op = .indexAddr t x i) (hw : wt l E o.guard = some true) (hd : dstOk n o.dst = true) (hx : ev E x = some (.slice a nn cap')) (hi : ev E i = some (.int k j)) (ht : isSl P t et) (he : isTy P et agg sz by_ z) (_hsz : e.sz = sz)
    (hS : ∀ w, m.cls C w → holeOk e T b cap xs j.toNat G c w) (hnn : nn = xs.length) (ha : a = some ⟨b, 0, none⟩) (h0 : 0 ≤ j)
    (hk : OW P n l C (upd E o.dst (.pointer (some ⟨b, j.toNat * sz, none⟩))) m rest) : OW P n l C E m (o :: rest) := by
  subst ha
  refine ow_r hw (dstOk_lt hd) (v := .pointer (some ⟨b, j.toNat * sz, none⟩)) (fun fr hF w hw' => ?_) hk
  obtain ⟨cur, G1, G2, c1, c2, _, _, _, _, _, _, _, hlt, _⟩ := hS w hw'
  have hr := run_indexAt (P := P) ht he ⟨b, 0, none⟩ nn cap' k j h0 (by omega) w
  rw [add_lit, Nat.zero_add] at hr
  unfold execOp
  simp only [ho, hF.ev hx, hF.ev hi, Sem.run_bind, hr]
  rfl
theorem at_elV {α : Type} {val : α → Value} {h1 : ∀ x, (val x).oneCell' = true} {S : World → Prop} {xs : List α} {a : Option Addr} {nn cap : Nat} {j : Int} {y : α} (hS : ∀ w, S w → rdList (eVal val h1) w [] xs [.slice a nn cap]) (hj : idx xs j = some y) :
    ∀ w, S w → At w [] (eltP a j.toNat) [val y] := fun w hw => by
  have := at_eltE (e := eVal val h1) hS hj (cs := [val y]) (fun _ _ h => h) w hw
  rwa [show (eVal val h1).sz = 1 from rfl, Nat.mul_one] at this
theorem app_ne {α : Type} {xs zs : List α} {y : α} {ys : List α} (h : app xs (y :: ys) = some zs) : zs ≠ [] := by
  rw [(app_some h).1]; simp
theorem ry_nilB {o : Oper} {t et u : TypeId} {x : Operand} {a : Option Addr} {nn cap : Nat} {b : Bool} (ho : o.op = .binOp .eql t x (.const (.slice none 0 0)) u) (hx : ev E x = some (.slice a nn cap)) (ht : isSl P t et) (hb : a.isNone = b) : Ry P n C E o (.bool b) := hb ▸ ry_nil ho hx ht
theorem ry_nnilB {o : Oper} {t et u : TypeId} {x : Operand} {a : Option Addr} {nn cap : Nat} {b : Bool} (ho : o.op = .binOp .neq t x (.const (.slice none 0 0)) u) (hx : ev E x = some (.slice a nn cap)) (ht : isSl P t et) (hb : a.isNone = b) : Ry P n C E o (.bool (!b)) := hb ▸ ry_nnil ho hx ht
def fsB (P : Program) (s : TypeId) (tab : List (Nat × Nat)) : Bool :=
  match P.underlying s with
  | some (.struct fs) => (match fs.toList.mapM (fun f => (P.info? f.type).map fun i => (f.offset, i.size)) with | some t => t == tab | none => false)
  | _ => false
theorem isFs_of {s : TypeId} {tab : List (Nat × Nat)} (h : fsB P s tab = true) : isFs P s tab := by
  unfold fsB at h
  split at h
  · rename_i fs hu
    refine ⟨fs, hu, ?_⟩
    split at h
    · rename_i t ht
      rw [ht]; simp only [beq_iff_eq] at h; rw [h]
    · cases h
  · cases h
theorem ry_build2 {o : Oper} {t : TypeId} {ps : List (Nat × Operand)} {vs : List Value} (qs : List (Nat × List Value)) (cs : List Value) {tab : List (Nat × Nat)} {sz by_ : Nat} {z : List Value} (ho : o.op = .build t ps.toArray) (hx : evs E (ps.map (·.2)) = some vs)
    (ht : isTy P t true sz by_ z) (hs : isFs P t tab) (hz : z.length = sz) (hp : Parts (tab.toArray[·]?) sz ((ps.map (·.1)).zip vs) qs) (hl : laid z qs = cs) : Ry P n C E o (.agg cs.toArray) := hl ▸ ry_build qs ho hx ht hs hz hp
/-- a read where reads of the region's class are wanted -/
theorem ow_rH {S : World → Prop} {fl : List (Nat × Bool)} {l : List Oper} {o : Oper} {rest : List Oper} {v : Value} (hw : wt l E o.guard = some true) (hd : ∀ t, o.dst = some t → t < n) (hq : Ry P n S E o v)
    (h : OW P n l C (upd E o.dst v) (.held S Q fl) rest) : OW P n l C E (.held S Q fl) (o :: rest) := ow_r (m := .held S Q fl) hw hd hq h
theorem ry_hole1 {α : Type} {e : Enc α} {o : Oper} {t : TypeId} {x : Operand} {q : Addr} {b cap i : Nat} {T : TypeId} {xs : List α} {G : List Nat} {c : List Value} {v : Value} {sz by_ : Nat} {z : List Value} (p off : Nat) (hr : L[p]? = some (Res.hole e T b cap xs i G c)) (ho : o.op = .load t x) (hx : ev E x = some (.pointer (some q)))
    (ht : isTy P t false sz by_ z) (hq : q = ⟨b, i * e.sz + off, none⟩) (hv : c[off]? = some v) : Ry P n (St w0 M L) E o v :=
  ry_load1 ho hx ht (by
    subst hq
    have h1 := at_subA (at_hole (holeIn (w0 := w0) (M := M) hr)) off (ds := [v]) (by
      obtain ⟨h1, h2⟩ := List.getElem?_eq_some_iff.1 hv
      rw [List.drop_eq_getElem_cons h1, h2]; rfl)
    rwa [add_lit] at h1)
/-- into a variable of the call's own, its cells named -/
theorem ow_storeC {o : Oper} {t : TypeId} {x y : Operand} {b off : Nat} {v : Value} (vs : List Value) (cs' : List Value) {agg : Bool} {sz by_ : Nat} {z : List Value} {i : Nat} {T : TypeId} {cs : List Value} (ho : o.op = .store t x y) (hm : m.here (o :: rest) = true) (hw : wt l E o.guard = some true) (hd : dstOk n o.dst = true)
    (hx : ev E x = some (.pointer (some ⟨b, off, none⟩))) (hy : ev E y = some v) (ht : isTy P t agg sz by_ z) (hv : v.cells = vs.toArray) (hl : vs.length = sz) (h1 : ∀ u ∈ vs, u.oneCell' = true) (hr : L[i]? = some (Res.box b T cs)) (hfit : Nat.ble (off + sz) cs.length = true) (hc : splice cs off vs = cs')
    (hS : Kp m (St w0 M (L.set i (Res.box b T cs')))) (hk : OW P n l (St w0 M (L.set i (Res.box b T cs'))) (upd E o.dst undef) m rest) : OW P n l (St w0 M L) E m (o :: rest) := by
  subst hc
  exact ow_store vs ho hm hw hd hx hy ht hv hl h1 hr hfit hS hk
/-! ### lists of flat data -/
section
variable {α : Type} {f : α → List Value} {k : Nat} {hk : ∀ x, (f x).length = k} {h1 : ∀ x, ∀ u ∈ f x, u.oneCell' = true}
theorem ownAll_flats {w : World} : ∀ (ys : List α), ownAll (eFlat f k hk h1) w [] ys (ys.flatMap f)
  | [] => ⟨rfl, rfl⟩
  | y :: ys => ⟨[], [], f y, ys.flatMap f, rfl, rfl, hk y, ⟨rfl, rfl⟩, ownAll_flats ys⟩
theorem rd_cellsF {w : World} {X : List Nat} {xs : List α} {p : Addr} {nn cap : Nat} (h : rdList (eFlat f k hk h1) w X xs [.slice (some p) nn cap]) : nn = xs.length ∧ At w X p (xs.flatMap f) := by
  obtain ⟨a, cap', hv, hle, hc, hel⟩ := h
  simp only [List.cons.injEq, Value.slice.injEq, and_true] at hv
  obtain ⟨rfl, rfl, rfl⟩ := hv
  refine ⟨rfl, ?_⟩
  by_cases hne : xs = []
  · subst hne
    exact ⟨fun h => absurd rfl h, fun j v hv => by simp at hv⟩
  · obtain ⟨q, hq, hp⟩ := hel hne
    cases hq
    have hfl : ∀ (ys : List α) (o : Nat), (∀ i x, ys[i]? = some x → ∃ ds, (eFlat f k hk h1).rd w X x ds ∧ At w X (p.add ((o + i) * k)) ds) → ∀ j v, (ys.flatMap f)[j]? = some v → p.block ∉ X ∧ w.cell? (p.add (o * k + j)) = some v := by
      intro ys
      induction ys with
      | nil => intro o _ j v hv; simp at hv
      | cons y ys ih =>
        intro o hel j v hv
        rw [List.flatMap_cons] at hv
        by_cases hj : j < (f y).length
        · rw [List.getElem?_append_left hj] at hv
          obtain ⟨ds, hd, hA⟩ := hel 0 y rfl
          have hd' : ds = f y := hd
          subst hd'
          have h2 := hA.2 j v hv
          have h3 := hA.1 (fun e => by rw [e] at hv; simp at hv)
          rw [add_block] at h3
          rw [add_add, Nat.add_zero] at h2
          exact ⟨h3, h2⟩
        · rw [List.getElem?_append_right (by omega)] at hv
          have := ih (o + 1) (fun i x hx => by
            have := hel (i + 1) x (by simpa using hx)
            rwa [show o + (i + 1) = o + 1 + i by omega] at this) _ v hv
          rw [hk y] at this hj
          refine ⟨this.1, ?_⟩
          rw [← this.2]; congr 2
          rw [Nat.add_mul]; omega
    have hall := hfl xs 0 (fun i x hx => by have := hp i x hx; rwa [show (0 + i) * k = i * (eFlat f k hk h1).sz by rw [Nat.zero_add]; rfl])
    refine ⟨fun hne2 => ?_, fun j v hv => by have := (hall j v hv).2; simpa using this⟩
    obtain ⟨v, hv⟩ : ∃ v, (xs.flatMap f)[0]? = some v := by cases hx : xs.flatMap f with | nil => exact absurd hx hne2 | cons v _ => exact ⟨v, rfl⟩
    exact (hall 0 v hv).1
/-- a block of known elements -/
theorem own_litF {b : Nat} {T : TypeId} {w : World} (xs : List α) (hl : xs.length ≤ maxLen) (h : (Res.box b T (xs.flatMap f)).ok w) :
    (Res.own (eList (eFlat f k hk h1) T) [b] xs [.slice (some ⟨b, 0, none⟩) xs.length xs.length]).ok w := by
  have hlen : ∀ ys : List α, (ys.flatMap f).length = ys.length * k := by
    intro ys
    induction ys with
    | nil => simp
    | cons y ys ih => rw [List.flatMap_cons, List.length_append, hk, ih, List.length_cons, Nat.add_mul]; omega
  refine .inr ⟨b, xs.length, _, [], xs.flatMap f, rfl, rfl, h, Nat.le_refl _, hl, ?_, ?_, ownAll_flats xs⟩
  · simp only [List.size_toArray]; exact hlen xs
  · exact List.take_of_length_le (by simp only [hlen]; exact Nat.le_refl _)
theorem ow_blitF {o : Oper} {t et : TypeId} {len : Nat} {ps : List (Nat × Operand)} {vs : List Value} (xs : List α) (qs : List (Nat × List Value)) {agg : Bool} {sz by_ : Nat} {z : List Value} (ho : o.op = .buildSlice t len ps.toArray) (hm : m.here (o :: rest) = true) (hw : wt l E o.guard = some true) (hd : dstOk n o.dst = true)
    (hx : evs E (ps.map (·.2)) = some vs) (ht : isSl P t et) (he : isTy P et agg sz by_ z) (hpos : Nat.blt 0 (len * sz) = true) (hsm : Nat.ble (len * sz) 16777216 = true) (hsm2 : Nat.ble len 16777216 = true) (hlen : xs.length = len)
    (hp : Parts (fun i => some (i * sz, sz)) (len * sz) ((ps.map (·.1)).zip vs) qs) (hds : laid ((List.range (len * sz)).map fun i => z[i % z.length]!) qs = xs.flatMap f)
    (hS : ∀ b, Kp m (St w0 M (L ++ [Res.own (eList (eFlat f k hk h1) et) [b] xs [.slice (some ⟨b, 0, none⟩) xs.length len]])))
    (hk' : ∀ b, OW P n l (St w0 M (L ++ [Res.own (eList (eFlat f k hk h1) et) [b] xs [.slice (some ⟨b, 0, none⟩) xs.length len]])) (upd E o.dst (.slice (some ⟨b, 0, none⟩) xs.length len)) m rest) : OW P n l (St w0 M L) E m (o :: rest) := by
  have hst : ∀ b w, St w0 M (L ++ [Res.box b et (xs.flatMap f)]) w → St w0 M (L ++ [Res.own (eList (eFlat f k hk h1) et) [b] xs [.slice (some ⟨b, 0, none⟩) xs.length len]]) w := fun b w h => by
    have hi : (L ++ [Res.box b et (xs.flatMap f)])[L.length]? = some (Res.box b et (xs.flatMap f)) := by simp
    have := h.recast (r' := Res.own (eList (eFlat f k hk h1) et) [b] xs [.slice (some ⟨b, 0, none⟩) xs.length len]) hi rfl (fun ho => by
      have hmx : xs.length ≤ maxLen := by
        rw [hlen]; have := Nat.le_of_ble_eq_true hsm2; simp only [maxLen]; omega
      have := own_litF (hk := hk) (h1 := h1) xs hmx ho
      rwa [← hlen])
    simpa using this
  subst hlen
  refine ow_bslice qs ho hm hw hd hx ht he hpos hsm hp _ hds (fun b w hw' => hS b w (hst b w hw')) (fun b => ?_)
  have := hk' b
  cases m with
  | lex Q => exact fun a w hF hC => this a w hF (hst b w hC)
  | any K => cases hm
  | held S Q fl => exact fun s h1 h2 a w hF hC => this s h1 h2 a w hF (hst b w hC)
/-- append of flat elements that can be read -/
theorem ow_appF {o : Oper} {t et : TypeId} {x y : Operand} {agg : Bool} {sz by_ : Nat} {z : List Value} {r : Nat} {F : List Nat} {xs ys zs : List α} {a : Option Addr} {nn cap : Nat} {a2 : Option Addr} {n2 cap2 : Nat}
    (ho : o.op = .call { callee := .builtin .append, args := #[x, y], argTypes := #[t, t] }) (hm : m.here (o :: rest) = true) (hw : wt l E o.guard = some true) (hd : dstOk n o.dst = true) (hx : ev E x = some (.slice a nn cap)) (hy : ev E y = some (.slice a2 n2 cap2))
    (ht : isSl P t et) (he : isTy P et agg sz by_ z) (hby : Nat.ble by_ 2048 = true) (hsz : k = sz) (hpos : Nat.blt 0 sz = true) (hzl : z.length = sz) (hr : L[r]? = some (Res.own (eList (eFlat f k hk h1) et) F xs [.slice a nn cap])) (hA : ∀ w, St w0 M L w → rdList (eFlat f k hk h1) w [] ys [.slice a2 n2 cap2]) (hz : app xs ys = some zs)
    (hS : ∀ a' c' F', Kp m (St w0 M (L.set r (Res.own (eList (eFlat f k hk h1) et) F' zs [.slice a' zs.length c']))))
    (hk' : ∀ a' c' F', OW P n l (St w0 M (L.set r (Res.own (eList (eFlat f k hk h1) et) F' zs [.slice a' zs.length c']))) (upd E o.dst (.slice a' zs.length c')) m rest) : OW P n l (St w0 M L) E m (o :: rest) := by
  obtain ⟨rfl, hlen⟩ := app_some hz
  refine ow_loud hm hw fun fr w hF hC _ _ hK => ?_
  obtain ⟨hok, hnd, hlt⟩ := hC.one hr
  have hr2 := hA w hC
  obtain ⟨i, zv, hi, hs, hb, hzv, hzc⟩ := he.info
  have fin : ∀ v' w' F', (Builtin.append_ #[t, t] o.type #[.slice a nn cap, .slice a2 n2 cap2]).run P w = .ok v' w' → ownList (eFlat f k hk h1) et w' F' (xs ++ ys) [v'] → Ext F w w' → F'.Nodup → (∀ b ∈ F', b < w'.heap.size ∧ (b ∈ F ∨ w.heap.size ≤ b)) →
      o.wp P fr w _ m.ends := fun v' w' F' hrun hown hext hnd' hF' => by
    obtain ⟨a', c', hv, _⟩ := (eList (eFlat f k hk h1) et).own_rd (X := []) hown (by simp)
    simp only [List.cons.injEq, and_true] at hv
    subst hv
    have hst : St w0 M (L.set r (Res.own (eList (eFlat f k hk h1) et) F' (xs ++ ys) [.slice a' (xs ++ ys).length c'])) w' := hC.upd hr hext _ hown hnd' hF'
    refine upon_val ?_ (hK _ _ _ _ (hk' a' c' F') (hF.put _ _ (dstOk_lt hd)) hst (hS a' c' F' _ hst))
    unfold execOp
    simp only [ho, resolve, invoke, builtin, Sem.run_bind, Sem.run_pure, Result.andThen_ok, List.map_toArray, List.map_cons, List.map_nil, hF.ev hx, hF.ev hy, hrun]
  cases a2 with
  | none =>
    have hys : ys = [] ∧ n2 = 0 := by
      obtain ⟨a', cap', hv, _, _, hel⟩ := hr2
      simp only [List.cons.injEq, Value.slice.injEq, and_true] at hv
      obtain ⟨rfl, rfl, rfl⟩ := hv
      by_cases hne : ys = []
      · subst hne; exact ⟨rfl, rfl⟩
      · obtain ⟨p, hp, _⟩ := hel hne; cases hp
    obtain ⟨rfl, rfl⟩ := hys
    have hle : nn ≤ cap := by
      obtain ⟨a', cap', hv, h2, _⟩ := (eList (eFlat f k hk h1) et).own_rd (X := []) hok (by simp)
      simp only [List.cons.injEq, Value.slice.injEq, and_true] at hv
      obtain ⟨rfl, rfl, rfl⟩ := hv
      exact h2
    have hrun := run_append_nothing (P := P) w t t o.type et i ht hi a nn cap hle (.slice none 0 cap2) (Src.ofNil w ht cap2)
    exact fin _ _ F hrun (by rw [List.append_nil]; exact hok) (Ext.refl _ _) hnd (fun b hb => ⟨hlt b hb, .inl hb⟩)
  | some p =>
    obtain ⟨hn, hAt⟩ := rd_cellsF hr2
    obtain ⟨v', w', F', hrun, hown, hext, hnd', hF'⟩ := append_core (ty := o.type) ht he hby (e := eFlat f k hk h1) hsz hpos hzl (F := F) (Fy := []) hok (mm := n2) (cap := cap2) hn hAt (ownAll_flats ys) hlen (by rw [List.append_nil]; exact hnd) (by simp)
    exact fin v' w' F' hrun hown hext hnd' (fun b hb => by
      obtain ⟨h2, h3⟩ := hF' b hb
      refine ⟨h2, ?_⟩
      rcases h3 with h3 | h3 | h3
      · exact .inl h3
      · cases h3
      · exact .inr h3)
end
/-! ### calls with state -/
theorem ow_callS {o : Oper} {f : FuncId} {xs : List Operand} {ts : Array TypeId} {vs : List Value} {R : Value → World → World → Prop} (ho : o.op = .call { callee := .value (.func f), args := xs.toArray, argTypes := ts }) (hf : isFn P f)
    (hm : m.here (o :: rest) = true) (hw : wt l E o.guard = some true) (hd : dstOk n o.dst = true) (hx : evs E xs = some vs)
    (hc : ∀ w, C w → Calls P f vs.toArray w fun e w' => ∃ v, e = .returned v ∧ R v w w')
    (hk : ∀ v w w', C w → R v w w' → ∃ C' : World → Prop, C' w' ∧ (∀ u, C' u → m.keeps u) ∧ OW P n l C' (upd E o.dst v) m rest) : OW P n l C E m (o :: rest) :=
  ow_call ho hf hm hw hd hx hc hk
/-! ### results -/
def packV : List Value → Value
  | [v] => v
  | vs => .tuple vs.toArray
def resV (P : Program) (C : World → Prop) (E : Env) : List ResultVar → List Value → Prop
  | [], [] => True
  | .tmp t :: rs, v :: vs => look E t = some v ∧ resV P C E rs vs
  | .cell t T :: rs, v :: vs => (∃ p cs sz by_ z, look E t = some (.pointer (some p)) ∧ isTy P T true sz by_ z ∧ (∀ w, C w → At w [] p cs) ∧ cs.length = sz ∧ v = .agg cs.toArray) ∧ resV P C E rs vs
  | _, _ => False
def rvGet (a : Act) : ResultVar → Sem Value
  | .tmp t => pure (a.tmps.getD t undef)
  | .cell p t => do loadVar t (← asAddr (a.tmps.getD p undef))
theorem results_eq (fn : Func) (a : Act) : results fn a.tmps = (do let vs ← fn.results.mapM (rvGet a); pure (if h : vs.size = 1 then vs[0] else .tuple vs)) := by
  unfold results
  have : (fun x => (match x with | .tmp t => pure (a.tmps.getD t undef) | .cell p t => do loadVar t (← asAddr (a.tmps.getD p undef)) : Sem Value)) = rvGet a := by
    funext x; cases x <;> rfl
  rw [← this]
  rfl
theorem resV_run {a : Act} {w : World} (hF : Fr n E a) (hC : C w) : ∀ {rs : List ResultVar} {vs : List Value}, resV P C E rs vs → (rs.mapM (rvGet a)).run P w = .ok vs w
  | [], [], _ => rfl
  | .tmp t :: rs, v :: vs, h => by
    have ih := resV_run hF hC h.2
    have h0 : (rvGet a (.tmp t)).run P w = .ok v w := by simp only [rvGet, Sem.run_pure, hF.at_ t v h.1]
    rw [List.mapM_cons]
    simp only [Sem.run_bind, Sem.run_pure, Result.andThen_ok, h0, ih]
  | .cell t T :: rs, v :: vs, h => by
    have ih := resV_run hF hC h.2
    obtain ⟨p, cs, sz, by_, z, h1, h2, h3, h4, rfl⟩ := h.1
    have h5 := run_loadAt h2 (h3 w hC) h4
    have h0 : (rvGet a (.cell t T)).run P w = .ok (.agg cs.toArray) w := by
      simp only [Instr.loadAt, Instr.sureAddr, Sem.run_bind, Sem.run_pure, Result.andThen_ok, if_true] at h5
      simp only [rvGet, Sem.run_bind, Sem.run_pure, Result.andThen_ok, hF.at_ t _ h1, asAddr, h5]
    rw [List.mapM_cons]
    simp only [Sem.run_bind, Sem.run_pure, Result.andThen_ok, h0, ih]
  | [], _ :: _, h => h.elim
  | .tmp _ :: _, [], h => h.elim
  | .cell _ _ :: _, [], h => h.elim
theorem results_run {fn : Func} {a : Act} {w : World} {rs : List ResultVar} {vs : List Value} (hr : fn.results = rs.toArray) (hF : Fr n E a) (hC : C w) (h : resV P C E rs vs) : (results fn a.tmps).run P w = .ok (packV vs) w := by
  have h1 := resV_run hF hC h
  have h2 : (rs.toArray.mapM (rvGet a)).run P w = .ok vs.toArray w := by
    rw [List.mapM_toArray, map_eq_pure_bind]
    simp only [Sem.run_bind, h1, Result.andThen_ok, Sem.run_pure]
  rw [results_eq, hr]
  simp only [Sem.run_bind, h2, Result.andThen_ok, Sem.run_pure]
  congr 1
  match vs with
  | [] => rfl
  | [v] => rfl
  | v :: u :: vs => rfl
theorem x_retR {fn : Func} {R : Ending → World → Prop} {rs : List ResultVar} {vs : List Value} (hr : fn.results = rs.toArray) (hv : resV P C E rs vs) (hR : ∀ w, C w → R (.returned (packV vs)) w) : XW n C E (bodyPost P fn R) .ret := fun _ w hF hC =>
  ⟨hF.df, packV vs, results_run hr hF hC hv, hR w hC⟩
end Go.Vk
/- Regions whose head makes and reads memory, and whose tail comes in one order. -/
namespace Go.Vk
open Go.RowKit
variable {P : Program} {n : Nat} {C : World → Prop} {E : Env} {m : Md} {l rest : List Oper} {w0 : World} {M : List Nat} {L : List Res} {Q : Exit → Act → World → Prop}
/-- what stands behind the head: the tail -/
def QT (P : Program) (l : List Oper) (nn : Nat) (Q : Exit → Act → World → Prop) : Exit → Act → World → Prop
  | .normal, a, w => wpList P l.toArray Q (l.drop nn) a w
  | e, a, w => Q e a w
theorem upon_q {Q1 Q2 : Exit → Act → World → Prop} (h : ∀ e a w, e ≠ .normal → Q1 e a w → Q2 e a w) {o : Oper} {a : Act} {K : Act → World → Prop} {r : Result Next} (hu : o.upon P a K Q1 r) : o.upon P a K Q2 r := by
  cases r with
  | ok x w' =>
    cases x <;> simp only [Oper.upon] at hu ⊢
    case value => exact hu
    case skip => exact hu
    case defer => exact hu
    case enter f args =>
      refine hu.mono fun e w'' he => ?_
      cases e with
      | returned v => exact he
      | panicked c => exact h _ _ _ (by simp) he
      | outgrown => obtain ⟨a, w, hq⟩ := (show LetsOut Q1 from he); exact ⟨a, w, h _ _ _ (by simp) hq⟩
    case row => exact hu
  | halt x w' =>
    cases x <;> simp only [Oper.upon] at hu ⊢
    exact h _ _ _ (by simp) hu
theorem wpOp_q {Q1 Q2 : Exit → Act → World → Prop} {ops : Array Oper} (h : ∀ e a w, e ≠ .normal → Q1 e a w → Q2 e a w) {i : Nat} {K : Act → World → Prop} {a : Act} {w : World} (hu : wpOp P ops Q1 i K a w) : wpOp P ops Q2 i K a w := by
  unfold wpOp at hu ⊢
  cases ho : ops[i]? with
  | none => rw [ho] at hu; exact hu
  | some o =>
    rw [ho] at hu
    simp only at hu ⊢
    split at hu
    · rename_i hw
      rw [if_pos hw]
      rcases hu with hu | ⟨h1, h2⟩
      · exact .inl (upon_q h hu)
      · obtain ⟨a, w, hq⟩ := h2
        exact .inr ⟨h1, a, w, h _ _ _ (by simp) hq⟩
    · rename_i hw
      rw [if_neg hw]
      exact hu
section
variable {ops : Array Oper} {md : Region.Mode} {S : World → Prop}
def wpAnyLH (P : Program) (md : Region.Mode) (ops : Array Oper) (Q : Exit → Act → World → Prop) (S : World → Prop) (nn : Nat) (K : Array Bool → Act → World → Prop) : Nat → Array Bool → Act → World → Prop
  | 0, listed, a, w => K listed a w
  | f + 1, listed, a, w =>
    Region.ready md ops listed ≠ [] ∧ ∀ i ∈ Region.ready md ops listed, i < nn ∧ wpOp P ops Q i (fun a' w' => S w' ∧ wpAnyLH P md ops Q S nn K f (listed.setIfInBounds i true) a' w') a w
theorem wpAny_of_headH {nn g : Nat} {K : Array Bool → Act → World → Prop} (hL : ∀ listed a w, K listed a w → wpAny P md ops Q g listed a w) :
    ∀ (f : Nat) (listed : Array Bool) (a : Act) (w : World), wpAnyLH P md ops Q S nn K f listed a w → wpAny P md ops Q (f + g) listed a w
  | 0, listed, a, w, h => by rw [Nat.zero_add]; exact hL _ _ _ h
  | f + 1, listed, a, w, h => by
    rw [show f + 1 + g = (f + g) + 1 by omega]
    exact ⟨fun h0 => absurd h0 h.1, fun i hi => wpOp_mono (fun a' w' h' => wpAny_of_headH hL f _ a' w' h'.2) (h.2 i hi).2⟩
theorem wpAnyLH_first {nn i : Nat} {oi : Oper} {v : Value} {K : Array Bool → Act → World → Prop} (hi : ops[i]? = some oi) (hsel : ∀ (j : Nat) (o : Oper) cs b, ops[j]? = some o → o.op ≠ .select cs b)
    (hs : Region.sinkB md ops nn = true) (hc : Region.chainB md ops nn = true) (hn : nn < ops.size) (hin : i < nn) (hQ : PanicOk Q)
    (hdone : ∀ listed a w, K listed a w → ∀ j ∈ Region.ready md ops listed, nn ≤ j) :
    ∀ (f : Nat) (listed : Array Bool) (a : Act) (w : World), HeadInv md ops nn listed →
      (∀ j oj, ops[j]? = some oj → j ≠ i → listed.getD j true = false → (∀ e ∈ oj.after, Region.binds md e = true → e.on ≠ i) → oi.apart ops oj = true) →
      i ∈ Region.ready md ops listed → YieldsIf P ops S oi v a → S w →
      wpAnyLH P md ops Q S nn K f (listed.setIfInBounds i true) (a.put oi.dst v) w → wpAnyLH P md ops Q S nn K (f + 1) listed a w := by
  intro f
  induction f with
  | zero =>
    intro listed a w inv _ hr hy hS H
    have hun := (mem_ready.1 hr).1
    refine ⟨fun h => (by rw [h] at hr; cases hr), fun j hj => ?_⟩
    have hjn : j < nn := by
      rcases Nat.lt_or_ge j nn with h | h
      · exact h
      · exact absurd hj (tail_waits hs hc hn inv _ i rfl hin hun j h)
    refine ⟨hjn, ?_⟩
    by_cases hji : j = i
    · subst hji; exact hy.wpOp hi hS ⟨hS, H⟩
    · have := hdone _ _ _ H j (ready_mono hj hji)
      omega
  | succ f ih =>
    intro listed a w inv hfree hr hy hS H
    have hun := (mem_ready.1 hr).1
    refine ⟨fun h => (by rw [h] at hr; cases hr), fun j hj => ?_⟩
    have hjn : j < nn := by
      rcases Nat.lt_or_ge j nn with h | h
      · exact h
      · exact absurd hj (tail_waits hs hc hn inv _ i rfl hin hun j h)
    refine ⟨hjn, ?_⟩
    by_cases hji : j = i
    · subst hji; exact hy.wpOp hi hS ⟨hS, H⟩
    · have h1 := (H.2 j (ready_mono hj hji)).2
      obtain ⟨hjun, oj, hoj, hall⟩ := mem_ready.1 hj
      have hnot : ∀ e ∈ oj.after, Region.binds md e = true → e.on ≠ i := fun e he hb heq => by
        have h1 := hall e he hb
        rw [heq, getD_both hun] at h1
        cases h1
      have h2 := wpOp_putIf hoj (hfree j oj hoj hji hjun hnot) (fun cs b => hsel i oi cs b hi) (fun cs b => hsel j oj cs b hoj) (fun c a w => hQ c a oi.dst v w) hy h1
      have hfree' : ∀ k ok, ops[k]? = some ok → k ≠ i → (listed.setIfInBounds j true).getD k true = false →
          (∀ e ∈ ok.after, Region.binds md e = true → e.on ≠ i) → oi.apart ops ok = true := fun k ok hk hki hun hno => by
        refine hfree k ok hk hki ?_ hno
        by_cases hjk : j = k
        · subst hjk; exact hjun
        · rw [getD_set_ne true hjk] at hun; exact hun
      refine wpOp_mono (fun a' w' h3 => ⟨h3.2.1, ih (listed.setIfInBounds j true) a' w' (inv.set hj hjn) hfree' (ready_mono hr (Ne.symm hji)) h3.1 h3.2.1 ?_⟩) h2
      rw [Array.setIfInBounds_comm _ _ hji]
      exact h3.2.2
/-- the head's moves (all below nn), then the tail in one order -/
def seqHB (ops : Array Oper) (nn g : Nat) : List (Nat × Bool) → Array Bool → Bool
  | [], listed => Region.seqB .any ops g nn listed
  | (i, q) :: s, listed =>
    Nat.blt i nn && (match q with
     | true => Region.free .any ops listed i && (Region.ready .any ops listed).contains i
     | false => Region.ready .any ops listed == [i]) && seqHB ops nn g s (listed.setIfInBounds i true)
theorem wpAnyLH_of_seq {nn g : Nat} {K : Act → World → Prop} (hsel : Region.noSelect ops = true) (hs : Region.sinkB .any ops nn = true) (hc : Region.chainB .any ops nn = true) (hn : nn < ops.size) (hQ : PanicOk Q) {Q1 : Exit → Act → World → Prop} (hq1 : ∀ e a w, e ≠ .normal → Q1 e a w → Q e a w) (hq2 : ∀ a w, Q1 .normal a w → K a w) :
    ∀ (s : List (Nat × Bool)) (listed : Array Bool) (a : Act) (w : World), HeadInv .any ops nn listed →
    seqHB ops nn g s listed = true → wpSeq P ops S Q1 s a w → wpAnyLH P .any ops Q S nn (fun listed' a' w' => Region.seqB .any ops g nn listed' = true ∧ K a' w') s.length listed a w
  | [], listed, a, w, _, hB, h => by
    rw [wpSeq] at h
    exact ⟨by simpa [seqHB] using hB, hq2 _ _ h⟩
  | (i, true) :: s, listed, a, w, inv, hB, h => by
    simp only [seqHB, Bool.and_eq_true] at hB
    obtain ⟨⟨hlt, hf, hr⟩, hB⟩ := hB
    have hlt := Nat.le_of_ble_eq_true hlt
    rw [wpSeq] at h
    obtain ⟨o, v, ho, hy, hS, h⟩ := h
    have hr' : i ∈ Region.ready .any ops listed := by simpa using hr
    exact wpAnyLH_first ho (Region.noSelect_spec hsel) hs hc hn hlt hQ (fun listed' a' w' hL => seqB_ready hL.1) s.length listed a w inv (Region.free_spec ho hf) hr' hy hS
      (wpAnyLH_of_seq hsel hs hc hn hQ hq1 hq2 s _ _ _ (inv.set hr' hlt) hB h)
  | (i, false) :: s, listed, a, w, inv, hB, h => by
    simp only [seqHB, Bool.and_eq_true, beq_iff_eq] at hB
    obtain ⟨⟨hlt, hr⟩, hB⟩ := hB
    have hlt := Nat.le_of_ble_eq_true hlt
    rw [wpSeq] at h
    have hr' : i ∈ Region.ready .any ops listed := by rw [hr]; simp
    refine ⟨by rw [hr]; simp, fun j hj => ?_⟩
    rw [hr] at hj
    obtain rfl := List.mem_singleton.1 hj
    exact ⟨hlt, wpOp_mono (fun a' w' h' => ⟨h'.1, wpAnyLH_of_seq hsel hs hc hn hQ hq1 hq2 s _ _ _ (inv.set hr' hlt) hB h'.2⟩) (wpOp_q hq1 h)⟩
end
/-- the head (operations below nn) held, then the tail -/
theorem c_regHT {id : Nat} {l : List Oper} (nn : Nat) (fl : List (Nat × Bool)) (S : World → Prop) (hm : P.follows .mixedOrders = true)
    (hB : (Region.noSelect l.toArray && decide (nn < l.toArray.size) && Region.sinkB .any l.toArray nn && Region.chainB .any l.toArray nn && seqHB l.toArray nn (l.toArray.size - nn) fl (Array.replicate l.length false) && inB l fl && Nat.beq fl.length nn) = true)
    (hQ : PanicOk Q) (hS : ∀ w, St w0 M L w → S w) (h : OW P n l (St w0 M L) E (.held S (QT P l nn Q) fl) (permOf l fl)) : CW P n (St w0 M L) E Q (.region id l.toArray true) := fun a w hF hC => by
  simp only [Bool.and_eq_true, decide_eq_true_eq] at hB
  obtain ⟨⟨⟨⟨⟨⟨hsel, hn⟩, hs⟩, hc⟩, h2⟩, h3⟩, h4⟩ := hB
  have hlen : fl.length = nn := Nat.eq_of_beq_eq_true h4
  have hn' : nn < l.length := by simpa using hn
  refine wp_region_any hm ?_
  have inv0 : HeadInv .any l.toArray nn (Array.replicate l.toArray.size false) :=
    ⟨by simp, fun j oj _ hl => (by rw [getD_replicate_false] at hl; cases hl), fun t _ ht => getD_in (by simpa using ht) (getD_replicate_false _ _)⟩
  have hseq := h fl ⟨[], rfl⟩ (cons_perm h3) a _ hF hC.drew (hS _ hC.drew)
  have H := wpAnyLH_of_seq (P := P) (S := S) (Q := Q) (Q1 := QT P l nn Q) (K := fun a w => wpList P l.toArray Q (l.drop nn) a w) (g := l.toArray.size - nn) hsel hs hc hn hQ
    (fun e a w he h => by cases e <;> first | exact absurd rfl he | exact h) (fun a w h => h) fl (Array.replicate l.toArray.size false) a _ inv0 (by simpa using h2) hseq
  have hdl : (l.drop nn).length = l.toArray.size - nn := by simp
  have := wpAny_of_headH (Q := Q) (g := l.toArray.size - nn) (fun listed a' w' hL => by
    have := wpAny_of_seq (md := .any) (Q' := Q) (l.drop nn) nn listed a' w' (fun j => by simp [List.getElem?_drop]) (by rw [hdl]; exact hL.1) hL.2
    rwa [hdl] at this) _ _ _ _ H
  rw [hlen, show nn + (l.toArray.size - nn) = l.toArray.size by omega] at this
  exact this
theorem x_qt {l : List Oper} {nn : Nat} (h : OW P n l C E (.lex Q) (l.drop nn)) : XW n C E (QT P l nn Q) .normal := fun a w hF hC => h a w hF hC
end Go.Vk
/- Calls of function values. -/
namespace Go.Vk
section
variable {P : Program} {n : Nat} {E : Env} {w0 : World} {M : List Nat} {L : List Res}
theorem run_callV {o : Oper} {y : Operand} {f : FuncId} {xs : List Operand} {ts : Array TypeId} {vs cap : List Value} {a : Act} (ho : o.op = .call { callee := .value y, args := xs.toArray, argTypes := ts }) (hf : isFn P f) (hF : Fr n E a)
    (hy : ev E y = some (.func (.func f) #[] cap.toArray)) (hx : evs E xs = some vs) (w : World) : (execOp a.eval o).run P w = .ok (.enter f (vs ++ cap).toArray) w := by
  obtain ⟨fn, h1, h2, h3⟩ := hf
  obtain ⟨c, hc⟩ := Option.isSome_iff_exists.1 h2
  have hm : (xs.toArray.map a.eval) = vs.toArray := by rw [← hF.evs hx]; simp
  unfold execOp
  simp only [ho, resolve, hF.ev hy, Deferred.ofValue, hm]
  simp [invoke, callFunc, h1, h3, hc]
theorem qy_callV {o : Oper} {y : Operand} {f : FuncId} {xs : List Operand} {ts : Array TypeId} {vs cap : List Value} {v : Value} (ho : o.op = .call { callee := .value y, args := xs.toArray, argTypes := ts }) (hf : isFn P f)
    (hy : ev E y = some (.func (.func f) #[] cap.toArray)) (hx : evs E xs = some vs)
    (hc : ∀ w, St w0 M L w → Calls P f (vs ++ cap).toArray w fun e w' => e = .returned v ∧ Ext [] w w') : Qy P n (St w0 M L) E o v := fun a hF w hC => by
  unfold Oper.quietAt
  rw [run_callV ho hf hF hy hx w]
  exact ⟨rfl, (hc w hC).mono fun e w' ⟨he, hw⟩ => ⟨he, hC.step hw⟩⟩
end
end Go.Vk
/- Structs compared, min, maps that the call makes. -/
namespace Go.Vk
open Go.RowKit
section
variable {P : Program} {n : Nat} {S C : World → Prop} {E : Env} {m : Md} {l rest : List Oper} {w0 : World} {M : List Nat} {L : List Res}
/-! ### structs of one level compared -/
def eqLeaf (d : TypeDesc) (x y : Value) : Option Bool :=
  match d, x, y with
  | .int _, .int k a, .int k' b => bif kindEq k k' then some (a == b) else none
  | .bool, .bool a, .bool b => some (a == b)
  | .string, .string a, .string b => some (a.data.toList == b.data.toList)
  | _, _, _ => none
def eqfB (P : Program) (xs ys : List Value) : List Field → Option Bool
  | [] => some true
  | f :: fs =>
    match decide (f.name = "_"), P.underlying f.type, xs[f.offset]?, ys[f.offset]? with
    | false, some d, some x, some y =>
      match eqLeaf d x y, eqfB P xs ys fs with
      | some b, some r => some (b && r)
      | _, _ => none
    | _, _, _, _ => none
def eqSB (P : Program) (t : TypeId) (xs ys : List Value) : Option Bool :=
  match P.underlying t with
  | some (.struct fs) => bif P.stoodInHeld t || P.eqGuardType P.depth t then none else eqfB P xs ys fs.toList
  | _ => none
theorem run_eqLeaf {d : Nat} {t : TypeId} {td : TypeDesc} {x y : Value} {b : Bool} (hu : P.underlying t = some td) (h : eqLeaf td x y = some b) (w : World) :
    (Op.equalIn (d + 1) t x y).run P w = .ok b w ∧ P.plainKey t = true := by
  unfold eqLeaf at h
  split at h
  · rename_i k a k' b'
    cases hk : kindEq k k' with
    | false => rw [hk] at h; cases h
    | true =>
      rw [hk] at h
      obtain rfl := kindEq_eq hk
      cases h
      exact ⟨run_equalIn_int w d t _ _ _ _ hu, by simp [Program.plainKey, hu]⟩
  · cases h
    exact ⟨run_equalIn_bool' w d t _ _ hu, by simp [Program.plainKey, hu]⟩
  · cases h
    exact ⟨by rw [run_equalIn_string w d t _ _ hu, ByteArray.toList_eq, ByteArray.toList_eq], by simp [Program.plainKey, hu]⟩
  · cases h
theorem run_eqfB {d : Nat} {xs ys : List Value} (w : World) : ∀ {fs : List Field} {b : Bool}, eqfB P xs ys fs = some b → (Op.eqFields (d + 1) xs.toArray ys.toArray fs).run P w = .ok b w := by
  intro fs
  induction fs with
  | nil => intro b h; cases h; simp [Op.eqFields]
  | cons f fs ih =>
    intro b h
    unfold eqfB at h
    split at h
    · rename_i hn d' x y h1 h2 hx hy
      split at h
      · rename_i b1 r e1 e2
        cases h
        obtain ⟨hr, hp⟩ := run_eqLeaf (d := d) h2 e1 w
        have hne : f.name ≠ "_" := by simpa using h1
        have px := run_part_plain w hp (xs := xs.toArray) (off := f.offset) (by simpa using hx)
        have py := run_part_plain w hp (xs := ys.toArray) (off := f.offset) (by simpa using hy)
        simp only [Op.eqFields, hne, ne_eq, not_false_eq_true, if_true, Sem.run_bind, px, py, hr, Result.andThen_ok]
        cases b1
        · simp
        · simp [ih e2]
      · cases h
    · cases h
theorem run_eqSB {d : Nat} {t : TypeId} {xs ys : List Value} {b : Bool} (h : eqSB P t xs ys = some b) (w : World) :
    (Op.equalIn (d + 2) t (.agg xs.toArray) (.agg ys.toArray)).run P w = .ok b w ∧ P.eqGuardType P.depth t = false := by
  unfold eqSB at h
  split at h
  · rename_i fs hu
    cases hs : P.stoodInHeld t with
    | true => rw [hs] at h; cases h
    | false =>
      cases hg : P.eqGuardType P.depth t with
      | true => rw [hs, hg] at h; cases h
      | false =>
        rw [hs, hg] at h
        have hf : P.fieldsOf t = fs := by unfold Program.fieldsOf; rw [hu]
        refine ⟨?_, rfl⟩
        rw [run_equalIn_struct w (d + 1) t _ _ (by rw [hf]; exact hu) hs, hf]
        exact run_eqfB w h
  · cases h
theorem ry_seql {o : Oper} {t u : TypeId} {x y : Operand} {xs ys : List Value} {b : Bool} (ho : o.op = .binOp .eql t x y u) (hx : ev E x = some (.agg xs.toArray)) (hy : ev E y = some (.agg ys.toArray)) (h : eqSB P t xs ys = some b) : Ry P n S E o (.bool b) := fun a hF w _ => by
  obtain ⟨h1, h2⟩ := run_eqSB (d := 9998) h w
  unfold execOp
  simp only [ho, hF.ev hx, hF.ev hy, Sem.run_bind, run_eqGuard_agg w _ _ _ _ _ _ h2, Result.andThen_ok, run_eql_struct, h1, Sem.run_pure]
theorem ry_sneq {o : Oper} {t u : TypeId} {x y : Operand} {xs ys : List Value} {b : Bool} (ho : o.op = .binOp .neq t x y u) (hx : ev E x = some (.agg xs.toArray)) (hy : ev E y = some (.agg ys.toArray)) (h : eqSB P t xs ys = some b) : Ry P n S E o (.bool (!b)) := fun a hF w _ => by
  obtain ⟨h1, h2⟩ := run_eqSB (d := 9998) h w
  unfold execOp
  simp only [ho, hF.ev hx, hF.ev hy, Sem.run_bind, run_eqGuard_agg w _ _ _ _ _ _ h2, Result.andThen_ok, run_neq_struct, h1, Sem.run_pure]
theorem rd_isNone {α : Type} {e : Enc α} {w : World} {X : List Nat} {xs : List α} {a : Option Addr} {nn c : Nat} (h : rdList e w X xs [.slice a nn c]) (ha : a.isNone = true) : xs = [] := by
  obtain ⟨a', c', hv, _, _, hel⟩ := h
  simp only [List.cons.injEq, Value.slice.injEq, and_true] at hv
  obtain ⟨rfl, _, _⟩ := hv
  by_cases hne : xs = []
  · exact hne
  · obtain ⟨p, rfl, _⟩ := hel hne
    cases ha
/-! ### maps -/
variable {κ : Type}
section
variable [DecidableEq κ]
end
def ents (f : κ → List Value) : Nat → List (κ × Int) → List MapEntry
  | _, [] => []
  | i, (k, v) :: es => { key := .agg (f k).toArray, val := .int .i64 v, born := i } :: ents f (i + 1) es
def Res.map (f : κ → List Value) (b : Nat) (es : List (κ × Int)) : Res :=
  ⟨[b], fun w => w.heap[b]? = some (.map (ents f 0 es).toArray es.length), fun _ _ h ok => (h b (by simp)).trans ok⟩
section
variable [DecidableEq κ]
end
section
variable [DecidableEq κ]
end
theorem ry_makeFunc {o : Oper} {f : FuncId} {xs : List Operand} {vs : List Value} (ho : o.op = .makeFunc (.func f) #[] xs.toArray) (hx : evs E xs = some vs) : Ry P n S E o (.func (.func f) #[] vs.toArray) := fun a hF w _ => by
  have hm : (xs.toArray.map a.eval) = vs.toArray := by rw [← hF.evs hx]; simp
  unfold execOp
  simp [ho, hm, Instr.makeFunc]
end
end Go.Vk
/- Elements deleted from a slice of the call's own: what stands behind moved up, the rest cleared. -/
namespace Go.Vk
open Go.RowKit
section
variable {α : Type} {e : Enc α} {f : α → List Value}
end
section
variable {P : Program} {n : Nat} {C : World → Prop} {E : Env} {m : Md} {l rest : List Oper} {w0 : World} {M : List Nat} {L : List Res}
end
end Go.Vk
/- Regions whose head comes in several orders: a tree of orders. -/
namespace Go.Vk
open Go.RowKit
variable {P : Program} {n : Nat} {C : World → Prop} {E : Env} {l rest : List Oper} {w0 : World} {M : List Nat} {L : List Res} {Q : Exit → Act → World → Prop}
/-- orders: done; a quiet operation, then t; the one loud operation that may come, then t; a loud operation, then t, or one of u -/
inductive Br where
  | done : Br
  | q (i : Nat) (t : Br) : Br
  | l (i : Nat) (t : Br) : Br
  | alt (i : Nat) (t u : Br) : Br
def Br.depth : Br → Nat
  | .done => 0
  | .q _ t => t.depth + 1
  | .l _ t => t.depth + 1
  | .alt _ t _ => t.depth + 1
def Br.pre : List (Nat × Bool) → Br → Br
  | [], b => b
  | (i, true) :: s, b => .q i (Br.pre s b)
  | (i, false) :: s, b => .l i (Br.pre s b)
section
variable {ops : Array Oper} {S : World → Prop}
end
end Go.Vk
namespace Go.Vk
open Go.RowKit
variable {P : Program} {n : Nat} {C : World → Prop} {E : Env} {m : Md} {l rest : List Oper} {w0 : World} {M : List Nat} {L : List Res} {Q : Exit → Act → World → Prop}
end Go.Vk
/- Plain laws of the loops that copy, compare, mark and weigh. No program in sight. -/
namespace Go.Vk
theorem wrap_id {n : Int} (h0 : -9223372036854775808 ≤ n) (h1 : n ≤ 9223372036854775807) : IntKind.i64.wrap n = n := IntWalk.i64_in n ⟨h0, h1⟩
theorem wrap_nat {n : Nat} (h : n < 9223372036854775808) : IntKind.i64.wrap (n : Int) = n := wrap_id (by omega) (by omega)
theorem wrap_succ {i : Nat} (h : i < 9223372036854775807) : IntKind.i64.wrap ((i : Int) + 1) = ((i + 1 : Nat) : Int) := by rw [wrap_id (by omega) (by omega)]; simp
theorem idx_lt {α : Type} {xs : List α} {i : Nat} (h : i < xs.length) : idx xs (i : Int) = some xs[i] := by simp [idx, h]
theorem app_eq {α : Type} {xs ys : List α} (h : xs.length + ys.length ≤ 68719476736) : app xs ys = some (xs ++ ys) := if_pos h
theorem tmod_nat (a b : Nat) : Int.tmod (a : Int) (b : Int) = ((a % b : Nat) : Int) := by rw [Int.tmod_eq_emod_of_nonneg (by omega)]; simp
theorem tdiv_nat (a b : Nat) : Int.tdiv (a : Int) (b : Int) = ((a / b : Nat) : Int) := by rw [Int.tdiv_eq_ediv_of_nonneg (by omega)]; simp
theorem mk_eq {α : Type} (z : α) {n : Nat} (h : n ≤ 68719476736) : mk z (n : Int) = some (List.replicate n z) := by
  unfold mk; rw [if_pos (by omega)]; simp
/-! ### copied -/
theorem copy_loop {α β : Type} {F : α → Option β} {g : α → β} {p : List α} (Lp : Nat → List β → Int → Option (List β))
    (step : ∀ k l i, Lp (k + 1) l i = if decide (i < (p.length : Int)) then (idx p i).bind fun e => (F e).bind fun y => (idx l i).bind fun _ => Lp k (l.set i.toNat y) (IntKind.i64.wrap (i + 1)) else some l)
    (hp : p.length < 1000000000000) (hF : ∀ x ∈ p, F x = some (g x)) (z : β) : Lp Fuel (List.replicate p.length z) 0 = some (p.map g) := by
  have key : ∀ (d k i : Nat) (l : List β), p.length - i = d → d < k → i ≤ p.length → l.length = p.length → l.take i = (p.map g).take i → Lp k l (i : Int) = some (p.map g) := by
    intro d
    induction d with
    | zero =>
      intro k i l hd hk hi hl ht
      obtain ⟨k, rfl⟩ : ∃ q, k = q + 1 := ⟨k - 1, by omega⟩
      rw [step, if_neg (by simp; omega)]
      have : i = p.length := by omega
      subst this
      rw [List.take_of_length_le (by omega), List.take_of_length_le (by simp)] at ht
      rw [ht]
    | succ d ih =>
      intro k i l hd hk hi hl ht
      obtain ⟨k, rfl⟩ : ∃ q, k = q + 1 := ⟨k - 1, by omega⟩
      have hlt : i < p.length := by omega
      rw [step, if_pos (by simp; omega), idx_lt hlt]
      simp only [Option.bind_some]
      rw [hF _ (List.getElem_mem hlt)]
      simp only [Option.bind_some]
      rw [idx_lt (by omega : i < l.length)]
      simp only [Option.bind_some]
      rw [wrap_succ (by omega)]
      refine ih k (i + 1) _ (by omega) (by omega) (by omega) (by simp [hl]) ?_
      apply List.ext_getElem?
      intro j
      have hj : (l.take i)[j]? = ((p.map g).take i)[j]? := by rw [ht]
      simp only [List.getElem?_take, List.getElem?_set, Int.toNat_natCast, List.getElem?_map] at hj ⊢
      by_cases c1 : j < i
      · simp only [c1, if_true] at hj
        simp [show j < i + 1 by omega, show ¬ i = j by omega, hj]
      · by_cases c2 : i = j
        · subst c2; simp [show i < l.length by omega, hlt]
        · simp [show ¬ j < i + 1 by omega]
  exact key p.length Fuel 0 _ (by omega) (fuel_gt (by omega)) (by omega) (by simp) (by simp)
/-! ### compared with itself -/
theorem same_loop {α : Type} {p : List α} (Lp : Nat → Int → Option Bool) (G : α → Option Bool → Option Bool)
    (step : ∀ k i, Lp (k + 1) i = if decide (i < (p.length : Int)) then (idx p i).bind fun e => G e (Lp k (IntKind.i64.wrap (i + 1))) else some true)
    (hp : p.length < 1000000000000) (hG : ∀ x ∈ p, ∀ o, G x o = o) : Lp Fuel 0 = some true := by
  have key : ∀ (d k i : Nat), p.length - i = d → d < k → i ≤ p.length → Lp k (i : Int) = some true := by
    intro d
    induction d with
    | zero =>
      intro k i hd hk hi
      obtain ⟨k, rfl⟩ : ∃ q, k = q + 1 := ⟨k - 1, by omega⟩
      rw [step, if_neg (by simp; omega)]
    | succ d ih =>
      intro k i hd hk hi
      obtain ⟨k, rfl⟩ : ∃ q, k = q + 1 := ⟨k - 1, by omega⟩
      have hlt : i < p.length := by omega
      rw [step, if_pos (by simp; omega), idx_lt hlt]
      simp only [Option.bind_some]
      rw [hG _ (List.getElem_mem hlt), wrap_succ (by omega)]
      exact ih k (i + 1) (by omega) (by omega) (by omega)
  exact key p.length Fuel 0 (by omega) (fuel_gt (by omega)) (by omega)
/-- an element marked: the number behind it and what it is then -/
def Marks {α : Type} (Mk : α → Int → Option (Int × α)) (Hd : α → Int → Option Int) (c : Nat) (x : α) : Prop :=
  ∀ m : Nat, m + c < 4611686018427387904 → ∃ (m' : Nat) (x' : α), Mk x (m : Int) = some ((m' : Int), x') ∧ Hd x' (m : Int) = some (m' : Int) ∧ m ≤ m' ∧ m' ≤ m + c
/-! ### weighed -/
/-- what is left, or less than nothing -/
def Weighs {α : Type} (Z : α → Int → Option Int) (size : α → Nat) (x : α) : Prop :=
  ∀ s : Nat, s ≤ 1048576 → ∃ r, Z x (s : Int) = some r ∧ ((r < 0 ∧ s < size x) ∨ (size x ≤ s ∧ r = ((s - size x : Nat) : Int)))
theorem weigh_loop {α : Type} {p : List α} {Z : α → Int → Option Int} {size : α → Nat} (Lp : Nat → Int → Int → Option Int)
    (step : ∀ k s i, Lp (k + 1) s i = if decide (i < (p.length : Int)) then (idx p i).bind fun e => (Z e s).bind fun y => if decide (y < 0) then some (-1) else Lp k y (IntKind.i64.wrap (i + 1)) else some s)
    (hp : p.length ≤ 1048576) (hZ : ∀ x ∈ p, Weighs Z size x) : ∀ s : Nat, s ≤ 1048576 → ∃ r, Lp Fuel (s : Int) 0 = some r ∧ ((r < 0 ∧ s < (p.map size).sum) ∨ ((p.map size).sum ≤ s ∧ r = ((s - (p.map size).sum : Nat) : Int))) := by
  have key : ∀ (d k i s : Nat), p.length - i = d → d < k → i ≤ p.length → s ≤ 1048576 → ∃ r, Lp k (s : Int) (i : Int) = some r ∧ ((r < 0 ∧ s < ((p.drop i).map size).sum) ∨ (((p.drop i).map size).sum ≤ s ∧ r = ((s - ((p.drop i).map size).sum : Nat) : Int))) := by
    intro d
    induction d with
    | zero =>
      intro k i s hd hk hi hs
      obtain ⟨k, rfl⟩ : ∃ q, k = q + 1 := ⟨k - 1, by omega⟩
      rw [step, if_neg (by simp; omega), List.drop_of_length_le (by omega)]
      exact ⟨_, rfl, .inr (by simp)⟩
    | succ d ih =>
      intro k i s hd hk hi hs
      obtain ⟨k, rfl⟩ : ∃ q, k = q + 1 := ⟨k - 1, by omega⟩
      have hlt : i < p.length := by omega
      rw [step, if_pos (by simp; omega), idx_lt hlt]
      simp only [Option.bind_some]
      have hsum : ((p.drop i).map size).sum = size p[i] + ((p.drop (i + 1)).map size).sum := by rw [List.drop_eq_getElem_cons hlt, List.map_cons, List.sum_cons]
      obtain ⟨r, h1, h2⟩ := hZ _ (List.getElem_mem hlt) s hs
      rw [h1]
      simp only [Option.bind_some]
      rcases h2 with ⟨h2, h3⟩ | ⟨h2, rfl⟩
      · rw [if_pos (by simpa using h2)]
        exact ⟨_, rfl, .inl ⟨by omega, by omega⟩⟩
      · rw [if_neg (by simp), wrap_succ (by omega)]
        obtain ⟨r', h4, h5⟩ := ih k (i + 1) (s - size p[i]) (by omega) (by omega) (by omega) (by omega)
        refine ⟨r', h4, ?_⟩
        rcases h5 with ⟨h5, h6⟩ | ⟨h5, h6⟩
        · exact .inl ⟨h5, by omega⟩
        · exact .inr ⟨by omega, by rw [h6]; congr 1; omega⟩
  intro s hs
  have := key p.length Fuel 0 s (by omega) (fuel_gt (by omega)) (by omega) hs
  simpa using this
theorem weigh_list {α : Type} {p : List α} : ∀ s : Nat, s ≤ 1048576 → ∃ r, (if decide ((IntKind.i64.wrap ((s : Int) - (p.length : Int))) < 0) then some (-1) else some (IntKind.i64.wrap ((s : Int) - (p.length : Int)))) = some r ∧ (p.length < 9223372036854775808 → (r < 0 ∧ s < p.length) ∨ (p.length ≤ s ∧ r = ((s - p.length : Nat) : Int))) := by
  intro s hs
  by_cases h : p.length < 9223372036854775808
  · rw [wrap_id (by omega) (by omega)]
    by_cases h1 : s < p.length
    · rw [if_pos (by simp; omega)]; exact ⟨_, rfl, fun _ => .inl ⟨by omega, h1⟩⟩
    · rw [if_neg (by simp; omega)]; exact ⟨_, rfl, fun _ => .inr ⟨by omega, by omega⟩⟩
  · split
    · exact ⟨_, rfl, fun h' => absurd h' h⟩
    · exact ⟨_, rfl, fun h' => absurd h' h⟩
end Go.Vk
/- Bits of words that are not negative; truth of tests. No program in sight. -/
namespace Go.Vk
theorem in_t {x a b : Int} (h : a ≤ x ∧ x ≤ b) : (decide (x ≥ a) && decide (x ≤ b)) = true := by simp; omega
theorem in_f {x a b : Int} (h : ¬ (a ≤ x ∧ x ≤ b)) : (decide (x ≥ a) && decide (x ≤ b)) = false := by
  simp only [Bool.and_eq_false_iff, decide_eq_false_iff_not]; omega
end Go.Vk
/- Loops over a list, as recursion over the list. No program in sight. -/
namespace Go.Vk
/-- a loop over a list: each element either ends it or gives the next state -/
def run {α σ ρ : Type} (f : σ → α → Option ρ ⊕ σ) (fin : σ → Option ρ) : σ → List α → Option ρ
  | s, [] => fin s
  | s, x :: xs => match f s x with
    | .inl r => r
    | .inr s' => run f fin s' xs
theorem run_loop {α σ ρ : Type} {p : List α} (Lp : Nat → σ → Int → Option ρ) (f : σ → α → Option ρ ⊕ σ) (fin : σ → Option ρ) (I : Nat → σ → Prop)
    (hz : ∀ k s, I p.length s → Lp (k + 1) s (p.length : Int) = fin s)
    (hs : ∀ k s (i : Nat) (h : i < p.length), I i s → (Lp (k + 1) s (i : Int) = match f s p[i] with | .inl r => r | .inr s' => Lp k s' ((i + 1 : Nat) : Int)) ∧ ∀ s', f s p[i] = .inr s' → I (i + 1) s')
    (hp : p.length < 1000000000000) : ∀ s, I 0 s → Lp Fuel s 0 = run f fin s p := by
  have key : ∀ (d k i : Nat) (s : σ), p.length - i = d → d < k → i ≤ p.length → I i s → Lp k s (i : Int) = run f fin s (p.drop i) := by
    intro d
    induction d with
    | zero =>
      intro k i s hd hk hi hI
      obtain ⟨k, rfl⟩ : ∃ q, k = q + 1 := ⟨k - 1, by omega⟩
      have : i = p.length := by omega
      subst this
      rw [hz _ _ hI, List.drop_length]
      rfl
    | succ d ih =>
      intro k i s hd hk hi hI
      obtain ⟨k, rfl⟩ : ∃ q, k = q + 1 := ⟨k - 1, by omega⟩
      have hlt : i < p.length := by omega
      obtain ⟨h1, h2⟩ := hs k s i hlt hI
      rw [h1, List.drop_eq_getElem_cons hlt]
      unfold run
      cases h : f s p[i] with
      | inl r => rfl
      | inr s' => exact ih k (i + 1) s' (by omega) (by omega) (by omega) (h2 s' h)
  intro s hI
  have := key p.length Fuel 0 s (by omega) (fuel_gt (by omega)) (by omega) hI
  simpa using this
theorem all_loop2 {α ρ : Type} {p : List α} {P : α → Prop} [DecidablePred P] {fin bad : Option ρ} (Lp : Nat → Int → Option ρ)
    (hz : ∀ k, Lp (k + 1) (p.length : Int) = fin)
    (hs : ∀ k (i : Nat) (h : i < p.length), Lp (k + 1) (i : Int) = if P p[i] then Lp k ((i + 1 : Nat) : Int) else bad)
    (hp : p.length < 1000000000000) : Lp Fuel 0 = if ∀ x ∈ p, P x then fin else bad := by
  rw [run_loop (p := p) (σ := Unit) (fun k _ i => Lp k i) (fun _ x => if P x then .inr () else .inl bad) (fun _ => fin) (fun _ _ => True) (fun k _ _ => hz k) (fun k _ i h _ => ⟨by
    show Lp _ _ = _
    rw [hs k i h]
    split <;> rfl, fun _ _ => trivial⟩) hp () trivial]
  clear hz hs hp Lp
  induction p with
  | nil => simp [run]
  | cons x p ih =>
    unfold run
    by_cases h : P x
    · simp only [h, if_true, ih]
      simp [h]
    · simp [h]
end Go.Vk
/- Tests that are answered alike. No program in sight. -/
namespace Go.Vk
/-- the test answers whether P -/
def Dec (o : Option Bool) (P : Prop) : Prop := ∃ b, o = some b ∧ (b = true ↔ P)
theorem Dec.eq {o o' : Option Bool} {P : Prop} (h : Dec o P) (h' : Dec o' P) : o = o' := by
  obtain ⟨b, rfl, h1⟩ := h
  obtain ⟨c, rfl, h2⟩ := h'
  rw [Bool.eq_iff_iff.2 (h1.trans h2.symm)]
theorem Dec.of_iff {o : Option Bool} {P Q : Prop} (h : Dec o P) (e : P ↔ Q) : Dec o Q := by
  obtain ⟨b, rfl, h1⟩ := h
  exact ⟨b, rfl, h1.trans e⟩
theorem Dec.cases {o : Option Bool} {P : Prop} (h : Dec o P) : (o = some true ∧ P) ∨ (o = some false ∧ ¬ P) := by
  obtain ⟨b, rfl, h1⟩ := h
  cases b
  · exact .inr ⟨rfl, fun p => by have := h1.2 p; cases this⟩
  · exact .inl ⟨rfl, h1.1 rfl⟩
theorem dec_t {P : Prop} (h : P) : Dec (some true) P := ⟨true, rfl, by simp [h]⟩
theorem dec_f {P : Prop} (h : ¬ P) : Dec (some false) P := ⟨false, rfl, by simp [h]⟩
theorem dec_in {x a b : Int} : Dec (some (decide (x ≥ a) && decide (x ≤ b))) (a ≤ x ∧ x ≤ b) := ⟨_, rfl, by simp⟩
theorem all_idx {Lp : Nat → Int → Option Bool} {n : Nat} {Q : Nat → Prop} (i0 : Nat) (hz : ∀ k (i : Nat), n ≤ i → Lp (k + 1) (i : Int) = some true)
    (hs : ∀ k (i : Nat), i0 ≤ i → i < n → (Q i ∧ Lp (k + 1) (i : Int) = Lp k ((i + 1 : Nat) : Int)) ∨ (¬ Q i ∧ Lp (k + 1) (i : Int) = some false)) (hn : n < 1000000000000) : Dec (Lp Fuel (i0 : Int)) (∀ i, i0 ≤ i → i < n → Q i) := by
  have key : ∀ (d k i : Nat), n - i = d → d < k → i0 ≤ i → Dec (Lp k (i : Int)) (∀ j, i ≤ j → j < n → Q j) := by
    intro d
    induction d with
    | zero =>
      intro k i hd hk hi
      obtain ⟨k, rfl⟩ : ∃ q, k = q + 1 := ⟨k - 1, by omega⟩
      rw [hz k i (by omega)]
      exact dec_t fun j h1 h2 => by omega
    | succ d ih =>
      intro k i hd hk hi
      obtain ⟨k, rfl⟩ : ∃ q, k = q + 1 := ⟨k - 1, by omega⟩
      rcases hs k i hi (by omega) with ⟨hq, e⟩ | ⟨hq, e⟩
      · rw [e]
        refine (ih k (i + 1) (by omega) (by omega) (by omega)).of_iff ⟨fun h j h1 h2 => ?_, fun h j h1 h2 => h j (by omega) h2⟩
        by_cases hj : j = i
        · rw [hj]; exact hq
        · exact h j (by omega) h2
      · rw [e]
        exact dec_f fun h => hq (h i (Nat.le_refl _) (by omega))
  exact key (n - i0) Fuel i0 rfl (fuel_gt (by omega)) (Nat.le_refl _)
/-- the first place where it holds, or less than nothing -/
theorem find_idx {Lp : Nat → Int → Option Int} {n : Nat} {Q : Nat → Prop} (hz : ∀ k (i : Nat), n ≤ i → Lp (k + 1) (i : Int) = some (-1))
    (hs : ∀ k (i : Nat), i < n → (Q i ∧ Lp (k + 1) (i : Int) = some (i : Int)) ∨ (¬ Q i ∧ Lp (k + 1) (i : Int) = Lp k ((i + 1 : Nat) : Int))) (hn : n < 1000000000000) :
    Dec ((Lp Fuel 0).bind fun y => some (decide (y ≥ 0))) (∃ i, i < n ∧ Q i) := by
  have key : ∀ (d k i : Nat), n - i = d → d < k → Dec ((Lp k (i : Int)).bind fun y => some (decide (y ≥ 0))) (∃ j, i ≤ j ∧ j < n ∧ Q j) := by
    intro d
    induction d with
    | zero =>
      intro k i hd hk
      obtain ⟨k, rfl⟩ : ∃ q, k = q + 1 := ⟨k - 1, by omega⟩
      rw [hz k i (by omega)]
      exact dec_f fun ⟨j, h1, h2, _⟩ => by omega
    | succ d ih =>
      intro k i hd hk
      obtain ⟨k, rfl⟩ : ∃ q, k = q + 1 := ⟨k - 1, by omega⟩
      rcases hs k i (by omega) with ⟨hq, e⟩ | ⟨hq, e⟩
      · rw [e]
        exact ⟨true, by simp, by simp; exact ⟨i, Nat.le_refl _, by omega, hq⟩⟩
      · rw [e]
        refine (ih k (i + 1) (by omega) (by omega)).of_iff ⟨fun ⟨j, h1, h2, h3⟩ => ⟨j, by omega, h2, h3⟩, fun ⟨j, h1, h2, h3⟩ => ⟨j, ?_, h2, h3⟩⟩
        by_cases hj : j = i
        · rw [hj] at h3; exact absurd h3 hq
        · omega
  refine (key n Fuel 0 rfl (fuel_gt (by omega))).of_iff ⟨fun ⟨j, _, h2, h3⟩ => ⟨j, h2, h3⟩, fun ⟨j, h2, h3⟩ => ⟨j, Nat.zero_le _, h2, h3⟩⟩
end Go.Vk
/- The statement's frame: arguments opened, the row's last step. -/
namespace Go.Vk
open Go.RowKit Go.WideShapes Go.ChangeShapes Go.Deep
section
variable {H : Type} {enc : TypeId × Value → H} {P : Program}
theorem trod_below {W W' : World} (hb : Below W.heap.size W W') {sp : Nat → Bool} {held : Bool} {n : Nat} {t : TypeId} {cs : List Value} {x : DataW H × List MemPlace} (h : DataW.trod enc P W 0 sp held n t cs = some x) : DataW.trod enc P W' 0 sp held n t cs = some x :=
  DataW.trod_carry n t cs x h (fun p hp => hb.same (DataW.trod_lt n t cs x h p hp))
theorem trodAll_below {W W' : World} (hb : Below W.heap.size W W') {sp : Nat → Bool} {held : Bool} : ∀ {ts : List TypeId} {vs : List Value} {ds : List (DataW H)} {ps : List MemPlace}, DataW.TrodAll enc P W 0 sp held ts vs ds ps → DataW.TrodAll enc P W' 0 sp held ts vs ds ps
  | [], [], [], _, h => h
  | _ :: _, _ :: _, _ :: _, _, ⟨p, q, ⟨n, h1⟩, h2, e⟩ => ⟨p, q, ⟨n, trod_below hb h1⟩, trodAll_below hb h2, e⟩
def fullB (P : Program) : Bool := (List.range P.types.size).all fun t => match P.underlying t with | some (.slice e) => decide (0 < P.cellsOf e) | _ => true
/-- the law answered true, and nothing that stood has changed -/
theorem law_post {f : Func} {s : ChangeSpec} {apart fresh handsOn again : Bool} {W W' : World} {args : Array Value} {ds gs : List (DataW H)} {before : List MemPlace} {tb : TypeId}
    (hW : DataW.Whole enc P f.params.toList s.vars apart W args.toList ds gs before) (hv : s.vars = []) (hl : laidOutB P = true) (hm : mapsRowed P = true) (hz : fullB P = true) (hT : ∀ t ∈ f.params.toList, t < P.types.size)
    (hr : f.resultTypes = #[tb]) (htb : P.underlying tb = some .bool) (hfn : s.fn H ds = { results := [.lit (.bool true)], args := ds }) (hb : Below W.heap.size W W') :
    s.post enc P f apart fresh handsOn again W args (.bool true) W' := by
  have hlt : ∀ p ∈ before, p.block < W.heap.size := fun p hp => hW.lt p hp
  have hW' := hW
  obtain ⟨pa, pv, hA, hV, rfl, hfz, hnd⟩ := hW'
  rw [hv] at hV
  obtain ⟨rfl, rfl⟩ := trodVars_none hV
  have hfn' : s.fn H (ds ++ []) = { results := [.lit (.bool true)], args := ds } := by rw [List.append_nil]; exact hfn
  have hA' := trodAll_below hb hA
  have hsp : ∀ sp : Nat → Bool, (∀ p ∈ pa, sp p.block = true) → DataW.TrodAll enc P W' 0 sp true f.params.toList args.toList ds pa := fun sp h =>
    DataW.TrodAll.respare (kids_rows hl hm) (slices_full_of P hz) hT hA' h
  have hres : ∀ (b : Nat) (sp : Nat → Bool) (hd : Bool), DataW.TrodAll enc P W' b sp hd f.resultTypes.toList ((Value.bool true).resultList f.resultTypes.size) [.lit (.bool true)] [] := fun b sp hd => by
    rw [hr]; exact trodAll_mk1 (shut_bool htb _)
  refine ⟨ds, [], pa ++ [], [], pa, [], hW, ?_, ?_, ?_, World.keptBut_mono (fun p hp => ⟨hp, ?_⟩) (hb.frame (· ∈ pa ++ [])), fun _ => ?_⟩
  · rw [hfn']; exact hres _ _ _
  · rw [hfn']; exact hsp _ (fun p hp => by simpa using hlt p (by simpa using hp))
  · rw [hfn', hv]; exact rfl
  · simpa using hp
  · refine ⟨?_, _, [], ([] ++ pa) ++ [], ⟨[] ++ pa, [], trodAll_append (hsp _ (fun _ _ => rfl)) (hres _ _ _), ?_, rfl, ?_, ?_⟩, ?_⟩
    · exact ok_one hr rfl (okWide_bool_mk htb _)
    · rw [hv]; exact rfl
    · intro b off hp
      have hin : MemPlace.cell b off ∈ pa := by simpa using hp
      rw [hb.frozen (hlt _ (by simpa using hin))]
      exact hfz b off (by simpa using hin)
    · intro ha
      have := hnd ha
      simpa using this
    · intro p hp _
      simpa using hp
/-! ### arguments opened -/
/-- what the reader of a statement finds is what the walk wants -/
def Opn {α : Type} (P : Program) (t : TypeId) (e : Enc α) (Ok : α → Prop) : Prop :=
  ∀ {H : Type} {enc : TypeId × Value → H} {w : World} {sp : Nat → Bool} {n : Nat} {cs : List Value} {x : DataW H × List MemPlace}, DataW.trod enc P w 0 sp true n t cs = some x → ∃ a, e.rd w [] a cs ∧ Ok a
def IntOk (k : IntKind) (n : Int) : Prop := (Lit.int k n).wf = true
theorem opn_int {t : TypeId} {k : IntKind} (ht : isInt P t k) : Opn P t (eVal (Value.int k) (fun _ => rfl)) (IntOk k) := fun {H enc w sp n cs x} h => by
  have ht' : P.underlying t = some (.int k) := ht
  cases n with
  | zero => simp [DataW.trod] at h
  | succ n =>
    unfold DataW.trod at h
    rw [ht'] at h
    split at h <;> simp_all
    case h_2 heq =>
      obtain ⟨⟨rfl, h2⟩, _⟩ := h
      exact ⟨_, rfl, h2⟩
theorem opn_bool {t : TypeId} (ht : P.underlying t = some .bool) : Opn P t eBool (fun _ => True) := fun {H enc w sp n cs x} h => by
  cases n with
  | zero => simp [DataW.trod] at h
  | succ n =>
    unfold DataW.trod at h
    rw [ht] at h
    split at h <;> simp_all
    case h_1 => rename_i b; cases b <;> first | exact .inl rfl | exact .inr rfl
theorem opn_str {t : TypeId} (ht : isStr P t) : Opn P t eStr (fun s => s.length ≤ maxLen) := fun {H enc w sp n cs x} h => by
  have ht' : P.underlying t = some .string := ht
  cases n with
  | zero => simp [DataW.trod] at h
  | succ n =>
    unfold DataW.trod at h
    rw [ht'] at h
    split at h <;> simp_all
    case h_4 =>
      rename_i s
      obtain ⟨⟨d⟩⟩ := s
      exact ⟨d, rfl, h.1⟩
theorem cells_at {w : World} {a : Addr} {n : Nat} {cs : List Value} (h : w.cells? 0 a n = some cs) : At w [] a cs ∧ cs.length = n := by
  unfold World.cells? at h
  rw [if_pos (Nat.zero_le _)] at h
  have hl : cs.length = n := by simpa using mapM_some_length h
  refine ⟨⟨fun _ => by simp, fun j v hv => ?_⟩, hl⟩
  have hj : j < n := by rw [← hl]; exact (List.getElem?_eq_some_iff.1 hv).1
  have := mapM_some_get h j j (by simp [hj])
  rw [this, hv]
theorem opn_list {α : Type} {e : Enc α} {Ok : α → Prop} {t et : TypeId} (ht : isSl P t et) (he : Opn P et e Ok) (hc : P.cellsOf et = e.sz) : Opn P t (eList e et) (fun xs => xs.length ≤ maxLen ∧ ∀ x ∈ xs, Ok x) := fun {H enc w sp n cs x} h => by
  rcases open_slice ht h with ⟨rfl, _⟩ | ⟨a, len, cap, m, n', D, Pl, rfl, _, hl, hm, hmm, _, hel⟩
  · exact ⟨[], rd_none, by simp, by simp⟩
  · have hex : ∀ i, i < len → ∃ y, (∃ ds, e.rd w [] y ds ∧ At w [] (a.add (i * e.sz)) ds) ∧ Ok y := fun i hi => by
      obtain ⟨cs', h1, h2⟩ := hel i (by rw [hmm]; split <;> omega)
      obtain ⟨y, h3, h4⟩ := he h2
      exact ⟨y, ⟨cs', h3, by rw [← hc]; exact (cells_at h1).1⟩, h4⟩
    have : ∃ xs : List α, xs.length = len ∧ ∀ i x, xs[i]? = some x → (∃ ds, e.rd w [] x ds ∧ At w [] (a.add (i * e.sz)) ds) ∧ Ok x := by
      clear hl hm hmm hel h
      rename_i hx0
      clear hx0
      induction len with
      | zero => exact ⟨[], rfl, by simp⟩
      | succ k ih =>
        obtain ⟨xs, h1, h2⟩ := ih (fun i hi => hex i (by omega))
        obtain ⟨y, hy⟩ := hex k (by omega)
        refine ⟨xs ++ [y], by simp [h1], fun i x hx => ?_⟩
        by_cases hi : i < k
        · rw [List.getElem?_append_left (by omega)] at hx; exact h2 i x hx
        · have hik : i = k := by
            have := (List.getElem?_eq_some_iff.1 hx).1
            simp [h1] at this; omega
          subst hik
          rw [List.getElem?_append_right (by omega), h1] at hx
          simp at hx; subst hx; exact hy
    obtain ⟨xs, hlen, hxs⟩ := this
    refine ⟨xs, ⟨some a, cap, by rw [hlen], by omega, hm, fun _ => ⟨a, rfl, fun i x hx => (hxs i x hx).1⟩⟩, by omega, fun x hx => ?_⟩
    obtain ⟨i, hi⟩ := List.mem_iff_getElem?.1 hx
    exact (hxs i x hi).2
end
end Go.Vk
