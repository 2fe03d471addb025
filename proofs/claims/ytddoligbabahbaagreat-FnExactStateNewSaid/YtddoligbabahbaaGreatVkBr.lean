/- Regions whose head comes in several orders: a tree of orders. -/
import Derived.Test.YtddoligbabahbaaGreatVkY
namespace Go.Vk
open Go.RowKit
variable {P : Program} {n : Nat} {C : World → Prop} {E : Env} {l rest : List Oper} {w0 : World} {M : List Nat} {L : List Res} {Q : Exit → Act → World → Prop}
/-- orders: done; a quiet operation, then t; the one loud operation that may come, then t; a loud operation, then t, or one of u -/
inductive Br where
  | done : Br
  | q (i : Nat) (t : Br) : Br
  | l (i : Nat) (t : Br) : Br
  | alt (i : Nat) (t u : Br) : Br
def Br.depth : Br → Nat
  | .done => 0
  | .q _ t => t.depth + 1
  | .l _ t => t.depth + 1
  | .alt _ t _ => t.depth + 1
def Br.heads : Br → List Nat
  | .alt i _ u => i :: u.heads
  | .l i _ => [i]
  | _ => []
def Br.pre : List (Nat × Bool) → Br → Br
  | [], b => b
  | (i, true) :: s, b => .q i (Br.pre s b)
  | (i, false) :: s, b => .l i (Br.pre s b)
/-- do the orders cover all that may come? -/
def covB (ops : Array Oper) (nn g : Nat) : Bool → Br → Array Bool → Bool
  | top, .done, listed => top && Region.seqB .any ops g nn listed
  | top, .q i t, listed => top && Nat.blt i nn && (ops[i]?).isSome && Region.free .any ops listed i && (Region.ready .any ops listed).contains i && covB ops nn g true t (listed.setIfInBounds i true)
  | top, .l i t, listed => (!top || Region.ready .any ops listed == [i]) && Nat.blt i nn && covB ops nn g true t (listed.setIfInBounds i true)
  | top, .alt i t u, listed => (!top || Region.ready .any ops listed == i :: u.heads) && Nat.blt i nn && Nat.beq u.depth (t.depth + 1) && covB ops nn g true t (listed.setIfInBounds i true) && covB ops nn g false u listed
def wpBr (P : Program) (ops : Array Oper) (S : World → Prop) (Q : Exit → Act → World → Prop) : Br → Act → World → Prop
  | .done, a, w => Q .normal a w
  | .q i t, a, w => ∃ o v, ops[i]? = some o ∧ YieldsIf P ops S o v a ∧ S w ∧ wpBr P ops S Q t (a.put o.dst v) w
  | .l i t, a, w => wpOp P ops Q i (fun a' w' => S w' ∧ wpBr P ops S Q t a' w') a w
  | .alt i t u, a, w => wpOp P ops Q i (fun a' w' => S w' ∧ wpBr P ops S Q t a' w') a w ∧ wpBr P ops S Q u a w
section
variable {ops : Array Oper} {S : World → Prop}
theorem wpAnyLH_of_br {nn g : Nat} {K : Act → World → Prop} (hsel : Region.noSelect ops = true) (hs : Region.sinkB .any ops nn = true) (hc : Region.chainB .any ops nn = true) (hn : nn < ops.size) (hQ : PanicOk Q) {Q1 : Exit → Act → World → Prop} (hq1 : ∀ e a w, e ≠ .normal → Q1 e a w → Q e a w) (hq2 : ∀ a w, Q1 .normal a w → K a w) :
    ∀ (b : Br) (listed : Array Bool) (a : Act) (w : World), HeadInv .any ops nn listed → wpBr P ops S Q1 b a w →
      (covB ops nn g true b listed = true → wpAnyLH P .any ops Q S nn (fun listed' a' w' => Region.seqB .any ops g nn listed' = true ∧ K a' w') b.depth listed a w) ∧
      (covB ops nn g false b listed = true → ∀ j ∈ b.heads, j ∈ Region.ready .any ops listed → j < nn ∧ wpOp P ops Q j (fun a' w' => S w' ∧ wpAnyLH P .any ops Q S nn (fun listed' a' w' => Region.seqB .any ops g nn listed' = true ∧ K a' w') (b.depth - 1) (listed.setIfInBounds j true) a' w') a w) := by
  intro b
  induction b with
  | done =>
    intro listed a w _ h
    refine ⟨fun hB => ⟨by simpa [covB] using hB, hq2 _ _ h⟩, fun hB => ?_⟩
    simp [covB] at hB
  | q i t ih =>
    intro listed a w inv h
    refine ⟨fun hB => ?_, fun hB => ?_⟩
    · simp only [covB, Bool.and_eq_true] at hB
      obtain ⟨⟨⟨⟨⟨_, hlt⟩, _⟩, hf⟩, hr⟩, hB⟩ := hB
      have hlt := Nat.le_of_ble_eq_true hlt
      obtain ⟨o, v, ho, hy, hS, h⟩ := h
      have hr' : i ∈ Region.ready .any ops listed := by simpa using hr
      exact wpAnyLH_first ho (Region.noSelect_spec hsel) hs hc hn hlt hQ (fun listed' a' w' hL => seqB_ready hL.1) t.depth listed a w inv (Region.free_spec ho hf) hr' hy hS
        ((ih _ _ _ (inv.set hr' hlt) h).1 hB)
    · simp [covB] at hB
  | l i t ih =>
    intro listed a w inv h
    have key : ∀ j ∈ [i], j ∈ Region.ready .any ops listed → i < nn → covB ops nn g true t (listed.setIfInBounds i true) = true → j < nn ∧ wpOp P ops Q j (fun a' w' => S w' ∧ wpAnyLH P .any ops Q S nn (fun listed' a' w' => Region.seqB .any ops g nn listed' = true ∧ K a' w') t.depth (listed.setIfInBounds j true) a' w') a w := by
      intro j hj hr hlt hB
      obtain rfl := List.mem_singleton.1 hj
      exact ⟨hlt, wpOp_mono (fun a' w' h' => ⟨h'.1, (ih _ _ _ (inv.set hr hlt) h'.2).1 hB⟩) (wpOp_q hq1 h)⟩
    refine ⟨fun hB => ?_, fun hB => ?_⟩
    · simp only [covB, Bool.and_eq_true, Bool.not_true, Bool.false_or, beq_iff_eq] at hB
      obtain ⟨⟨hr, hlt⟩, hB⟩ := hB
      have hlt := Nat.le_of_ble_eq_true hlt
      refine ⟨by rw [hr]; simp, fun j hj => ?_⟩
      have hj' := hj
      rw [hr] at hj
      exact key j hj hj' hlt hB
    · simp only [covB, Bool.and_eq_true] at hB
      obtain ⟨⟨_, hlt⟩, hB⟩ := hB
      intro j hj hr
      exact key j hj hr (Nat.le_of_ble_eq_true hlt) hB
  | alt i t u iht ihu =>
    intro listed a w inv h
    have key : i < nn → u.depth = t.depth + 1 → covB ops nn g true t (listed.setIfInBounds i true) = true → covB ops nn g false u listed = true → ∀ j ∈ i :: u.heads, j ∈ Region.ready .any ops listed → j < nn ∧ wpOp P ops Q j (fun a' w' => S w' ∧ wpAnyLH P .any ops Q S nn (fun listed' a' w' => Region.seqB .any ops g nn listed' = true ∧ K a' w') t.depth (listed.setIfInBounds j true) a' w') a w := by
      intro hlt hd hB hU j hj hr
      rcases List.mem_cons.1 hj with rfl | hj
      · exact ⟨hlt, wpOp_mono (fun a' w' h' => ⟨h'.1, (iht _ _ _ (inv.set hr hlt) h'.2).1 hB⟩) (wpOp_q hq1 h.1)⟩
      · have := (ihu listed a w inv h.2).2 hU j hj hr
        rwa [hd, Nat.add_sub_cancel] at this
    refine ⟨fun hB => ?_, fun hB => ?_⟩
    · simp only [covB, Bool.and_eq_true, Bool.not_true, Bool.false_or, beq_iff_eq] at hB
      obtain ⟨⟨⟨⟨hr, hlt⟩, hd⟩, hB⟩, hU⟩ := hB
      refine ⟨by rw [hr]; simp, fun j hj => ?_⟩
      exact key (Nat.le_of_ble_eq_true hlt) (Nat.eq_of_beq_eq_true hd) hB hU j (by rw [hr] at hj; exact hj) hj
    · simp only [covB, Bool.and_eq_true] at hB
      obtain ⟨⟨⟨⟨_, hlt⟩, hd⟩, hB⟩, hU⟩ := hB
      exact key (Nat.le_of_ble_eq_true hlt) (Nat.eq_of_beq_eq_true hd) hB hU
/-- what stands behind a way: the orders that are left -/
def QBr (P : Program) (ops : Array Oper) (S : World → Prop) (Q1 : Exit → Act → World → Prop) (b : Br) : Exit → Act → World → Prop
  | .normal, a, w => wpBr P ops S Q1 b a w
  | e, a, w => Q1 e a w
theorem qb_q {Q1 : Exit → Act → World → Prop} {b : Br} (e : Exit) (a : Act) (w : World) (he : e ≠ .normal) (h : QBr P ops S Q1 b e a w) : Q1 e a w := by
  cases e <;> first | exact absurd rfl he | exact h
theorem wpBr_pre {Q1 : Exit → Act → World → Prop} {b : Br} : ∀ (s : List (Nat × Bool)) (a : Act) (w : World), wpSeq P ops S (QBr P ops S Q1 b) s a w → wpBr P ops S Q1 (Br.pre s b) a w
  | [], a, w, h => h
  | (i, true) :: s, a, w, h => by
    rw [wpSeq] at h
    obtain ⟨o, v, ho, hy, hS, h⟩ := h
    exact ⟨o, v, ho, hy, hS, wpBr_pre s _ _ h⟩
  | (i, false) :: s, a, w, h => by
    rw [wpSeq] at h
    exact wpOp_mono (fun a' w' h' => ⟨h'.1, wpBr_pre s _ _ h'.2⟩) (wpOp_q qb_q h)
end
/-- the head (operations below nn) in the orders of a tree, then the tail -/
theorem c_regB {id : Nat} {l : List Oper} (nn : Nat) (fl : List (Nat × Bool)) (b : Br) (S : World → Prop) (hm : P.follows .mixedOrders = true)
    (hB : (Region.noSelect l.toArray && decide (nn < l.toArray.size) && Region.sinkB .any l.toArray nn && Region.chainB .any l.toArray nn && covB l.toArray nn (l.toArray.size - nn) true (Br.pre fl b) (Array.replicate l.length false) && inB l fl && Nat.beq (Br.pre fl b).depth nn) = true)
    (hQ : PanicOk Q) (hS : ∀ w, St w0 M L w → S w) (h : OW P n l (St w0 M L) E (.held S (QBr P l.toArray S (QT P l nn Q) b) fl) (permOf l fl)) : CW P n (St w0 M L) E Q (.region id l.toArray true) := fun a w hF hC => by
  simp only [Bool.and_eq_true, decide_eq_true_eq] at hB
  obtain ⟨⟨⟨⟨⟨⟨hsel, hn⟩, hs⟩, hc⟩, h2⟩, h3⟩, h4⟩ := hB
  have hlen : (Br.pre fl b).depth = nn := Nat.eq_of_beq_eq_true h4
  have hn' : nn < l.length := by simpa using hn
  refine wp_region_any hm ?_
  have inv0 : HeadInv .any l.toArray nn (Array.replicate l.toArray.size false) :=
    ⟨by simp, fun j oj _ hl => (by rw [getD_replicate_false] at hl; cases hl), fun t _ ht => getD_in (by simpa using ht) (getD_replicate_false _ _)⟩
  have hseq := wpBr_pre fl a _ (h fl ⟨[], rfl⟩ (cons_perm h3) a _ hF hC.drew (hS _ hC.drew))
  have H := (wpAnyLH_of_br (P := P) (S := S) (Q := Q) (Q1 := QT P l nn Q) (K := fun a w => wpList P l.toArray Q (l.drop nn) a w) (g := l.toArray.size - nn) hsel hs hc hn hQ
    (fun e a w he h => by cases e <;> first | exact absurd rfl he | exact h) (fun a w h => h) (Br.pre fl b) (Array.replicate l.toArray.size false) a _ inv0 hseq).1 (by simpa using h2)
  have hdl : (l.drop nn).length = l.toArray.size - nn := by simp
  have := wpAny_of_headH (Q := Q) (g := l.toArray.size - nn) (fun listed a' w' hL => by
    have := wpAny_of_seq (md := .any) (Q' := Q) (l.drop nn) nn listed a' w' (fun j => by simp [List.getElem?_drop]) (by rw [hdl]; exact hL.1) hL.2
    rwa [hdl] at this) _ _ _ _ H
  rw [hlen, show nn + (l.toArray.size - nn) = l.toArray.size by omega] at this
  exact this
/-- one of several ways, and the others -/
theorem x_alt {S : World → Prop} {Q1 : Exit → Act → World → Prop} {i : Nat} {s : List (Nat × Bool)} {b u : Br} (hS : ∀ w, C w → S w) (hi : inB l ((i, false) :: s) = true)
    (h : OW P n l C E (.held S (QBr P l.toArray S Q1 b) ((i, false) :: s)) (permOf l ((i, false) :: s))) (h' : XW n C E (QBr P l.toArray S Q1 u) .normal) :
    XW n C E (QBr P l.toArray S Q1 (.alt i (Br.pre s b) u)) .normal := fun a w hF hC =>
  ⟨wpBr_pre ((i, false) :: s) a w (h _ ⟨[], rfl⟩ (cons_perm hi) a w hF hC (hS w hC)), h' a w hF hC⟩
/-- the last of several ways -/
theorem x_last {S : World → Prop} {Q1 : Exit → Act → World → Prop} {s : List (Nat × Bool)} {b : Br} (hS : ∀ w, C w → S w) (hi : inB l s = true)
    (h : OW P n l C E (.held S (QBr P l.toArray S Q1 b) s) (permOf l s)) : XW n C E (QBr P l.toArray S Q1 (Br.pre s b)) .normal := fun a w hF hC =>
  wpBr_pre s a w (h _ ⟨[], rfl⟩ (cons_perm hi) a w hF hC (hS w hC))
theorem x_done {S : World → Prop} {nn : Nat} (h : OW P n l C E (.lex Q) (l.drop nn)) : XW n C E (QBr P l.toArray S (QT P l nn Q) .done) .normal := fun a w hF hC => h a w hF hC
end Go.Vk
namespace Go.Vk
open Go.RowKit
variable {P : Program} {n : Nat} {C : World → Prop} {E : Env} {m : Md} {l rest : List Oper} {w0 : World} {M : List Nat} {L : List Res} {Q : Exit → Act → World → Prop}
end Go.Vk
