/- Regions whose head comes in several orders: a tree of orders. -/
import Derived.Test.YtckmlpmehdpmiaaGreatDoorVkL
import Derived.IntWalk
import Derived.Test.YtckmlpmehdpmiaaGreatDoorVkG
import Derived.Deep.Slices
import Derived.ReadAgain
import Derived.ChangeSame
import Derived.ChangeMaps5
import Derived.ProofKit
import Derived.Lib.ConvBytes
import Derived.Lib.AppendStr
import Derived.Shelf.Strings.OnBuilder
import Derived.Shelf.Strings.Repeat
import Derived.Shelf.Strconv.Itoa3
namespace Go.Vk
open Go.RowKit
variable {P : Program} {n : Nat} {C : World → Prop} {E : Env} {l rest : List Oper} {w0 : World} {M : List Nat} {L : List Res} {Q : Exit → Act → World → Prop}
inductive Br where
  | done : Br
  | q (i : Nat) (t : Br) : Br
  | l (i : Nat) (t : Br) : Br
  | alt (i : Nat) (t u : Br) : Br
def Br.depth : Br → Nat
  | .done => 0
  | .q _ t => t.depth + 1
  | .l _ t => t.depth + 1
  | .alt _ t _ => t.depth + 1
def Br.heads : Br → List Nat
  | .alt i _ u => i :: u.heads
  | .l i _ => [i]
  | _ => []
def Br.pre : List (Nat × Bool) → Br → Br
  | [], b => b
  | (i, true) :: s, b => .q i (Br.pre s b)
  | (i, false) :: s, b => .l i (Br.pre s b)
def uN (ops : Array Oper) (nn g : Nat) : Bool → Br → Array Bool → Bool
  | top, .done, listed => top && Region.seqB .any ops g nn listed
  | top, .q i t, listed => top && Nat.blt i nn && (ops[i]?).isSome && Region.free .any ops listed i && (Region.ready .any ops listed).contains i && uN ops nn g true t (listed.setIfInBounds i true)
  | top, .l i t, listed => (!top || Region.ready .any ops listed == [i]) && Nat.blt i nn && uN ops nn g true t (listed.setIfInBounds i true)
  | top, .alt i t u, listed => (!top || Region.ready .any ops listed == i :: u.heads) && Nat.blt i nn && Nat.beq u.depth (t.depth + 1) && uN ops nn g true t (listed.setIfInBounds i true) && uN ops nn g false u listed
def HZ (P : Program) (ops : Array Oper) (S : World → Prop) (Q : Exit → Act → World → Prop) : Br → Act → World → Prop
  | .done, a, w => Q .normal a w
  | .q i t, a, w => ∃ o v, ops[i]? = some o ∧ YieldsIf P ops S o v a ∧ S w ∧ HZ P ops S Q t (a.put o.dst v) w
  | .l i t, a, w => wpOp P ops Q i (fun a' w' => S w' ∧ HZ P ops S Q t a' w') a w
  | .alt i t u, a, w => wpOp P ops Q i (fun a' w' => S w' ∧ HZ P ops S Q t a' w') a w ∧ HZ P ops S Q u a w
section
variable {ops : Array Oper} {S : World → Prop}
theorem Dq {nn g : Nat} {K : Act → World → Prop} (r : Region.noSelect ops = true) (A : Region.sinkB .any ops nn = true) (C : Region.chainB .any ops nn = true) (D : nn < ops.size) (E : my Q) {Q1 : Exit → Act → World → Prop} (p : ∀ e a w, e ≠ .normal → Q1 e a w → Q e a w) (s : ∀ a w, Q1 .normal a w → K a w) :
    ∀ (b : Br) (listed : Array Bool) (a : Act) (w : World), HeadInv .any ops nn listed → HZ P ops S Q1 b a w →
      (uN ops nn g true b listed = true → rq P .any ops Q S nn (fun listed' a' w' => Region.seqB .any ops g nn listed' = true ∧ K a' w') b.depth listed a w) ∧
      (uN ops nn g false b listed = true → ∀ j ∈ b.heads, j ∈ Region.ready .any ops listed → j < nn ∧ wpOp P ops Q j (fun a' w' => S w' ∧ rq P .any ops Q S nn (fun listed' a' w' => Region.seqB .any ops g nn listed' = true ∧ K a' w') (b.depth - 1) (listed.setIfInBounds j true) a' w') a w) := by
  intro b
  induction b with
  | done =>
    intro listed a w _ h
    refine ⟨fun c => ⟨by simpa [uN] using c, s _ _ h⟩, fun c => ?_⟩
    simp [uN] at c
  | q i t ih =>
    intro listed a w inv h
    refine ⟨fun c => ?_, fun c => ?_⟩
    · simp only [uN, Bool.and_eq_true] at c
      obtain ⟨⟨⟨⟨⟨_, d⟩, _⟩, F⟩, f⟩, c⟩ := c
      have d := Nat.le_of_ble_eq_true d
      obtain ⟨o, v, x, G, H, h⟩ := h
      have hr' : i ∈ Region.ready .any ops listed := by simpa using f
      exact wr x (Region.noSelect_spec r) A C D d E (fun listed' a' w' L => seqB_ready L.1) t.depth listed a w inv (Region.free_spec x F) hr' G H
        ((ih _ _ _ (inv.set hr' d) h).1 c)
    · simp [uN] at c
  | l i t ih =>
    intro listed a w inv h
    have key : ∀ j ∈ [i], j ∈ Region.ready .any ops listed → i < nn → uN ops nn g true t (listed.setIfInBounds i true) = true → j < nn ∧ wpOp P ops Q j (fun a' w' => S w' ∧ rq P .any ops Q S nn (fun listed' a' w' => Region.seqB .any ops g nn listed' = true ∧ K a' w') t.depth (listed.setIfInBounds j true) a' w') a w := by
      intro j hj f d c
      obtain rfl := List.mem_singleton.1 hj
      exact ⟨d, wpOp_mono (fun a' w' h' => ⟨h'.1, (ih _ _ _ (inv.set f d) h'.2).1 c⟩) (Fz p h)⟩
    refine ⟨fun c => ?_, fun c => ?_⟩
    · simp only [uN, Bool.and_eq_true, Bool.not_true, Bool.false_or, beq_iff_eq] at c
      obtain ⟨⟨f, d⟩, c⟩ := c
      have d := Nat.le_of_ble_eq_true d
      refine ⟨by rw [f]; simp, fun j hj => ?_⟩
      have hj' := hj
      rw [f] at hj
      exact key j hj hj' d c
    · simp only [uN, Bool.and_eq_true] at c
      obtain ⟨⟨_, d⟩, c⟩ := c
      intro j hj f
      exact key j hj f (Nat.le_of_ble_eq_true d) c
  | alt i t u iht ihu =>
    intro listed a w inv h
    have key : i < nn → u.depth = t.depth + 1 → uN ops nn g true t (listed.setIfInBounds i true) = true → uN ops nn g false u listed = true → ∀ j ∈ i :: u.heads, j ∈ Region.ready .any ops listed → j < nn ∧ wpOp P ops Q j (fun a' w' => S w' ∧ rq P .any ops Q S nn (fun listed' a' w' => Region.seqB .any ops g nn listed' = true ∧ K a' w') t.depth (listed.setIfInBounds j true) a' w') a w := by
      intro d k c m j hj f
      rcases List.mem_cons.1 hj with rfl | hj
      · exact ⟨d, wpOp_mono (fun a' w' h' => ⟨h'.1, (iht _ _ _ (inv.set f d) h'.2).1 c⟩) (Fz p h.1)⟩
      · have := (ihu listed a w inv h.2).2 m j hj f
        rwa [k, Nat.add_sub_cancel] at this
    refine ⟨fun c => ?_, fun c => ?_⟩
    · simp only [uN, Bool.and_eq_true, Bool.not_true, Bool.false_or, beq_iff_eq] at c
      obtain ⟨⟨⟨⟨f, d⟩, k⟩, c⟩, m⟩ := c
      refine ⟨by rw [f]; simp, fun j hj => ?_⟩
      exact key (Nat.le_of_ble_eq_true d) (Nat.eq_of_beq_eq_true k) c m j (by rw [f] at hj; exact hj) hj
    · simp only [uN, Bool.and_eq_true] at c
      obtain ⟨⟨⟨⟨_, d⟩, k⟩, c⟩, m⟩ := c
      exact key (Nat.le_of_ble_eq_true d) (Nat.eq_of_beq_eq_true k) c m
def QBr (P : Program) (ops : Array Oper) (S : World → Prop) (Q1 : Exit → Act → World → Prop) (b : Br) : Exit → Act → World → Prop
  | .normal, a, w => HZ P ops S Q1 b a w
  | e, a, w => Q1 e a w
theorem Su {Q1 : Exit → Act → World → Prop} {b : Br} (e : Exit) (a : Act) (w : World) (c : e ≠ .normal) (h : QBr P ops S Q1 b e a w) : Q1 e a w := by
  cases e <;> first | exact absurd rfl c | exact h
theorem BR {Q1 : Exit → Act → World → Prop} {b : Br} : ∀ (s : List (Nat × Bool)) (a : Act) (w : World), pu P ops S (QBr P ops S Q1 b) s a w → HZ P ops S Q1 (Br.pre s b) a w
  | [], a, w, h => h
  | (i, true) :: s, a, w, h => by
    rw [pu] at h
    obtain ⟨o, v, c, d, e, h⟩ := h
    exact ⟨o, v, c, d, e, BR s _ _ h⟩
  | (i, false) :: s, a, w, h => by
    rw [pu] at h
    exact wpOp_mono (fun a' w' h' => ⟨h'.1, BR s _ _ h'.2⟩) (Fz Su h)
end
theorem Pe {id : Nat} {l : List Oper} (nn : Nat) (fl : List (Nat × Bool)) (b : Br) (S : World → Prop) (s : P.follows .mixedOrders = true)
    (m : (Region.noSelect l.toArray && decide (nn < l.toArray.size) && Region.sinkB .any l.toArray nn && Region.chainB .any l.toArray nn && uN l.toArray nn (l.toArray.size - nn) true (Br.pre fl b) (Array.replicate l.length false) && inB l fl && Nat.beq (Br.pre fl b).depth nn) = true)
    (u : my Q) (v : ∀ w, St w0 M L w → S w) (h : OW P n l (St w0 M L) E (.held S (QBr P l.toArray S (QT P l nn Q) b) fl) (zF l fl)) : CW P n (St w0 M L) E Q (.region id l.toArray true) := fun a w x o => by
  simp only [Bool.and_eq_true, decide_eq_true_eq] at m
  obtain ⟨⟨⟨⟨⟨⟨d, p⟩, A⟩, C⟩, D⟩, F⟩, G⟩ := m
  have f : (Br.pre fl b).depth = nn := Nat.eq_of_beq_eq_true G
  have hn' : nn < l.length := by simpa using p
  refine wp_region_any s ?_
  have i : HeadInv .any l.toArray nn (Array.replicate l.toArray.size false) :=
    ⟨by simp, fun j oj _ q => (by rw [getD_replicate_false] at q; cases q), fun t _ R => getD_in (by simpa using R) (getD_replicate_false _ _)⟩
  have k := BR fl a _ (h fl ⟨[], rfl⟩ (wb F) a _ x o.drew (v _ o.drew))
  have H := (Dq (P := P) (S := S) (Q := Q) (Q1 := QT P l nn Q) (K := fun a w => wpList P l.toArray Q (l.drop nn) a w) (g := l.toArray.size - nn) d A C p u
    (fun e a w T h => by cases e <;> first | exact absurd rfl T | exact h) (fun a w h => h) (Br.pre fl b) (Array.replicate l.toArray.size false) a _ i k).1 (by simpa using D)
  have c : (l.drop nn).length = l.toArray.size - nn := by simp
  have := sg (Q := Q) (g := l.toArray.size - nn) (fun listed a' w' r => by
    have := wpAny_of_seq (md := .any) (Q' := Q) (l.drop nn) nn listed a' w' (fun j => by simp [List.getElem?_drop]) (by rw [c]; exact r.1) r.2
    rwa [c] at this) _ _ _ _ H
  rw [f, show nn + (l.toArray.size - nn) = l.toArray.size by omega] at this
  exact this
theorem OT {S : World → Prop} {nn : Nat} (h : OW P n l C E (.lex Q) (l.drop nn)) : XW n C E (QBr P l.toArray S (QT P l nn Q) .done) .normal := fun a w c d => h a w c d
end Go.Vk
namespace Go.Vk
open Go.RowKit
variable {P : Program} {n : Nat} {C : World → Prop} {E : Env} {m : Md} {l rest : List Oper} {w0 : World} {M : List Nat} {L : List Res} {Q : Exit → Act → World → Prop}
theorem Ov {o : Oper} {v : Value} (e : m.here (o :: rest) = true) (f : wt l E o.guard = some true) (g : ∀ t, o.dst = some t → t < n) (i : Ry P n C E o v)
    (h : OW P n l C (upd E o.dst v) m rest) : OW P n l C E m (o :: rest) :=
  kc e f fun a w c d j _ k => mW (i a c w d) (k _ _ _ _ h (c.put _ _ g) d j)
end Go.Vk
/- Plain laws of the loops that copy, compare, mark and weigh. No program in sight. -/
namespace Go.Vk
theorem bi {n : Int} (a : -9223372036854775808 ≤ n) (h1 : n ≤ 9223372036854775807) : IntKind.i64.wrap n = n := IntWalk.i64_in n ⟨a, h1⟩
theorem gq {n : Nat} (h : n < 9223372036854775808) : IntKind.i64.wrap (n : Int) = n := bi (by omega) (by omega)
theorem aG {i : Nat} (h : i < 9223372036854775807) : IntKind.i64.wrap ((i : Int) + 1) = ((i + 1 : Nat) : Int) := by rw [bi (by omega) (by omega)]; simp
theorem aX {α : Type} {xs : List α} {i : Nat} (h : i < xs.length) : idx xs (i : Int) = some xs[i] := by simp [idx, h]
theorem cJ {α : Type} {xs ys : List α} (h : xs.length + ys.length ≤ 68719476736) : app xs ys = some (xs ++ ys) := if_pos h
theorem mY (a b : Nat) : Int.tmod (a : Int) (b : Int) = ((a % b : Nat) : Int) := by rw [Int.tmod_eq_emod_of_nonneg (by omega)]; simp
theorem rU (a b : Nat) : Int.tdiv (a : Int) (b : Int) = ((a / b : Nat) : Int) := by rw [Int.tdiv_eq_ediv_of_nonneg (by omega)]; simp
theorem Oc {α : Type} (z : α) {n : Nat} (h : n ≤ 68719476736) : mk z (n : Int) = some (List.replicate n z) := by
  unfold mk; rw [if_pos (by omega)]; simp
theorem JV {α β : Type} {F : α → Option β} {g : α → β} {p : List α} (Lp : Nat → List β → Int → Option (List β))
    (step : ∀ k l i, Lp (k + 1) l i = if decide (i < (p.length : Int)) then (idx p i).bind fun e => (F e).bind fun y => (idx l i).bind fun _ => Lp k (l.set i.toNat y) (IntKind.i64.wrap (i + 1)) else some l)
    (s : p.length < 1000000000000) (m : ∀ x ∈ p, F x = some (g x)) (z : β) : Lp aI (List.replicate p.length z) 0 = some (p.map g) := by
  have key : ∀ (d k i : Nat) (l : List β), p.length - i = d → d < k → i ≤ p.length → l.length = p.length → l.take i = (p.map g).take i → Lp k l (i : Int) = some (p.map g) := by
    intro d
    induction d with
    | zero =>
      intro k i l o hk r h c
      obtain ⟨k, rfl⟩ : ∃ q, k = q + 1 := ⟨k - 1, by omega⟩
      rw [step, if_neg (by simp; omega)]
      have : i = p.length := by omega
      subst this
      rw [List.take_of_length_le (by omega), List.take_of_length_le (by simp)] at c
      rw [c]
    | succ d ih =>
      intro k i l o hk r h c
      obtain ⟨k, rfl⟩ : ∃ q, k = q + 1 := ⟨k - 1, by omega⟩
      have a : i < p.length := by omega
      rw [step, if_pos (by simp; omega), aX a]
      simp only [Option.bind_some]
      rw [m _ (List.getElem_mem a)]
      simp only [Option.bind_some]
      rw [aX (by omega : i < l.length)]
      simp only [Option.bind_some]
      rw [aG (by omega)]
      refine ih k (i + 1) _ (by omega) (by omega) (by omega) (by simp [h]) ?_
      apply List.ext_getElem?
      intro j
      have f : (l.take i)[j]? = ((p.map g).take i)[j]? := by rw [c]
      simp only [List.getElem?_take, List.getElem?_set, Int.toNat_natCast, List.getElem?_map] at f ⊢
      by_cases c1 : j < i
      · simp only [c1, if_true] at f
        simp [show j < i + 1 by omega, show ¬ i = j by omega, f]
      · by_cases c2 : i = j
        · subst c2; simp [show i < l.length by omega, a]
        · simp [show ¬ j < i + 1 by omega]
  exact key p.length aI 0 _ (by omega) (cw (by omega)) (by omega) (by simp) (by simp)
theorem oR {α : Type} {p : List α} (Lp : Nat → Int → Option Bool) (G : α → Option Bool → Option Bool)
    (step : ∀ k i, Lp (k + 1) i = if decide (i < (p.length : Int)) then (idx p i).bind fun e => G e (Lp k (IntKind.i64.wrap (i + 1))) else some true)
    (h : p.length < 1000000000000) (c : ∀ x ∈ p, ∀ o, G x o = o) : Lp aI 0 = some true := by
  have key : ∀ (d k i : Nat), p.length - i = d → d < k → i ≤ p.length → Lp k (i : Int) = some true := by
    intro d
    induction d with
    | zero =>
      intro k i f hk g
      obtain ⟨k, rfl⟩ : ∃ q, k = q + 1 := ⟨k - 1, by omega⟩
      rw [step, if_neg (by simp; omega)]
    | succ d ih =>
      intro k i f hk g
      obtain ⟨k, rfl⟩ : ∃ q, k = q + 1 := ⟨k - 1, by omega⟩
      have a : i < p.length := by omega
      rw [step, if_pos (by simp; omega), aX a]
      simp only [Option.bind_some]
      rw [c _ (List.getElem_mem a), aG (by omega)]
      exact ih k (i + 1) (by omega) (by omega) (by omega)
  exact key p.length aI 0 (by omega) (cw (by omega)) (by omega)
def sX {α : Type} (Mk : α → Int → Option (Int × α)) (Hd : α → Int → Option Int) (c : Nat) (x : α) : Prop :=
  ∀ m : Nat, m + c < 4611686018427387904 → ∃ (m' : Nat) (x' : α), Mk x (m : Int) = some ((m' : Int), x') ∧ Hd x' (m : Int) = some (m' : Int) ∧ m ≤ m' ∧ m' ≤ m + c
end Go.Vk
/- Bits of words that are not negative; truth of tests. No program in sight. -/
namespace Go.Vk
theorem qe (n : Nat) (h : n < 9223372036854775808) : (BitVec.ofInt 64 (n : Int)).toNat = n := by
  rw [BitVec.ofInt_natCast, BitVec.toNat_ofNat]; omega
theorem vL (x y : Nat) (a : x < 9223372036854775808) (c : y < 9223372036854775808) : eK .xor .i64 x y = ((x ^^^ y : Nat) : Int) ∧ x ^^^ y < 9223372036854775808 := by
  have d : x ^^^ y < 2 ^ 63 := Nat.xor_lt_two_pow (by omega) (by omega)
  refine ⟨?_, by omega⟩
  unfold eK
  show IntKind.i64.wrap _ = _
  rw [BitVec.toNat_xor]
  show IntKind.i64.wrap (((BitVec.ofInt 64 (x : Int)).toNat ^^^ (BitVec.ofInt 64 (y : Int)).toNat : Nat) : Int) = _
  rw [qe x a, qe y c]
  exact gq (by omega)
theorem IF (x y : Nat) (a : x < 9223372036854775808) (c : y < 9223372036854775808) : eK .and .i64 x y = ((x &&& y : Nat) : Int) := by
  have d : x &&& y ≤ x := Nat.and_le_left
  unfold eK
  show IntKind.i64.wrap _ = _
  rw [BitVec.toNat_and]
  show IntKind.i64.wrap (((BitVec.ofInt 64 (x : Int)).toNat &&& (BitVec.ofInt 64 (y : Int)).toNat : Nat) : Int) = _
  rw [qe x a, qe y c]
  exact gq (by omega)
theorem Lk (x : Nat) : qg .i64 (x : Int) 1 = ((x / 2 : Nat) : Int) := by
  unfold qg
  show (x : Int).fdiv (2 ^ 1) = _
  rw [Int.fdiv_eq_ediv_of_nonneg _ (by decide)]
  simp
theorem KY (n : Nat) (h : n < 9223372036854775808) : eK .and .i64 (n : Int) 127 = ((n % 128 : Nat) : Int) := by
  rw [show (127 : Int) = ((127 : Nat) : Int) from rfl, IF n 127 h (by omega), show 127 = 2 ^ 7 - 1 from rfl, Nat.and_two_pow_sub_one_eq_mod]
theorem Lu (x y : Nat) (a : x < 9223372036854775808) (c : y < 9223372036854775808) : eK .or .i64 x y = ((x ||| y : Nat) : Int) := by
  have d : x ||| y < 2 ^ 63 := Nat.or_lt_two_pow (by omega) (by omega)
  unfold eK
  show IntKind.i64.wrap _ = _
  rw [BitVec.toNat_or]
  show IntKind.i64.wrap (((BitVec.ofInt 64 (x : Int)).toNat ||| (BitVec.ofInt 64 (y : Int)).toNat : Nat) : Int) = _
  rw [qe x a, qe y c]
  exact gq (by omega)
theorem Rd (n : Nat) (h : n < 128) : eK .or .i64 (n : Int) 128 = ((n + 128 : Nat) : Int) := by
  rw [show (128 : Int) = ((128 : Nat) : Int) from rfl, Lu n 128 (by omega) (by omega), Nat.or_comm, show 128 = 2 ^ 7 * 1 from rfl, ← Nat.two_pow_add_eq_or_of_lt (by omega)]
  simp; omega
theorem Tf (n : Nat) : qg .i64 (n : Int) 7 = ((n / 128 : Nat) : Int) := by
  unfold qg
  show (n : Int).fdiv (2 ^ 7) = _
  rw [Int.fdiv_eq_ediv_of_nonneg _ (by decide)]
  simp
theorem oI {x a b : Int} (h : a ≤ x ∧ x ≤ b) : (decide (x ≥ a) && decide (x ≤ b)) = true := by simp; omega
theorem pU {x a b : Int} (h : ¬ (a ≤ x ∧ x ≤ b)) : (decide (x ≥ a) && decide (x ≤ b)) = false := by
  simp only [Bool.and_eq_false_iff, decide_eq_false_iff_not]; omega
end Go.Vk
/- Loops over a list, as recursion over the list. No program in sight. -/
namespace Go.Vk
def run {α σ ρ : Type} (f : σ → α → Option ρ ⊕ σ) (fin : σ → Option ρ) : σ → List α → Option ρ
  | s, [] => fin s
  | s, x :: xs => match f s x with
    | .inl r => r
    | .inr s' => run f fin s' xs
theorem yd {α σ ρ : Type} {p : List α} (Lp : Nat → σ → Int → Option ρ) (f : σ → α → Option ρ ⊕ σ) (fin : σ → Option ρ) (I : Nat → σ → Prop)
    (e : ∀ k s, I p.length s → Lp (k + 1) s (p.length : Int) = fin s)
    (g : ∀ k s (i : Nat) (h : i < p.length), I i s → (Lp (k + 1) s (i : Int) = match f s p[i] with | .inl r => r | .inr s' => Lp k s' ((i + 1 : Nat) : Int)) ∧ ∀ s', f s p[i] = .inr s' → I (i + 1) s')
    (o : p.length < 1000000000000) : ∀ s, I 0 s → Lp aI s 0 = run f fin s p := by
  have key : ∀ (d k i : Nat) (s : σ), p.length - i = d → d < k → i ≤ p.length → I i s → Lp k s (i : Int) = run f fin s (p.drop i) := by
    intro d
    induction d with
    | zero =>
      intro k i s j hk l a
      obtain ⟨k, rfl⟩ : ∃ q, k = q + 1 := ⟨k - 1, by omega⟩
      have : i = p.length := by omega
      subst this
      rw [e _ _ a, List.drop_length]
      rfl
    | succ d ih =>
      intro k i s j hk l a
      obtain ⟨k, rfl⟩ : ∃ q, k = q + 1 := ⟨k - 1, by omega⟩
      have c : i < p.length := by omega
      obtain ⟨h1, m⟩ := g k s i c a
      rw [h1, List.drop_eq_getElem_cons c]
      unfold run
      cases h : f s p[i] with
      | inl r => rfl
      | inr s' => exact ih k (i + 1) s' (by omega) (by omega) (by omega) (m s' h)
  intro s a
  have := key p.length aI 0 s (by omega) (cw (by omega)) (by omega) a
  simpa using this
theorem FK {α : Type} {p : List α} {P : α → Prop} [DecidablePred P] (Lp : Nat → Int → Option Bool)
    (a : ∀ k, Lp (k + 1) (p.length : Int) = some true)
    (c : ∀ k (i : Nat) (h : i < p.length), Lp (k + 1) (i : Int) = if P p[i] then Lp k ((i + 1 : Nat) : Int) else some false)
    (d : p.length < 1000000000000) : Lp aI 0 = some (decide (∀ x ∈ p, P x)) := by
  rw [yd (p := p) (σ := Unit) (fun k _ i => Lp k i) (fun _ x => if P x then .inr () else .inl (some false)) (fun _ => some true) (fun _ _ => True) (fun k _ _ => a k) (fun k _ i h _ => ⟨by
    show Lp _ _ = _
    rw [c k i h]
    split <;> rfl, fun _ _ => trivial⟩) d () trivial]
  clear a c d Lp
  induction p with
  | nil => simp [run]
  | cons x p ih =>
    unfold run
    by_cases h : P x
    · simp only [h, if_true, ih]
      simp [h]
    · simp [h]
theorem DE {α ρ : Type} {p : List α} {P : α → Prop} [DecidablePred P] {fin bad : Option ρ} (Lp : Nat → Int → Option ρ)
    (a : ∀ k, Lp (k + 1) (p.length : Int) = fin)
    (c : ∀ k (i : Nat) (h : i < p.length), Lp (k + 1) (i : Int) = if P p[i] then Lp k ((i + 1 : Nat) : Int) else bad)
    (d : p.length < 1000000000000) : Lp aI 0 = if ∀ x ∈ p, P x then fin else bad := by
  rw [yd (p := p) (σ := Unit) (fun k _ i => Lp k i) (fun _ x => if P x then .inr () else .inl bad) (fun _ => fin) (fun _ _ => True) (fun k _ _ => a k) (fun k _ i h _ => ⟨by
    show Lp _ _ = _
    rw [c k i h]
    split <;> rfl, fun _ _ => trivial⟩) d () trivial]
  clear a c d Lp
  induction p with
  | nil => simp [run]
  | cons x p ih =>
    unfold run
    by_cases h : P x
    · simp only [h, if_true, ih]
      simp [h]
    · simp [h]
theorem Hr {α σ ρ : Type} {p : List α} (B : α → List Int) (u : σ → α → σ) (Lp : Nat → List Int → σ → Int → Option ρ) (fin : List Int → σ → Option ρ)
    (e : ∀ k l q, Lp (k + 1) l q (p.length : Int) = fin l q)
    (f : ∀ k l q (i : Nat) (h : i < p.length), l.length + (B p[i]).length ≤ 800000000 → Lp (k + 1) l q (i : Int) = Lp k (l ++ B p[i]) (u q p[i]) ((i + 1 : Nat) : Int))
    (m : p.length < 1000000000000) (l : List Int) (q : σ) (a : l.length + (p.flatMap B).length ≤ 800000000) : Lp aI l q 0 = fin (l ++ p.flatMap B) (p.foldl u q) := by
  have key : ∀ (d k i : Nat) (l : List Int) (q : σ), p.length - i = d → d < k → i ≤ p.length → l.length + ((p.drop i).flatMap B).length ≤ 800000000 → Lp k l q (i : Int) = fin (l ++ (p.drop i).flatMap B) ((p.drop i).foldl u q) := by
    intro d
    induction d with
    | zero =>
      intro k i l q g hk j a
      obtain ⟨k, rfl⟩ : ∃ q, k = q + 1 := ⟨k - 1, by omega⟩
      have : i = p.length := by omega
      subst this
      rw [e, List.drop_length]
      simp
    | succ d ih =>
      intro k i l q g hk j a
      obtain ⟨k, rfl⟩ : ∃ q, k = q + 1 := ⟨k - 1, by omega⟩
      have c : i < p.length := by omega
      rw [List.drop_eq_getElem_cons c] at a ⊢
      simp only [List.flatMap_cons, List.length_append, List.foldl_cons] at a ⊢
      rw [f k l q i c (by omega), ih k (i + 1) _ _ (by omega) (by omega) (by omega) (by simp only [List.length_append]; omega), List.append_assoc]
  have := key p.length aI 0 l q (by omega) (cw (by omega)) (by omega) (by simpa using a)
  simpa using this
theorem DK {α : Type} {P : α → Prop} [DecidablePred P] (p : List α) (q : Bool) : p.foldl (fun q x => q || decide (¬ P x)) q = (q || decide (¬ ∀ x ∈ p, P x)) := by
  induction p generalizing q with
  | nil => simp
  | cons x p ih =>
    rw [List.foldl_cons, ih]
    by_cases h : P x <;> simp [h]
end Go.Vk
/- Tests that are answered alike. No program in sight. -/
namespace Go.Vk
def Dec (o : Option Bool) (P : Prop) : Prop := ∃ b, o = some b ∧ (b = true ↔ P)
theorem Dec.eq {o o' : Option Bool} {P : Prop} (h : Dec o P) (h' : Dec o' P) : o = o' := by
  obtain ⟨b, rfl, h1⟩ := h
  obtain ⟨c, rfl, a⟩ := h'
  rw [Bool.eq_iff_iff.2 (h1.trans a.symm)]
theorem Dec.of_iff {o : Option Bool} {P Q : Prop} (h : Dec o P) (e : P ↔ Q) : Dec o Q := by
  obtain ⟨b, rfl, h1⟩ := h
  exact ⟨b, rfl, h1.trans e⟩
theorem Dec.cases {o : Option Bool} {P : Prop} (h : Dec o P) : (o = some true ∧ P) ∨ (o = some false ∧ ¬ P) := by
  obtain ⟨b, rfl, h1⟩ := h
  cases b
  · exact .inr ⟨rfl, fun p => by have := h1.2 p; cases this⟩
  · exact .inl ⟨rfl, h1.1 rfl⟩
theorem mH {P : Prop} (h : P) : Dec (some true) P := ⟨true, rfl, by simp [h]⟩
theorem bG {P : Prop} (h : ¬ P) : Dec (some false) P := ⟨false, rfl, by simp [h]⟩
theorem LV {x a b : Int} : Dec (some (decide (x ≥ a) && decide (x ≤ b))) (a ≤ x ∧ x ≤ b) := ⟨_, rfl, by simp⟩
theorem pk {Lp : Nat → Int → Option Bool} {n : Nat} {Q : Nat → Prop} (a : Nat) (l : ∀ k (i : Nat), n ≤ i → Lp (k + 1) (i : Int) = some true)
    (m : ∀ k (i : Nat), a ≤ i → i < n → (Q i ∧ Lp (k + 1) (i : Int) = Lp k ((i + 1 : Nat) : Int)) ∨ (¬ Q i ∧ Lp (k + 1) (i : Int) = some false)) (r : n < 1000000000000) : Dec (Lp aI (a : Int)) (∀ i, a ≤ i → i < n → Q i) := by
  have key : ∀ (d k i : Nat), n - i = d → d < k → a ≤ i → Dec (Lp k (i : Int)) (∀ j, i ≤ j → j < n → Q j) := by
    intro d
    induction d with
    | zero =>
      intro k i o hk g
      obtain ⟨k, rfl⟩ : ∃ q, k = q + 1 := ⟨k - 1, by omega⟩
      rw [l k i (by omega)]
      exact mH fun j h1 c => by omega
    | succ d ih =>
      intro k i o hk g
      obtain ⟨k, rfl⟩ : ∃ q, k = q + 1 := ⟨k - 1, by omega⟩
      rcases m k i g (by omega) with ⟨f, e⟩ | ⟨f, e⟩
      · rw [e]
        refine (ih k (i + 1) (by omega) (by omega) (by omega)).of_iff ⟨fun h j h1 c => ?_, fun h j h1 c => h j (by omega) c⟩
        by_cases p : j = i
        · rw [p]; exact f
        · exact h j (by omega) c
      · rw [e]
        exact bG fun h => f (h i (Nat.le_refl _) (by omega))
  exact key (n - a) aI a rfl (cw (by omega)) (Nat.le_refl _)
theorem qR {Lp : Nat → Int → Option Int} {n : Nat} {Q : Nat → Prop} (g : ∀ k (i : Nat), n ≤ i → Lp (k + 1) (i : Int) = some (-1))
    (h : ∀ k (i : Nat), i < n → (Q i ∧ Lp (k + 1) (i : Int) = some (i : Int)) ∨ (¬ Q i ∧ Lp (k + 1) (i : Int) = Lp k ((i + 1 : Nat) : Int))) (o : n < 1000000000000) :
    Dec ((Lp aI 0).bind fun y => some (decide (y ≥ 0))) (∃ i, i < n ∧ Q i) := by
  have key : ∀ (d k i : Nat), n - i = d → d < k → Dec ((Lp k (i : Int)).bind fun y => some (decide (y ≥ 0))) (∃ j, i ≤ j ∧ j < n ∧ Q j) := by
    intro d
    induction d with
    | zero =>
      intro k i l hk
      obtain ⟨k, rfl⟩ : ∃ q, k = q + 1 := ⟨k - 1, by omega⟩
      rw [g k i (by omega)]
      exact bG fun ⟨j, h1, c, _⟩ => by omega
    | succ d ih =>
      intro k i l hk
      obtain ⟨k, rfl⟩ : ∃ q, k = q + 1 := ⟨k - 1, by omega⟩
      rcases h k i (by omega) with ⟨f, e⟩ | ⟨f, e⟩
      · rw [e]
        exact ⟨true, by simp, by simp; exact ⟨i, Nat.le_refl _, by omega, f⟩⟩
      · rw [e]
        refine (ih k (i + 1) (by omega) (by omega)).of_iff ⟨fun ⟨j, h1, c, a⟩ => ⟨j, by omega, c, a⟩, fun ⟨j, h1, c, a⟩ => ⟨j, ?_, c, a⟩⟩
        by_cases m : j = i
        · rw [m] at a; exact absurd a f
        · omega
  refine (key n aI 0 rfl (cw (by omega))).of_iff ⟨fun ⟨j, _, c, a⟩ => ⟨j, c, a⟩, fun ⟨j, c, a⟩ => ⟨j, Nat.zero_le _, c, a⟩⟩
end Go.Vk
/- The statement's frame: arguments opened, the row's last step. -/
namespace Go.Vk
open Go.RowKit Go.WideShapes Go.ChangeShapes Go.Deep
section
variable {H : Type} {enc : TypeId × Value → H} {P : Program}
theorem HV {W W' : World} (a : Below W.heap.size W W') {sp : Nat → Bool} {held : Bool} {n : Nat} {t : TypeId} {cs : List Value} {x : DataW H × List MemPlace} (h : DataW.trod enc P W 0 sp held n t cs = some x) : DataW.trod enc P W' 0 sp held n t cs = some x :=
  DataW.trod_carry n t cs x h (fun p c => a.same (DataW.trod_lt n t cs x h p c))
theorem wv {W W' : World} (a : Below W.heap.size W W') {sp : Nat → Bool} {held : Bool} : ∀ {ts : List TypeId} {vs : List Value} {ds : List (DataW H)} {ps : List MemPlace}, DataW.TrodAll enc P W 0 sp held ts vs ds ps → DataW.TrodAll enc P W' 0 sp held ts vs ds ps
  | [], [], [], _, h => h
  | _ :: _, _ :: _, _ :: _, _, ⟨p, q, ⟨n, h1⟩, c, e⟩ => ⟨p, q, ⟨n, HV a h1⟩, wv a c, e⟩
def Og (P : Program) : Bool := (List.range P.types.size).all fun t => match P.underlying t with | some (.slice e) => decide (0 < P.cellsOf e) | _ => true
theorem Lj {f : Func} {s : ChangeSpec} {apart fresh handsOn again : Bool} {W W' : World} {args : Array Value} {ds gs : List (DataW H)} {before : List MemPlace} {tb : TypeId}
    (j : DataW.Whole enc P f.params.toList s.vars apart W args.toList ds gs before) (k : s.vars = []) (w : laidOutB P = true) (x : mapsRowed P = true) (A : Og P = true) (C : ∀ t ∈ f.params.toList, t < P.types.size)
    (m : f.resultTypes = #[tb]) (d : P.underlying tb = some .bool) (o : s.fn H ds = { results := [.lit (.bool true)], args := ds }) (l : Below W.heap.size W W') :
    s.post enc P f apart fresh handsOn again W args (.bool true) W' := by
  have e : ∀ p ∈ before, p.block < W.heap.size := fun p a => j.lt p a
  have hW' := j
  obtain ⟨pa, pv, D, q, rfl, r, u⟩ := hW'
  rw [k] at q
  obtain ⟨rfl, rfl⟩ := trodVars_none q
  have hfn' : s.fn H (ds ++ []) = { results := [.lit (.bool true)], args := ds } := by rw [List.append_nil]; exact o
  have hA' := wv l D
  have g : ∀ sp : Nat → Bool, (∀ p ∈ pa, sp p.block = true) → DataW.TrodAll enc P W' 0 sp true f.params.toList args.toList ds pa := fun sp h =>
    DataW.TrodAll.respare (kids_rows w x) (slices_full_of P A) C hA' h
  have c : ∀ (b : Nat) (sp : Nat → Bool) (v : Bool), DataW.TrodAll enc P W' b sp v f.resultTypes.toList ((Value.bool true).resultList f.resultTypes.size) [.lit (.bool true)] [] := fun b sp v => by
    rw [m]; exact trodAll_mk1 (shut_bool d _)
  refine ⟨ds, [], pa ++ [], [], pa, [], j, ?_, ?_, ?_, World.keptBut_mono (fun p a => ⟨a, ?_⟩) (l.frame (· ∈ pa ++ [])), fun _ => ?_⟩
  · rw [hfn']; exact c _ _ _
  · rw [hfn']; exact g _ (fun p a => by simpa using e p (by simpa using a))
  · rw [hfn', k]; exact rfl
  · simpa using a
  · refine ⟨?_, _, [], ([] ++ pa) ++ [], ⟨[] ++ pa, [], trodAll_append (g _ (fun _ _ => rfl)) (c _ _ _), ?_, rfl, ?_, ?_⟩, ?_⟩
    · exact ok_one m rfl (okWide_bool_mk d _)
    · rw [k]; exact rfl
    · intro b off a
      have i : MemPlace.cell b off ∈ pa := by simpa using a
      rw [l.frozen (e _ (by simpa using i))]
      exact r b off (by simpa using i)
    · intro E
      have := u E
      simpa using this
    · intro p a _
      simpa using a
def Opn {α : Type} (P : Program) (t : TypeId) (e : Enc α) (Ok : α → Prop) : Prop :=
  ∀ {H : Type} {enc : TypeId × Value → H} {w : World} {sp : Nat → Bool} {n : Nat} {cs : List Value} {x : DataW H × List MemPlace}, DataW.trod enc P w 0 sp true n t cs = some x → ∃ a, e.rd w [] a cs ∧ Ok a
def DL (k : IntKind) (n : Int) : Prop := (Lit.int k n).wf = true
theorem Nr {t : TypeId} {k : IntKind} (a : ww P t k) : Opn P t (la (Value.int k) (fun _ => rfl)) (DL k) := fun {H enc w sp n cs x} h => by
  have ht' : P.underlying t = some (.int k) := a
  cases n with
  | zero => simp [DataW.trod] at h
  | succ n =>
    unfold DataW.trod at h
    rw [ht'] at h
    split at h <;> simp_all
    case h_2 d =>
      obtain ⟨⟨rfl, c⟩, _⟩ := h
      exact ⟨_, rfl, c⟩
theorem Lb {w : World} {a : Addr} {n : Nat} {cs : List Value} (h : w.cells? 0 a n = some cs) : At w [] a cs ∧ cs.length = n := by
  unfold World.cells? at h
  rw [if_pos (Nat.zero_le _)] at h
  have c : cs.length = n := by simpa using mapM_some_length h
  refine ⟨⟨fun _ => by simp, fun j v d => ?_⟩, c⟩
  have e : j < n := by rw [← c]; exact (List.getElem?_eq_some_iff.1 d).1
  have := mapM_some_get h j j (by simp [e])
  rw [this, d]
theorem MJ {α : Type} {e : Enc α} {Ok : α → Prop} {t et : TypeId} (u : isSl P t et) (v : Opn P et e Ok) (A : P.cellsOf et = e.sz) : Opn P t (ae e et) (fun xs => xs.length ≤ maxLen ∧ ∀ x ∈ xs, Ok x) := fun {H enc w sp n cs x} h => by
  rcases open_slice u h with ⟨rfl, _⟩ | ⟨a, len, cap, m, n', D, Pl, rfl, _, C, q, f, _, g⟩
  · exact ⟨[], Ja, by simp, by simp⟩
  · have j : ∀ i, i < len → ∃ y, (∃ ds, e.rd w [] y ds ∧ At w [] (a.add (i * e.sz)) ds) ∧ Ok y := fun i d => by
      obtain ⟨cs', h1, o⟩ := g i (by rw [f]; split <;> omega)
      obtain ⟨y, E, F⟩ := v o
      exact ⟨y, ⟨cs', E, by rw [← A]; exact (Lb h1).1⟩, F⟩
    have : ∃ xs : List α, xs.length = len ∧ ∀ i x, xs[i]? = some x → (∃ ds, e.rd w [] x ds ∧ At w [] (a.add (i * e.sz)) ds) ∧ Ok x := by
      clear C q f g h
      rename_i r
      clear r
      induction len with
      | zero => exact ⟨[], rfl, by simp⟩
      | succ k ih =>
        obtain ⟨xs, h1, o⟩ := ih (fun i d => j i (by omega))
        obtain ⟨y, G⟩ := j k (by omega)
        refine ⟨xs ++ [y], by simp [h1], fun i x c => ?_⟩
        by_cases d : i < k
        · rw [List.getElem?_append_left (by omega)] at c; exact o i x c
        · have s : i = k := by
            have := (List.getElem?_eq_some_iff.1 c).1
            simp [h1] at this; omega
          subst s
          rw [List.getElem?_append_right (by omega), h1] at c
          simp at c; subst c; exact G
    obtain ⟨xs, p, l⟩ := this
    refine ⟨xs, ⟨some a, cap, by rw [p], by omega, q, fun _ => ⟨a, rfl, fun i x c => (l i x c).1⟩⟩, by omega, fun x c => ?_⟩
    obtain ⟨i, d⟩ := List.mem_iff_getElem?.1 c
    exact (l i x d).2
theorem KH {w : World} {r : Reach} {a : Nat} {t et : TypeId} {v : Value} (c : isSl P t et) (h : Value.okWide P w r a t v) : v.cells.toList = [v] := by
  have ht' : P.underlying t = some (.slice et) := c
  cases v with
  | agg cs => simp [Value.okWide, ht', Cell.okWide, Cell.ok] at h
  | _ => rfl
theorem Pp {α : Type} {e : Enc α} {Ok : α → Prop} {w : World} {r : Reach} {f : Nat} {t et : TypeId} {v : Value} {d : DataW H} {ps : List MemPlace} (g : isSl P t et) (i : Opn P t e Ok) (h : Value.okWide P w r f t v) (c : DataW.Trod enc P w 0 (fun _ => true) true t v d ps) : ∃ a, e.rd w [] a [v] ∧ Ok a := by
  obtain ⟨n, c⟩ := c
  rw [KH g h] at c
  exact i c
end
end Go.Vk
/- Arguments that are structs, opened. -/
namespace Go.Vk
open Go.RowKit Go.WideShapes Go.ChangeShapes Go.Deep
section
variable {H : Type} {enc : TypeId × Value → H} {P : Program}
def Rk (P : Program) (t : TypeId) : Option (List (TypeId × Nat)) :=
  match P.underlying t with
  | some (.struct fs) => some (fs.toList.map fun f => (f.type, f.offset))
  | _ => none
end
end Go.Vk
/- What the statement's frame says of whole numbers. -/
namespace Go.Vk
theorem Sd {n : Int} (h : DL .u8 n) : 0 ≤ n ∧ n ≤ 255 := by
  simp only [DL, Lit.wf] at h
  have h1 : IntKind.u8.min ≤ n ∧ n ≤ IntKind.u8.max := by simpa using h
  exact h1
end Go.Vk
/- Loops by index; sums. No program in sight. -/
namespace Go.Vk
theorem vX {α : Type} {f : α → Nat} {p : List α} {x : α} (h : x ∈ p) : f x ≤ (p.map f).sum := by
  induction p with
  | nil => cases h
  | cons y p ih =>
    simp only [List.map_cons, List.sum_cons]
    rcases List.mem_cons.1 h with rfl | h
    · omega
    · have := ih h; omega
theorem vx {ρ : Type} {Lp : Nat → Nat → Option ρ} {n : Nat} {Q : Nat → Prop} {fin bad : Option ρ} (e : ∀ k, (∀ j, j < n → Q j) → Lp (k + 1) n = fin)
    (f : ∀ k i, i < n → (∀ j, j < i → Q j) → (Q i ∧ Lp (k + 1) i = Lp k (i + 1)) ∨ (¬ Q i ∧ Lp (k + 1) i = bad)) (l : n < 1000000000000) :
    ((∀ j, j < n → Q j) ∧ Lp aI 0 = fin) ∨ ((¬ ∀ j, j < n → Q j) ∧ Lp aI 0 = bad) := by
  have key : ∀ (d k i : Nat), n - i = d → d < k → i ≤ n → (∀ j, j < i → Q j) → ((∀ j, j < n → Q j) ∧ Lp k i = fin) ∨ ((¬ ∀ j, j < n → Q j) ∧ Lp k i = bad) := by
    intro d
    induction d with
    | zero =>
      intro k i m hk o a
      obtain ⟨k, rfl⟩ : ∃ q, k = q + 1 := ⟨k - 1, by omega⟩
      have : i = n := by omega
      subst this
      exact .inl ⟨a, e k a⟩
    | succ d ih =>
      intro k i m hk o a
      obtain ⟨k, rfl⟩ : ∃ q, k = q + 1 := ⟨k - 1, by omega⟩
      rcases f k i (by omega) a with ⟨h1, c⟩ | ⟨h1, c⟩
      · rw [c]
        exact ih k (i + 1) (by omega) (by omega) (by omega) (fun j p => by
          by_cases h : j = i
          · subst h; exact h1
          · exact a j (by omega))
      · exact .inr ⟨fun g => h1 (g i (by omega)), c⟩
  exact key n aI 0 rfl (cw l) (Nat.zero_le _) (fun j p => by omega)
theorem vM {ρ : Type} {Lp : Nat → Nat → Option ρ} {n : Nat} {fin : Option ρ} (a : ∀ k, Lp (k + 1) n = fin) (c : ∀ k i, i < n → Lp (k + 1) i = Lp k (i + 1)) (d : n < 1000000000000) : Lp aI 0 = fin := by
  rcases vx (Lp := Lp) (n := n) (Q := fun _ => True) (fin := fin) (bad := none) (fun k _ => a k) (fun k i e _ => .inl ⟨trivial, c k i e⟩) d with ⟨_, h⟩ | ⟨h, _⟩
  · exact h
  · exact absurd (fun _ _ => trivial) h
theorem rz {Lp : Nat → Nat → Option Bool} {n : Nat} {Q : Nat → Prop} {F : Prop} (e : ∀ k, (∀ j, j < n → Q j) → Dec (Lp (k + 1) n) F)
    (f : ∀ k i, i < n → (∀ j, j < i → Q j) → (Q i ∧ Lp (k + 1) i = Lp k (i + 1)) ∨ (¬ Q i ∧ Lp (k + 1) i = some false)) (l : n < 1000000000000) : Dec (Lp aI 0) ((∀ j, j < n → Q j) ∧ F) := by
  have key : ∀ (d k i : Nat), n - i = d → d < k → i ≤ n → (∀ j, j < i → Q j) → Dec (Lp k i) ((∀ j, j < n → Q j) ∧ F) := by
    intro d
    induction d with
    | zero =>
      intro k i m hk o a
      obtain ⟨k, rfl⟩ : ∃ q, k = q + 1 := ⟨k - 1, by omega⟩
      have : i = n := by omega
      subst this
      exact (e k a).of_iff ⟨fun h => ⟨a, h⟩, fun h => h.2⟩
    | succ d ih =>
      intro k i m hk o a
      obtain ⟨k, rfl⟩ : ∃ q, k = q + 1 := ⟨k - 1, by omega⟩
      rcases f k i (by omega) a with ⟨h1, c⟩ | ⟨h1, c⟩
      · rw [c]
        exact ih k (i + 1) (by omega) (by omega) (by omega) (fun j p => by
          by_cases h : j = i
          · subst h; exact h1
          · exact a j (by omega))
      · rw [c]
        exact bG fun g => h1 (g.1 i (by omega))
  exact key n aI 0 rfl (cw l) (Nat.zero_le _) (fun j p => by omega)
theorem yh {p : List Int} {i : Nat} (h : i < p.length) : (p.take (i + 1)).sum = (p.take i).sum + p[i] := by
  rw [List.take_succ_eq_append_getElem h, List.sum_append]
  simp
theorem qm {p : List Int} {b : Int} (a : ∀ x ∈ p, 0 ≤ x ∧ x ≤ b) : 0 ≤ p.sum ∧ p.sum ≤ b * p.length := by
  induction p with
  | nil => simp
  | cons x p ih =>
    have h1 := a x (by simp)
    have d := ih (fun y c => a y (by simp [c]))
    simp only [List.sum_cons, List.length_cons]
    have : b * ((p.length + 1 : Nat) : Int) = b * p.length + b := by rw [Int.natCast_add, Int.mul_add]; simp
    omega
theorem Gc {α : Type} {p : List α} {i : Nat} {x : α} (h : x ∈ p.take i) : x ∈ p := List.mem_of_mem_take h
theorem yo {α ρ : Type} {p : List α} (v : α → Int) (Lp : Nat → Int → Int → Option ρ) (fin : Int → Option ρ) (d : ∀ k s, Lp (k + 1) s (p.length : Int) = fin s)
    (e : ∀ k s (i : Nat) (h : i < p.length), Lp (k + 1) s (i : Int) = Lp k (IntKind.i64.wrap (s + v p[i])) ((i + 1 : Nat) : Int)) (f : ∀ x ∈ p, 0 ≤ v x ∧ v x ≤ 1000000000) (j : p.length ≤ 1000000000) : Lp aI 0 0 = fin (p.map v).sum := by
  have hb' : ∀ x ∈ p.map v, 0 ≤ x ∧ x ≤ 1000000000 := fun x a => by
    obtain ⟨y, g, rfl⟩ := List.mem_map.1 a
    exact f y g
  have := vM (Lp := fun k i => Lp k ((p.map v).take i).sum (i : Int)) (n := p.length) (fin := fin (p.map v).sum) (fun k => by
    show Lp _ _ _ = _
    rw [d, List.take_of_length_le (by simp)]) (fun k i c => by
    show Lp _ _ _ = Lp _ _ _
    have h1 := qm (p := (p.map v).take (i + 1)) (b := 1000000000) (fun x a => hb' x (Gc a))
    rw [e _ _ _ c]
    rw [yh (by simpa using c)] at h1 ⊢
    rw [List.getElem_map] at h1 ⊢
    have l : ((p.map v).take (i + 1)).length ≤ 1000000000 := by simp; omega
    rw [bi (by omega) (by omega)]) (by omega)
  simpa using this
theorem Hx {α : Type} [BEq α] [LawfulBEq α] {p : List α} {a : α} (h : a ∈ p) : ∃ q, ∃ d : q < p.length, p[q] = a ∧ (p.take (q + 1)).count a = p.count a := by
  induction p with
  | nil => cases h
  | cons x p ih =>
    by_cases c : a ∈ p
    · obtain ⟨q, d, h1, e⟩ := ih c
      refine ⟨q + 1, by simp; omega, by simpa using h1, ?_⟩
      rw [List.take_succ_cons, List.count_cons, List.count_cons, e]
    · have f : a = x := by
        rcases List.mem_cons.1 h with h | h
        · exact h
        · exact absurd h c
      subst f
      refine ⟨0, by simp, rfl, ?_⟩
      rw [List.take_succ_cons, List.take_zero, List.count_cons, List.count_cons, List.count_eq_zero.2 c]
      simp
theorem Dec.and {o o' : Option Bool} {P Q : Prop} (h : Dec o P) (h' : P → Dec o' Q) : Dec (o.bind fun y => if y then o' else some false) (P ∧ Q) := by
  rcases h.cases with ⟨rfl, p⟩ | ⟨rfl, p⟩
  · exact (h' p).of_iff ⟨fun q => ⟨p, q⟩, fun q => q.2⟩
  · exact bG fun q => p q.1
end Go.Vk
/- sX, step by step. No program in sight. -/
namespace Go.Vk
theorem qt (m : Nat) : ((m : Int) < 0) = False := by simp
theorem Kc {α : Type} (p : List α) : (p.map fun _ => 1).sum = p.length := by induction p with | nil => rfl | cons x p ih => simp [ih]; omega
theorem mM {α : Type} {p : List α} {c : α → Nat} (Lm : Nat → List α → Int → Int → Option (Int × List α)) (Lh : List α → Nat → Int → Int → Option Int)
    (zm : ∀ k l m i, ¬ (decide (i < (p.length : Int)) = true) → Lm (k + 1) l m i = some (m, l))
    (zh : ∀ (q : List α) k m i, ¬ (decide (i < (q.length : Int)) = true) → Lh q (k + 1) m i = some m)
    (H : p.length < 1000000000000)
    (A : ∀ x ∈ p, ∀ m : Nat, m + c x < 4611686018427387904 → ∃ (m' : Nat) (x' : α),
      (∀ k l i, decide (i < (p.length : Int)) = true → idx l i = some x → Lm (k + 1) l (m : Int) i = Lm k (l.set i.toNat x') (m' : Int) (IntKind.i64.wrap (i + 1))) ∧
      (∀ (q : List α) k i, decide (i < (q.length : Int)) = true → idx q i = some x' → Lh q (k + 1) (m : Int) i = Lh q k (m' : Int) (IntKind.i64.wrap (i + 1))) ∧ m ≤ m' ∧ m' ≤ m + c x) :
    sX (fun p m => Lm aI p m 0) (fun q m => Lh q aI m 0) ((p.map c).sum) p := by
  have key : ∀ (d i : Nat) (l : List α) (m : Nat), p.length - i = d → i ≤ p.length → l.length = p.length → l.drop i = p.drop i → m + ((p.drop i).map c).sum < 4611686018427387904 →
      ∃ (m' : Nat) (l' : List α), (∀ k, d < k → Lm k l (m : Int) (i : Int) = some ((m' : Int), l')) ∧ (∀ k, d < k → Lh l' k (m : Int) (i : Int) = some (m' : Int)) ∧ m ≤ m' ∧ m' ≤ m + ((p.drop i).map c).sum ∧ l'.length = p.length ∧ l'.take i = l.take i := by
    intro d
    induction d with
    | zero =>
      intro i l m C D f a o
      refine ⟨m, l, fun k hk => ?_, fun k hk => ?_, by omega, by omega, f, rfl⟩
      · obtain ⟨k, rfl⟩ : ∃ q, k = q + 1 := ⟨k - 1, by omega⟩
        rw [zm _ _ _ _ (by simp; omega)]
      · obtain ⟨k, rfl⟩ : ∃ q, k = q + 1 := ⟨k - 1, by omega⟩
        rw [zh _ _ _ _ (by simp; omega)]
    | succ d ih =>
      intro i l m C D f a o
      have e : i < p.length := by omega
      have r : l[i]'(by omega) = p[i] := by
        have h1 : (l.drop i)[0]? = (p.drop i)[0]? := by rw [a]
        rw [List.getElem?_drop, List.getElem?_drop, Nat.add_zero, List.getElem?_eq_getElem (by omega), List.getElem?_eq_getElem e] at h1
        exact Option.some.inj h1
      have E : ((p.drop i).map c).sum = c p[i] + ((p.drop (i + 1)).map c).sum := by rw [List.drop_eq_getElem_cons e, List.map_cons, List.sum_cons]
      obtain ⟨F, x', s, t, L, M⟩ := A _ (List.getElem_mem e) m (by omega)
      obtain ⟨m', l', g, h, u, G, v, w⟩ := ih (i + 1) (l.set i x') F (by omega) (by omega) (by simp [f]) (by
        rw [List.drop_set_of_lt (by omega)]
        have := congrArg (List.drop 1) a
        simpa [List.drop_drop, Nat.add_comm 1 i] using this) (by omega)
      have hl'i : l'[i]'(by omega) = x' := by
        have j := congrArg (fun q => q[i]?) w
        simp only [List.getElem?_take, show i < i + 1 by omega, if_true, List.getElem?_set_self (show i < l.length by omega)] at j
        rw [List.getElem?_eq_getElem (by omega)] at j
        exact Option.some.inj j
      refine ⟨m', l', fun k hk => ?_, fun k hk => ?_, by omega, by omega, v, ?_⟩
      · obtain ⟨k, rfl⟩ : ∃ q, k = q + 1 := ⟨k - 1, by omega⟩
        rw [s k l i (by simp; omega) (by rw [aX (by omega : i < l.length), r]), aG (by omega)]
        exact g k (by omega)
      · obtain ⟨k, rfl⟩ : ∃ q, k = q + 1 := ⟨k - 1, by omega⟩
        rw [t l' k i (by simp; omega) (by rw [aX (by omega : i < l'.length), hl'i]), aG (by omega)]
        exact h k (by omega)
      · have := congrArg (List.take i) w
        simpa [List.take_take, List.take_set_of_le] using this
  intro m o
  have P : ((p.drop 0).map c).sum = (p.map c).sum := by simp
  obtain ⟨m', l', g, h, u, G, v, _⟩ := key p.length 0 p m (by omega) (by omega) rfl rfl (by omega)
  exact ⟨m', l', g aI (cw (by omega)), h aI (cw (by omega)), u, by omega⟩
end Go.Vk
namespace Go.Vk
def LM {α : Type} (Mk : α → Int → Option (Int × α)) (c : Nat) (x : α) : Prop :=
  ∀ m : Nat, m + c < 4611686018427387904 → ∃ (m' : Nat) (x' : α), Mk x (m : Int) = some ((m' : Int), x') ∧ m ≤ m' ∧ m' ≤ m + c
theorem HA {α : Type} {p : List α} {c : α → Nat} (Lm : Nat → List α → Int → Int → Option (Int × List α))
    (zm : ∀ k l m i, ¬ (decide (i < (p.length : Int)) = true) → Lm (k + 1) l m i = some (m, l))
    (C : p.length < 1000000000000)
    (s : ∀ x ∈ p, ∀ m : Nat, m + c x < 4611686018427387904 → ∃ (m' : Nat) (x' : α),
      (∀ k l i, decide (i < (p.length : Int)) = true → idx l i = some x → Lm (k + 1) l (m : Int) i = Lm k (l.set i.toNat x') (m' : Int) (IntKind.i64.wrap (i + 1))) ∧ m ≤ m' ∧ m' ≤ m + c x) :
    LM (fun p m => Lm aI p m 0) ((p.map c).sum) p := by
  have key : ∀ (d i : Nat) (l : List α) (m : Nat), p.length - i = d → i ≤ p.length → l.length = p.length → l.drop i = p.drop i → m + ((p.drop i).map c).sum < 4611686018427387904 →
      ∃ (m' : Nat) (l' : List α), (∀ k, d < k → Lm k l (m : Int) (i : Int) = some ((m' : Int), l')) ∧ m ≤ m' ∧ m' ≤ m + ((p.drop i).map c).sum := by
    intro d
    induction d with
    | zero =>
      intro i l m t u g a h
      refine ⟨m, l, fun k hk => ?_, by omega, by omega⟩
      obtain ⟨k, rfl⟩ : ∃ q, k = q + 1 := ⟨k - 1, by omega⟩
      rw [zm _ _ _ _ (by simp; omega)]
    | succ d ih =>
      intro i l m t u g a h
      have e : i < p.length := by omega
      have j : l[i]'(by omega) = p[i] := by
        have h1 : (l.drop i)[0]? = (p.drop i)[0]? := by rw [a]
        rw [List.getElem?_drop, List.getElem?_drop, Nat.add_zero, List.getElem?_eq_getElem (by omega), List.getElem?_eq_getElem e] at h1
        exact Option.some.inj h1
      have v : ((p.drop i).map c).sum = c p[i] + ((p.drop (i + 1)).map c).sum := by rw [List.drop_eq_getElem_cons e, List.map_cons, List.sum_cons]
      obtain ⟨w, x', o, D, E⟩ := s _ (List.getElem_mem e) m (by omega)
      obtain ⟨m', l', f, r, A⟩ := ih (i + 1) (l.set i x') w (by omega) (by omega) (by simp [g]) (by
        rw [List.drop_set_of_lt (by omega)]
        have := congrArg (List.drop 1) a
        simpa [List.drop_drop, Nat.add_comm 1 i] using this) (by omega)
      refine ⟨m', l', fun k hk => ?_, by omega, by omega⟩
      obtain ⟨k, rfl⟩ : ∃ q, k = q + 1 := ⟨k - 1, by omega⟩
      rw [o k l i (by simp; omega) (by rw [aX (by omega : i < l.length), j]), aG (by omega)]
      exact f k (by omega)
  intro m h
  have F : ((p.drop 0).map c).sum = (p.map c).sum := by simp
  obtain ⟨m', l', f, r, A⟩ := key p.length 0 p m (by omega) (by omega) rfl rfl (by omega)
  exact ⟨m', l', f aI (cw (by omega)), r, by omega⟩
end Go.Vk
/- What always answers. No program in sight. -/
namespace Go.Vk
def Tot {α : Type} (o : Option α) (Q : α → Prop) : Prop := ∃ v, o = some v ∧ Q v
theorem Tot.mono {α : Type} {o : Option α} {P Q : α → Prop} (h : Tot o P) (k : ∀ v, P v → Q v) : Tot o Q := by
  obtain ⟨v, e, h⟩ := h
  exact ⟨v, e, k v h⟩
theorem cx {α : Type} {v : α} {Q : α → Prop} (h : Q v) : Tot (some v) Q := ⟨v, rfl, h⟩
theorem Tot.bind {α β : Type} {o : Option α} {f : α → Option β} {P : α → Prop} {Q : β → Prop} (h : Tot o P) (k : ∀ v, P v → Tot (f v) Q) : Tot (o.bind f) Q := by
  obtain ⟨v, rfl, h⟩ := h
  exact k v h
theorem kl {α : Type} {c : Prop} [Decidable c] {a b : Option α} {Q : α → Prop} (h : c → Tot a Q) (h' : ¬ c → Tot b Q) : Tot (if c then a else b) Q := by
  split
  · exact h (by assumption)
  · exact h' (by assumption)
theorem wd {α : Type} {xs : List α} {i : Int} (h : 0 ≤ i ∧ i < xs.length) : Tot (idx xs i) (fun v => v ∈ xs ∧ ∃ j : Nat, i = j ∧ ∃ h : j < xs.length, v = xs[j]) := by
  obtain ⟨j, rfl⟩ : ∃ j : Nat, i = j := ⟨i.toNat, by omega⟩
  have a : j < xs.length := by omega
  rw [aX a]
  exact cx ⟨List.getElem_mem a, j, rfl, a, rfl⟩
theorem xK {σ ρ : Type} (Lp : Nat → σ → Int → Option ρ) (n : Nat) (I : Nat → σ → Prop) {Q : ρ → Prop}
    (a : ∀ k s, I n s → Tot (Lp (k + 1) s (n : Int)) Q)
    (c : ∀ k s i, i < n → I i s → (∀ s', I (i + 1) s' → Tot (Lp k s' ((i + 1 : Nat) : Int)) Q) → Tot (Lp (k + 1) s (i : Int)) Q)
    (e : n < 1000000000000) {s : σ} (f : I 0 s) : Tot (Lp aI s 0) Q := by
  have key : ∀ (d k i : Nat) (s : σ), n - i = d → d < k → i ≤ n → I i s → Tot (Lp k s (i : Int)) Q := by
    intro d
    induction d with
    | zero =>
      intro k i s g hk j h
      obtain ⟨k, rfl⟩ : ∃ q, k = q + 1 := ⟨k - 1, by omega⟩
      have : i = n := by omega
      subst this
      exact a k s h
    | succ d ih =>
      intro k i s g hk j h
      obtain ⟨k, rfl⟩ : ∃ q, k = q + 1 := ⟨k - 1, by omega⟩
      exact c k s i (by omega) h (fun s' h' => ih k (i + 1) s' (by omega) (by omega) (by omega) h')
  exact key n aI 0 s (by omega) (cw e) (Nat.zero_le _) f
theorem xX {α β ρ : Type} {p : List α} (g : α → β) (Lp : Nat → List β → Int → Option ρ) (fin : List β → Option ρ)
    (c : ∀ k l, Lp (k + 1) l (p.length : Int) = fin l)
    (e : ∀ k l (i : Nat) (h : i < p.length), l.length = i → Lp (k + 1) l (i : Int) = Lp k (l ++ [g p[i]]) ((i + 1 : Nat) : Int))
    (f : p.length < 1000000000000) : Lp aI [] 0 = fin (p.map g) := by
  have key : ∀ (d k i : Nat), p.length - i = d → d < k → i ≤ p.length → Lp k ((p.take i).map g) (i : Int) = fin (p.map g) := by
    intro d
    induction d with
    | zero =>
      intro k i j hk m
      obtain ⟨k, rfl⟩ : ∃ q, k = q + 1 := ⟨k - 1, by omega⟩
      have : i = p.length := by omega
      subst this
      rw [c, List.take_length]
    | succ d ih =>
      intro k i j hk m
      obtain ⟨k, rfl⟩ : ∃ q, k = q + 1 := ⟨k - 1, by omega⟩
      have a : i < p.length := by omega
      rw [e k _ i a (by simp; omega), ← ih k (i + 1) (by omega) (by omega) (by omega), List.take_succ_eq_append_getElem a, List.map_append]
      rfl
  exact key p.length aI 0 (by omega) (cw f) (Nat.zero_le _)
theorem sk {β ρ : Type} {n : Nat} (G : Nat → β) (Lp : Nat → List β → Int → Option ρ) (fin : List β → Option ρ)
    (a : ∀ k l, Lp (k + 1) l (n : Int) = fin l)
    (c : ∀ k l (i : Nat), i < n → l.length = i → Lp (k + 1) l (i : Int) = Lp k (l ++ [G i]) ((i + 1 : Nat) : Int))
    (e : n < 1000000000000) : Lp aI [] 0 = fin ((List.range n).map G) := by
  have key : ∀ (d k i : Nat), n - i = d → d < k → i ≤ n → Lp k ((List.range i).map G) (i : Int) = fin ((List.range n).map G) := by
    intro d
    induction d with
    | zero =>
      intro k i f hk g
      obtain ⟨k, rfl⟩ : ∃ q, k = q + 1 := ⟨k - 1, by omega⟩
      have : i = n := by omega
      subst this
      exact a _ _
    | succ d ih =>
      intro k i f hk g
      obtain ⟨k, rfl⟩ : ∃ q, k = q + 1 := ⟨k - 1, by omega⟩
      rw [c k _ i (by omega) (by simp), ← ih k (i + 1) (by omega) (by omega) (by omega), List.range_succ, List.map_append]
      rfl
  exact key n aI 0 (by omega) (cw e) (Nat.zero_le _)
end Go.Vk
/- A slice whose elements were handed over, and that is read on. A literal that holds what is borrowed. -/
namespace Go.Vk
open Go.RowKit
variable {P : Program} {n : Nat} {C : World → Prop} {E : Env} {m : Md} {l rest : List Oper} {w0 w : World} {M : List Nat} {L : List Res} {Q : Exit → Act → World → Prop}
end Go.Vk
/- dl of strings: converted, appended. -/
namespace Go.Vk
variable {P : Program} {n : Nat} {C : World → Prop} {E : Env} {m : Md} {l rest : List Oper} {w0 : World} {M : List Nat} {L : List Res} {Q : Exit → Act → World → Prop}
def byS (s : List UInt8) : List Int := s.map fun b => (b.toNat : Int)
def xm (s : List UInt8) : Option (List Int) := if s.length ≤ 68719476736 then some (byS s) else none
theorem ru (s : List UInt8) : (byS s).length = s.length := by simp [byS]
theorem zO {s : List UInt8} {zs : List Int} (h : xm s = some zs) : zs = byS s ∧ s.length ≤ 68719476736 := by
  unfold xm at h
  split at h
  · exact ⟨(Option.some.inj h).symm, ‹_›⟩
  · cases h
theorem Fg (s : List UInt8) : Lib.strCells ⟨s.toArray⟩ = (byS s).map (Value.int .u8) := by
  unfold Lib.strCells byS
  rw [List.map_map]
  rfl
theorem Po {o : Oper} {g h et : TypeId} {x : Operand} {s : List UInt8} {zs : List Int} (v : o.op = .convert g h x) (A : m.here (o :: rest) = true) (C : wt l E o.guard = some true) (D : gk n o.dst = true)
    (F : ev E x = some (vS s)) (h1 : zX P g) (G : isSl P h et) (H : ww P et .u8) (Q : xm s = some zs)
    (R : ∀ b c, Kp m (St w0 M (L ++ [Res.own (ae eU8 et) [b] zs [.slice (some ⟨b, 0, none⟩) zs.length c]])))
    (hk : ∀ b c, OW P n l (St w0 M (L ++ [Res.own (ae eU8 et) [b] zs [.slice (some ⟨b, 0, none⟩) zs.length c]])) (upd E o.dst (.slice (some ⟨b, 0, none⟩) zs.length c)) m rest) : OW P n l (St w0 M L) E m (o :: rest) :=
  kc A C fun a w q T _ _ V => by
    obtain ⟨rfl, X⟩ := zO Q
    have i := Lib.run_convert_string_bytes (P := P) w g h et ⟨s.toArray⟩ h1 G H
    have d : (⟨s.toArray⟩ : ByteArray).size = s.length := by simp [ByteArray.size]
    have r := grownCap_ge w s.length 0 et
    have t := grownCap_le_maxLen w s.length 0 et (by simp only [maxLen]; omega)
    have hcells : (Lib.bytesCells w et ⟨s.toArray⟩).toList = (byS s).map (Value.int .u8) ++ List.replicate (grownCap w s.length 0 et - s.length) (.int .u8 0) := by
      unfold Lib.bytesCells byS
      rw [d]
      simp [List.map_map]
    have j : nN (Lib.bytesWorld w et ⟨s.toArray⟩) w.heap.size (Lib.bytesCells w et ⟨s.toArray⟩) et := ⟨_, Lib.bytesWorld_at_new w et _, .inr (Nat.le_refl _)⟩
    have k : Ext [] w (Lib.bytesWorld w et ⟨s.toArray⟩) := ⟨rfl, rfl, rfl, by rw [Lib.bytesWorld_size]; omega, fun b p _ => Lib.bytesWorld_at_old w et _ b p⟩
    have u : LS (Value.int .u8) et w.heap.size (grownCap w s.length 0 et) (byS s) (Lib.bytesWorld w et ⟨s.toArray⟩) := by
      refine ⟨_, j, by rw [ru]; exact r, t, ?_, ?_⟩
      · have := congrArg List.length hcells
        simp only [Array.length_toList, List.length_append, List.length_map, List.length_replicate, ru] at this
        omega
      · rw [hcells]
        have e : (byS s).length = ((byS s).map (Value.int .u8)).length := by rw [List.length_map]
        rw [e, List.take_left]
    have f := T.push k (Res.own (ae eU8 et) [w.heap.size] (byS s) [.slice (some ⟨w.heap.size, 0, none⟩) (byS s).length (grownCap w s.length 0 et)]) (CA u) (by simp [Res.own]) (fun b p => by
      have : b = w.heap.size := by simpa [Res.own] using p
      subst this
      exact ⟨Nat.le_refl _, by rw [Lib.bytesWorld_size]; omega⟩)
    refine mW ?_ (V _ _ _ _ (hk _ _) (q.put _ _ (aV D)) f (R _ _ _ f))
    unfold execOp
    have hx' : ev E x = some (.string ⟨s.toArray⟩) := F
    simp only [v, q.ev hx', Sem.run_bind, i]
    rw [ru, d]
    rfl
theorem wB (w : World) (t u ty e : TypeId) (i : TypeInfo) (r : P.underlying t = some (.slice e)) (x : P.underlying u = some .string) (A : P.info? e = some i) (G : i.zero = some (.int .u8 0))
    (c : i.size = 1) (m : i.bytes = 1)
    (v : Value) (n : Nat) (xs : List Value) (a : qC w e 1 v n xs) (s : ByteArray)
    (f : n + s.size ≤ maxLen) (hbytes : n + s.size ≤ 140737488355328) :
    ∃ v' w', (Builtin.append_ #[t, u] ty #[v, .string s]).run P w = .ok v' w' ∧ qC w' e 1 v' (n + s.size) (xs ++ Lib.strCells s) ∧ w.grownBy w' v.ownBlock ∧
      (v' = .slice none 0 0 ↔ v = .slice none 0 0 ∧ s.size = 0) ∧ (v' = .slice none 0 0 ∨ v'.ownBlock = v.ownBlock ∨ v'.ownBlock = some w.heap.size) := by
  rcases a.2 with ⟨rfl, rfl⟩ | ⟨g, cap, cur, rfl, L, C, a5, M, E, D⟩
  · have h : xs.length = 0 := by simpa using a.1
    obtain ⟨v', w', r1, Q, Z, R⟩ := Lib.run_append_own_string (P := P) w 0 t u ty e i r x A G c m (.slice none 0 0) 0 xs ⟨a.1, .inl ⟨rfl, rfl⟩⟩ s f hbytes (Nat.zero_le _)
    refine ⟨v', w', r1, ⟨Q.1, ?_⟩, Z, R, ?_⟩
    · rcases Q.2 with q | ⟨g, cap, cur, q1, q2, q3, q4⟩
      · exact .inl q
      · exact .inr ⟨g, cap, cur, q1, q2, .of q3, q4⟩
    · by_cases h0 : s.size = 0
      · exact .inl (R.2 ⟨rfl, h0⟩)
      · have o := run_append_nil_string (P := P) w t u ty e i (.int .u8 0) r x A G s (by omega) (by simp only [maxLen] at f; omega) (by rw [m]; omega)
        rw [o] at r1
        cases r1
        exact .inr (.inr rfl)
  · have h : xs.length = n := by simpa using a.1
    have d : (xs ++ Lib.strCells s).length = (n + s.size) * 1 := by rw [List.length_append, h, Lib.strCells_length, Nat.mul_one]
    have hsmall : n + s.size ≤ 9223372036854775807 := by simp only [maxLen] at f; omega
    have hcs' : cur.size = cap := by simpa using E
    by_cases l : n + s.size ≤ cap
    · have o : (Builtin.append_ #[t, u] ty #[.slice (some ⟨g, 0, none⟩) n cap, .string s]).run P w =
          .ok (.slice (some ⟨g, 0, none⟩) (n + s.size) cap) (w.setRow g (cur.toList.take n ++ Lib.strCells s ++ cur.toList.drop (n + s.size)).toArray) := by
        obtain ⟨fz, C, T⟩ := C
        have hf := Lib.run_firstCells_string (P := P) w 1 s
        have F := pJ P g n e fz (Lib.strCells s) 0 cur w C (by rw [Lib.strCells_length]; rcases T with q | q; exact .inl q; exact .inr (by omega)) (by rw [Lib.strCells_length]; omega) (Lib.strCells_oneCell s)
        simp only [Nat.add_zero, Lib.strCells_length] at F
        simp [Builtin.append_, run_underlying r, run_underlying x, sizeOf, typeInfo, A, c, Builtin.lenOf, l, hf, Addr.add_lit, F]
      have p : (cur.toList.take n ++ Lib.strCells s ++ cur.toList.drop (n + s.size)).toArray.size = cur.size := by
        simp only [List.size_toArray, List.length_append, List.length_take, List.length_drop, Array.length_toList, Lib.strCells_length]
        omega
      refine ⟨_, _, o, ⟨d, .inr ⟨g, cap, _, rfl, L, C.set p, l, M, ?_, ?_⟩⟩, ⟨rfl, rfl, rfl, by simp, fun k _ hk => setRow_other w g k _ (fun e => hk (by simp [Value.ownBlock, e]))⟩, by simp, .inr (.inl rfl)⟩
      · rw [p]; exact E
      · have ht' : cur.toList.take n = xs := by simpa using D
        rw [ht', ← d]
        exact List.take_left
    · have holds : ∀ j u, xs[j]? = some u → w.cell? ((⟨g, 0, none⟩ : Addr).add j) = some u := a.cells (g := g) rfl
      have o := Lib.run_append_grow_string (P := P) w t u ty e i (.int .u8 0) r x A G ⟨g, 0, none⟩ n cap xs (by rw [c]; simpa using h) holds s (by omega) (by omega) (by rw [m]; exact growslice_fits (by omega) (by omega))
      have V := grownCap_ge w (n + s.size) cap e
      have H : grownCap w (n + s.size) cap e ≤ maxLen := grownCap_le_maxLen w (n + s.size) cap e f
      refine ⟨_, _, o, ⟨d, .inr ⟨w.heap.size, _, _, rfl, Nat.zero_le _, .of (heap_alloc_new w.drew _), V, H, ?_, ?_⟩⟩, ⟨rfl, rfl, rfl, by simp, fun k hk _ => heap_alloc_old w.drew _ hk⟩, by simp, .inr (.inr rfl)⟩
      · have X : (Value.int IntKind.u8 0).cells.size = 1 := rfl
        simp only [Array.size_append, List.size_toArray, size_zeroCells, X, h, Lib.strCells_length]
        omega
      · simp only [Array.toList_append, List.append_assoc]
        rw [← List.append_assoc, ← d]
        exact List.take_left
def PH (P : Program) (t : TypeId) : Prop := ∃ i, P.info? t = some i ∧ i.zero = some (Value.int .u8 0) ∧ i.size = 1 ∧ i.bytes = 1
theorem NG {P : Program} {t : TypeId} (h : (P.info? t).map (fun i => (i.zero, i.size, i.bytes)) = some (some (Value.int .u8 0), 1, 1)) : PH P t := by
  cases a : P.info? t with
  | none => rw [a] at h; cases h
  | some i =>
    rw [a] at h
    simp only [Option.map_some, Option.some.injEq, Prod.mk.injEq] at h
    exact ⟨i, a, h⟩
theorem ND {o : Oper} {t ts et : TypeId} {x y : Operand} {r : Nat} {F : List Nat} {xs bs zs : List Int} {a : Option Addr} {nn cap : Nat} {s : List UInt8}
    (ho : o.op = .call { callee := .builtin .append, args := #[x, y], argTypes := #[t, ts] }) (hm : m.here (o :: rest) = true) (hw : wt l E o.guard = some true) (hd : gk n o.dst = true) (hx : ev E x = some (.slice a nn cap)) (hy : ev E y = some (vS s))
    (ht : isSl P t et) (hu : zX P ts) (he : PH P et) (R : L[r]? = some (Res.own (ae eU8 et) F xs [.slice a nn cap])) (d : xm s = some bs) (hz : app xs bs = some zs)
    (hS : ∀ a' c' F', Kp m (St w0 M (L.set r (Res.own (ae eU8 et) F' zs [.slice a' zs.length c']))))
    (hk : ∀ a' c' F', OW P n l (St w0 M (L.set r (Res.own (ae eU8 et) F' zs [.slice a' zs.length c']))) (upd E o.dst (.slice a' zs.length c')) m rest) : OW P n l (St w0 M L) E m (o :: rest) := by
  obtain ⟨rfl, _⟩ := zO d
  obtain ⟨rfl, A⟩ := uR hz
  refine kc hm hw fun fr w C V _ _ hK => ?_
  obtain ⟨Z, c2, c3⟩ := V.one R
  obtain ⟨i, hi, a0, hs, a1⟩ := he
  obtain ⟨ds, F1, k, D, a2⟩ := IX (e := eU8) (T := et) Z
  obtain ⟨rfl, rfl⟩ := BJ D
  have p : (⟨s.toArray⟩ : ByteArray).size = s.length := by simp [ByteArray.size]
  rw [ru] at A
  have a3 : nn = xs.length := by
    rcases k.2 with ⟨q1, q2⟩ | ⟨g, cp, cur, q1, _, _⟩
    · cases q1; exact q2.symm
    · cases q1; rfl
  subst a3
  obtain ⟨v', w', G, hrow', f, c0, H⟩ := wB (P := P) w t ts o.type et i ht hu hi a0 hs a1 (.slice a xs.length cap) xs.length _ k ⟨s.toArray⟩ (by rw [p]; simp only [maxLen]; omega) (by rw [p]; omega)
  rw [p, Fg, ← List.map_append, show xs.length + s.length = (xs ++ byS s).length by rw [List.length_append, ru]] at hrow'
  obtain ⟨F', h, hF'⟩ := IG (e := eU8) hrow' (sE (xs ++ byS s)) (fun _ => rfl)
  have u : ∀ b, (Value.slice a xs.length cap).ownBlock = some b → b ∈ F := by
    intro b d
    rcases a2 with ⟨_, _, _, q⟩ | ⟨c, rfl, j⟩
    · rw [q] at d; cases d
    · rw [j] at d; cases d; simp
  have Q : Ext F w w' := ⟨f.os, f.tape, f.output, f.size, fun b d hn => f.block b d (fun e => hn (u b e.symm))⟩
  have hnd' : F'.Nodup := by
    rcases hF' with ⟨rfl, _⟩ | ⟨b, rfl, _⟩ <;> simp
  have hlt' : ∀ b ∈ F', b < w'.heap.size ∧ (b ∈ F ∨ w.heap.size ≤ b) := by
    intro b d
    refine ⟨(ae eU8 et).own_lt h b d, ?_⟩
    rcases hF' with ⟨rfl, _⟩ | ⟨c, rfl, j⟩
    · cases d
    · rw [List.mem_singleton.1 d]
      rcases H with q | q | q
      · rw [q] at j; cases j
      · rw [j] at q; exact .inl (u c q.symm)
      · rw [j] at q; cases q; exact .inr (Nat.le_refl _)
  obtain ⟨a', c', hv, _⟩ := (ae eU8 et).own_rd (X := []) h (by simp)
  simp only [List.cons.injEq, and_true] at hv
  subst hv
  have v : St w0 M (L.set r (Res.own (ae eU8 et) F' (xs ++ byS s) [.slice a' (xs ++ byS s).length c'])) w' := V.upd R Q _ h hnd' hlt'
  refine mW ?_ (hK _ _ _ _ (hk a' c' F') (C.put _ _ (aV hd)) v (hS a' c' F' _ v))
  unfold execOp
  have hy' : ev E y = some (.string ⟨s.toArray⟩) := hy
  simp only [ho, resolve, invoke, builtin, Sem.run_bind, Sem.run_pure, Result.andThen_ok, List.map_toArray, List.map_cons, List.map_nil, C.ev hx, C.ev hy', G]
theorem Ng {o : Oper} {t et : TypeId} {x : Operand} {r b : Nat} {F : List Nat} {xs : List Int} {nn cap : Nat} (V : o.op = .convert t t x) (X : m.here (o :: rest) = true) (Z : wt l E o.guard = some true) (hd : gk n o.dst = true)
    (hx : ev E x = some (.slice (some ⟨b, 0, none⟩) nn cap)) (ht : isSl P t et) (he : ww P et .u8) (k : L[r]? = some (Res.own (ae eU8 et) F xs [.slice (some ⟨b, 0, none⟩) nn cap]))
    (hS : Kp m (St w0 M L)) (hk : OW P n l (St w0 M L) (upd E o.dst (.slice (some ⟨b, 0, none⟩) nn cap)) m rest) : OW P n l (St w0 M L) E m (o :: rest) :=
  kc X Z fun a w C D _ _ hK => by
    obtain ⟨G, i, H⟩ := D.one k
    rcases G with ⟨_, _, hv⟩ | ⟨b', cap', cur, f, ds, rfl, j, h, h1, h2, h3, h4, h5⟩
    · cases hv
    · simp only [List.cons.injEq, Value.slice.injEq, Option.some.injEq, Addr.mk.injEq, and_true] at j
      obtain ⟨rfl, rfl, rfl⟩ := j
      obtain ⟨fr, h, Q⟩ := h
      have R : w.shape? b = some (et, cur.size) := by simp [World.shape?, h]
      have p : (w.freeze ⟨b, cur.size, none⟩ 1).heap[b]? = some (.cells cur et (if fr.1 == fr.2 then (cur.size, cur.size + 1) else (min fr.1 cur.size, max fr.2 (cur.size + 1)))) := by
        obtain ⟨lo, hi⟩ := fr
        simp [World.freeze, Array.getElem?_modify, h]
      have hold : ∀ c, c ≠ b → (w.freeze ⟨b, cur.size, none⟩ 1).heap[c]? = w.heap[c]? := fun c d => by
        simp [World.freeze, Array.getElem?_modify, Ne.symm d]
      have s : nN (w.freeze ⟨b, cur.size, none⟩ 1) b cur et := by
        refine ⟨_, p, ?_⟩
        by_cases u : fr.1 = fr.2
        · rw [if_pos (by simpa using u)]
          exact .inr (Nat.le_refl _)
        · rw [if_neg (by simpa using u)]
          right
          show cur.size ≤ min fr.1 cur.size
          rcases Q with q | q
          · exact absurd q u
          · omega
      have v : Ext (b :: f) w (w.freeze ⟨b, cur.size, none⟩ 1) := ⟨rfl, rfl, rfl, by simp [World.freeze], fun c _ hn => hold c (fun e => hn (by simp [e]))⟩
      have T : ∀ c ∈ f, c ≠ b := fun c d e => (List.nodup_cons.1 i).1 (e ▸ d)
      have A : (Res.own (ae eU8 et) (b :: f) xs [.slice (some ⟨b, 0, none⟩) xs.length cap]).ok (w.freeze ⟨b, cur.size, none⟩ 1) :=
        .inr ⟨b, cap, cur, f, ds, rfl, rfl, s, h1, h2, h3, h4, mK h5 (fun c d => hold c (T c d))⟩
      have g := D.upd k v _ A i (fun c d => ⟨by simpa [World.freeze] using H c d, .inl d⟩)
      have hL : L.set r (Res.own (ae eU8 et) (b :: f) xs [.slice (some ⟨b, 0, none⟩) xs.length cap]) = L := by
        obtain ⟨hl, hg⟩ := List.getElem?_eq_some_iff.1 k
        rw [← hg]
        exact List.set_getElem_self hl
      rw [hL] at g
      refine mW ?_ (hK _ _ _ _ hk (C.put _ _ (aV hd)) g (hS _ g))
      have ht' : P.underlying t = some (.slice et) := ht
      have he' : P.underlying et = some (.int .u8) := he
      unfold execOp
      simp [V, C.ev hx, convert, run_underlying ht', run_underlying he', markStringish, R]
def Ns : Nat → List Value → List (Nat × List Value)
  | _, [] => []
  | i, v :: r => (i, [v]) :: Ns (i + 1) r
theorem DF : ∀ (vs a z : List Value), z.length = vs.length → yJ (a ++ z) (Ns a.length vs) = a ++ vs
  | [], a, z, h => by rw [List.length_eq_zero_iff.1 h]; rfl
  | v :: r, a, [], h => by cases h
  | v :: r, a, x :: z, h => by
    have e : fY (a ++ x :: z) a.length [v] = (a ++ [v]) ++ z := by simp [fY]
    have := DF r (a ++ [v]) z (by simpa using h)
    rw [List.length_append] at this
    show yJ (fY (a ++ x :: z) a.length [v]) (Ns (a.length + 1) r) = _
    rw [e, show a.length + 1 = a.length + [v].length from rfl, this]
    simp
theorem Lz {z vs : List Value} {qs : List (Nat × List Value)} (a : qs = Ns 0 vs) (c : z.length = vs.length) : yJ z qs = vs := by
  subst a
  exact DF vs [] z c
end Go.Vk
/- The steps of a walk, said shortly. -/
namespace Go.Vk
variable {P : Program} {n : Nat} {C : World → Prop} {E : Env} {m : Md} {l rest : List Oper} {w0 : World} {M : List Nat} {L : List Res} {Q : Exit → Act → World → Prop}
theorem bE {α β : Type} {o : Option α} {f : α → Option β} {r : β} {G : Prop} (h : o.bind f = some r) (k : ∀ z, o = some z → f z = some r → G) : G := by
  obtain ⟨z, h1, a⟩ := xI h
  exact k z h1 a
theorem cI {α : Type} {x : Operand} {c d : Code} {b : Bool} {A B r : Option α} (H : (if b then A else B) = r) (e : ev E x = some (.bool b)) (f : A = r → CW P n C E Q c) (g : B = r → CW P n C E Q d) : CW P n C E Q (.cond x c d) :=
  xr e (fun a => f (aO a H)) (fun a => g (aN a H))
theorem o1 {o : Oper} {v : Value} (h : (wt l E o.guard, gk n o.dst) = (some true, true)) (a : Ry P n (m.cls C) E o v) (k : OW P n l C (upd E o.dst v) m rest) : OW P n l C E m (o :: rest) := by
  obtain ⟨h1, c⟩ := Prod.mk.inj h
  exact FF h1 (aV c) a k
theorem r1 (off i : Nat) {o : Oper} {t : TypeId} {x : Operand} {b : Nat} {v : Value} {sz by_ : Nat} {z : List Value} {T : TypeId} {cs : List Value} (h1 : (o.op, ev E x) = (.load t x, some (.pointer (some ⟨b, off, none⟩)))) (c : fG P t false sz by_ z)
    (a : (L[i]?, cs[off]?) = (some (Res.box b T cs), some v)) : Ry P n (St w0 M L) E o v := by
  obtain ⟨h1, d⟩ := Prod.mk.inj h1
  obtain ⟨a, e⟩ := Prod.mk.inj a
  exact NQ h1 d c (Cy a) e
theorem rx (off i : Nat) (ds : List Value) {o : Oper} {t : TypeId} {x : Operand} {b : Nat} {sz by_ : Nat} {z : List Value} {T : TypeId} {cs : List Value} (h1 : (o.op, ev E x) = (.load t x, some (.pointer (some ⟨b, off, none⟩)))) (d : fG P t true sz by_ z)
    (a : (L[i]?, (cs.drop off).take sz, ds.length) = (some (Res.box b T cs), ds, sz)) : Ry P n (St w0 M L) E o (.agg ds.toArray) := by
  obtain ⟨h1, e⟩ := Prod.mk.inj h1
  obtain ⟨a, c⟩ := Prod.mk.inj a
  obtain ⟨c, f⟩ := Prod.mk.inj c
  exact PG h1 e d (Cy a) c f
theorem ob (cs : List Value) {Q : Exit → Act → World → Prop} {o : Oper} {T : TypeId} {x : Operand} {v : Value} (h : (o.op, wt l E o.guard, gk n o.dst, ev E x, v.cells) = (.box T x, some true, true, some v, cs.toArray))
    (hk : ∀ b, OW P n l (St w0 M (L ++ [Res.box b T cs])) (upd E o.dst (.pointer (some ⟨b, 0, none⟩))) (.lex Q) rest) : OW P n l (St w0 M L) E (.lex Q) (o :: rest) := by
  simp only [Prod.mk.injEq] at h
  obtain ⟨h1, a, c, d, e⟩ := h
  exact OR h1 rfl a c d e (fun _ => kp) hk
theorem sC (off : Nat) (vs cs' : List Value) (i : Nat) {Q : Exit → Act → World → Prop} {o : Oper} {t : TypeId} {x y : Operand} {b : Nat} {v : Value} {agg : Bool} {sz by_ : Nat} {z : List Value} {T : TypeId} {cs : List Value}
    (h : (o.op, wt l E o.guard, gk n o.dst, ev E x, ev E y) = (.store t x y, some true, true, some (.pointer (some ⟨b, off, none⟩)), some v)) (c : fG P t agg sz by_ z)
    (a : (v.cells, vs.length, vs.all Value.oneCell', L[i]?, Nat.ble (off + sz) cs.length, fY cs off vs) = (vs.toArray, sz, true, some (Res.box b T cs), true, cs'))
    (hk : OW P n l (St w0 M (L.set i (Res.box b T cs'))) (upd E o.dst undef) (.lex Q) rest) : OW P n l (St w0 M L) E (.lex Q) (o :: rest) := by
  simp only [Prod.mk.injEq] at h a
  obtain ⟨h1, d, e, f, g⟩ := h
  obtain ⟨j, k, m, p, q, r⟩ := a
  exact DQ vs cs' h1 rfl d e f g c j k (List.all_eq_true.1 m) p q r kp hk
theorem tt2 {α : Sort _} {β : α → Sort _} : ∀ a, β a → True := fun _ _ => trivial
theorem oq {o : Oper} {v : Value} (h : (m.loud (o :: rest), wt l E o.guard, gk n o.dst) = (true, some true, true)) (a : Qy P n C E o v) (c : ∀ w, C w → m.keeps w) (k : OW P n l C (upd E o.dst v) m rest) : OW P n l C E m (o :: rest) := by
  simp only [Prod.mk.injEq] at h
  exact Dw h.1 h.2.1 (aV h.2.2) a c k
theorem qc {o : Oper} {f : FuncId} {xs : List Operand} {ts : Array TypeId} {vs : List Value} {v : Value} (h : (o.op, evs E xs) = (.call { callee := .value (.func f), args := xs.toArray, argTypes := ts }, some vs)) (a : bj P f)
    (c : ∀ w, St w0 M L w → Calls P f vs.toArray w fun e w' => e = .returned v ∧ Ext [] w w') : Qy P n (St w0 M L) E o v := by
  obtain ⟨h1, d⟩ := Prod.mk.inj h
  exact Jk h1 a d c
theorem q1 {v : Value} : ∀ w, St w0 M L w → (Ending.returned v = .returned v ∧ Ext M w0 w) := fun _ h => ⟨rfl, h.ext⟩
theorem sb {E : Env} : ∀ {R : Env}, R.map (fun p => tY E p.1) = R.map (fun p => some p.2) → Sub R E
  | [], _ => trivial
  | (t, v) :: R, h => by
    simp only [List.map_cons, List.cons.injEq] at h
    exact ⟨h.1, sb h.2⟩
abbrev eI : Enc Int := la (Value.int .i64) (fun _ => rfl)
theorem oP {P : Program} {n : Nat} {C : World → Prop} {m : Md} {l rest rest' : List Oper} {E E' : Env} (h : BN n l [Hk.p (P := P)] rest E = some (rest', E')) (k : OW P n l C E' m rest') : OW P n l C E m rest := aa _ h k
theorem oPP {P : Program} {n : Nat} {C : World → Prop} {m : Md} {l rest rest' : List Oper} {E E' : Env} (h : BN n l [Hk.p (P := P), Hk.p (P := P)] rest E = some (rest', E')) (k : OW P n l C E' m rest') : OW P n l C E m rest := aa _ h k
theorem nQ {P : Program} {n : Nat} {C : World → Prop} {E : Env} {Q : Exit → Act → World → Prop} {l : List Oper} {y : Code} (h : CW P n C E Q y) : OW P n l C E (.lex (QS P y Q)) [] := ay (am h)
theorem sR {P : Program} {n : Nat} {C : World → Prop} {E : Env} {Q : Exit → Act → World → Prop} {y : Code} {id : Nat} {l : List Oper} (h : OW P n l C E (.lex (QS P y Q)) l) : CW P n C E Q (.seq (.region id l.toArray false) y) := ah (aH h)
theorem nR {P : Program} {n : Nat} {C : World → Prop} {E : Env} {Q : Exit → Act → World → Prop} {l l' : List Oper} {y : Code} {id : Nat} (h : OW P n l' C E (.lex (QS P y Q)) l') : OW P n l C E (.lex (QS P (.seq (.region id l'.toArray false) y) Q)) [] := ay (am (ah (aH h)))
theorem nT {P : Program} {n : Nat} {C : World → Prop} {E : Env} {Q : Exit → Act → World → Prop} {l : List Oper} (h : XW n C E Q .ret) : OW P n l C E (.lex (QS P .ret Q)) [] := ay (am (sG h))
theorem cS : (∀ {α β : Type} (a : α) (f : α → Option β), (some a).bind f = f a) ∧ (!true) = false ∧ (false = true) = False ∧ (∀ {α : Type} {_ : Decidable False} (t e : α), (if False then t else e) = e) := ⟨fun _ _ => rfl, rfl, Bool.false_eq_true, fun _ _ => if_false ..⟩
theorem kS (k : Nat) (h : 0 < k) : ∃ q, k = q + 1 := ⟨k - 1, by omega⟩
theorem bS {α β : Type} (a : α) (f : α → Option β) : (some a).bind f = f a := rfl
theorem nl {a b : Nat} (h : Nat.ble a b = true) : a ≤ b := Nat.le_of_ble_eq_true h
theorem tk {w0 : World} {M : List Nat} {L L' : List Res} (k : Nat) (a : L.take k = L') : ∀ w, St w0 M L w → St w0 M L' w := fun _ h => h.take k a
abbrev e8 : Enc Int := la (Value.int .u8) (fun _ => rfl)
theorem al {l : List Value} (h : l.all (fun u => u.oneCell') = true) : ∀ u ∈ l, u.oneCell' = true := fun u a => List.all_eq_true.1 h u a
theorem ss {w0 : World} {M : List Nat} {L L' : List Res} (idx : List Nat) (a : lb L idx = L') (c : wg idx = true) : ∀ w, St w0 M L w → St w0 M L' w := fun _ h => St.sel idx a c h
theorem sm {w0 : World} {M : List Nat} {L L' : List Res} (bs : List Bool) (a : oM bs L = L') : ∀ w, St w0 M L w → St w0 M L' w := fun _ h => St.mask bs a h
end Go.Vk
/- Common steps of a walk, several at once. -/
namespace Go.Vk
variable {P : Program} {n : Nat} {C : World → Prop} {E : Env} {m : Md} {l rest : List Oper} {w0 : World} {M : List Nat} {L : List Res} {Q : Exit → Act → World → Prop}
def rvs (E : Env) : List ResultVar → Option (List Value)
  | [] => some []
  | .tmp t :: rs => match tY E t, rvs E rs with
    | some v, some vs => some (v :: vs)
    | _, _ => none
  | _ :: _ => none
theorem EV : ∀ {rs : List ResultVar} {vs : List Value}, rvs E rs = some vs → Ic P C E rs vs
  | [], vs, h => by cases h; trivial
  | .tmp t :: rs, vs, h => by
    unfold rvs at h
    split at h
    · rename_i v vs' h1 a
      obtain rfl := Option.some.inj h
      exact ⟨h1, EV a⟩
    · cases h
  | .cell _ _ :: _, _, h => by cases h
theorem xw {v : Value} {rs : List ResultVar} {vs : List Value} {fn : Func} (h : (fn.results, rvs E rs, Al vs) = (rs.toArray, some vs, v)) :
    XW n (St w0 M L) E (bodyPost P fn fun en w' => en = .returned v ∧ Ext M w0 w') .ret := by
  simp only [Prod.mk.injEq] at h
  exact Iz h.1 (EV h.2.1) fun w a => ⟨by rw [h.2.2], a.ext⟩
theorem xo {R : Ending → World → Prop} {v : Value} {rs : List ResultVar} {vs : List Value} {fn : Func} (h : (fn.results, rvs E rs, Al vs) = (rs.toArray, some vs, v)) (k : ∀ w, C w → R (.returned v) w) : XW n C E (bodyPost P fn R) .ret := by
  simp only [Prod.mk.injEq] at h
  exact Iz h.1 (EV h.2.1) fun w a => h.2.2 ▸ k w a
theorem xc {R : Ending → World → Prop} {v : Value} {t : Tmp} {T : TypeId} {b sz by_ : Nat} {z cs : List Value} {rs : List ResultVar} {vs : List Value} {fn : Func} (i : Nat) (ty : fG P T true sz by_ z)
    (h : (fn.results, tY E t, L[i]?, cs.length, rvs E rs, Al (.agg cs.toArray :: vs)) = ((ResultVar.cell t T :: rs).toArray, some (.pointer (some ⟨b, 0, none⟩)), some (Res.box b T cs), sz, some vs, v)) (k : ∀ w, St w0 M L w → R (.returned v) w) : XW n (St w0 M L) E (bodyPost P fn R) .ret := by
  simp only [Prod.mk.injEq] at h
  exact Iz h.1 (vs := .agg cs.toArray :: vs) ⟨⟨_, cs, _, _, _, h.2.1, ty, wZ (T := T) 0 (Cy h.2.2.1) (by simp), h.2.2.2.1, rfl⟩, EV h.2.2.2.2.1⟩ fun w a => h.2.2.2.2.2 ▸ k w a
theorem ix1 {α : Type} {val : α → Value} {h1 : ∀ x, (val x).oneCell' = true} {o c : Oper} {t et : TypeId} {x i x2 : Operand} {by_ : Nat} {z : List Value} {xs : List α} {k : IntKind} {j : Int} {y : α} {a : Option Addr} {nn cap : Nat}
    (p : isSl P t et) (e : fG P et false 1 by_ z) (f : ∀ w, m.cls C w → mT (la val h1) w [] xs [.slice a nn cap]) (g : idx xs j = some y)
    (h : (o.op, wt l E o.guard, gk n o.dst, ev E x, ev E i) = (.indexAddr t x i, some true, true, some (.slice a nn cap), some (.int k j)))
    (d : (c.op, wt l (upd E o.dst (.pointer (some (Ao a j.toNat)))) c.guard, gk n c.dst, ev (upd E o.dst (.pointer (some (Ao a j.toNat)))) x2) = (.load et x2, some true, true, some (.pointer (some (Ao a j.toNat)))))
    (hk : OW P n l C (upd (upd E o.dst (.pointer (some (Ao a j.toNat)))) c.dst (val y)) m rest) : OW P n l C E m (o :: c :: rest) := by
  simp only [Prod.mk.injEq] at h d
  exact fb h.1 h.2.1 h.2.2.1 h.2.2.2.1 h.2.2.2.2 p e rfl f g (by rw [Nat.mul_one]) (FF d.2.1 (aV d.2.2.1) (aT d.1 d.2.2.2 e (mu f g)) hk)
theorem bq {β γ : Type} {X : Option β} {F : β → Option γ} {r : γ} {o : Oper} {f : FuncId} {xs : List Operand} {ts : Array TypeId} {vs : List Value} {v : β → Value} (H : X.bind F = some r) (a : bj P f)
    (c : ∀ z, X = some z → ∀ w, St w0 M L w → Calls P f vs.toArray w fun e w' => e = .returned (v z) ∧ Ext [] w w')
    (h : (o.op, evs E xs, m.loud (o :: rest), wt l E o.guard, gk n o.dst) = (.call { callee := .value (.func f), args := xs.toArray, argTypes := ts }, some vs, true, some true, true)) (d : ∀ w, St w0 M L w → m.keeps w)
    (k : ∀ z, F z = some r → OW P n l (St w0 M L) (upd E o.dst (v z)) m rest) : OW P n l (St w0 M L) E m (o :: rest) := by
  simp only [Prod.mk.injEq] at h
  exact bE H fun z g H => Dw h.2.2.1 h.2.2.2.1 (aV h.2.2.2.2) (Jk h.1 a h.2.1 (c z g)) d (k z H)
theorem cu2 (A B : Env) (k : Nat) (x : Nat × Value) (a : (A ++ B).map (fun p => tY E p.1) = (A ++ B).map (fun p => some p.2)) (hk : OW P n l C (x :: A) m (rest.drop k)) (c : OW P n l C (x :: A) m (rest.drop k) → OW P n l C (A ++ B) m rest) : OW P n l C E m rest :=
  OW.sub (c hk) (sb a)
end Go.Vk
/- The library's functions of strings, by their contracts: joined, repeated, numbers in decimal; a table of the library's that is read. -/
namespace Go.Vk
open Go.RowKit Go.Proofs Go.Shelf
variable {P : Program} {ρ : Ren}
def Pd (P : Program) (name : String) (vs : Array Value) : Enc Unit where
  sz := 0
  rd := fun w X _ cs => cs = [] ∧ ∃ g t m, P.globalNamed name = some g ∧ g ∉ X ∧ w.heap[g]? = some (.cells vs t m)
  own := fun _ _ _ _ => False
  rd_len := fun h => by rw [h.1]; rfl
  rd_loc := fun ⟨d, g, t, m, h1, c, a⟩ h => ⟨d, g, t, m, h1, c, by
    rw [h g (by
      rcases Nat.lt_or_ge g _ with hl | hl
      · exact hl
      · rw [Array.getElem?_eq_none hl] at a; cases a) c]
    exact a⟩
  rd_anti := fun ⟨d, g, t, m, h1, c, a⟩ h => ⟨d, g, t, m, h1, fun e => c (h g (by
      rcases Nat.lt_or_ge g _ with hl | hl
      · exact hl
      · rw [Array.getElem?_eq_none hl] at a; cases a) e), a⟩
  own_loc := fun h _ => h.elim
  own_rd := fun h _ => h.elim
  own_lt := fun h => h.elim
  one := fun h u f => by rw [h.1] at f; cases f
theorem PI {name : String} {k : IntKind} {zs : List Int} {w : World} {X : List Nat} {cs : List Value} (h : (Pd P name (zs.map fun z => Value.int k z).toArray).rd w X () cs) : Lib.TabIs P w name k zs := by
  obtain ⟨_, g, t, m, h1, _, a⟩ := h
  unfold Lib.TabIs World.var?
  rw [h1]
  simp [a]
theorem PL {name : String} {k : IntKind} {zs : List Int} {w : World} (h : Lib.TabIs P w name k zs) : (Pd P name (zs.map fun z => Value.int k z).toArray).rd w [] () [] := by
  unfold Lib.TabIs World.var? at h
  obtain ⟨g, h1, a⟩ := Option.bind_eq_some_iff.1 h
  split at a
  · rename_i cs t m c
    obtain rfl := Option.some.inj a
    exact ⟨rfl, g, t, m, h1, by simp, c⟩
  · cases a
theorem vO {w w' : World} (h : Below w.heap.size w w') : Ext [] w w' := ⟨h.os, h.tape, h.output, h.size, fun b a _ => h.block b a⟩
def Js (n : Int) : Option (List UInt8) := if -9223372036854775808 ≤ n ∧ n ≤ 9223372036854775807 then some (Lib.itoa n) else none
abbrev Fq (P : Program) : Enc Unit := Pd P "internal/strconv.uint64pow10" (Lib.pow10Tab.map fun z => Value.int .u64 z).toArray
theorem Nw (L : LaysM.n171 P ρ) (w : World) {n : Int} {z : List UInt8} (h : Js n = some z) (g : (Fq P).rd w [] () []) :
    Calls P (ρ.f 171) #[.int .i64 n] w (fun en w' => en = .returned (vS z) ∧ Ext [] w w') := by
  unfold Js at h
  split at h
  · rename_i a
    obtain rfl := Option.some.inj h
    refine (Any.strconv_Itoa L n a.1 a.2 w (PI g)).mono fun en w' ⟨h1, k, os, c⟩ => ⟨h1, ?_⟩
    subst c
    refine ⟨rfl, rfl, rfl, ?_, fun b d _ => ?_⟩
    · show w.heap.size ≤ (w.heap ++ os).size
      simp
    · show (w.heap ++ os)[b]? = w.heap[b]?
      rw [Array.getElem?_append_left d]
  · cases h
def vg (xs : List (List UInt8)) (sep : List UInt8) : Option (List UInt8) := if xs.length ≤ 140737488355328 ∧ (Lib.join xs sep).length ≤ 140737488355328 then some (Lib.join xs sep) else none
theorem AY (L : Lays.n156 P ρ) (X : Builder.Extra P ρ) (w : World) {xs : List (List UInt8)} {sep z : List UInt8} {T : TypeId} {a : Option Addr} {n c : Nat} (h : vg xs sep = some z) (g : (ae bC T).rd w [] xs [.slice a n c]) :
    Calls P (ρ.f 156) #[.slice a n c, vS sep] w (fun en w' => en = .returned (vS z) ∧ Ext [] w w') := by
  unfold vg at h
  split at h
  · rename_i v
    obtain rfl := Option.some.inj h
    obtain ⟨a', c', A, h1, Q, F⟩ := g
    simp only [List.cons.injEq, Value.slice.injEq, and_true] at A
    obtain ⟨rfl, rfl, rfl⟩ := A
    have C : (xs.map fun l => (⟨l.toArray⟩ : ByteArray)).map (·.data.toList) = xs := by
      rw [List.map_map]
      exact (List.map_congr_left (fun l _ => by simp)).trans (List.map_id _)
    cases e : xs with
    | nil =>
      subst e
      refine (Any.strings_Join_none L X a c ⟨sep.toArray⟩ w).mono fun en w' ⟨m, s⟩ => ⟨?_, ?_⟩
      · rw [m]; rfl
      · rw [s]; exact Ext.refl _ _
    | cons x r =>
      obtain ⟨p, rfl, G⟩ := F (by rw [e]; simp)
      have k : ∀ j y, xs[j]? = some y → w.cell? (p.add j) = some (vS y) := fun j y d => by
        obtain ⟨ds, t, H⟩ := G j y d
        have t : ds = [vS y] := t
        subst t
        have := H.2 0 (vS y) rfl
        have M : bC.sz = 1 := rfl
        rw [M, Nat.mul_one] at this
        rwa [dp] at this
      have i := k 0 x (by rw [e]; rfl)
      have D := World.block_lt_of_cell? w _ i
      obtain ⟨bk, o, sp⟩ := p
      have E : sp = none := by
        cases sp with
        | none => rfl
        | some q =>
          rw [dp] at i
          unfold World.cell? at i
          split at i <;> simp at i
      subst E
      rw [← e]
      have key := Any.strings_Join L X bk o c (xs.map fun l => (⟨l.toArray⟩ : ByteArray)) ⟨sep.toArray⟩ w (fun j y d => by
        rw [List.getElem?_map] at d
        cases u : xs[j]? with
        | none => rw [u] at d; cases d
        | some l =>
          rw [u] at d
          obtain rfl := Option.some.inj d
          have := k j l u
          rw [dy] at this
          exact this) (by rw [dp] at D; exact D) (by rw [List.length_map]; exact v.1) (by rw [List.length_map]; exact h1) (by rw [C]; simpa using v.2)
      rw [List.length_map, C] at key
      refine key.mono fun en w' ⟨m, s⟩ => ⟨?_, vO s⟩
      rw [m]
      simp [vS]
  · cases h
theorem Pc {n : Nat} {S : World → Prop} {E : Env} {o : Oper} {x y : Operand} {ts : Array TypeId} {k k' : IntKind} {a b : Int} (d : o.op = .call { callee := .builtin .max, args := #[x, y], argTypes := ts }) (e : ev E x = some (.int k a)) (f : ev E y = some (.int k' b)) : Ry P n S E o (.int k (if a < b then b else a)) := fun fr c w g => by
  unfold execOp
  simp [d, resolve, invoke, builtin, c.ev e, c.ev f, Builtin.max_, Builtin.max2, List.foldlM]
end Go.Vk
