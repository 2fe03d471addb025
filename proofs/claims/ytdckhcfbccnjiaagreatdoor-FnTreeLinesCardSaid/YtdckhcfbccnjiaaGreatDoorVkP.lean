/- Plain laws of the loops that copy, compare, mark and weigh. No program in sight. -/
import Derived.Test.YtdckhcfbccnjiaaGreatDoorVkL
import Derived.IntWalk
import Derived.Test.YtdckhcfbccnjiaaGreatDoorVkG
import Derived.Deep.Slices
import Derived.ReadAgain
import Derived.ChangeSame
import Derived.ChangeMaps5
import Derived.ProofKit
import Derived.Shelf.Strings.OnBuilder
import Derived.Shelf.Strings.Repeat
import Derived.Shelf.Strconv.Itoa3
namespace Go.Vk
theorem bu {n : Int} (h0 : -9223372036854775808 ≤ n) (h1 : n ≤ 9223372036854775807) : IntKind.i64.wrap n = n := IntWalk.i64_in n ⟨h0, h1⟩
theorem jq {n : Nat} (h : n < 9223372036854775808) : IntKind.i64.wrap (n : Int) = n := bu (by omega) (by omega)
theorem aK {i : Nat} (h : i < 9223372036854775807) : IntKind.i64.wrap ((i : Int) + 1) = ((i + 1 : Nat) : Int) := by rw [bu (by omega) (by omega)]; simp
theorem bc {α : Type} {xs : List α} {i : Nat} (h : i < xs.length) : idx xs (i : Int) = some xs[i] := by simp [idx, h]
theorem cN {α : Type} {xs ys : List α} (h : xs.length + ys.length ≤ 68719476736) : app xs ys = some (xs ++ ys) := if_pos h
theorem xT (a b : Nat) : Int.tmod (a : Int) (b : Int) = ((a % b : Nat) : Int) := by rw [Int.tmod_eq_emod_of_nonneg (by omega)]; simp
theorem yF (a b : Nat) : Int.tdiv (a : Int) (b : Int) = ((a / b : Nat) : Int) := by rw [Int.tdiv_eq_ediv_of_nonneg (by omega)]; simp
theorem zu {α : Type} (z : α) {n : Nat} (h : n ≤ 68719476736) : mk z (n : Int) = some (List.replicate n z) := by
  unfold mk; rw [if_pos (by omega)]; simp
def CV {α : Type} (Mk : α → Int → Option (Int × α)) (Hd : α → Int → Option Int) (c : Nat) (x : α) : Prop :=
  ∀ m : Nat, m + c < 4611686018427387904 → ∃ (m' : Nat) (x' : α), Mk x (m : Int) = some ((m' : Int), x') ∧ Hd x' (m : Int) = some (m' : Int) ∧ m ≤ m' ∧ m' ≤ m + c
end Go.Vk
/- Bits of words that are not negative; truth of tests. No program in sight. -/
namespace Go.Vk
theorem ov {x a b : Int} (h : a ≤ x ∧ x ≤ b) : (decide (x ≥ a) && decide (x ≤ b)) = true := by simp; omega
theorem od {x a b : Int} (h : ¬ (a ≤ x ∧ x ≤ b)) : (decide (x ≥ a) && decide (x ≤ b)) = false := by
  simp only [Bool.and_eq_false_iff, decide_eq_false_iff_not]; omega
end Go.Vk
/- Loops over a list, as recursion over the list. No program in sight. -/
namespace Go.Vk
def run {α σ ρ : Type} (f : σ → α → Option ρ ⊕ σ) (fin : σ → Option ρ) : σ → List α → Option ρ
  | s, [] => fin s
  | s, x :: xs => match f s x with
    | .inl r => r
    | .inr s' => run f fin s' xs
end Go.Vk
/- Tests that are answered alike. No program in sight. -/
namespace Go.Vk
def Dec (o : Option Bool) (P : Prop) : Prop := ∃ b, o = some b ∧ (b = true ↔ P)
theorem Dec.eq {o o' : Option Bool} {P : Prop} (h : Dec o P) (h' : Dec o' P) : o = o' := by
  obtain ⟨b, rfl, h1⟩ := h
  obtain ⟨c, rfl, h2⟩ := h'
  rw [Bool.eq_iff_iff.2 (h1.trans h2.symm)]
theorem Dec.of_iff {o : Option Bool} {P Q : Prop} (h : Dec o P) (e : P ↔ Q) : Dec o Q := by
  obtain ⟨b, rfl, h1⟩ := h
  exact ⟨b, rfl, h1.trans e⟩
theorem Dec.cases {o : Option Bool} {P : Prop} (h : Dec o P) : (o = some true ∧ P) ∨ (o = some false ∧ ¬ P) := by
  obtain ⟨b, rfl, h1⟩ := h
  cases b
  · exact .inr ⟨rfl, fun p => by have := h1.2 p; cases this⟩
  · exact .inl ⟨rfl, h1.1 rfl⟩
theorem mW {P : Prop} (h : P) : Dec (some true) P := ⟨true, rfl, by simp [h]⟩
theorem cy {P : Prop} (h : ¬ P) : Dec (some false) P := ⟨false, rfl, by simp [h]⟩
theorem yo {x a b : Int} : Dec (some (decide (x ≥ a) && decide (x ≤ b))) (a ≤ x ∧ x ≤ b) := ⟨_, rfl, by simp⟩
theorem ku {Lp : Nat → Int → Option Bool} {n : Nat} {Q : Nat → Prop} (i0 : Nat) (hz : ∀ k (i : Nat), n ≤ i → Lp (k + 1) (i : Int) = some true)
    (hs : ∀ k (i : Nat), i0 ≤ i → i < n → (Q i ∧ Lp (k + 1) (i : Int) = Lp k ((i + 1 : Nat) : Int)) ∨ (¬ Q i ∧ Lp (k + 1) (i : Int) = some false)) (hn : n < 1000000000000) : Dec (Lp bh (i0 : Int)) (∀ i, i0 ≤ i → i < n → Q i) := by
  have key : ∀ (d k i : Nat), n - i = d → d < k → i0 ≤ i → Dec (Lp k (i : Int)) (∀ j, i ≤ j → j < n → Q j) := by
    intro d
    induction d with
    | zero =>
      intro k i hd hk hi
      obtain ⟨k, rfl⟩ : ∃ q, k = q + 1 := ⟨k - 1, by omega⟩
      rw [hz k i (by omega)]
      exact mW fun j h1 h2 => by omega
    | succ d ih =>
      intro k i hd hk hi
      obtain ⟨k, rfl⟩ : ∃ q, k = q + 1 := ⟨k - 1, by omega⟩
      rcases hs k i hi (by omega) with ⟨hq, e⟩ | ⟨hq, e⟩
      · rw [e]
        refine (ih k (i + 1) (by omega) (by omega) (by omega)).of_iff ⟨fun h j h1 h2 => ?_, fun h j h1 h2 => h j (by omega) h2⟩
        by_cases hj : j = i
        · rw [hj]; exact hq
        · exact h j (by omega) h2
      · rw [e]
        exact cy fun h => hq (h i (Nat.le_refl _) (by omega))
  exact key (n - i0) bh i0 rfl (eY (by omega)) (Nat.le_refl _)
theorem pw {Lp : Nat → Int → Option Int} {n : Nat} {Q : Nat → Prop} (hz : ∀ k (i : Nat), n ≤ i → Lp (k + 1) (i : Int) = some (-1))
    (hs : ∀ k (i : Nat), i < n → (Q i ∧ Lp (k + 1) (i : Int) = some (i : Int)) ∨ (¬ Q i ∧ Lp (k + 1) (i : Int) = Lp k ((i + 1 : Nat) : Int))) (hn : n < 1000000000000) :
    Dec ((Lp bh 0).bind fun y => some (decide (y ≥ 0))) (∃ i, i < n ∧ Q i) := by
  have key : ∀ (d k i : Nat), n - i = d → d < k → Dec ((Lp k (i : Int)).bind fun y => some (decide (y ≥ 0))) (∃ j, i ≤ j ∧ j < n ∧ Q j) := by
    intro d
    induction d with
    | zero =>
      intro k i hd hk
      obtain ⟨k, rfl⟩ : ∃ q, k = q + 1 := ⟨k - 1, by omega⟩
      rw [hz k i (by omega)]
      exact cy fun ⟨j, h1, h2, _⟩ => by omega
    | succ d ih =>
      intro k i hd hk
      obtain ⟨k, rfl⟩ : ∃ q, k = q + 1 := ⟨k - 1, by omega⟩
      rcases hs k i (by omega) with ⟨hq, e⟩ | ⟨hq, e⟩
      · rw [e]
        exact ⟨true, by simp, by simp; exact ⟨i, Nat.le_refl _, by omega, hq⟩⟩
      · rw [e]
        refine (ih k (i + 1) (by omega) (by omega)).of_iff ⟨fun ⟨j, h1, h2, h3⟩ => ⟨j, by omega, h2, h3⟩, fun ⟨j, h1, h2, h3⟩ => ⟨j, ?_, h2, h3⟩⟩
        by_cases hj : j = i
        · rw [hj] at h3; exact absurd h3 hq
        · omega
  refine (key n bh 0 rfl (eY (by omega))).of_iff ⟨fun ⟨j, _, h2, h3⟩ => ⟨j, h2, h3⟩, fun ⟨j, h2, h3⟩ => ⟨j, Nat.zero_le _, h2, h3⟩⟩
end Go.Vk
/- The statement's frame: arguments opened, the row's last step. -/
namespace Go.Vk
open Go.RowKit Go.WideShapes Go.ChangeShapes Go.Deep
section
variable {H : Type} {enc : TypeId × Value → H} {P : Program}
theorem wb {W W' : World} (hb : Below W.heap.size W W') {sp : Nat → Bool} {held : Bool} {n : Nat} {t : TypeId} {cs : List Value} {x : DataW H × List MemPlace} (h : DataW.trod enc P W 0 sp held n t cs = some x) : DataW.trod enc P W' 0 sp held n t cs = some x :=
  DataW.trod_carry n t cs x h (fun p hp => hb.same (DataW.trod_lt n t cs x h p hp))
theorem pN {W W' : World} (hb : Below W.heap.size W W') {sp : Nat → Bool} {held : Bool} : ∀ {ts : List TypeId} {vs : List Value} {ds : List (DataW H)} {ps : List MemPlace}, DataW.TrodAll enc P W 0 sp held ts vs ds ps → DataW.TrodAll enc P W' 0 sp held ts vs ds ps
  | [], [], [], _, h => h
  | _ :: _, _ :: _, _ :: _, _, ⟨p, q, ⟨n, h1⟩, h2, e⟩ => ⟨p, q, ⟨n, wb hb h1⟩, pN hb h2, e⟩
def AF (P : Program) : Bool := (List.range P.types.size).all fun t => match P.underlying t with | some (.slice e) => decide (0 < P.cellsOf e) | _ => true
theorem zd {f : Func} {s : ChangeSpec} {apart fresh handsOn again : Bool} {W W' : World} {args : Array Value} {ds gs : List (DataW H)} {before : List MemPlace} {tb : TypeId}
    (hW : DataW.Whole enc P f.params.toList s.vars apart W args.toList ds gs before) (hv : s.vars = []) (hl : laidOutB P = true) (hm : mapsRowed P = true) (hz : AF P = true) (hT : ∀ t ∈ f.params.toList, t < P.types.size)
    (hr : f.resultTypes = #[tb]) (htb : P.underlying tb = some .bool) (hfn : s.fn H ds = { results := [.lit (.bool true)], args := ds }) (hb : Below W.heap.size W W') :
    s.post enc P f apart fresh handsOn again W args (.bool true) W' := by
  have hlt : ∀ p ∈ before, p.block < W.heap.size := fun p hp => hW.lt p hp
  have hW' := hW
  obtain ⟨pa, pv, hA, hV, rfl, hfz, hnd⟩ := hW'
  rw [hv] at hV
  obtain ⟨rfl, rfl⟩ := trodVars_none hV
  have hfn' : s.fn H (ds ++ []) = { results := [.lit (.bool true)], args := ds } := by rw [List.append_nil]; exact hfn
  have hA' := pN hb hA
  have hsp : ∀ sp : Nat → Bool, (∀ p ∈ pa, sp p.block = true) → DataW.TrodAll enc P W' 0 sp true f.params.toList args.toList ds pa := fun sp h =>
    DataW.TrodAll.respare (kids_rows hl hm) (slices_full_of P hz) hT hA' h
  have hres : ∀ (b : Nat) (sp : Nat → Bool) (hd : Bool), DataW.TrodAll enc P W' b sp hd f.resultTypes.toList ((Value.bool true).resultList f.resultTypes.size) [.lit (.bool true)] [] := fun b sp hd => by
    rw [hr]; exact trodAll_mk1 (shut_bool htb _)
  refine ⟨ds, [], pa ++ [], [], pa, [], hW, ?_, ?_, ?_, World.keptBut_mono (fun p hp => ⟨hp, ?_⟩) (hb.frame (· ∈ pa ++ [])), fun _ => ?_⟩
  · rw [hfn']; exact hres _ _ _
  · rw [hfn']; exact hsp _ (fun p hp => by simpa using hlt p (by simpa using hp))
  · rw [hfn', hv]; exact rfl
  · simpa using hp
  · refine ⟨?_, _, [], ([] ++ pa) ++ [], ⟨[] ++ pa, [], trodAll_append (hsp _ (fun _ _ => rfl)) (hres _ _ _), ?_, rfl, ?_, ?_⟩, ?_⟩
    · exact ok_one hr rfl (okWide_bool_mk htb _)
    · rw [hv]; exact rfl
    · intro b off hp
      have hin : MemPlace.cell b off ∈ pa := by simpa using hp
      rw [hb.frozen (hlt _ (by simpa using hin))]
      exact hfz b off (by simpa using hin)
    · intro ha
      have := hnd ha
      simpa using this
    · intro p hp _
      simpa using hp
def Opn {α : Type} (P : Program) (t : TypeId) (e : Enc α) (Ok : α → Prop) : Prop :=
  ∀ {H : Type} {enc : TypeId × Value → H} {w : World} {sp : Nat → Bool} {n : Nat} {cs : List Value} {x : DataW H × List MemPlace}, DataW.trod enc P w 0 sp true n t cs = some x → ∃ a, e.rd w [] a cs ∧ Ok a
def yj (k : IntKind) (n : Int) : Prop := (Lit.int k n).wf = true
theorem Ae {t : TypeId} {k : IntKind} (ht : rA P t k) : Opn P t (jf (Value.int k) (fun _ => rfl)) (yj k) := fun {H enc w sp n cs x} h => by
  have ht' : P.underlying t = some (.int k) := ht
  cases n with
  | zero => simp [DataW.trod] at h
  | succ n =>
    unfold DataW.trod at h
    rw [ht'] at h
    split at h <;> simp_all
    case h_2 heq =>
      obtain ⟨⟨rfl, h2⟩, _⟩ := h
      exact ⟨_, rfl, h2⟩
theorem zw {w : World} {a : Addr} {n : Nat} {cs : List Value} (h : w.cells? 0 a n = some cs) : At w [] a cs ∧ cs.length = n := by
  unfold World.cells? at h
  rw [if_pos (Nat.zero_le _)] at h
  have hl : cs.length = n := by simpa using mapM_some_length h
  refine ⟨⟨fun _ => by simp, fun j v hv => ?_⟩, hl⟩
  have hj : j < n := by rw [← hl]; exact (List.getElem?_eq_some_iff.1 hv).1
  have := mapM_some_get h j j (by simp [hj])
  rw [this, hv]
theorem zp {α : Type} {e : Enc α} {Ok : α → Prop} {t et : TypeId} (ht : isSl P t et) (he : Opn P et e Ok) (hc : P.cellsOf et = e.sz) : Opn P t (af e et) (fun xs => xs.length ≤ maxLen ∧ ∀ x ∈ xs, Ok x) := fun {H enc w sp n cs x} h => by
  rcases open_slice ht h with ⟨rfl, _⟩ | ⟨a, len, cap, m, n', D, Pl, rfl, _, hl, hm, hmm, _, hel⟩
  · exact ⟨[], Ac, by simp, by simp⟩
  · have hex : ∀ i, i < len → ∃ y, (∃ ds, e.rd w [] y ds ∧ At w [] (a.add (i * e.sz)) ds) ∧ Ok y := fun i hi => by
      obtain ⟨cs', h1, h2⟩ := hel i (by rw [hmm]; split <;> omega)
      obtain ⟨y, h3, h4⟩ := he h2
      exact ⟨y, ⟨cs', h3, by rw [← hc]; exact (zw h1).1⟩, h4⟩
    have : ∃ xs : List α, xs.length = len ∧ ∀ i x, xs[i]? = some x → (∃ ds, e.rd w [] x ds ∧ At w [] (a.add (i * e.sz)) ds) ∧ Ok x := by
      clear hl hm hmm hel h
      rename_i hx0
      clear hx0
      induction len with
      | zero => exact ⟨[], rfl, by simp⟩
      | succ k ih =>
        obtain ⟨xs, h1, h2⟩ := ih (fun i hi => hex i (by omega))
        obtain ⟨y, hy⟩ := hex k (by omega)
        refine ⟨xs ++ [y], by simp [h1], fun i x hx => ?_⟩
        by_cases hi : i < k
        · rw [List.getElem?_append_left (by omega)] at hx; exact h2 i x hx
        · have hik : i = k := by
            have := (List.getElem?_eq_some_iff.1 hx).1
            simp [h1] at this; omega
          subst hik
          rw [List.getElem?_append_right (by omega), h1] at hx
          simp at hx; subst hx; exact hy
    obtain ⟨xs, hlen, hxs⟩ := this
    refine ⟨xs, ⟨some a, cap, by rw [hlen], by omega, hm, fun _ => ⟨a, rfl, fun i x hx => (hxs i x hx).1⟩⟩, by omega, fun x hx => ?_⟩
    obtain ⟨i, hi⟩ := List.mem_iff_getElem?.1 hx
    exact (hxs i x hi).2
theorem zk {w : World} {r : Reach} {b0 : Nat} {t et : TypeId} {v : Value} (ht : isSl P t et) (h : Value.okWide P w r b0 t v) : v.cells.toList = [v] := by
  have ht' : P.underlying t = some (.slice et) := ht
  cases v with
  | agg cs => simp [Value.okWide, ht', Cell.okWide, Cell.ok] at h
  | _ => rfl
theorem Bm {α : Type} {e : Enc α} {Ok : α → Prop} {w : World} {r : Reach} {b0 : Nat} {t et : TypeId} {v : Value} {d : DataW H} {ps : List MemPlace} (ht : isSl P t et) (ho : Opn P t e Ok) (h : Value.okWide P w r b0 t v) (hd : DataW.Trod enc P w 0 (fun _ => true) true t v d ps) : ∃ a, e.rd w [] a [v] ∧ Ok a := by
  obtain ⟨n, hd⟩ := hd
  rw [zk ht h] at hd
  exact ho hd
end
end Go.Vk
/- Arguments that are structs, opened. -/
namespace Go.Vk
open Go.RowKit Go.WideShapes Go.ChangeShapes Go.Deep
section
variable {H : Type} {enc : TypeId × Value → H} {P : Program}
def CK (P : Program) (t : TypeId) : Option (List (TypeId × Nat)) :=
  match P.underlying t with
  | some (.struct fs) => some (fs.toList.map fun f => (f.type, f.offset))
  | _ => none
end
end Go.Vk
/- What the statement's frame says of whole numbers. -/
namespace Go.Vk
end Go.Vk
/- Loops by index; sums. No program in sight. -/
namespace Go.Vk
theorem sM {ρ : Type} {Lp : Nat → Nat → Option ρ} {n : Nat} {Q : Nat → Prop} {fin bad : Option ρ} (hz : ∀ k, (∀ j, j < n → Q j) → Lp (k + 1) n = fin)
    (hs : ∀ k i, i < n → (∀ j, j < i → Q j) → (Q i ∧ Lp (k + 1) i = Lp k (i + 1)) ∨ (¬ Q i ∧ Lp (k + 1) i = bad)) (hn : n < 1000000000000) :
    ((∀ j, j < n → Q j) ∧ Lp bh 0 = fin) ∨ ((¬ ∀ j, j < n → Q j) ∧ Lp bh 0 = bad) := by
  have key : ∀ (d k i : Nat), n - i = d → d < k → i ≤ n → (∀ j, j < i → Q j) → ((∀ j, j < n → Q j) ∧ Lp k i = fin) ∨ ((¬ ∀ j, j < n → Q j) ∧ Lp k i = bad) := by
    intro d
    induction d with
    | zero =>
      intro k i hd hk hi hq
      obtain ⟨k, rfl⟩ : ∃ q, k = q + 1 := ⟨k - 1, by omega⟩
      have : i = n := by omega
      subst this
      exact .inl ⟨hq, hz k hq⟩
    | succ d ih =>
      intro k i hd hk hi hq
      obtain ⟨k, rfl⟩ : ∃ q, k = q + 1 := ⟨k - 1, by omega⟩
      rcases hs k i (by omega) hq with ⟨h1, h2⟩ | ⟨h1, h2⟩
      · rw [h2]
        exact ih k (i + 1) (by omega) (by omega) (by omega) (fun j hj => by
          by_cases h : j = i
          · subst h; exact h1
          · exact hq j (by omega))
      · exact .inr ⟨fun g => h1 (g i (by omega)), h2⟩
  exact key n bh 0 rfl (eY hn) (Nat.zero_le _) (fun j hj => by omega)
theorem qD {ρ : Type} {Lp : Nat → Nat → Option ρ} {n : Nat} {fin : Option ρ} (hz : ∀ k, Lp (k + 1) n = fin) (hs : ∀ k i, i < n → Lp (k + 1) i = Lp k (i + 1)) (hn : n < 1000000000000) : Lp bh 0 = fin := by
  rcases sM (Lp := Lp) (n := n) (Q := fun _ => True) (fin := fin) (bad := none) (fun k _ => hz k) (fun k i hi _ => .inl ⟨trivial, hs k i hi⟩) hn with ⟨_, h⟩ | ⟨h, _⟩
  · exact h
  · exact absurd (fun _ _ => trivial) h
theorem qJ {Lp : Nat → Nat → Option Bool} {n : Nat} {Q : Nat → Prop} {F : Prop} (hz : ∀ k, (∀ j, j < n → Q j) → Dec (Lp (k + 1) n) F)
    (hs : ∀ k i, i < n → (∀ j, j < i → Q j) → (Q i ∧ Lp (k + 1) i = Lp k (i + 1)) ∨ (¬ Q i ∧ Lp (k + 1) i = some false)) (hn : n < 1000000000000) : Dec (Lp bh 0) ((∀ j, j < n → Q j) ∧ F) := by
  have key : ∀ (d k i : Nat), n - i = d → d < k → i ≤ n → (∀ j, j < i → Q j) → Dec (Lp k i) ((∀ j, j < n → Q j) ∧ F) := by
    intro d
    induction d with
    | zero =>
      intro k i hd hk hi hq
      obtain ⟨k, rfl⟩ : ∃ q, k = q + 1 := ⟨k - 1, by omega⟩
      have : i = n := by omega
      subst this
      exact (hz k hq).of_iff ⟨fun h => ⟨hq, h⟩, fun h => h.2⟩
    | succ d ih =>
      intro k i hd hk hi hq
      obtain ⟨k, rfl⟩ : ∃ q, k = q + 1 := ⟨k - 1, by omega⟩
      rcases hs k i (by omega) hq with ⟨h1, h2⟩ | ⟨h1, h2⟩
      · rw [h2]
        exact ih k (i + 1) (by omega) (by omega) (by omega) (fun j hj => by
          by_cases h : j = i
          · subst h; exact h1
          · exact hq j (by omega))
      · rw [h2]
        exact cy fun g => h1 (g.1 i (by omega))
  exact key n bh 0 rfl (eY hn) (Nat.zero_le _) (fun j hj => by omega)
theorem vI {p : List Int} {i : Nat} (h : i < p.length) : (p.take (i + 1)).sum = (p.take i).sum + p[i] := by
  rw [List.take_succ_eq_append_getElem h, List.sum_append]
  simp
theorem ra {p : List Int} {b : Int} (hb : ∀ x ∈ p, 0 ≤ x ∧ x ≤ b) : 0 ≤ p.sum ∧ p.sum ≤ b * p.length := by
  induction p with
  | nil => simp
  | cons x p ih =>
    have h1 := hb x (by simp)
    have h2 := ih (fun y hy => hb y (by simp [hy]))
    simp only [List.sum_cons, List.length_cons]
    have : b * ((p.length + 1 : Nat) : Int) = b * p.length + b := by rw [Int.natCast_add, Int.mul_add]; simp
    omega
theorem zb {α : Type} {p : List α} {i : Nat} {x : α} (h : x ∈ p.take i) : x ∈ p := List.mem_of_mem_take h
theorem vL {α ρ : Type} {p : List α} (v : α → Int) (Lp : Nat → Int → Int → Option ρ) (fin : Int → Option ρ) (hz : ∀ k s, Lp (k + 1) s (p.length : Int) = fin s)
    (hs : ∀ k s (i : Nat) (h : i < p.length), Lp (k + 1) s (i : Int) = Lp k (IntKind.i64.wrap (s + v p[i])) ((i + 1 : Nat) : Int)) (hb : ∀ x ∈ p, 0 ≤ v x ∧ v x ≤ 1000000000) (hl : p.length ≤ 1000000000) : Lp bh 0 0 = fin (p.map v).sum := by
  have hb' : ∀ x ∈ p.map v, 0 ≤ x ∧ x ≤ 1000000000 := fun x hx => by
    obtain ⟨y, hy, rfl⟩ := List.mem_map.1 hx
    exact hb y hy
  have := qD (Lp := fun k i => Lp k ((p.map v).take i).sum (i : Int)) (n := p.length) (fin := fin (p.map v).sum) (fun k => by
    show Lp _ _ _ = _
    rw [hz, List.take_of_length_le (by simp)]) (fun k i hi => by
    show Lp _ _ _ = Lp _ _ _
    have h1 := ra (p := (p.map v).take (i + 1)) (b := 1000000000) (fun x hx => hb' x (zb hx))
    rw [hs _ _ _ hi]
    rw [vI (by simpa using hi)] at h1 ⊢
    rw [List.getElem_map] at h1 ⊢
    have h2 : ((p.map v).take (i + 1)).length ≤ 1000000000 := by simp; omega
    rw [bu (by omega) (by omega)]) (by omega)
  simpa using this
theorem Dec.and {o o' : Option Bool} {P Q : Prop} (h : Dec o P) (h' : P → Dec o' Q) : Dec (o.bind fun y => if y then o' else some false) (P ∧ Q) := by
  rcases h.cases with ⟨rfl, p⟩ | ⟨rfl, p⟩
  · exact (h' p).of_iff ⟨fun q => ⟨p, q⟩, fun q => q.2⟩
  · exact cy fun q => p q.1
end Go.Vk
/- CV, step by step. No program in sight. -/
namespace Go.Vk
end Go.Vk
namespace Go.Vk
end Go.Vk
/- What always answers. No program in sight. -/
namespace Go.Vk
def Tot {α : Type} (o : Option α) (Q : α → Prop) : Prop := ∃ v, o = some v ∧ Q v
theorem Tot.mono {α : Type} {o : Option α} {P Q : α → Prop} (h : Tot o P) (k : ∀ v, P v → Q v) : Tot o Q := by
  obtain ⟨v, e, h⟩ := h
  exact ⟨v, e, k v h⟩
theorem aA {α : Type} {v : α} {Q : α → Prop} (h : Q v) : Tot (some v) Q := ⟨v, rfl, h⟩
theorem Tot.bind {α β : Type} {o : Option α} {f : α → Option β} {P : α → Prop} {Q : β → Prop} (h : Tot o P) (k : ∀ v, P v → Tot (f v) Q) : Tot (o.bind f) Q := by
  obtain ⟨v, rfl, h⟩ := h
  exact k v h
theorem bg {α : Type} {c : Prop} [Decidable c] {a b : Option α} {Q : α → Prop} (h : c → Tot a Q) (h' : ¬ c → Tot b Q) : Tot (if c then a else b) Q := by
  split
  · exact h (by assumption)
  · exact h' (by assumption)
theorem gf {α : Type} {xs : List α} {i : Int} (h : 0 ≤ i ∧ i < xs.length) : Tot (idx xs i) (fun v => v ∈ xs ∧ ∃ j : Nat, i = j ∧ ∃ h : j < xs.length, v = xs[j]) := by
  obtain ⟨j, rfl⟩ : ∃ j : Nat, i = j := ⟨i.toNat, by omega⟩
  have hj : j < xs.length := by omega
  rw [bc hj]
  exact aA ⟨List.getElem_mem hj, j, rfl, hj, rfl⟩
theorem jR {α : Type} {xs ys : List α} (h : xs.length + ys.length ≤ 68719476736) : Tot (app xs ys) (fun v => v = xs ++ ys) := by
  rw [cN h]; exact aA rfl
theorem vZ {α : Type} {z : α} {n : Int} (h : 0 ≤ n ∧ n ≤ 68719476736) : Tot (mk z n) (fun v => v = List.replicate n.toNat z) := by
  unfold mk; rw [if_pos h]; exact aA rfl
theorem nr {α : Type} {xs : List α} {lo hi : Int} (h : 0 ≤ lo ∧ lo ≤ hi ∧ hi ≤ xs.length) : Tot (sub xs lo hi) (fun v => v = (xs.drop lo.toNat).take (hi.toNat - lo.toNat)) := by
  unfold sub; rw [if_pos h]; exact aA rfl
theorem cT {σ ρ : Type} (Lp : Nat → σ → Int → Option ρ) (n : Nat) (I : Nat → σ → Prop) {Q : ρ → Prop}
    (hz : ∀ k s, I n s → Tot (Lp (k + 1) s (n : Int)) Q)
    (hs : ∀ k s i, i < n → I i s → (∀ s', I (i + 1) s' → Tot (Lp k s' ((i + 1 : Nat) : Int)) Q) → Tot (Lp (k + 1) s (i : Int)) Q)
    (hn : n < 1000000000000) {s : σ} (h0 : I 0 s) : Tot (Lp bh s 0) Q := by
  have key : ∀ (d k i : Nat) (s : σ), n - i = d → d < k → i ≤ n → I i s → Tot (Lp k s (i : Int)) Q := by
    intro d
    induction d with
    | zero =>
      intro k i s hd hk hi h
      obtain ⟨k, rfl⟩ : ∃ q, k = q + 1 := ⟨k - 1, by omega⟩
      have : i = n := by omega
      subst this
      exact hz k s h
    | succ d ih =>
      intro k i s hd hk hi h
      obtain ⟨k, rfl⟩ : ∃ q, k = q + 1 := ⟨k - 1, by omega⟩
      exact hs k s i (by omega) h (fun s' h' => ih k (i + 1) s' (by omega) (by omega) (by omega) h')
  exact key n bh 0 s (by omega) (eY hn) (Nat.zero_le _) h0
theorem pj {α β ρ : Type} {p : List α} (g : α → β) (Lp : Nat → List β → Int → Option ρ) (fin : List β → Option ρ)
    (hz : ∀ k l, Lp (k + 1) l (p.length : Int) = fin l)
    (hs : ∀ k l (i : Nat) (h : i < p.length), l.length = i → Lp (k + 1) l (i : Int) = Lp k (l ++ [g p[i]]) ((i + 1 : Nat) : Int))
    (hp : p.length < 1000000000000) : Lp bh [] 0 = fin (p.map g) := by
  have key : ∀ (d k i : Nat), p.length - i = d → d < k → i ≤ p.length → Lp k ((p.take i).map g) (i : Int) = fin (p.map g) := by
    intro d
    induction d with
    | zero =>
      intro k i hd hk hi
      obtain ⟨k, rfl⟩ : ∃ q, k = q + 1 := ⟨k - 1, by omega⟩
      have : i = p.length := by omega
      subst this
      rw [hz, List.take_length]
    | succ d ih =>
      intro k i hd hk hi
      obtain ⟨k, rfl⟩ : ∃ q, k = q + 1 := ⟨k - 1, by omega⟩
      have hlt : i < p.length := by omega
      rw [hs k _ i hlt (by simp; omega), ← ih k (i + 1) (by omega) (by omega) (by omega), List.take_succ_eq_append_getElem hlt, List.map_append]
      rfl
  exact key p.length bh 0 (by omega) (eY hp) (Nat.zero_le _)
theorem yv (x : Int) : 0 ≤ iI .and .i64 x 255 ∧ iI .and .i64 x 255 ≤ 255 := by
  unfold iI
  show 0 ≤ IntKind.i64.wrap ((BitVec.ofInt 64 x &&& BitVec.ofInt 64 255).toNat : Int) ∧ IntKind.i64.wrap ((BitVec.ofInt 64 x &&& BitVec.ofInt 64 255).toNat : Int) ≤ 255
  have h : (BitVec.ofInt 64 x &&& BitVec.ofInt 64 255).toNat ≤ 255 := by
    rw [BitVec.toNat_and]
    exact Nat.and_le_right
  rw [jq (by omega)]
  omega
theorem wO {x n : Int} (h0 : 0 ≤ x) (hn : 0 < n) : Tot (rem x n) (fun r => 0 ≤ r ∧ r < n) := by
  unfold rem
  rw [if_neg (by omega), Int.tmod_eq_emod_of_nonneg h0]
  exact aA ⟨Int.emod_nonneg _ (by omega), Int.emod_lt_of_pos _ hn⟩
end Go.Vk
/- A slice whose elements were handed over, and that is read on. A literal that holds what is borrowed. -/
namespace Go.Vk
open Go.RowKit
variable {P : Program} {n : Nat} {C : World → Prop} {E : Env} {m : Md} {l rest : List Oper} {w0 w : World} {M : List Nat} {L : List Res} {Q : Exit → Act → World → Prop}
end Go.Vk
/- The steps of a walk, said shortly. -/
namespace Go.Vk
variable {P : Program} {n : Nat} {C : World → Prop} {E : Env} {m : Md} {l rest : List Oper} {w0 : World} {M : List Nat} {L : List Res} {Q : Exit → Act → World → Prop}
theorem bE {α β : Type} {o : Option α} {f : α → Option β} {r : β} {G : Prop} (h : o.bind f = some r) (k : ∀ z, o = some z → f z = some r → G) : G := by
  obtain ⟨z, h1, h2⟩ := zL h
  exact k z h1 h2
theorem cI {α : Type} {x : Operand} {c d : Code} {b : Bool} {A B r : Option α} (H : (if b then A else B) = r) (hx : ev E x = some (.bool b)) (ht : A = r → CW P n C E Q c) (hf : B = r → CW P n C E Q d) : CW P n C E Q (.cond x c d) :=
  Cm hx (fun hb => ht (bb hb H)) (fun hb => hf (ba hb H))
theorem o1 {o : Oper} {v : Value} (h : (wt l E o.guard, gI n o.dst) = (some true, true)) (hq : Ry P n (m.cls C) E o v) (k : OW P n l C (upd E o.dst v) m rest) : OW P n l C E m (o :: rest) := by
  obtain ⟨h1, h2⟩ := Prod.mk.inj h
  exact vD h1 (ax h2) hq k
theorem r1 (off i : Nat) {o : Oper} {t : TypeId} {x : Operand} {b : Nat} {v : Value} {sz by_ : Nat} {z : List Value} {T : TypeId} {cs : List Value} (h1 : (o.op, ev E x) = (.load t x, some (.pointer (some ⟨b, off, none⟩)))) (ht : fp P t false sz by_ z)
    (h2 : (L[i]?, cs[off]?) = (some (Res.box b T cs), some v)) : Ry P n (St w0 M L) E o v := by
  obtain ⟨h1, h3⟩ := Prod.mk.inj h1
  obtain ⟨h2, h4⟩ := Prod.mk.inj h2
  exact zG h1 h3 ht (bK h2) h4
theorem rx (off i : Nat) (ds : List Value) {o : Oper} {t : TypeId} {x : Operand} {b : Nat} {sz by_ : Nat} {z : List Value} {T : TypeId} {cs : List Value} (h1 : (o.op, ev E x) = (.load t x, some (.pointer (some ⟨b, off, none⟩)))) (ht : fp P t true sz by_ z)
    (h2 : (L[i]?, (cs.drop off).take sz, ds.length) = (some (Res.box b T cs), ds, sz)) : Ry P n (St w0 M L) E o (.agg ds.toArray) := by
  obtain ⟨h1, h3⟩ := Prod.mk.inj h1
  obtain ⟨h2, h4⟩ := Prod.mk.inj h2
  obtain ⟨h4, h5⟩ := Prod.mk.inj h4
  exact BO h1 h3 ht (bK h2) h4 h5
theorem ob (cs : List Value) {Q : Exit → Act → World → Prop} {o : Oper} {T : TypeId} {x : Operand} {v : Value} (h : (o.op, wt l E o.guard, gI n o.dst, ev E x, v.cells) = (.box T x, some true, true, some v, cs.toArray))
    (hk : ∀ b, OW P n l (St w0 M (L ++ [Res.box b T cs])) (upd E o.dst (.pointer (some ⟨b, 0, none⟩))) (.lex Q) rest) : OW P n l (St w0 M L) E (.lex Q) (o :: rest) := by
  simp only [Prod.mk.injEq] at h
  obtain ⟨h1, h2, h3, h4, h5⟩ := h
  exact Bl h1 rfl h2 h3 h4 h5 (fun _ => kp) hk
theorem sC (off : Nat) (vs cs' : List Value) (i : Nat) {Q : Exit → Act → World → Prop} {o : Oper} {t : TypeId} {x y : Operand} {b : Nat} {v : Value} {agg : Bool} {sz by_ : Nat} {z : List Value} {T : TypeId} {cs : List Value}
    (h : (o.op, wt l E o.guard, gI n o.dst, ev E x, ev E y) = (.store t x y, some true, true, some (.pointer (some ⟨b, off, none⟩)), some v)) (ht : fp P t agg sz by_ z)
    (h2 : (v.cells, vs.length, vs.all Value.oneCell', L[i]?, Nat.ble (off + sz) cs.length, fK cs off vs) = (vs.toArray, sz, true, some (Res.box b T cs), true, cs'))
    (hk : OW P n l (St w0 M (L.set i (Res.box b T cs'))) (upd E o.dst undef) (.lex Q) rest) : OW P n l (St w0 M L) E (.lex Q) (o :: rest) := by
  simp only [Prod.mk.injEq] at h h2
  obtain ⟨h1, h3, h4, h5, h6⟩ := h
  obtain ⟨g1, g2, g3, g4, g5, g6⟩ := h2
  exact bo vs cs' h1 rfl h3 h4 h5 h6 ht g1 g2 (List.all_eq_true.1 g3) g4 g5 g6 kp hk
theorem tt2 {α : Sort _} {β : α → Sort _} : ∀ a, β a → True := fun _ _ => trivial
theorem oq {o : Oper} {v : Value} (h : (m.loud (o :: rest), wt l E o.guard, gI n o.dst) = (true, some true, true)) (hq : Qy P n C E o v) (hS : ∀ w, C w → m.keeps w) (k : OW P n l C (upd E o.dst v) m rest) : OW P n l C E m (o :: rest) := by
  simp only [Prod.mk.injEq] at h
  exact zM h.1 h.2.1 (ax h.2.2) hq hS k
theorem qc {o : Oper} {f : FuncId} {xs : List Operand} {ts : Array TypeId} {vs : List Value} {v : Value} (h : (o.op, evs E xs) = (.call { callee := .value (.func f), args := xs.toArray, argTypes := ts }, some vs)) (hf : bP P f)
    (hc : ∀ w, St w0 M L w → Calls P f vs.toArray w fun e w' => e = .returned v ∧ Ext [] w w') : Qy P n (St w0 M L) E o v := by
  obtain ⟨h1, h2⟩ := Prod.mk.inj h
  exact Ai h1 hf h2 hc
theorem xr (t : Nat) {fn : Func} {R : Ending → World → Prop} {v : Value} (h : (fn.results, oV E t) = (#[.tmp t], some v)) (hR : ∀ w, C w → R (.returned v) w) : XW n C E (bodyPost P fn R) .ret := by
  obtain ⟨h1, h2⟩ := Prod.mk.inj h
  exact aY (rs := [.tmp t]) (vs := [v]) h1 ⟨h2, trivial⟩ hR
theorem q1 {v : Value} : ∀ w, St w0 M L w → (Ending.returned v = .returned v ∧ Ext M w0 w) := fun _ h => ⟨rfl, h.ext⟩
theorem sb {E : Env} : ∀ {R : Env}, R.map (fun p => oV E p.1) = R.map (fun p => some p.2) → Sub R E
  | [], _ => trivial
  | (t, v) :: R, h => by
    simp only [List.map_cons, List.cons.injEq] at h
    exact ⟨h.1, sb h.2⟩
abbrev eI : Enc Int := jf (Value.int .i64) (fun _ => rfl)
theorem oP {P : Program} {n : Nat} {C : World → Prop} {m : Md} {l rest rest' : List Oper} {E E' : Env} (h : su n l [vO.p (P := P)] rest E = some (rest', E')) (k : OW P n l C E' m rest') : OW P n l C E m rest := aa _ h k
theorem oPP {P : Program} {n : Nat} {C : World → Prop} {m : Md} {l rest rest' : List Oper} {E E' : Env} (h : su n l [vO.p (P := P), vO.p (P := P)] rest E = some (rest', E')) (k : OW P n l C E' m rest') : OW P n l C E m rest := aa _ h k
theorem nQ {P : Program} {n : Nat} {C : World → Prop} {E : Env} {Q : Exit → Act → World → Prop} {l : List Oper} {y : Code} (h : CW P n C E Q y) : OW P n l C E (.lex (QS P y Q)) [] := ay (az h)
theorem sR {P : Program} {n : Nat} {C : World → Prop} {E : Env} {Q : Exit → Act → World → Prop} {y : Code} {id : Nat} {l : List Oper} (h : OW P n l C E (.lex (QS P y Q)) l) : CW P n C E Q (.seq (.region id l.toArray false) y) := ak (aT h)
theorem nR {P : Program} {n : Nat} {C : World → Prop} {E : Env} {Q : Exit → Act → World → Prop} {l l' : List Oper} {y : Code} {id : Nat} (h : OW P n l' C E (.lex (QS P y Q)) l') : OW P n l C E (.lex (QS P (.seq (.region id l'.toArray false) y) Q)) [] := ay (az (ak (aT h)))
theorem nT {P : Program} {n : Nat} {C : World → Prop} {E : Env} {Q : Exit → Act → World → Prop} {l : List Oper} (h : XW n C E Q .ret) : OW P n l C E (.lex (QS P .ret Q)) [] := ay (az (pT h))
theorem AC {P : Program} {n : Nat} {C : World → Prop} {m : Md} {l rest : List Oper} {E : Env} (C' : World → Prop) (R : Env) (k : Nat) (hk : OW P n l C' R m (rest.drop k)) (hs : OW P n l C' R m (rest.drop k) → OW P n l C E m rest) : OW P n l C E m rest := hs hk
theorem BS {P : Program} {n : Nat} {C : World → Prop} {E : Env} {l rest : List Oper} {Q : Exit → Act → World → Prop} {α : Type} {e : Enc α} {T : TypeId} {o : Oper} {t : TypeId} {x : Operand} {xs : List (List α)} {j : Int} {y : List α} {a : Option Addr} {nn cap sz by_ : Nat} {z : List Value} {q : Addr}
    (ho : o.op = .load t x) (hw : wt l E o.guard = some true) (hd : gI n o.dst = true) (hx : ev E x = some (.pointer (some q))) (ht : fp P t false sz by_ z)
    (hS : ∀ w, C w → ig (af e T) w [] xs [.slice a nn cap]) (hj : idx xs j = some y) (hq : q = sf a (j.toNat * 1))
    (hk : ∀ a' c', OW P n l C (upd E o.dst (.slice a' y.length c')) (.lex Q) rest) : OW P n l C E (.lex Q) (o :: rest) := fun act w hF hC => by
  subst hq
  obtain ⟨h0, hl, h2⟩ := dg hj
  obtain ⟨a1, cap1, hv, _, _, hel⟩ := hS w hC
  simp only [List.cons.injEq, Value.slice.injEq, and_true] at hv
  obtain ⟨rfl, rfl, rfl⟩ := hv
  obtain ⟨p, rfl, hp⟩ := hel (fun e => by subst e; simp at hl)
  obtain ⟨ds, hd', hA⟩ := hp _ y h2
  obtain ⟨a', c', rfl, _⟩ := hd'
  exact BI (C := fun w1 => w1 = w) hw (ax hd) (Ry.qy (aF ho hx ht (fun w1 hw1 => by subst hw1; exact hA))) (fun a2 w2 hF2 hw2 => by subst hw2; exact hk a' c' a2 _ hF2 hC) act w hF rfl
theorem uZ {α : Type} {e : Enc α} {w : World} {xs : List α} : ∀ {F : List Nat} {ds : List Value} (k : Nat), fw e w F xs ds → ∃ F', F'.Sublist F ∧ fw e w F' (xs.take k) (ds.take (k * e.sz)) := by
  induction xs with
  | nil =>
    intro F ds k h
    obtain ⟨rfl, rfl⟩ := h
    exact ⟨[], List.Sublist.refl _, by simp only [List.take_nil]; exact ⟨rfl, rfl⟩⟩
  | cons x xs ih =>
    intro F ds k h
    cases k with
    | zero => exact ⟨[], List.nil_sublist _, by rw [Nat.zero_mul]; exact ⟨rfl, rfl⟩⟩
    | succ k =>
      obtain ⟨F1, F2, c1, c2, rfl, rfl, h1, h3, h2⟩ := h
      obtain ⟨F', hs, ho⟩ := ih k h2
      refine ⟨F1 ++ F', List.Sublist.append (List.Sublist.refl _) hs, F1, F', c1, c2.take (k * e.sz), rfl, ?_, h1, h3, ho⟩
      rw [List.take_append, h1, Nat.add_mul, Nat.one_mul, List.take_of_length_le (by omega), Nat.add_sub_cancel]
theorem St.trunc {α : Type} {e : Enc α} {T : TypeId} {F : List Nat} {xs ys : List α} {a : Option Addr} {nn cap sz i : Nat} {hi : Int} {w0 w : World} {M : List Nat} {L : List Res} (h : St w0 M L w) (hL : L[i]? = some (Res.own (af e T) F xs [.slice a nn cap])) (hs : sub xs 0 hi = some ys) (hz : e.sz = sz) :
    ∃ F', St w0 M (kH L [i] ++ [Res.own (af e T) F' ys [.slice (oS a cap (0 : Int).toNat sz) ys.length (cap - (0 : Int).toNat)]]) w := by
  subst hz
  have hL' : jr L [i] = [Res.own (af e T) F xs [.slice a nn cap]] := by simp only [iU, mU, hL]
  obtain ⟨hok, hnd, hlt⟩ := h.one hL
  obtain ⟨_, h1, h2, rfl⟩ := pc hs
  simp only [Int.toNat_zero, List.drop_zero, Nat.sub_zero]
  obtain ⟨k, rfl⟩ : ∃ k : Nat, hi = k := ⟨hi.toNat, by omega⟩
  simp only [Int.toNat_natCast]
  have hok : lQ e T w F xs [.slice a nn cap] := hok
  rcases hok with ⟨rfl, rfl, hv⟩ | ⟨b, cap', cur, F1, ds, rfl, hv, hb, k1, k2, k3, k4, k5⟩
  · simp only [List.cons.injEq, Value.slice.injEq, and_true] at hv
    obtain ⟨rfl, rfl, rfl⟩ := hv
    refine ⟨[], h.comp [i] hL' rfl ⟨Ext.refl _ _, ?_, ?_, ?_, ?_⟩⟩
    · intro s hs; rw [List.mem_singleton.1 hs]
      exact .inl ⟨by simp, rfl, by simp [oS]⟩
    · rw [eK]; exact List.nodup_nil
    · intro c hc; rw [eK] at hc; cases hc
    · intro c hc; rw [eK] at hc; cases hc
  · simp only [List.cons.injEq, Value.slice.injEq, and_true] at hv
    obtain ⟨rfl, rfl, rfl⟩ := hv
    obtain ⟨F', hs', ho⟩ := uZ k k5
    have hsub : ∀ c ∈ b :: F', c ∈ b :: F1 := fun c hc => by
      rcases List.mem_cons.1 hc with rfl | hc
      · exact List.mem_cons_self ..
      · exact List.mem_cons_of_mem _ (hs'.mem hc)
    have hkl : k ≤ xs.length := by omega
    refine ⟨b :: F', h.comp [i] hL' rfl ⟨Ext.refl _ _, ?_, ?_, ?_, ?_⟩⟩
    · intro s hs; rw [List.mem_singleton.1 hs]
      refine .inr ⟨b, cap, cur, F', _, rfl, ?_, hb, by rw [List.length_take]; omega, k2, k3, rfl, ?_⟩
      · unfold oS
        split
        · rfl
        · simp [dG]
      · rw [← k4, List.take_take] at ho
        rw [List.length_take, Nat.min_eq_left hkl]
        rw [Nat.min_eq_left (Nat.mul_le_mul_right _ hkl)] at ho
        exact ho
    · rw [eK]
      exact List.Sublist.nodup (List.Sublist.cons_cons b hs') hnd
    · intro c hc; rw [eK] at hc; exact hlt c (hsub c hc)
    · intro c hc; rw [eK] at hc; rw [eK]; exact .inr (hsub c hc)
theorem sS : (∀ {α β : Type} (a : α) (f : α → Option β), (some a).bind f = f a) ∧ (!true) = false ∧ (!false) = true ∧ (false = true) = False ∧ (∀ b : Bool, (true || b) = true) ∧ (∀ b : Bool, (false || b) = b) ∧ (∀ b : Bool, (b || true) = true) ∧ (∀ b : Bool, (b || false) = b) ∧ (∀ b : Bool, (true && b) = b) ∧ (∀ b : Bool, (false && b) = false) ∧ (∀ b : Bool, (b && true) = b) ∧ (∀ b : Bool, (b && false) = false) ∧ (∀ {α : Type} {_ : Decidable True} (t e : α), (if True then t else e) = t) ∧ (∀ {α : Type} {_ : Decidable False} (t e : α), (if False then t else e) = e) :=
  ⟨fun _ _ => rfl, rfl, rfl, Bool.false_eq_true, Bool.true_or, Bool.false_or, Bool.or_true, Bool.or_false, Bool.true_and, Bool.false_and, Bool.and_true, Bool.and_false, fun _ _ => if_true .., fun _ _ => if_false ..⟩
theorem bS {α β : Type} (a : α) (f : α → Option β) : (some a).bind f = f a := rfl
theorem nl {a b : Nat} (h : Nat.ble a b = true) : a ≤ b := Nat.le_of_ble_eq_true h
theorem tk {w0 : World} {M : List Nat} {L L' : List Res} (k : Nat) (hL : L.take k = L') : ∀ w, St w0 M L w → St w0 M L' w := fun _ h => h.take k hL
abbrev e8 : Enc Int := jf (Value.int .u8) (fun _ => rfl)
theorem al {l : List Value} (h : l.all (fun u => u.oneCell') = true) : ∀ u ∈ l, u.oneCell' = true := fun u hu => List.all_eq_true.1 h u hu
theorem ss {w0 : World} {M : List Nat} {L L' : List Res} (idx : List Nat) (hs : jr L idx = L') (hn : pK idx = true) : ∀ w, St w0 M L w → St w0 M L' w := fun _ h => St.sel idx hs hn h
theorem sm {w0 : World} {M : List Nat} {L L' : List Res} (bs : List Bool) (hL : kJ bs L = L') : ∀ w, St w0 M L w → St w0 M L' w := fun _ h => St.mask bs hL h
end Go.Vk
/- The library's functions of strings, by their contracts: joined, repeated, numbers in decimal; a table of the library's that is read. -/
namespace Go.Vk
open Go.RowKit Go.Proofs Go.Shelf
variable {P : Program} {ρ : Ren}
def Bz (P : Program) (name : String) (vs : Array Value) : Enc Unit where
  sz := 0
  rd := fun w X _ cs => cs = [] ∧ ∃ g t m, P.globalNamed name = some g ∧ g ∉ X ∧ w.heap[g]? = some (.cells vs t m)
  own := fun _ _ _ _ => False
  rd_len := fun h => by rw [h.1]; rfl
  rd_loc := fun ⟨h0, g, t, m, h1, h2, h3⟩ h => ⟨h0, g, t, m, h1, h2, by
    rw [h g (by
      rcases Nat.lt_or_ge g _ with hl | hl
      · exact hl
      · rw [Array.getElem?_eq_none hl] at h3; cases h3) h2]
    exact h3⟩
  rd_anti := fun ⟨h0, g, t, m, h1, h2, h3⟩ h => ⟨h0, g, t, m, h1, fun hin => h2 (h g (by
      rcases Nat.lt_or_ge g _ with hl | hl
      · exact hl
      · rw [Array.getElem?_eq_none hl] at h3; cases h3) hin), h3⟩
  own_loc := fun h _ => h.elim
  own_rd := fun h _ => h.elim
  own_lt := fun h => h.elim
  one := fun h u hu => by rw [h.1] at hu; cases hu
theorem Bk {name : String} {k : IntKind} {zs : List Int} {w : World} {X : List Nat} {cs : List Value} (h : (Bz P name (zs.map fun z => Value.int k z).toArray).rd w X () cs) : Lib.TabIs P w name k zs := by
  obtain ⟨_, g, t, m, h1, _, h3⟩ := h
  unfold Lib.TabIs World.var?
  rw [h1]
  simp [h3]
theorem BR {name : String} {k : IntKind} {zs : List Int} {w : World} (h : Lib.TabIs P w name k zs) : (Bz P name (zs.map fun z => Value.int k z).toArray).rd w [] () [] := by
  unfold Lib.TabIs World.var? at h
  obtain ⟨g, h1, h2⟩ := Option.bind_eq_some_iff.1 h
  split at h2
  · rename_i cs t m h3
    obtain rfl := Option.some.inj h2
    exact ⟨rfl, g, t, m, h1, by simp, h3⟩
  · cases h2
theorem tP {w w' : World} (h : Below w.heap.size w w') : Ext [] w w' := ⟨h.os, h.tape, h.output, h.size, fun b hb _ => h.block b hb⟩
def xb (n : Int) : Option (List UInt8) := if -9223372036854775808 ≤ n ∧ n ≤ 9223372036854775807 then some (Lib.itoa n) else none
abbrev ol (P : Program) : Enc Unit := Bz P "internal/strconv.uint64pow10" (Lib.pow10Tab.map fun z => Value.int .u64 z).toArray
theorem zU (L : LaysM.n171 P ρ) (w : World) {n : Int} {z : List UInt8} (h : xb n = some z) (g : (ol P).rd w [] () []) :
    Calls P (ρ.f 171) #[.int .i64 n] w (fun en w' => en = .returned (vS z) ∧ Ext [] w w') := by
  unfold xb at h
  split at h
  · rename_i hn
    obtain rfl := Option.some.inj h
    refine (Any.strconv_Itoa L n hn.1 hn.2 w (Bk g)).mono fun en w' ⟨h1, k, os, h2⟩ => ⟨h1, ?_⟩
    subst h2
    refine ⟨rfl, rfl, rfl, ?_, fun b hb _ => ?_⟩
    · show w.heap.size ≤ (w.heap ++ os).size
      simp
    · show (w.heap ++ os)[b]? = w.heap[b]?
      rw [Array.getElem?_append_left hb]
  · cases h
def rI (xs : List (List UInt8)) (sep : List UInt8) : Option (List UInt8) := if xs.length ≤ 140737488355328 ∧ (Lib.join xs sep).length ≤ 140737488355328 then some (Lib.join xs sep) else none
theorem uG (L : Lays.n156 P ρ) (X : Builder.Extra P ρ) (w : World) {xs : List (List UInt8)} {sep z : List UInt8} {T : TypeId} {a : Option Addr} {n c : Nat} (h : rI xs sep = some z) (g : (af da T).rd w [] xs [.slice a n c]) :
    Calls P (ρ.f 156) #[.slice a n c, vS sep] w (fun en w' => en = .returned (vS z) ∧ Ext [] w w') := by
  unfold rI at h
  split at h
  · rename_i hn
    obtain rfl := Option.some.inj h
    obtain ⟨a', c', hv, h1, h2, h3⟩ := g
    simp only [List.cons.injEq, Value.slice.injEq, and_true] at hv
    obtain ⟨rfl, rfl, rfl⟩ := hv
    have hx : (xs.map fun l => (⟨l.toArray⟩ : ByteArray)).map (·.data.toList) = xs := by
      rw [List.map_map]
      exact (List.map_congr_left (fun l _ => by simp)).trans (List.map_id _)
    cases hxs : xs with
    | nil =>
      subst hxs
      refine (Any.strings_Join_none L X a c ⟨sep.toArray⟩ w).mono fun en w' ⟨h4, h5⟩ => ⟨?_, ?_⟩
      · rw [h4]; rfl
      · rw [h5]; exact Ext.refl _ _
    | cons x r =>
      obtain ⟨p, rfl, hp⟩ := h3 (by rw [hxs]; simp)
      have hat : ∀ j y, xs[j]? = some y → w.cell? (p.add j) = some (vS y) := fun j y hy => by
        obtain ⟨ds, hd, hA⟩ := hp j y hy
        have hd : ds = [vS y] := hd
        subst hd
        have := hA.2 0 (vS y) rfl
        have he : da.sz = 1 := rfl
        rw [he, Nat.mul_one] at this
        rwa [dD] at this
      have h0 := hat 0 x (by rw [hxs]; rfl)
      have hb := World.block_lt_of_cell? w _ h0
      obtain ⟨bk, o, sp⟩ := p
      have hsp : sp = none := by
        cases sp with
        | none => rfl
        | some q =>
          rw [dD] at h0
          unfold World.cell? at h0
          split at h0 <;> simp at h0
      subst hsp
      rw [← hxs]
      have key := Any.strings_Join L X bk o c (xs.map fun l => (⟨l.toArray⟩ : ByteArray)) ⟨sep.toArray⟩ w (fun j y hy => by
        rw [List.getElem?_map] at hy
        cases hj : xs[j]? with
        | none => rw [hj] at hy; cases hy
        | some l =>
          rw [hj] at hy
          obtain rfl := Option.some.inj hy
          have := hat j l hj
          rw [dG] at this
          exact this) (by rw [dD] at hb; exact hb) (by rw [List.length_map]; exact hn.1) (by rw [List.length_map]; exact h1) (by rw [hx]; simpa using hn.2)
      rw [List.length_map, hx] at key
      refine key.mono fun en w' ⟨h4, h5⟩ => ⟨?_, tP h5⟩
      rw [h4]
      simp [vS]
  · cases h
def qr (s : List UInt8) (n : Int) : Option (List UInt8) := if 0 ≤ n ∧ n ≤ 1000000 ∧ s.length ≤ 1000000 ∧ 0 < s.length then some (Lib.repeatL s n.toNat) else none
theorem xj (L : Lays.n105 P ρ) (X : Builder.Extra P ρ) (w : World) {s z : List UInt8} {n : Int} (h : qr s n = some z) :
    Calls P (ρ.f 105) #[vS s, .int .i64 n] w (fun en w' => en = .returned (vS z) ∧ Ext [] w w') := by
  unfold qr at h
  split at h
  · rename_i hn
    obtain rfl := Option.some.inj h
    obtain ⟨c, rfl⟩ : ∃ c : Nat, n = c := ⟨n.toNat, by omega⟩
    rw [Int.toNat_natCast]
    have hc : c ≤ 1000000 := by omega
    match c, hc with
    | 0, _ =>
      refine (Any.strings_Repeat_zero L ⟨s.toArray⟩ w).mono fun en w' ⟨h1, h2⟩ => ⟨?_, ?_⟩
      · rw [h1]; rfl
      · rw [h2]; exact Ext.refl _ _
    | 1, _ =>
      refine (Any.strings_Repeat_one L ⟨s.toArray⟩ w).mono fun en w' ⟨h1, h2⟩ => ⟨?_, ?_⟩
      · rw [h1]; simp [vS, Lib.repeatL]
      · rw [h2]; exact Ext.refl _ _
    | c + 2, hc =>
      have hz : (⟨s.toArray⟩ : ByteArray).size = s.length := by simp [ByteArray.size]
      refine (Any.strings_Repeat_main L X ⟨s.toArray⟩ (c + 2) w (by omega) (by omega) (by
        rw [hz]
        exact Nat.le_trans (Nat.mul_le_mul hn.2.2.1 hc) (by omega)) (by rw [hz]; exact hn.2.2.2)).mono fun en w' ⟨h1, h2⟩ => ⟨?_, tP h2⟩
      rw [h1]
      simp [vS]
  · cases h
theorem BK {n : Nat} {S : World → Prop} {E : Env} {o : Oper} {x y : Operand} {ts : Array TypeId} {k k' : IntKind} {a b : Int} (ho : o.op = .call { callee := .builtin .max, args := #[x, y], argTypes := ts }) (hx : ev E x = some (.int k a)) (hy : ev E y = some (.int k' b)) : Ry P n S E o (.int k (if a < b then b else a)) := fun fr hF w hw => by
  unfold execOp
  simp [ho, resolve, invoke, builtin, hF.ev hx, hF.ev hy, Builtin.max_, Builtin.max2, List.foldlM]
end Go.Vk
