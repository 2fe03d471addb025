/- Tests that are answered alike. No program in sight. -/
import Derived.Test.YthdoeealefnabaaGreatDoorVkL
import Derived.Test.YthdoeealefnabaaGreatDoorVkG
import Derived.Deep.Slices
import Derived.ReadAgain
import Derived.ChangeSame
import Derived.ChangeMaps5
import Derived.ProofKit
import Derived.Lib.ConvBytes
import Derived.Lib.AppendStr
import Derived.Shelf.Strings.OnBuilder
import Derived.Shelf.Strings.Repeat
import Derived.Shelf.Strconv.Itoa3
namespace Go.Vk
def Dec (o : Option Bool) (P : Prop) : Prop := ∃ b, o = some b ∧ (b = true ↔ P)
theorem Dec.eq {o o' : Option Bool} {P : Prop} (h : Dec o P) (h' : Dec o' P) : o = o' := by
  obtain ⟨b, rfl, h1⟩ := h
  obtain ⟨c, rfl, h2⟩ := h'
  rw [Bool.eq_iff_iff.2 (h1.trans h2.symm)]
theorem Dec.of_iff {o : Option Bool} {P Q : Prop} (h : Dec o P) (e : P ↔ Q) : Dec o Q := by
  obtain ⟨b, rfl, h1⟩ := h
  exact ⟨b, rfl, h1.trans e⟩
theorem Dec.cases {o : Option Bool} {P : Prop} (h : Dec o P) : (o = some true ∧ P) ∨ (o = some false ∧ ¬ P) := by
  obtain ⟨b, rfl, h1⟩ := h
  cases b
  · exact .inr ⟨rfl, fun p => by have := h1.2 p; cases this⟩
  · exact .inl ⟨rfl, h1.1 rfl⟩
theorem lC {P : Prop} (h : P) : Dec (some true) P := ⟨true, rfl, by simp [h]⟩
theorem bF {P : Prop} (h : ¬ P) : Dec (some false) P := ⟨false, rfl, by simp [h]⟩
theorem JU {x a b : Int} : Dec (some (decide (x ≥ a) && decide (x ≤ b))) (a ≤ x ∧ x ≤ b) := ⟨_, rfl, by simp⟩
theorem oy {Lp : Nat → Int → Option Bool} {n : Nat} {Q : Nat → Prop} (i0 : Nat) (hz : ∀ k (i : Nat), n ≤ i → Lp (k + 1) (i : Int) = some true)
    (hs : ∀ k (i : Nat), i0 ≤ i → i < n → (Q i ∧ Lp (k + 1) (i : Int) = Lp k ((i + 1 : Nat) : Int)) ∨ (¬ Q i ∧ Lp (k + 1) (i : Int) = some false)) (hn : n < 1000000000000) : Dec (Lp aK (i0 : Int)) (∀ i, i0 ≤ i → i < n → Q i) := by
  have key : ∀ (d k i : Nat), n - i = d → d < k → i0 ≤ i → Dec (Lp k (i : Int)) (∀ j, i ≤ j → j < n → Q j) := by
    intro d
    induction d with
    | zero =>
      intro k i hd hk hi
      obtain ⟨k, rfl⟩ : ∃ q, k = q + 1 := ⟨k - 1, by omega⟩
      rw [hz k i (by omega)]
      exact lC fun j h1 h2 => by omega
    | succ d ih =>
      intro k i hd hk hi
      obtain ⟨k, rfl⟩ : ∃ q, k = q + 1 := ⟨k - 1, by omega⟩
      rcases hs k i hi (by omega) with ⟨hq, e⟩ | ⟨hq, e⟩
      · rw [e]
        refine (ih k (i + 1) (by omega) (by omega) (by omega)).of_iff ⟨fun h j h1 h2 => ?_, fun h j h1 h2 => h j (by omega) h2⟩
        by_cases hj : j = i
        · rw [hj]; exact hq
        · exact h j (by omega) h2
      · rw [e]
        exact bF fun h => hq (h i (Nat.le_refl _) (by omega))
  exact key (n - i0) aK i0 rfl (fe (by omega)) (Nat.le_refl _)
theorem pO {Lp : Nat → Int → Option Int} {n : Nat} {Q : Nat → Prop} (hz : ∀ k (i : Nat), n ≤ i → Lp (k + 1) (i : Int) = some (-1))
    (hs : ∀ k (i : Nat), i < n → (Q i ∧ Lp (k + 1) (i : Int) = some (i : Int)) ∨ (¬ Q i ∧ Lp (k + 1) (i : Int) = Lp k ((i + 1 : Nat) : Int))) (hn : n < 1000000000000) :
    Dec ((Lp aK 0).bind fun y => some (decide (y ≥ 0))) (∃ i, i < n ∧ Q i) := by
  have key : ∀ (d k i : Nat), n - i = d → d < k → Dec ((Lp k (i : Int)).bind fun y => some (decide (y ≥ 0))) (∃ j, i ≤ j ∧ j < n ∧ Q j) := by
    intro d
    induction d with
    | zero =>
      intro k i hd hk
      obtain ⟨k, rfl⟩ : ∃ q, k = q + 1 := ⟨k - 1, by omega⟩
      rw [hz k i (by omega)]
      exact bF fun ⟨j, h1, h2, _⟩ => by omega
    | succ d ih =>
      intro k i hd hk
      obtain ⟨k, rfl⟩ : ∃ q, k = q + 1 := ⟨k - 1, by omega⟩
      rcases hs k i (by omega) with ⟨hq, e⟩ | ⟨hq, e⟩
      · rw [e]
        exact ⟨true, by simp, by simp; exact ⟨i, Nat.le_refl _, by omega, hq⟩⟩
      · rw [e]
        refine (ih k (i + 1) (by omega) (by omega)).of_iff ⟨fun ⟨j, h1, h2, h3⟩ => ⟨j, by omega, h2, h3⟩, fun ⟨j, h1, h2, h3⟩ => ⟨j, ?_, h2, h3⟩⟩
        by_cases hj : j = i
        · rw [hj] at h3; exact absurd h3 hq
        · omega
  refine (key n aK 0 rfl (fe (by omega))).of_iff ⟨fun ⟨j, _, h2, h3⟩ => ⟨j, h2, h3⟩, fun ⟨j, h2, h3⟩ => ⟨j, Nat.zero_le _, h2, h3⟩⟩
end Go.Vk
/- The statement's frame: arguments opened, the row's last step. -/
namespace Go.Vk
open Go.RowKit Go.WideShapes Go.ChangeShapes Go.Deep
section
variable {H : Type} {enc : TypeId × Value → H} {P : Program}
theorem FU {W W' : World} (hb : Below W.heap.size W W') {sp : Nat → Bool} {held : Bool} {n : Nat} {t : TypeId} {cs : List Value} {x : DataW H × List MemPlace} (h : DataW.trod enc P W 0 sp held n t cs = some x) : DataW.trod enc P W' 0 sp held n t cs = some x :=
  DataW.trod_carry n t cs x h (fun p hp => hb.same (DataW.trod_lt n t cs x h p hp))
theorem vn {W W' : World} (hb : Below W.heap.size W W') {sp : Nat → Bool} {held : Bool} : ∀ {ts : List TypeId} {vs : List Value} {ds : List (DataW H)} {ps : List MemPlace}, DataW.TrodAll enc P W 0 sp held ts vs ds ps → DataW.TrodAll enc P W' 0 sp held ts vs ds ps
  | [], [], [], _, h => h
  | _ :: _, _ :: _, _ :: _, _, ⟨p, q, ⟨n, h1⟩, h2, e⟩ => ⟨p, q, ⟨n, FU hb h1⟩, vn hb h2, e⟩
def LT (P : Program) : Bool := (List.range P.types.size).all fun t => match P.underlying t with | some (.slice e) => decide (0 < P.cellsOf e) | _ => true
theorem IT {f : Func} {s : ChangeSpec} {apart fresh handsOn again : Bool} {W W' : World} {args : Array Value} {ds gs : List (DataW H)} {before : List MemPlace} {tb : TypeId}
    (hW : DataW.Whole enc P f.params.toList s.vars apart W args.toList ds gs before) (hv : s.vars = []) (hl : laidOutB P = true) (hm : mapsRowed P = true) (hz : LT P = true) (hT : ∀ t ∈ f.params.toList, t < P.types.size)
    (hr : f.resultTypes = #[tb]) (htb : P.underlying tb = some .bool) (hfn : s.fn H ds = { results := [.lit (.bool true)], args := ds }) (hb : Below W.heap.size W W') :
    s.post enc P f apart fresh handsOn again W args (.bool true) W' := by
  have hlt : ∀ p ∈ before, p.block < W.heap.size := fun p hp => hW.lt p hp
  have hW' := hW
  obtain ⟨pa, pv, hA, hV, rfl, hfz, hnd⟩ := hW'
  rw [hv] at hV
  obtain ⟨rfl, rfl⟩ := trodVars_none hV
  have hfn' : s.fn H (ds ++ []) = { results := [.lit (.bool true)], args := ds } := by rw [List.append_nil]; exact hfn
  have hA' := vn hb hA
  have hsp : ∀ sp : Nat → Bool, (∀ p ∈ pa, sp p.block = true) → DataW.TrodAll enc P W' 0 sp true f.params.toList args.toList ds pa := fun sp h =>
    DataW.TrodAll.respare (kids_rows hl hm) (slices_full_of P hz) hT hA' h
  have hres : ∀ (b : Nat) (sp : Nat → Bool) (hd : Bool), DataW.TrodAll enc P W' b sp hd f.resultTypes.toList ((Value.bool true).resultList f.resultTypes.size) [.lit (.bool true)] [] := fun b sp hd => by
    rw [hr]; exact trodAll_mk1 (shut_bool htb _)
  refine ⟨ds, [], pa ++ [], [], pa, [], hW, ?_, ?_, ?_, World.keptBut_mono (fun p hp => ⟨hp, ?_⟩) (hb.frame (· ∈ pa ++ [])), fun _ => ?_⟩
  · rw [hfn']; exact hres _ _ _
  · rw [hfn']; exact hsp _ (fun p hp => by simpa using hlt p (by simpa using hp))
  · rw [hfn', hv]; exact rfl
  · simpa using hp
  · refine ⟨?_, _, [], ([] ++ pa) ++ [], ⟨[] ++ pa, [], trodAll_append (hsp _ (fun _ _ => rfl)) (hres _ _ _), ?_, rfl, ?_, ?_⟩, ?_⟩
    · exact ok_one hr rfl (okWide_bool_mk htb _)
    · rw [hv]; exact rfl
    · intro b off hp
      have hin : MemPlace.cell b off ∈ pa := by simpa using hp
      rw [hb.frozen (hlt _ (by simpa using hin))]
      exact hfz b off (by simpa using hin)
    · intro ha
      have := hnd ha
      simpa using this
    · intro p hp _
      simpa using hp
def Opn {α : Type} (P : Program) (t : TypeId) (e : Enc α) (Ok : α → Prop) : Prop :=
  ∀ {H : Type} {enc : TypeId × Value → H} {w : World} {sp : Nat → Bool} {n : Nat} {cs : List Value} {x : DataW H × List MemPlace}, DataW.trod enc P w 0 sp true n t cs = some x → ∃ a, e.rd w [] a cs ∧ Ok a
def aG (k : IntKind) (n : Int) : Prop := (Lit.int k n).wf = true
theorem KD {t : TypeId} {k : IntKind} (ht : vk P t k) : Opn P t (il (Value.int k) (fun _ => rfl)) (aG k) := fun {H enc w sp n cs x} h => by
  have ht' : P.underlying t = some (.int k) := ht
  cases n with
  | zero => simp [DataW.trod] at h
  | succ n =>
    unfold DataW.trod at h
    rw [ht'] at h
    split at h <;> simp_all
    case h_2 heq =>
      obtain ⟨⟨rfl, h2⟩, _⟩ := h
      exact ⟨_, rfl, h2⟩
theorem IG {t : TypeId} (ht : P.underlying t = some .bool) : Opn P t gN (fun _ => True) := fun {H enc w sp n cs x} h => by
  cases n with
  | zero => simp [DataW.trod] at h
  | succ n =>
    unfold DataW.trod at h
    rw [ht] at h
    split at h <;> simp_all
    case h_1 => rename_i b; cases b <;> first | exact .inl rfl | exact .inr rfl
theorem Lj {t : TypeId} (ht : yq P t) : Opn P t cy (fun s => s.length ≤ maxLen) := fun {H enc w sp n cs x} h => by
  have ht' : P.underlying t = some .string := ht
  cases n with
  | zero => simp [DataW.trod] at h
  | succ n =>
    unfold DataW.trod at h
    rw [ht'] at h
    split at h <;> simp_all
    case h_4 =>
      rename_i s
      obtain ⟨⟨d⟩⟩ := s
      exact ⟨d, rfl, h.1⟩
theorem IU {w : World} {a : Addr} {n : Nat} {cs : List Value} (h : w.cells? 0 a n = some cs) : At w [] a cs ∧ cs.length = n := by
  unfold World.cells? at h
  rw [if_pos (Nat.zero_le _)] at h
  have hl : cs.length = n := by simpa using mapM_some_length h
  refine ⟨⟨fun _ => by simp, fun j v hv => ?_⟩, hl⟩
  have hj : j < n := by rw [← hl]; exact (List.getElem?_eq_some_iff.1 hv).1
  have := mapM_some_get h j j (by simp [hj])
  rw [this, hv]
theorem rt {α : Type} {e : Enc α} {Ok : α → Prop} {t et : TypeId} (ht : isSl P t et) (he : Opn P et e Ok) (hc : P.cellsOf et = e.sz) : Opn P t (ae e et) (fun xs => xs.length ≤ maxLen ∧ ∀ x ∈ xs, Ok x) := fun {H enc w sp n cs x} h => by
  rcases open_slice ht h with ⟨rfl, _⟩ | ⟨a, len, cap, m, n', D, Pl, rfl, _, hl, hm, hmm, _, hel⟩
  · exact ⟨[], GO, by simp, by simp⟩
  · have hex : ∀ i, i < len → ∃ y, (∃ ds, e.rd w [] y ds ∧ At w [] (a.add (i * e.sz)) ds) ∧ Ok y := fun i hi => by
      obtain ⟨cs', h1, h2⟩ := hel i (by rw [hmm]; split <;> omega)
      obtain ⟨y, h3, h4⟩ := he h2
      exact ⟨y, ⟨cs', h3, by rw [← hc]; exact (IU h1).1⟩, h4⟩
    have : ∃ xs : List α, xs.length = len ∧ ∀ i x, xs[i]? = some x → (∃ ds, e.rd w [] x ds ∧ At w [] (a.add (i * e.sz)) ds) ∧ Ok x := by
      clear hl hm hmm hel h
      rename_i hx0
      clear hx0
      induction len with
      | zero => exact ⟨[], rfl, by simp⟩
      | succ k ih =>
        obtain ⟨xs, h1, h2⟩ := ih (fun i hi => hex i (by omega))
        obtain ⟨y, hy⟩ := hex k (by omega)
        refine ⟨xs ++ [y], by simp [h1], fun i x hx => ?_⟩
        by_cases hi : i < k
        · rw [List.getElem?_append_left (by omega)] at hx; exact h2 i x hx
        · have hik : i = k := by
            have := (List.getElem?_eq_some_iff.1 hx).1
            simp [h1] at this; omega
          subst hik
          rw [List.getElem?_append_right (by omega), h1] at hx
          simp at hx; subst hx; exact hy
    obtain ⟨xs, hlen, hxs⟩ := this
    refine ⟨xs, ⟨some a, cap, by rw [hlen], by omega, hm, fun _ => ⟨a, rfl, fun i x hx => (hxs i x hx).1⟩⟩, by omega, fun x hx => ?_⟩
    obtain ⟨i, hi⟩ := List.mem_iff_getElem?.1 hx
    exact (hxs i x hi).2
end
end Go.Vk
/- Arguments that are structs, opened. -/
namespace Go.Vk
open Go.RowKit Go.WideShapes Go.ChangeShapes Go.Deep
section
variable {H : Type} {enc : TypeId × Value → H} {P : Program}
def gb (P : Program) (t : TypeId) : Option (List (TypeId × Nat)) :=
  match P.underlying t with
  | some (.struct fs) => some (fs.toList.map fun f => (f.type, f.offset))
  | _ => none
def KH {α : Type} (P : Program) (fs : List (TypeId × Nat)) (o : Nat) (e : Enc α) (Ok : α → Prop) : Prop :=
  ∀ {H : Type} {enc : TypeId × Value → H} {w : World} {sp : Nat → Bool} {cs : List Value}, cs.length = e.sz →
    (∀ f ∈ fs, o ≤ f.2 ∧ ∃ n x, DataW.trod enc P w 0 sp true n f.1 ((cs.drop (f.2 - o)).take (P.cellsOf f.1)) = some x) → ∃ a, e.rd w [] a cs ∧ Ok a
theorem iT {α : Type} {t : TypeId} {o : Nat} {e : Enc α} {Ok : α → Prop} (he : Opn P t e Ok) (hc : P.cellsOf t = e.sz) : KH P [(t, o)] o e Ok := fun {H enc w sp cs} hl h => by
  obtain ⟨_, n, x, hx⟩ := h _ (List.mem_singleton.2 rfl)
  rw [Nat.sub_self, List.drop_zero, hc, List.take_of_length_le (by omega)] at hx
  exact he hx
theorem cn {α β : Type} {t : TypeId} {o : Nat} {fs : List (TypeId × Nat)} {e : Enc α} {Ok : α → Prop} {e2 : Enc β} {Ok2 : β → Prop} (he : Opn P t e Ok) (hc : P.cellsOf t = e.sz)
    (h2 : KH P fs (o + e.sz) e2 Ok2) (hf : (fs.all fun f => decide (o + e.sz ≤ f.2)) = true) : KH P ((t, o) :: fs) o (aH e e2) (fun x => Ok x.1 ∧ Ok2 x.2) := fun {H enc w sp cs} hl h => by
  have hl' : cs.length = e.sz + e2.sz := hl
  obtain ⟨_, n, x, hx⟩ := h _ (List.mem_cons_self ..)
  rw [Nat.sub_self, List.drop_zero, hc] at hx
  obtain ⟨a, ha, hok⟩ := he hx
  obtain ⟨b, hb, hok2⟩ := h2 (enc := enc) (w := w) (sp := sp) (cs := cs.drop e.sz) (by simp; omega) (fun f hm => by
    have hle : o + e.sz ≤ f.2 := by simpa using List.all_eq_true.1 hf f hm
    obtain ⟨_, n, x, hx⟩ := h f (List.mem_cons_of_mem _ hm)
    refine ⟨hle, n, x, ?_⟩
    rw [List.drop_drop, show e.sz + (f.2 - (o + e.sz)) = f.2 - o by omega]
    exact hx)
  have := bH ha hb
  rw [List.take_append_drop] at this
  exact ⟨(a, b), this, hok, hok2⟩
theorem fF {α : Type} {t : TypeId} {fs : List (TypeId × Nat)} {e : Enc α} {Ok : α → Prop} (hf : gb P t = some fs) (ho : KH P fs 0 e Ok) (hc : P.cellsOf t = e.sz) : Opn P t e Ok := fun {H enc w sp n cs x} h => by
  unfold gb at hf
  split at hf
  · rename_i gs hgs
    obtain rfl := Option.some.inj hf
    obtain ⟨xs, m, _, _, hl, hxl, hg⟩ := DataW.trod_struct hgs h
    refine ho (enc := enc) (sp := sp) (by rw [hl, hc]) fun f hm => ⟨Nat.zero_le _, m, ?_⟩
    obtain ⟨g, hgm, rfl⟩ := List.mem_map.1 hm
    obtain ⟨i, hi⟩ := List.mem_iff_getElem?.1 hgm
    have hi' : gs[i]? = some g := by simpa using hi
    have hlt : i < gs.size := (Array.getElem?_eq_some_iff.1 hi').1
    refine ⟨xs[i]'(by omega), ?_⟩
    have := hg i g hi'
    rw [List.getElem?_eq_getElem (by omega)] at this
    simpa using this
  · exact absurd hf (by simp)
theorem mZ {α β : Type} {t : TypeId} {e : Enc α} {Ok : α → Prop} {g : β → α} (he : Opn P t e Ok) (s : α → β) (hs : ∀ a, g (s a) = a) : Opn P t (ql e g) (fun x => Ok (g x)) := fun {H enc w sp n cs x} h => by
  obtain ⟨a, ha, hok⟩ := he h
  exact ⟨s a, by show e.rd w [] (g (s a)) cs; rw [hs]; exact ha, by show Ok (g (s a)); rw [hs]; exact hok⟩
theorem CQ {α β : Type} {t : TypeId} {e : Enc α} {Ok : α → Prop} {e' : Enc β} {Ok' : β → Prop} (he : Opn P t e Ok) (s : α → β) (hm : ∀ {w : World} {a : α} {cs : List Value}, e.rd w [] a cs → e'.rd w [] (s a) cs) (hk : ∀ {a}, Ok a → Ok' (s a)) : Opn P t e' Ok' := fun {H enc w sp n cs x} h => by
  obtain ⟨a, ha, hok⟩ := he h
  exact ⟨s a, hm ha, hk hok⟩
theorem FF {α : Type} {e : Enc α} {Ok : α → Prop} {w : World} {r : Reach} {b0 : Nat} {t : TypeId} {fs : List (TypeId × Nat)} {v : Value} {d : DataW H} {ps : List MemPlace} (hf : gb P t = some fs) (ho : Opn P t e Ok)
    (h : Value.okWide P w r b0 t v) (hd : DataW.Trod enc P w 0 (fun _ => true) true t v d ps) : ∃ a cs, v = .agg cs.toArray ∧ e.rd w [] a cs ∧ Ok a := by
  unfold gb at hf
  split at hf
  · rename_i gs hgs
    obtain ⟨cs, rfl, _⟩ := okWide_struct hgs h
    obtain ⟨n, hd⟩ := hd
    obtain ⟨a, ha, hok⟩ := ho hd
    exact ⟨a, cs.toList, by simp, ha, hok⟩
  · exact absurd hf (by simp)
end
end Go.Vk
/- What the statement's frame says of whole numbers. -/
namespace Go.Vk
theorem jb {n : Int} (h : aG .i64 n) : -9223372036854775808 ≤ n ∧ n ≤ 9223372036854775807 := by
  simp only [aG, Lit.wf] at h
  have h1 : IntKind.i64.min ≤ n ∧ n ≤ IntKind.i64.max := by simpa using h
  exact h1
theorem Dm {n : Nat} (h : n ≤ maxLen) : n < 9223372036854775808 := Nat.lt_of_le_of_lt h (by decide)
end Go.Vk
/- Loops by index; sums. No program in sight. -/
namespace Go.Vk
theorem kA {α : Type} {f : α → Nat} {p : List α} {x : α} (h : x ∈ p) : f x ≤ (p.map f).sum := by
  induction p with
  | nil => cases h
  | cons y p ih =>
    simp only [List.map_cons, List.sum_cons]
    rcases List.mem_cons.1 h with rfl | h
    · omega
    · have := ih h; omega
theorem tM {ρ : Type} {Lp : Nat → Nat → Option ρ} {n : Nat} {Q : Nat → Prop} {fin bad : Option ρ} (hz : ∀ k, (∀ j, j < n → Q j) → Lp (k + 1) n = fin)
    (hs : ∀ k i, i < n → (∀ j, j < i → Q j) → (Q i ∧ Lp (k + 1) i = Lp k (i + 1)) ∨ (¬ Q i ∧ Lp (k + 1) i = bad)) (hn : n < 1000000000000) :
    ((∀ j, j < n → Q j) ∧ Lp aK 0 = fin) ∨ ((¬ ∀ j, j < n → Q j) ∧ Lp aK 0 = bad) := by
  have key : ∀ (d k i : Nat), n - i = d → d < k → i ≤ n → (∀ j, j < i → Q j) → ((∀ j, j < n → Q j) ∧ Lp k i = fin) ∨ ((¬ ∀ j, j < n → Q j) ∧ Lp k i = bad) := by
    intro d
    induction d with
    | zero =>
      intro k i hd hk hi hq
      obtain ⟨k, rfl⟩ : ∃ q, k = q + 1 := ⟨k - 1, by omega⟩
      have : i = n := by omega
      subst this
      exact .inl ⟨hq, hz k hq⟩
    | succ d ih =>
      intro k i hd hk hi hq
      obtain ⟨k, rfl⟩ : ∃ q, k = q + 1 := ⟨k - 1, by omega⟩
      rcases hs k i (by omega) hq with ⟨h1, h2⟩ | ⟨h1, h2⟩
      · rw [h2]
        exact ih k (i + 1) (by omega) (by omega) (by omega) (fun j hj => by
          by_cases h : j = i
          · subst h; exact h1
          · exact hq j (by omega))
      · exact .inr ⟨fun g => h1 (g i (by omega)), h2⟩
  exact key n aK 0 rfl (fe hn) (Nat.zero_le _) (fun j hj => by omega)
theorem uV {ρ : Type} {Lp : Nat → Nat → Option ρ} {n : Nat} {fin : Option ρ} (hz : ∀ k, Lp (k + 1) n = fin) (hs : ∀ k i, i < n → Lp (k + 1) i = Lp k (i + 1)) (hn : n < 1000000000000) : Lp aK 0 = fin := by
  rcases tM (Lp := Lp) (n := n) (Q := fun _ => True) (fin := fin) (bad := none) (fun k _ => hz k) (fun k i hi _ => .inl ⟨trivial, hs k i hi⟩) hn with ⟨_, h⟩ | ⟨h, _⟩
  · exact h
  · exact absurd (fun _ _ => trivial) h
theorem qw {Lp : Nat → Nat → Option Bool} {n : Nat} {Q : Nat → Prop} {F : Prop} (hz : ∀ k, (∀ j, j < n → Q j) → Dec (Lp (k + 1) n) F)
    (hs : ∀ k i, i < n → (∀ j, j < i → Q j) → (Q i ∧ Lp (k + 1) i = Lp k (i + 1)) ∨ (¬ Q i ∧ Lp (k + 1) i = some false)) (hn : n < 1000000000000) : Dec (Lp aK 0) ((∀ j, j < n → Q j) ∧ F) := by
  have key : ∀ (d k i : Nat), n - i = d → d < k → i ≤ n → (∀ j, j < i → Q j) → Dec (Lp k i) ((∀ j, j < n → Q j) ∧ F) := by
    intro d
    induction d with
    | zero =>
      intro k i hd hk hi hq
      obtain ⟨k, rfl⟩ : ∃ q, k = q + 1 := ⟨k - 1, by omega⟩
      have : i = n := by omega
      subst this
      exact (hz k hq).of_iff ⟨fun h => ⟨hq, h⟩, fun h => h.2⟩
    | succ d ih =>
      intro k i hd hk hi hq
      obtain ⟨k, rfl⟩ : ∃ q, k = q + 1 := ⟨k - 1, by omega⟩
      rcases hs k i (by omega) hq with ⟨h1, h2⟩ | ⟨h1, h2⟩
      · rw [h2]
        exact ih k (i + 1) (by omega) (by omega) (by omega) (fun j hj => by
          by_cases h : j = i
          · subst h; exact h1
          · exact hq j (by omega))
      · rw [h2]
        exact bF fun g => h1 (g.1 i (by omega))
  exact key n aK 0 rfl (fe hn) (Nat.zero_le _) (fun j hj => by omega)
theorem wA {p : List Int} {i : Nat} (h : i < p.length) : (p.take (i + 1)).sum = (p.take i).sum + p[i] := by
  rw [List.take_succ_eq_append_getElem h, List.sum_append]
  simp
theorem ph {p : List Int} {b : Int} (hb : ∀ x ∈ p, 0 ≤ x ∧ x ≤ b) : 0 ≤ p.sum ∧ p.sum ≤ b * p.length := by
  induction p with
  | nil => simp
  | cons x p ih =>
    have h1 := hb x (by simp)
    have h2 := ih (fun y hy => hb y (by simp [hy]))
    simp only [List.sum_cons, List.length_cons]
    have : b * ((p.length + 1 : Nat) : Int) = b * p.length + b := by rw [Int.natCast_add, Int.mul_add]; simp
    omega
theorem DD {α : Type} {p : List α} {i : Nat} {x : α} (h : x ∈ p.take i) : x ∈ p := List.mem_of_mem_take h
theorem wL {α ρ : Type} {p : List α} (v : α → Int) (Lp : Nat → Int → Int → Option ρ) (fin : Int → Option ρ) (hz : ∀ k s, Lp (k + 1) s (p.length : Int) = fin s)
    (hs : ∀ k s (i : Nat) (h : i < p.length), Lp (k + 1) s (i : Int) = Lp k (IntKind.i64.wrap (s + v p[i])) ((i + 1 : Nat) : Int)) (hb : ∀ x ∈ p, 0 ≤ v x ∧ v x ≤ 1000000000) (hl : p.length ≤ 1000000000) : Lp aK 0 0 = fin (p.map v).sum := by
  have hb' : ∀ x ∈ p.map v, 0 ≤ x ∧ x ≤ 1000000000 := fun x hx => by
    obtain ⟨y, hy, rfl⟩ := List.mem_map.1 hx
    exact hb y hy
  have := uV (Lp := fun k i => Lp k ((p.map v).take i).sum (i : Int)) (n := p.length) (fin := fin (p.map v).sum) (fun k => by
    show Lp _ _ _ = _
    rw [hz, List.take_of_length_le (by simp)]) (fun k i hi => by
    show Lp _ _ _ = Lp _ _ _
    have h1 := ph (p := (p.map v).take (i + 1)) (b := 1000000000) (fun x hx => hb' x (DD hx))
    rw [hs _ _ _ hi]
    rw [wA (by simpa using hi)] at h1 ⊢
    rw [List.getElem_map] at h1 ⊢
    have h2 : ((p.map v).take (i + 1)).length ≤ 1000000000 := by simp; omega
    rw [cd (by omega) (by omega)]) (by omega)
  simpa using this
theorem Fv {α : Type} [BEq α] [LawfulBEq α] {p : List α} {a : α} (h : a ∈ p) : ∃ q, ∃ hq : q < p.length, p[q] = a ∧ (p.take (q + 1)).count a = p.count a := by
  induction p with
  | nil => cases h
  | cons x p ih =>
    by_cases hm : a ∈ p
    · obtain ⟨q, hq, h1, h2⟩ := ih hm
      refine ⟨q + 1, by simp; omega, by simpa using h1, ?_⟩
      rw [List.take_succ_cons, List.count_cons, List.count_cons, h2]
    · have hx : a = x := by
        rcases List.mem_cons.1 h with h | h
        · exact h
        · exact absurd h hm
      subst hx
      refine ⟨0, by simp, rfl, ?_⟩
      rw [List.take_succ_cons, List.take_zero, List.count_cons, List.count_cons, List.count_eq_zero.2 hm]
      simp
theorem Dec.and {o o' : Option Bool} {P Q : Prop} (h : Dec o P) (h' : P → Dec o' Q) : Dec (o.bind fun y => if y then o' else some false) (P ∧ Q) := by
  rcases h.cases with ⟨rfl, p⟩ | ⟨rfl, p⟩
  · exact (h' p).of_iff ⟨fun q => ⟨p, q⟩, fun q => q.2⟩
  · exact bF fun q => p q.1
end Go.Vk
/- JH, step by step. No program in sight. -/
namespace Go.Vk
theorem KB (m : Nat) : ((m : Int) < 0) = False := by simp
theorem Cn {α : Type} (p : List α) : (p.map fun _ => 1).sum = p.length := by induction p with | nil => rfl | cons x p ih => simp [ih]; omega
theorem uz {α : Type} (p : List α) : (p.map fun _ => 0).sum = 0 := by induction p with | nil => rfl | cons x p ih => simp [ih]
theorem ub {α : Type} {f g : α → Nat} {p : List α} (h : ∀ y ∈ p, f y ≤ 16 * (1 + g y)) : (p.map f).sum ≤ 16 * (p.length + (p.map g).sum) := by
  induction p with
  | nil => simp
  | cons x p ih =>
    have h1 := h x (by simp)
    have h2 := ih (fun y hy => h y (by simp [hy]))
    simp only [List.map_cons, List.sum_cons, List.length_cons]
    omega
theorem DZ {α : Type} {p : List α} {c : α → Nat} (Lm : Nat → List α → Int → Int → Option (Int × List α)) (Lh : List α → Nat → Int → Int → Option Int)
    (zm : ∀ k l m i, ¬ (decide (i < (p.length : Int)) = true) → Lm (k + 1) l m i = some (m, l))
    (zh : ∀ (q : List α) k m i, ¬ (decide (i < (q.length : Int)) = true) → Lh q (k + 1) m i = some m)
    (hp : p.length < 1000000000000)
    (hM : ∀ x ∈ p, ∀ m : Nat, m + c x < 4611686018427387904 → ∃ (m' : Nat) (x' : α),
      (∀ k l i, decide (i < (p.length : Int)) = true → idx l i = some x → Lm (k + 1) l (m : Int) i = Lm k (l.set i.toNat x') (m' : Int) (IntKind.i64.wrap (i + 1))) ∧
      (∀ (q : List α) k i, decide (i < (q.length : Int)) = true → idx q i = some x' → Lh q (k + 1) (m : Int) i = Lh q k (m' : Int) (IntKind.i64.wrap (i + 1))) ∧ m ≤ m' ∧ m' ≤ m + c x) :
    JH (fun p m => Lm aK p m 0) (fun q m => Lh q aK m 0) ((p.map c).sum) p := by
  have key : ∀ (d i : Nat) (l : List α) (m : Nat), p.length - i = d → i ≤ p.length → l.length = p.length → l.drop i = p.drop i → m + ((p.drop i).map c).sum < 4611686018427387904 →
      ∃ (m' : Nat) (l' : List α), (∀ k, d < k → Lm k l (m : Int) (i : Int) = some ((m' : Int), l')) ∧ (∀ k, d < k → Lh l' k (m : Int) (i : Int) = some (m' : Int)) ∧ m ≤ m' ∧ m' ≤ m + ((p.drop i).map c).sum ∧ l'.length = p.length ∧ l'.take i = l.take i := by
    intro d
    induction d with
    | zero =>
      intro i l m hd hi hl hdr hm
      refine ⟨m, l, fun k hk => ?_, fun k hk => ?_, by omega, by omega, hl, rfl⟩
      · obtain ⟨k, rfl⟩ : ∃ q, k = q + 1 := ⟨k - 1, by omega⟩
        rw [zm _ _ _ _ (by simp; omega)]
      · obtain ⟨k, rfl⟩ : ∃ q, k = q + 1 := ⟨k - 1, by omega⟩
        rw [zh _ _ _ _ (by simp; omega)]
    | succ d ih =>
      intro i l m hd hi hl hdr hm
      have hlt : i < p.length := by omega
      have hli : l[i]'(by omega) = p[i] := by
        have h1 : (l.drop i)[0]? = (p.drop i)[0]? := by rw [hdr]
        rw [List.getElem?_drop, List.getElem?_drop, Nat.add_zero, List.getElem?_eq_getElem (by omega), List.getElem?_eq_getElem hlt] at h1
        exact Option.some.inj h1
      have hsum : ((p.drop i).map c).sum = c p[i] + ((p.drop (i + 1)).map c).sum := by rw [List.drop_eq_getElem_cons hlt, List.map_cons, List.sum_cons]
      obtain ⟨m1, x', hm1, hh1, h2, h3⟩ := hM _ (List.getElem_mem hlt) m (by omega)
      obtain ⟨m', l', k1, k2, k3, k4, k5, k6⟩ := ih (i + 1) (l.set i x') m1 (by omega) (by omega) (by simp [hl]) (by
        rw [List.drop_set_of_lt (by omega)]
        have := congrArg (List.drop 1) hdr
        simpa [List.drop_drop, Nat.add_comm 1 i] using this) (by omega)
      have hl'i : l'[i]'(by omega) = x' := by
        have h4 := congrArg (fun q => q[i]?) k6
        simp only [List.getElem?_take, show i < i + 1 by omega, if_true, List.getElem?_set_self (show i < l.length by omega)] at h4
        rw [List.getElem?_eq_getElem (by omega)] at h4
        exact Option.some.inj h4
      refine ⟨m', l', fun k hk => ?_, fun k hk => ?_, by omega, by omega, k5, ?_⟩
      · obtain ⟨k, rfl⟩ : ∃ q, k = q + 1 := ⟨k - 1, by omega⟩
        rw [hm1 k l i (by simp; omega) (by rw [bf (by omega : i < l.length), hli]), aD (by omega)]
        exact k1 k (by omega)
      · obtain ⟨k, rfl⟩ : ∃ q, k = q + 1 := ⟨k - 1, by omega⟩
        rw [hh1 l' k i (by simp; omega) (by rw [bf (by omega : i < l'.length), hl'i]), aD (by omega)]
        exact k2 k (by omega)
      · have := congrArg (List.take i) k6
        simpa [List.take_take, List.take_set_of_le] using this
  intro m hm
  have hs : ((p.drop 0).map c).sum = (p.map c).sum := by simp
  obtain ⟨m', l', k1, k2, k3, k4, k5, _⟩ := key p.length 0 p m (by omega) (by omega) rfl rfl (by omega)
  exact ⟨m', l', k1 aK (fe (by omega)), k2 aK (fe (by omega)), k3, by omega⟩
end Go.Vk
namespace Go.Vk
def pg {α : Type} (Mk : α → Int → Option (Int × α)) (c : Nat) (x : α) : Prop :=
  ∀ m : Nat, m + c < 4611686018427387904 → ∃ (m' : Nat) (x' : α), Mk x (m : Int) = some ((m' : Int), x') ∧ m ≤ m' ∧ m' ≤ m + c
theorem nc {α : Type} {p : List α} {c : α → Nat} (Lm : Nat → List α → Int → Int → Option (Int × List α))
    (zm : ∀ k l m i, ¬ (decide (i < (p.length : Int)) = true) → Lm (k + 1) l m i = some (m, l))
    (hp : p.length < 1000000000000)
    (hM : ∀ x ∈ p, ∀ m : Nat, m + c x < 4611686018427387904 → ∃ (m' : Nat) (x' : α),
      (∀ k l i, decide (i < (p.length : Int)) = true → idx l i = some x → Lm (k + 1) l (m : Int) i = Lm k (l.set i.toNat x') (m' : Int) (IntKind.i64.wrap (i + 1))) ∧ m ≤ m' ∧ m' ≤ m + c x) :
    pg (fun p m => Lm aK p m 0) ((p.map c).sum) p := by
  have key : ∀ (d i : Nat) (l : List α) (m : Nat), p.length - i = d → i ≤ p.length → l.length = p.length → l.drop i = p.drop i → m + ((p.drop i).map c).sum < 4611686018427387904 →
      ∃ (m' : Nat) (l' : List α), (∀ k, d < k → Lm k l (m : Int) (i : Int) = some ((m' : Int), l')) ∧ m ≤ m' ∧ m' ≤ m + ((p.drop i).map c).sum := by
    intro d
    induction d with
    | zero =>
      intro i l m hd hi hl hdr hm
      refine ⟨m, l, fun k hk => ?_, by omega, by omega⟩
      obtain ⟨k, rfl⟩ : ∃ q, k = q + 1 := ⟨k - 1, by omega⟩
      rw [zm _ _ _ _ (by simp; omega)]
    | succ d ih =>
      intro i l m hd hi hl hdr hm
      have hlt : i < p.length := by omega
      have hli : l[i]'(by omega) = p[i] := by
        have h1 : (l.drop i)[0]? = (p.drop i)[0]? := by rw [hdr]
        rw [List.getElem?_drop, List.getElem?_drop, Nat.add_zero, List.getElem?_eq_getElem (by omega), List.getElem?_eq_getElem hlt] at h1
        exact Option.some.inj h1
      have hsum : ((p.drop i).map c).sum = c p[i] + ((p.drop (i + 1)).map c).sum := by rw [List.drop_eq_getElem_cons hlt, List.map_cons, List.sum_cons]
      obtain ⟨m1, x', hm1, h2, h3⟩ := hM _ (List.getElem_mem hlt) m (by omega)
      obtain ⟨m', l', k1, k3, k4⟩ := ih (i + 1) (l.set i x') m1 (by omega) (by omega) (by simp [hl]) (by
        rw [List.drop_set_of_lt (by omega)]
        have := congrArg (List.drop 1) hdr
        simpa [List.drop_drop, Nat.add_comm 1 i] using this) (by omega)
      refine ⟨m', l', fun k hk => ?_, by omega, by omega⟩
      obtain ⟨k, rfl⟩ : ∃ q, k = q + 1 := ⟨k - 1, by omega⟩
      rw [hm1 k l i (by simp; omega) (by rw [bf (by omega : i < l.length), hli]), aD (by omega)]
      exact k1 k (by omega)
  intro m hm
  have hs : ((p.drop 0).map c).sum = (p.map c).sum := by simp
  obtain ⟨m', l', k1, k3, k4⟩ := key p.length 0 p m (by omega) (by omega) rfl rfl (by omega)
  exact ⟨m', l', k1 aK (fe (by omega)), k3, by omega⟩
end Go.Vk
/- What always answers. No program in sight. -/
namespace Go.Vk
def Tot {α : Type} (o : Option α) (Q : α → Prop) : Prop := ∃ v, o = some v ∧ Q v
theorem Tot.mono {α : Type} {o : Option α} {P Q : α → Prop} (h : Tot o P) (k : ∀ v, P v → Q v) : Tot o Q := by
  obtain ⟨v, e, h⟩ := h
  exact ⟨v, e, k v h⟩
theorem Tot.bind {α β : Type} {o : Option α} {f : α → Option β} {P : α → Prop} {Q : β → Prop} (h : Tot o P) (k : ∀ v, P v → Tot (f v) Q) : Tot (o.bind f) Q := by
  obtain ⟨v, rfl, h⟩ := h
  exact k v h
theorem wJ {α β ρ : Type} {p : List α} (g : α → β) (Lp : Nat → List β → Int → Option ρ) (fin : List β → Option ρ)
    (hz : ∀ k l, Lp (k + 1) l (p.length : Int) = fin l)
    (hs : ∀ k l (i : Nat) (h : i < p.length), l.length = i → Lp (k + 1) l (i : Int) = Lp k (l ++ [g p[i]]) ((i + 1 : Nat) : Int))
    (hp : p.length < 1000000000000) : Lp aK [] 0 = fin (p.map g) := by
  have key : ∀ (d k i : Nat), p.length - i = d → d < k → i ≤ p.length → Lp k ((p.take i).map g) (i : Int) = fin (p.map g) := by
    intro d
    induction d with
    | zero =>
      intro k i hd hk hi
      obtain ⟨k, rfl⟩ : ∃ q, k = q + 1 := ⟨k - 1, by omega⟩
      have : i = p.length := by omega
      subst this
      rw [hz, List.take_length]
    | succ d ih =>
      intro k i hd hk hi
      obtain ⟨k, rfl⟩ : ∃ q, k = q + 1 := ⟨k - 1, by omega⟩
      have hlt : i < p.length := by omega
      rw [hs k _ i hlt (by simp; omega), ← ih k (i + 1) (by omega) (by omega) (by omega), List.take_succ_eq_append_getElem hlt, List.map_append]
      rfl
  exact key p.length aK 0 (by omega) (fe hp) (Nat.zero_le _)
end Go.Vk
/- A slice whose elements were handed over, and that is read on. A literal that holds what is borrowed. -/
namespace Go.Vk
open Go.RowKit
variable {P : Program} {n : Nat} {C : World → Prop} {E : Env} {m : Md} {l rest : List Oper} {w0 w : World} {M : List Nat} {L : List Res} {Q : Exit → Act → World → Prop}
end Go.Vk
/- mF of strings: converted, appended. -/
namespace Go.Vk
variable {P : Program} {n : Nat} {C : World → Prop} {E : Env} {m : Md} {l rest : List Oper} {w0 : World} {M : List Nat} {L : List Res} {Q : Exit → Act → World → Prop}
def byS (s : List UInt8) : List Int := s.map fun b => (b.toNat : Int)
def vq (s : List UInt8) : Option (List Int) := if s.length ≤ 68719476736 then some (byS s) else none
theorem uW (s : List UInt8) : (byS s).length = s.length := by simp [byS]
theorem yx {s : List UInt8} {zs : List Int} (h : vq s = some zs) : zs = byS s ∧ s.length ≤ 68719476736 := by
  unfold vq at h
  split at h
  · exact ⟨(Option.some.inj h).symm, ‹_›⟩
  · cases h
theorem Dn (s : List UInt8) : Lib.strCells ⟨s.toArray⟩ = (byS s).map (Value.int .u8) := by
  unfold Lib.strCells byS
  rw [List.map_map]
  rfl
theorem MS {o : Oper} {t1 t2 et : TypeId} {x : Operand} {s : List UInt8} {zs : List Int} (ho : o.op = .convert t1 t2 x) (hm : m.here (o :: rest) = true) (hw : wt l E o.guard = some true) (hd : iA n o.dst = true)
    (hx : ev E x = some (vS s)) (h1 : yq P t1) (h2 : isSl P t2 et) (h3 : vk P et .u8) (hz : vq s = some zs)
    (hS : ∀ b c, Kp m (St w0 M (L ++ [Res.own (ae eU8 et) [b] zs [.slice (some ⟨b, 0, none⟩) zs.length c]])))
    (hk : ∀ b c, OW P n l (St w0 M (L ++ [Res.own (ae eU8 et) [b] zs [.slice (some ⟨b, 0, none⟩) zs.length c]])) (upd E o.dst (.slice (some ⟨b, 0, none⟩) zs.length c)) m rest) : OW P n l (St w0 M L) E m (o :: rest) :=
  lk hm hw fun a w hF hC _ _ hK => by
    obtain ⟨rfl, hlen⟩ := yx hz
    have hrun := Lib.run_convert_string_bytes (P := P) w t1 t2 et ⟨s.toArray⟩ h1 h2 h3
    have hsz : (⟨s.toArray⟩ : ByteArray).size = s.length := by simp [ByteArray.size]
    have hge := grownCap_ge w s.length 0 et
    have hcm := grownCap_le_maxLen w s.length 0 et (by simp only [maxLen]; omega)
    have hcells : (Lib.bytesCells w et ⟨s.toArray⟩).toList = (byS s).map (Value.int .u8) ++ List.replicate (grownCap w s.length 0 et - s.length) (.int .u8 0) := by
      unfold Lib.bytesCells byS
      rw [hsz]
      simp [List.map_map]
    have hrow : mJ (Lib.bytesWorld w et ⟨s.toArray⟩) w.heap.size (Lib.bytesCells w et ⟨s.toArray⟩) et := ⟨_, Lib.bytesWorld_at_new w et _, .inr (Nat.le_refl _)⟩
    have hext : Ext [] w (Lib.bytesWorld w et ⟨s.toArray⟩) := ⟨rfl, rfl, rfl, by rw [Lib.bytesWorld_size]; omega, fun b hb _ => Lib.bytesWorld_at_old w et _ b hb⟩
    have hfl : JB (Value.int .u8) et w.heap.size (grownCap w s.length 0 et) (byS s) (Lib.bytesWorld w et ⟨s.toArray⟩) := by
      refine ⟨_, hrow, by rw [uW]; exact hge, hcm, ?_, ?_⟩
      · have := congrArg List.length hcells
        simp only [Array.length_toList, List.length_append, List.length_map, List.length_replicate, uW] at this
        omega
      · rw [hcells]
        have e : (byS s).length = ((byS s).map (Value.int .u8)).length := by rw [List.length_map]
        rw [e, List.take_left]
    have hst := hC.push hext (Res.own (ae eU8 et) [w.heap.size] (byS s) [.slice (some ⟨w.heap.size, 0, none⟩) (byS s).length (grownCap w s.length 0 et)]) (zH hfl) (by simp [Res.own]) (fun b hb => by
      have : b = w.heap.size := by simpa [Res.own] using hb
      subst this
      exact ⟨Nat.le_refl _, by rw [Lib.bytesWorld_size]; omega⟩)
    refine pW ?_ (hK _ _ _ _ (hk _ _) (hF.put _ _ (bU hd)) hst (hS _ _ _ hst))
    unfold execOp
    have hx' : ev E x = some (.string ⟨s.toArray⟩) := hx
    simp only [ho, hF.ev hx', Sem.run_bind, hrun]
    rw [uW, hsz]
    rfl
theorem vW (w : World) (t u ty e : TypeId) (i : TypeInfo) (ht : P.underlying t = some (.slice e)) (hu : P.underlying u = some .string) (hi : P.info? e = some i) (hz : i.zero = some (.int .u8 0))
    (hsize : i.size = 1) (hby : i.bytes = 1)
    (v : Value) (n : Nat) (xs : List Value) (hown : pZ w e 1 v n xs) (s : ByteArray)
    (a : n + s.size ≤ maxLen) (hbytes : n + s.size ≤ 140737488355328) :
    ∃ v' w', (Builtin.append_ #[t, u] ty #[v, .string s]).run P w = .ok v' w' ∧ pZ w' e 1 v' (n + s.size) (xs ++ Lib.strCells s) ∧ w.grownBy w' v.ownBlock ∧
      (v' = .slice none 0 0 ↔ v = .slice none 0 0 ∧ s.size = 0) ∧ (v' = .slice none 0 0 ∨ v'.ownBlock = v.ownBlock ∨ v'.ownBlock = some w.heap.size) := by
  rcases hown.2 with ⟨rfl, rfl⟩ | ⟨g, cap, cur, rfl, hbg, hg, hnc, hcm, hcs, htake⟩
  · have hxl : xs.length = 0 := by simpa using hown.1
    obtain ⟨v', w', r1, r2, r3, r4⟩ := Lib.run_append_own_string (P := P) w 0 t u ty e i ht hu hi hz hsize hby (.slice none 0 0) 0 xs ⟨hown.1, .inl ⟨rfl, rfl⟩⟩ s a hbytes (Nat.zero_le _)
    refine ⟨v', w', r1, ⟨r2.1, ?_⟩, r3, r4, ?_⟩
    · rcases r2.2 with q | ⟨g, cap, cur, q1, q2, q3, q4⟩
      · exact .inl q
      · exact .inr ⟨g, cap, cur, q1, q2, .of q3, q4⟩
    · by_cases h0 : s.size = 0
      · exact .inl (r4.2 ⟨rfl, h0⟩)
      · have hr := run_append_nil_string (P := P) w t u ty e i (.int .u8 0) ht hu hi hz s (by omega) (by simp only [maxLen] at a; omega) (by rw [hby]; omega)
        rw [hr] at r1
        cases r1
        exact .inr (.inr rfl)
  · have hxl : xs.length = n := by simpa using hown.1
    have hlen : (xs ++ Lib.strCells s).length = (n + s.size) * 1 := by rw [List.length_append, hxl, Lib.strCells_length, Nat.mul_one]
    have hsmall : n + s.size ≤ 9223372036854775807 := by simp only [maxLen] at a; omega
    have hcs' : cur.size = cap := by simpa using hcs
    by_cases hroom : n + s.size ≤ cap
    · have hr : (Builtin.append_ #[t, u] ty #[.slice (some ⟨g, 0, none⟩) n cap, .string s]).run P w =
          .ok (.slice (some ⟨g, 0, none⟩) (n + s.size) cap) (w.setRow g (cur.toList.take n ++ Lib.strCells s ++ cur.toList.drop (n + s.size)).toArray) := by
        obtain ⟨fz, hg, hfz⟩ := hg
        have hf := Lib.run_firstCells_string (P := P) w 1 s
        have hst := od P g n e fz (Lib.strCells s) 0 cur w hg (by rw [Lib.strCells_length]; rcases hfz with q | q; exact .inl q; exact .inr (by omega)) (by rw [Lib.strCells_length]; omega) (Lib.strCells_oneCell s)
        simp only [Nat.add_zero, Lib.strCells_length] at hst
        simp [Builtin.append_, run_underlying ht, run_underlying hu, sizeOf, typeInfo, hi, hsize, Builtin.lenOf, hroom, hf, Addr.add_lit, hst]
      have hsz2 : (cur.toList.take n ++ Lib.strCells s ++ cur.toList.drop (n + s.size)).toArray.size = cur.size := by
        simp only [List.size_toArray, List.length_append, List.length_take, List.length_drop, Array.length_toList, Lib.strCells_length]
        omega
      refine ⟨_, _, hr, ⟨hlen, .inr ⟨g, cap, _, rfl, hbg, hg.set hsz2, hroom, hcm, ?_, ?_⟩⟩, ⟨rfl, rfl, rfl, by simp, fun k _ hk => setRow_other w g k _ (fun e => hk (by simp [Value.ownBlock, e]))⟩, by simp, .inr (.inl rfl)⟩
      · rw [hsz2]; exact hcs
      · have ht' : cur.toList.take n = xs := by simpa using htake
        rw [ht', ← hlen]
        exact List.take_left
    · have holds : ∀ j u, xs[j]? = some u → w.cell? ((⟨g, 0, none⟩ : Addr).add j) = some u := hown.cells (g := g) rfl
      have hr := Lib.run_append_grow_string (P := P) w t u ty e i (.int .u8 0) ht hu hi hz ⟨g, 0, none⟩ n cap xs (by rw [hsize]; simpa using hxl) holds s (by omega) (by omega) (by rw [hby]; exact growslice_fits (by omega) (by omega))
      have hge := grownCap_ge w (n + s.size) cap e
      have hcm2 : grownCap w (n + s.size) cap e ≤ maxLen := grownCap_le_maxLen w (n + s.size) cap e a
      refine ⟨_, _, hr, ⟨hlen, .inr ⟨w.heap.size, _, _, rfl, Nat.zero_le _, .of (heap_alloc_new w.drew _), hge, hcm2, ?_, ?_⟩⟩, ⟨rfl, rfl, rfl, by simp, fun k hk _ => heap_alloc_old w.drew _ hk⟩, by simp, .inr (.inr rfl)⟩
      · have hz1 : (Value.int IntKind.u8 0).cells.size = 1 := rfl
        simp only [Array.size_append, List.size_toArray, size_zeroCells, hz1, hxl, Lib.strCells_length]
        omega
      · simp only [Array.toList_append, List.append_assoc]
        rw [← List.append_assoc, ← hlen]
        exact List.take_left
def MW (P : Program) (t : TypeId) : Prop := ∃ i, P.info? t = some i ∧ i.zero = some (Value.int .u8 0) ∧ i.size = 1 ∧ i.bytes = 1
theorem KS {P : Program} {t : TypeId} (h : (P.info? t).map (fun i => (i.zero, i.size, i.bytes)) = some (some (Value.int .u8 0), 1, 1)) : MW P t := by
  cases hi : P.info? t with
  | none => rw [hi] at h; cases h
  | some i =>
    rw [hi] at h
    simp only [Option.map_some, Option.some.injEq, Prod.mk.injEq] at h
    exact ⟨i, hi, h⟩
theorem KC {o : Oper} {t ts et : TypeId} {x y : Operand} {r : Nat} {F : List Nat} {xs bs zs : List Int} {a : Option Addr} {nn cap : Nat} {s : List UInt8}
    (ho : o.op = .call { callee := .builtin .append, args := #[x, y], argTypes := #[t, ts] }) (hm : m.here (o :: rest) = true) (hw : wt l E o.guard = some true) (hd : iA n o.dst = true) (hx : ev E x = some (.slice a nn cap)) (hy : ev E y = some (vS s))
    (ht : isSl P t et) (hu : yq P ts) (he : MW P et) (hr : L[r]? = some (Res.own (ae eU8 et) F xs [.slice a nn cap])) (hb : vq s = some bs) (hz : app xs bs = some zs)
    (hS : ∀ a' c' F', Kp m (St w0 M (L.set r (Res.own (ae eU8 et) F' zs [.slice a' zs.length c']))))
    (hk : ∀ a' c' F', OW P n l (St w0 M (L.set r (Res.own (ae eU8 et) F' zs [.slice a' zs.length c']))) (upd E o.dst (.slice a' zs.length c')) m rest) : OW P n l (St w0 M L) E m (o :: rest) := by
  obtain ⟨rfl, _⟩ := yx hb
  obtain ⟨rfl, hlen⟩ := An hz
  refine lk hm hw fun fr w hF hC _ _ hK => ?_
  obtain ⟨hok, hnd, hlt⟩ := hC.one hr
  obtain ⟨i, hi, hzv, hs, hby⟩ := he
  obtain ⟨ds, F1, hrow, hall, hFF⟩ := GQ (e := eU8) (T := et) hok
  obtain ⟨rfl, rfl⟩ := zL hall
  have hsz : (⟨s.toArray⟩ : ByteArray).size = s.length := by simp [ByteArray.size]
  rw [uW] at hlen
  have hnn : nn = xs.length := by
    rcases hrow.2 with ⟨q1, q2⟩ | ⟨g, cp, cur, q1, _, _⟩
    · cases q1; exact q2.symm
    · cases q1; rfl
  subst hnn
  obtain ⟨v', w', hrun, hrow', hgr, hnil, hblk⟩ := vW (P := P) w t ts o.type et i ht hu hi hzv hs hby (.slice a xs.length cap) xs.length _ hrow ⟨s.toArray⟩ (by rw [hsz]; simp only [maxLen]; omega) (by rw [hsz]; omega)
  rw [hsz, Dn, ← List.map_append, show xs.length + s.length = (xs ++ byS s).length by rw [List.length_append, uW]] at hrow'
  obtain ⟨F', hown, hF'⟩ := GK (e := eU8) hrow' (rI (xs ++ byS s)) (fun _ => rfl)
  have hvF : ∀ b, (Value.slice a xs.length cap).ownBlock = some b → b ∈ F := by
    intro b hb
    rcases hFF with ⟨_, _, _, q⟩ | ⟨c, rfl, hc⟩
    · rw [q] at hb; cases hb
    · rw [hc] at hb; cases hb; simp
  have hext : Ext F w w' := ⟨hgr.os, hgr.tape, hgr.output, hgr.size, fun b hb hn => hgr.block b hb (fun e => hn (hvF b e.symm))⟩
  have hnd' : F'.Nodup := by
    rcases hF' with ⟨rfl, _⟩ | ⟨b, rfl, _⟩ <;> simp
  have hlt' : ∀ b ∈ F', b < w'.heap.size ∧ (b ∈ F ∨ w.heap.size ≤ b) := by
    intro b hb
    refine ⟨(ae eU8 et).own_lt hown b hb, ?_⟩
    rcases hF' with ⟨rfl, _⟩ | ⟨c, rfl, hc⟩
    · cases hb
    · rw [List.mem_singleton.1 hb]
      rcases hblk with q | q | q
      · rw [q] at hc; cases hc
      · rw [hc] at q; exact .inl (hvF c q.symm)
      · rw [hc] at q; cases q; exact .inr (Nat.le_refl _)
  obtain ⟨a', c', hv, _⟩ := (ae eU8 et).own_rd (X := []) hown (by simp)
  simp only [List.cons.injEq, and_true] at hv
  subst hv
  have hst : St w0 M (L.set r (Res.own (ae eU8 et) F' (xs ++ byS s) [.slice a' (xs ++ byS s).length c'])) w' := hC.upd hr hext _ hown hnd' hlt'
  refine pW ?_ (hK _ _ _ _ (hk a' c' F') (hF.put _ _ (bU hd)) hst (hS a' c' F' _ hst))
  unfold execOp
  have hy' : ev E y = some (.string ⟨s.toArray⟩) := hy
  simp only [ho, resolve, invoke, builtin, Sem.run_bind, Sem.run_pure, Result.andThen_ok, List.map_toArray, List.map_cons, List.map_nil, hF.ev hx, hF.ev hy', hrun]
theorem Ld {o : Oper} {t et : TypeId} {x : Operand} {r b : Nat} {F : List Nat} {xs : List Int} {nn cap : Nat} (ho : o.op = .convert t t x) (hm : m.here (o :: rest) = true) (hw : wt l E o.guard = some true) (hd : iA n o.dst = true)
    (hx : ev E x = some (.slice (some ⟨b, 0, none⟩) nn cap)) (ht : isSl P t et) (he : vk P et .u8) (hr : L[r]? = some (Res.own (ae eU8 et) F xs [.slice (some ⟨b, 0, none⟩) nn cap]))
    (hS : Kp m (St w0 M L)) (hk : OW P n l (St w0 M L) (upd E o.dst (.slice (some ⟨b, 0, none⟩) nn cap)) m rest) : OW P n l (St w0 M L) E m (o :: rest) :=
  lk hm hw fun a w hF hC _ _ hK => by
    obtain ⟨hok, hnd, hlt⟩ := hC.one hr
    rcases hok with ⟨_, _, hv⟩ | ⟨b', cap', cur, F1, ds, rfl, hcs, hh, h1, h2, h3, h4, h5⟩
    · cases hv
    · simp only [List.cons.injEq, Value.slice.injEq, Option.some.injEq, Addr.mk.injEq, and_true] at hcs
      obtain ⟨rfl, rfl, rfl⟩ := hcs
      obtain ⟨fr, hh, hfr⟩ := hh
      have hsh : w.shape? b = some (et, cur.size) := by simp [World.shape?, hh]
      have hnew : (w.freeze ⟨b, cur.size, none⟩ 1).heap[b]? = some (.cells cur et (if fr.1 == fr.2 then (cur.size, cur.size + 1) else (min fr.1 cur.size, max fr.2 (cur.size + 1)))) := by
        obtain ⟨lo, hi⟩ := fr
        simp [World.freeze, Array.getElem?_modify, hh]
      have hold : ∀ c, c ≠ b → (w.freeze ⟨b, cur.size, none⟩ 1).heap[c]? = w.heap[c]? := fun c hc => by
        simp [World.freeze, Array.getElem?_modify, Ne.symm hc]
      have hrow : mJ (w.freeze ⟨b, cur.size, none⟩ 1) b cur et := by
        refine ⟨_, hnew, ?_⟩
        by_cases hq : fr.1 = fr.2
        · rw [if_pos (by simpa using hq)]
          exact .inr (Nat.le_refl _)
        · rw [if_neg (by simpa using hq)]
          right
          show cur.size ≤ min fr.1 cur.size
          rcases hfr with q | q
          · exact absurd q hq
          · omega
      have hext : Ext (b :: F1) w (w.freeze ⟨b, cur.size, none⟩ 1) := ⟨rfl, rfl, rfl, by simp [World.freeze], fun c _ hn => hold c (fun e => hn (by simp [e]))⟩
      have hF1 : ∀ c ∈ F1, c ≠ b := fun c hc e => (List.nodup_cons.1 hnd).1 (e ▸ hc)
      have hown : (Res.own (ae eU8 et) (b :: F1) xs [.slice (some ⟨b, 0, none⟩) xs.length cap]).ok (w.freeze ⟨b, cur.size, none⟩ 1) :=
        .inr ⟨b, cap, cur, F1, ds, rfl, rfl, hrow, h1, h2, h3, h4, lD h5 (fun c hc => hold c (hF1 c hc))⟩
      have hst := hC.upd hr hext _ hown hnd (fun c hc => ⟨by simpa [World.freeze] using hlt c hc, .inl hc⟩)
      have hL : L.set r (Res.own (ae eU8 et) (b :: F1) xs [.slice (some ⟨b, 0, none⟩) xs.length cap]) = L := by
        obtain ⟨hl, hg⟩ := List.getElem?_eq_some_iff.1 hr
        rw [← hg]
        exact List.set_getElem_self hl
      rw [hL] at hst
      refine pW ?_ (hK _ _ _ _ hk (hF.put _ _ (bU hd)) hst (hS _ hst))
      have ht' : P.underlying t = some (.slice et) := ht
      have he' : P.underlying et = some (.int .u8) := he
      unfold execOp
      simp [ho, hF.ev hx, convert, run_underlying ht', run_underlying he', markStringish, hsh]
def KM : Nat → List Value → List (Nat × List Value)
  | _, [] => []
  | i, v :: r => (i, [v]) :: KM (i + 1) r
theorem Co : ∀ (vs a z : List Value), z.length = vs.length → zb (a ++ z) (KM a.length vs) = a ++ vs
  | [], a, z, h => by rw [List.length_eq_zero_iff.1 h]; rfl
  | v :: r, a, [], h => by cases h
  | v :: r, a, x :: z, h => by
    have e : fI (a ++ x :: z) a.length [v] = (a ++ [v]) ++ z := by simp [fI]
    have := Co r (a ++ [v]) z (by simpa using h)
    rw [List.length_append] at this
    show zb (fI (a ++ x :: z) a.length [v]) (KM (a.length + 1) r) = _
    rw [e, show a.length + 1 = a.length + [v].length from rfl, this]
    simp
theorem Jq {z vs : List Value} {qs : List (Nat × List Value)} (hq : qs = KM 0 vs) (hl : z.length = vs.length) : zb z qs = vs := by
  subst hq
  exact Co vs [] z hl
end Go.Vk
/- The steps of a walk, said shortly. -/
namespace Go.Vk
variable {P : Program} {n : Nat} {C : World → Prop} {E : Env} {m : Md} {l rest : List Oper} {w0 : World} {M : List Nat} {L : List Res} {Q : Exit → Act → World → Prop}
theorem bE {α β : Type} {o : Option α} {f : α → Option β} {r : β} {G : Prop} (h : o.bind f = some r) (k : ∀ z, o = some z → f z = some r → G) : G := by
  obtain ⟨z, h1, h2⟩ := Hc h
  exact k z h1 h2
theorem cI {α : Type} {x : Operand} {c d : Code} {b : Bool} {A B r : Option α} (H : (if b then A else B) = r) (hx : ev E x = some (.bool b)) (ht : A = r → CW P n C E Q c) (hf : B = r → CW P n C E Q d) : CW P n C E Q (.cond x c d) :=
  PQ hx (fun hb => ht (aR hb H)) (fun hb => hf (aQ hb H))
theorem o1 {o : Oper} {v : Value} (h : (wt l E o.guard, iA n o.dst) = (some true, true)) (hq : Ry P n (m.cls C) E o v) (k : OW P n l C (upd E o.dst v) m rest) : OW P n l C E m (o :: rest) := by
  obtain ⟨h1, h2⟩ := Prod.mk.inj h
  exact FY h1 (bU h2) hq k
theorem r1 (off i : Nat) {o : Oper} {t : TypeId} {x : Operand} {b : Nat} {v : Value} {sz by_ : Nat} {z : List Value} {T : TypeId} {cs : List Value} (h1 : (o.op, ev E x) = (.load t x, some (.pointer (some ⟨b, off, none⟩)))) (ht : ee P t false sz by_ z)
    (h2 : (L[i]?, cs[off]?) = (some (Res.box b T cs), some v)) : Ry P n (St w0 M L) E o v := by
  obtain ⟨h1, h3⟩ := Prod.mk.inj h1
  obtain ⟨h2, h4⟩ := Prod.mk.inj h2
  exact KV h1 h3 ht (mt h2) h4
theorem rx (off i : Nat) (ds : List Value) {o : Oper} {t : TypeId} {x : Operand} {b : Nat} {sz by_ : Nat} {z : List Value} {T : TypeId} {cs : List Value} (h1 : (o.op, ev E x) = (.load t x, some (.pointer (some ⟨b, off, none⟩)))) (ht : ee P t true sz by_ z)
    (h2 : (L[i]?, (cs.drop off).take sz, ds.length) = (some (Res.box b T cs), ds, sz)) : Ry P n (St w0 M L) E o (.agg ds.toArray) := by
  obtain ⟨h1, h3⟩ := Prod.mk.inj h1
  obtain ⟨h2, h4⟩ := Prod.mk.inj h2
  obtain ⟨h4, h5⟩ := Prod.mk.inj h4
  exact Mb h1 h3 ht (mt h2) h4 h5
theorem ob (cs : List Value) {Q : Exit → Act → World → Prop} {o : Oper} {T : TypeId} {x : Operand} {v : Value} (h : (o.op, wt l E o.guard, iA n o.dst, ev E x, v.cells) = (.box T x, some true, true, some v, cs.toArray))
    (hk : ∀ b, OW P n l (St w0 M (L ++ [Res.box b T cs])) (upd E o.dst (.pointer (some ⟨b, 0, none⟩))) (.lex Q) rest) : OW P n l (St w0 M L) E (.lex Q) (o :: rest) := by
  simp only [Prod.mk.injEq] at h
  obtain ⟨h1, h2, h3, h4, h5⟩ := h
  exact Mf h1 rfl h2 h3 h4 h5 (fun _ => kp) hk
theorem sC (off : Nat) (vs cs' : List Value) (i : Nat) {Q : Exit → Act → World → Prop} {o : Oper} {t : TypeId} {x y : Operand} {b : Nat} {v : Value} {agg : Bool} {sz by_ : Nat} {z : List Value} {T : TypeId} {cs : List Value}
    (h : (o.op, wt l E o.guard, iA n o.dst, ev E x, ev E y) = (.store t x y, some true, true, some (.pointer (some ⟨b, off, none⟩)), some v)) (ht : ee P t agg sz by_ z)
    (h2 : (v.cells, vs.length, vs.all Value.oneCell', L[i]?, Nat.ble (off + sz) cs.length, fI cs off vs) = (vs.toArray, sz, true, some (Res.box b T cs), true, cs'))
    (hk : OW P n l (St w0 M (L.set i (Res.box b T cs'))) (upd E o.dst undef) (.lex Q) rest) : OW P n l (St w0 M L) E (.lex Q) (o :: rest) := by
  simp only [Prod.mk.injEq] at h h2
  obtain ⟨h1, h3, h4, h5, h6⟩ := h
  obtain ⟨g1, g2, g3, g4, g5, g6⟩ := h2
  exact Ho vs cs' h1 rfl h3 h4 h5 h6 ht g1 g2 (List.all_eq_true.1 g3) g4 g5 g6 kp hk
theorem tt2 {α : Sort _} {β : α → Sort _} : ∀ a, β a → True := fun _ _ => trivial
theorem oq {o : Oper} {v : Value} (h : (m.loud (o :: rest), wt l E o.guard, iA n o.dst) = (true, some true, true)) (hq : Qy P n C E o v) (hS : ∀ w, C w → m.keeps w) (k : OW P n l C (upd E o.dst v) m rest) : OW P n l C E m (o :: rest) := by
  simp only [Prod.mk.injEq] at h
  exact CF h.1 h.2.1 (bU h.2.2) hq hS k
theorem qc {o : Oper} {f : FuncId} {xs : List Operand} {ts : Array TypeId} {vs : List Value} {v : Value} (h : (o.op, evs E xs) = (.call { callee := .value (.func f), args := xs.toArray, argTypes := ts }, some vs)) (hf : bl P f)
    (hc : ∀ w, St w0 M L w → Calls P f vs.toArray w fun e w' => e = .returned v ∧ Ext [] w w') : Qy P n (St w0 M L) E o v := by
  obtain ⟨h1, h2⟩ := Prod.mk.inj h
  exact Kx h1 hf h2 hc
theorem xr (t : Nat) {fn : Func} {R : Ending → World → Prop} {v : Value} (h : (fn.results, tY E t) = (#[.tmp t], some v)) (hR : ∀ w, C w → R (.returned v) w) : XW n C E (bodyPost P fn R) .ret := by
  obtain ⟨h1, h2⟩ := Prod.mk.inj h
  exact ca (rs := [.tmp t]) (vs := [v]) h1 ⟨h2, trivial⟩ hR
theorem q1 {v : Value} : ∀ w, St w0 M L w → (Ending.returned v = .returned v ∧ Ext M w0 w) := fun _ h => ⟨rfl, h.ext⟩
theorem sb {E : Env} : ∀ {R : Env}, R.map (fun p => tY E p.1) = R.map (fun p => some p.2) → Sub R E
  | [], _ => trivial
  | (t, v) :: R, h => by
    simp only [List.map_cons, List.cons.injEq] at h
    exact ⟨h.1, sb h.2⟩
abbrev eI : Enc Int := il (Value.int .i64) (fun _ => rfl)
theorem oP {P : Program} {n : Nat} {C : World → Prop} {m : Md} {l rest rest' : List Oper} {E E' : Env} (h : AW n l [El.p (P := P)] rest E = some (rest', E')) (k : OW P n l C E' m rest') : OW P n l C E m rest := aa _ h k
theorem oPP {P : Program} {n : Nat} {C : World → Prop} {m : Md} {l rest rest' : List Oper} {E E' : Env} (h : AW n l [El.p (P := P), El.p (P := P)] rest E = some (rest', E')) (k : OW P n l C E' m rest') : OW P n l C E m rest := aa _ h k
theorem nQ {P : Program} {n : Nat} {C : World → Prop} {E : Env} {Q : Exit → Act → World → Prop} {l : List Oper} {y : Code} (h : CW P n C E Q y) : OW P n l C E (.lex (QS P y Q)) [] := aE (ao h)
theorem sR {P : Program} {n : Nat} {C : World → Prop} {E : Env} {Q : Exit → Act → World → Prop} {y : Code} {id : Nat} {l : List Oper} (h : OW P n l C E (.lex (QS P y Q)) l) : CW P n C E Q (.seq (.region id l.toArray false) y) := ai (aJ h)
theorem nR {P : Program} {n : Nat} {C : World → Prop} {E : Env} {Q : Exit → Act → World → Prop} {l l' : List Oper} {y : Code} {id : Nat} (h : OW P n l' C E (.lex (QS P y Q)) l') : OW P n l C E (.lex (QS P (.seq (.region id l'.toArray false) y) Q)) [] := aE (ao (ai (aJ h)))
theorem nT {P : Program} {n : Nat} {C : World → Prop} {E : Env} {Q : Exit → Act → World → Prop} {l : List Oper} (h : XW n C E Q .ret) : OW P n l C E (.lex (QS P .ret Q)) [] := aE (ao (rG h))
theorem bS {α β : Type} (a : α) (f : α → Option β) : (some a).bind f = f a := rfl
theorem nl {a b : Nat} (h : Nat.ble a b = true) : a ≤ b := Nat.le_of_ble_eq_true h
theorem tk {w0 : World} {M : List Nat} {L L' : List Res} (k : Nat) (hL : L.take k = L') : ∀ w, St w0 M L w → St w0 M L' w := fun _ h => h.take k hL
abbrev e8 : Enc Int := il (Value.int .u8) (fun _ => rfl)
theorem al {l : List Value} (h : l.all (fun u => u.oneCell') = true) : ∀ u ∈ l, u.oneCell' = true := fun u hu => List.all_eq_true.1 h u hu
theorem ss {w0 : World} {M : List Nat} {L L' : List Res} (idx : List Nat) (hs : kx L idx = L') (hn : xR idx = true) : ∀ w, St w0 M L w → St w0 M L' w := fun _ h => St.sel idx hs hn h
theorem sm {w0 : World} {M : List Nat} {L L' : List Res} (bs : List Bool) (hL : nv bs L = L') : ∀ w, St w0 M L w → St w0 M L' w := fun _ h => St.mask bs hL h
end Go.Vk
/- The library's functions of strings, by their contracts: joined, repeated, numbers in decimal; a table of the library's that is read. -/
namespace Go.Vk
open Go.RowKit Go.Proofs Go.Shelf
variable {P : Program} {ρ : Ren}
def MA (P : Program) (name : String) (vs : Array Value) : Enc Unit where
  sz := 0
  rd := fun w X _ cs => cs = [] ∧ ∃ g t m, P.globalNamed name = some g ∧ g ∉ X ∧ w.heap[g]? = some (.cells vs t m)
  own := fun _ _ _ _ => False
  rd_len := fun h => by rw [h.1]; rfl
  rd_loc := fun ⟨h0, g, t, m, h1, h2, h3⟩ h => ⟨h0, g, t, m, h1, h2, by
    rw [h g (by
      rcases Nat.lt_or_ge g _ with hl | hl
      · exact hl
      · rw [Array.getElem?_eq_none hl] at h3; cases h3) h2]
    exact h3⟩
  rd_anti := fun ⟨h0, g, t, m, h1, h2, h3⟩ h => ⟨h0, g, t, m, h1, fun hin => h2 (h g (by
      rcases Nat.lt_or_ge g _ with hl | hl
      · exact hl
      · rw [Array.getElem?_eq_none hl] at h3; cases h3) hin), h3⟩
  own_loc := fun h _ => h.elim
  own_rd := fun h _ => h.elim
  own_lt := fun h => h.elim
  one := fun h u hu => by rw [h.1] at hu; cases hu
theorem LY {name : String} {k : IntKind} {zs : List Int} {w : World} {X : List Nat} {cs : List Value} (h : (MA P name (zs.map fun z => Value.int k z).toArray).rd w X () cs) : Lib.TabIs P w name k zs := by
  obtain ⟨_, g, t, m, h1, _, h3⟩ := h
  unfold Lib.TabIs World.var?
  rw [h1]
  simp [h3]
theorem MC {name : String} {k : IntKind} {zs : List Int} {w : World} (h : Lib.TabIs P w name k zs) : (MA P name (zs.map fun z => Value.int k z).toArray).rd w [] () [] := by
  unfold Lib.TabIs World.var? at h
  obtain ⟨g, h1, h2⟩ := Option.bind_eq_some_iff.1 h
  split at h2
  · rename_i cs t m h3
    obtain rfl := Option.some.inj h2
    exact ⟨rfl, g, t, m, h1, by simp, h3⟩
  · cases h2
theorem Ht {w w' : World} (h : Below w.heap.size w w') : Ext [] w w' := ⟨h.os, h.tape, h.output, h.size, fun b hb _ => h.block b hb⟩
def GU (n : Int) : Option (List UInt8) := if -9223372036854775808 ≤ n ∧ n ≤ 9223372036854775807 then some (Lib.itoa n) else none
abbrev uw (P : Program) : Enc Unit := MA P "internal/strconv.uint64pow10" (Lib.pow10Tab.map fun z => Value.int .u64 z).toArray
theorem KJ (L : LaysM.n171 P ρ) (w : World) {n : Int} {z : List UInt8} (h : GU n = some z) (g : (uw P).rd w [] () []) :
    Calls P (ρ.f 171) #[.int .i64 n] w (fun en w' => en = .returned (vS z) ∧ Ext [] w w') := by
  unfold GU at h
  split at h
  · rename_i hn
    obtain rfl := Option.some.inj h
    refine (Any.strconv_Itoa L n hn.1 hn.2 w (LY g)).mono fun en w' ⟨h1, k, os, h2⟩ => ⟨h1, ?_⟩
    subst h2
    refine ⟨rfl, rfl, rfl, ?_, fun b hb _ => ?_⟩
    · show w.heap.size ≤ (w.heap ++ os).size
      simp
    · show (w.heap ++ os)[b]? = w.heap[b]?
      rw [Array.getElem?_append_left hb]
  · cases h
def uD (xs : List (List UInt8)) (sep : List UInt8) : Option (List UInt8) := if xs.length ≤ 140737488355328 ∧ (Lib.join xs sep).length ≤ 140737488355328 then some (Lib.join xs sep) else none
theorem zu (L : Lays.n156 P ρ) (X : Builder.Extra P ρ) (w : World) {xs : List (List UInt8)} {sep z : List UInt8} {T : TypeId} {a : Option Addr} {n c : Nat} (h : uD xs sep = some z) (g : (ae cy T).rd w [] xs [.slice a n c]) :
    Calls P (ρ.f 156) #[.slice a n c, vS sep] w (fun en w' => en = .returned (vS z) ∧ Ext [] w w') := by
  unfold uD at h
  split at h
  · rename_i hn
    obtain rfl := Option.some.inj h
    obtain ⟨a', c', hv, h1, h2, h3⟩ := g
    simp only [List.cons.injEq, Value.slice.injEq, and_true] at hv
    obtain ⟨rfl, rfl, rfl⟩ := hv
    have hx : (xs.map fun l => (⟨l.toArray⟩ : ByteArray)).map (·.data.toList) = xs := by
      rw [List.map_map]
      exact (List.map_congr_left (fun l _ => by simp)).trans (List.map_id _)
    cases hxs : xs with
    | nil =>
      subst hxs
      refine (Any.strings_Join_none L X a c ⟨sep.toArray⟩ w).mono fun en w' ⟨h4, h5⟩ => ⟨?_, ?_⟩
      · rw [h4]; rfl
      · rw [h5]; exact Ext.refl _ _
    | cons x r =>
      obtain ⟨p, rfl, hp⟩ := h3 (by rw [hxs]; simp)
      have hat : ∀ j y, xs[j]? = some y → w.cell? (p.add j) = some (vS y) := fun j y hy => by
        obtain ⟨ds, hd, hA⟩ := hp j y hy
        have hd : ds = [vS y] := hd
        subst hd
        have := hA.2 0 (vS y) rfl
        have he : cy.sz = 1 := rfl
        rw [he, Nat.mul_one] at this
        rwa [cR] at this
      have h0 := hat 0 x (by rw [hxs]; rfl)
      have hb := World.block_lt_of_cell? w _ h0
      obtain ⟨bk, o, sp⟩ := p
      have hsp : sp = none := by
        cases sp with
        | none => rfl
        | some q =>
          rw [cR] at h0
          unfold World.cell? at h0
          split at h0 <;> simp at h0
      subst hsp
      rw [← hxs]
      have key := Any.strings_Join L X bk o c (xs.map fun l => (⟨l.toArray⟩ : ByteArray)) ⟨sep.toArray⟩ w (fun j y hy => by
        rw [List.getElem?_map] at hy
        cases hj : xs[j]? with
        | none => rw [hj] at hy; cases hy
        | some l =>
          rw [hj] at hy
          obtain rfl := Option.some.inj hy
          have := hat j l hj
          rw [dd] at this
          exact this) (by rw [cR] at hb; exact hb) (by rw [List.length_map]; exact hn.1) (by rw [List.length_map]; exact h1) (by rw [hx]; simpa using hn.2)
      rw [List.length_map, hx] at key
      refine key.mono fun en w' ⟨h4, h5⟩ => ⟨?_, Ht h5⟩
      rw [h4]
      simp [vS]
  · cases h
theorem MF {n : Nat} {S : World → Prop} {E : Env} {o : Oper} {x y : Operand} {ts : Array TypeId} {k k' : IntKind} {a b : Int} (ho : o.op = .call { callee := .builtin .max, args := #[x, y], argTypes := ts }) (hx : ev E x = some (.int k a)) (hy : ev E y = some (.int k' b)) : Ry P n S E o (.int k (if a < b then b else a)) := fun fr hF w hw => by
  unfold execOp
  simp [ho, resolve, invoke, builtin, hF.ev hx, hF.ev hy, Builtin.max_, Builtin.max2, List.foldlM]
end Go.Vk
