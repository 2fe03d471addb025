/- Arguments that are structs, opened. -/
import Derived.Test.YtmdkpmcoaalaoaaGreatVkL
import Derived.Test.YtmdkpmcoaalaoaaGreatVkG
import Derived.Shelf.Strings.OnBuilder
import Derived.Shelf.Strings.Repeat
import Derived.Shelf.Strconv.Itoa3
namespace Go.Vk
open Go.RowKit Go.WideShapes Go.ChangeShapes Go.Deep
section
variable {H : Type} {enc : TypeId × Value → H} {P : Program}
/-- a struct's fields: type and offset -/
def fieldsOf (P : Program) (t : TypeId) : Option (List (TypeId × Nat)) :=
  match P.underlying t with
  | some (.struct fs) => some (fs.toList.map fun f => (f.type, f.offset))
  | _ => none
def OpnF {α : Type} (P : Program) (fs : List (TypeId × Nat)) (o : Nat) (e : Enc α) (Ok : α → Prop) : Prop :=
  ∀ {H : Type} {enc : TypeId × Value → H} {w : World} {sp : Nat → Bool} {cs : List Value}, cs.length = e.sz →
    (∀ f ∈ fs, o ≤ f.2 ∧ ∃ n x, DataW.trod enc P w 0 sp true n f.1 ((cs.drop (f.2 - o)).take (P.cellsOf f.1)) = some x) → ∃ a, e.rd w [] a cs ∧ Ok a
theorem opnF_one {α : Type} {t : TypeId} {o : Nat} {e : Enc α} {Ok : α → Prop} (he : Opn P t e Ok) (hc : P.cellsOf t = e.sz) : OpnF P [(t, o)] o e Ok := fun {H enc w sp cs} hl h => by
  obtain ⟨_, n, x, hx⟩ := h _ (List.mem_singleton.2 rfl)
  rw [Nat.sub_self, List.drop_zero, hc, List.take_of_length_le (by omega)] at hx
  exact he hx
theorem opnF_cons {α β : Type} {t : TypeId} {o : Nat} {fs : List (TypeId × Nat)} {e : Enc α} {Ok : α → Prop} {e2 : Enc β} {Ok2 : β → Prop} (he : Opn P t e Ok) (hc : P.cellsOf t = e.sz)
    (h2 : OpnF P fs (o + e.sz) e2 Ok2) (hf : (fs.all fun f => decide (o + e.sz ≤ f.2)) = true) : OpnF P ((t, o) :: fs) o (ePair e e2) (fun x => Ok x.1 ∧ Ok2 x.2) := fun {H enc w sp cs} hl h => by
  have hl' : cs.length = e.sz + e2.sz := hl
  obtain ⟨_, n, x, hx⟩ := h _ (List.mem_cons_self ..)
  rw [Nat.sub_self, List.drop_zero, hc] at hx
  obtain ⟨a, ha, hok⟩ := he hx
  obtain ⟨b, hb, hok2⟩ := h2 (enc := enc) (w := w) (sp := sp) (cs := cs.drop e.sz) (by simp; omega) (fun f hm => by
    have hle : o + e.sz ≤ f.2 := by simpa using List.all_eq_true.1 hf f hm
    obtain ⟨_, n, x, hx⟩ := h f (List.mem_cons_of_mem _ hm)
    refine ⟨hle, n, x, ?_⟩
    rw [List.drop_drop, show e.sz + (f.2 - (o + e.sz)) = f.2 - o by omega]
    exact hx)
  have := ePair_rd ha hb
  rw [List.take_append_drop] at this
  exact ⟨(a, b), this, hok, hok2⟩
theorem opn_struct {α : Type} {t : TypeId} {fs : List (TypeId × Nat)} {e : Enc α} {Ok : α → Prop} (hf : fieldsOf P t = some fs) (ho : OpnF P fs 0 e Ok) (hc : P.cellsOf t = e.sz) : Opn P t e Ok := fun {H enc w sp n cs x} h => by
  unfold fieldsOf at hf
  split at hf
  · rename_i gs hgs
    obtain rfl := Option.some.inj hf
    obtain ⟨xs, m, _, _, hl, hxl, hg⟩ := DataW.trod_struct hgs h
    refine ho (enc := enc) (sp := sp) (by rw [hl, hc]) fun f hm => ⟨Nat.zero_le _, m, ?_⟩
    obtain ⟨g, hgm, rfl⟩ := List.mem_map.1 hm
    obtain ⟨i, hi⟩ := List.mem_iff_getElem?.1 hgm
    have hi' : gs[i]? = some g := by simpa using hi
    have hlt : i < gs.size := (Array.getElem?_eq_some_iff.1 hi').1
    refine ⟨xs[i]'(by omega), ?_⟩
    have := hg i g hi'
    rw [List.getElem?_eq_getElem (by omega)] at this
    simpa using this
  · exact absurd hf (by simp)
theorem opn_iso {α β : Type} {t : TypeId} {e : Enc α} {Ok : α → Prop} {g : β → α} (he : Opn P t e Ok) (s : α → β) (hs : ∀ a, g (s a) = a) : Opn P t (eIso e g) (fun x => Ok (g x)) := fun {H enc w sp n cs x} h => by
  obtain ⟨a, ha, hok⟩ := he h
  exact ⟨s a, by show e.rd w [] (g (s a)) cs; rw [hs]; exact ha, by show Ok (g (s a)); rw [hs]; exact hok⟩
theorem opn_map {α β : Type} {t : TypeId} {e : Enc α} {Ok : α → Prop} {e' : Enc β} {Ok' : β → Prop} (he : Opn P t e Ok) (s : α → β) (hm : ∀ {w : World} {a : α} {cs : List Value}, e.rd w [] a cs → e'.rd w [] (s a) cs) (hk : ∀ {a}, Ok a → Ok' (s a)) : Opn P t e' Ok' := fun {H enc w sp n cs x} h => by
  obtain ⟨a, ha, hok⟩ := he h
  exact ⟨s a, hm ha, hk hok⟩
/-- an argument that is a struct -/
theorem arg_struct {α : Type} {e : Enc α} {Ok : α → Prop} {w : World} {r : Reach} {b0 : Nat} {t : TypeId} {fs : List (TypeId × Nat)} {v : Value} {d : DataW H} {ps : List MemPlace} (hf : fieldsOf P t = some fs) (ho : Opn P t e Ok)
    (h : Value.okWide P w r b0 t v) (hd : DataW.Trod enc P w 0 (fun _ => true) true t v d ps) : ∃ a cs, v = .agg cs.toArray ∧ e.rd w [] a cs ∧ Ok a := by
  unfold fieldsOf at hf
  split at hf
  · rename_i gs hgs
    obtain ⟨cs, rfl, _⟩ := okWide_struct hgs h
    obtain ⟨n, hd⟩ := hd
    obtain ⟨a, ha, hok⟩ := ho hd
    exact ⟨a, cs.toList, by simp, ha, hok⟩
  · exact absurd hf (by simp)
end
end Go.Vk
/- What the statement's frame says of whole numbers. -/
namespace Go.Vk
theorem i64_of {n : Int} (h : IntOk .i64 n) : -9223372036854775808 ≤ n ∧ n ≤ 9223372036854775807 := by
  simp only [IntOk, Lit.wf] at h
  have h1 : IntKind.i64.min ≤ n ∧ n ≤ IntKind.i64.max := by simpa using h
  exact h1
theorem lt63 {n : Nat} (h : n ≤ maxLen) : n < 9223372036854775808 := Nat.lt_of_le_of_lt h (by decide)
end Go.Vk
/- Loops by index; sums. No program in sight. -/
namespace Go.Vk
theorem mem_sum {α : Type} {f : α → Nat} {p : List α} {x : α} (h : x ∈ p) : f x ≤ (p.map f).sum := by
  induction p with
  | nil => cases h
  | cons y p ih =>
    simp only [List.map_cons, List.sum_cons]
    rcases List.mem_cons.1 h with rfl | h
    · omega
    · have := ih h; omega
/-- a loop that goes on while Q holds -/
theorem if_idx {ρ : Type} {Lp : Nat → Nat → Option ρ} {n : Nat} {Q : Nat → Prop} {fin bad : Option ρ} (hz : ∀ k, (∀ j, j < n → Q j) → Lp (k + 1) n = fin)
    (hs : ∀ k i, i < n → (∀ j, j < i → Q j) → (Q i ∧ Lp (k + 1) i = Lp k (i + 1)) ∨ (¬ Q i ∧ Lp (k + 1) i = bad)) (hn : n < 1000000000000) :
    ((∀ j, j < n → Q j) ∧ Lp Fuel 0 = fin) ∨ ((¬ ∀ j, j < n → Q j) ∧ Lp Fuel 0 = bad) := by
  have key : ∀ (d k i : Nat), n - i = d → d < k → i ≤ n → (∀ j, j < i → Q j) → ((∀ j, j < n → Q j) ∧ Lp k i = fin) ∨ ((¬ ∀ j, j < n → Q j) ∧ Lp k i = bad) := by
    intro d
    induction d with
    | zero =>
      intro k i hd hk hi hq
      obtain ⟨k, rfl⟩ : ∃ q, k = q + 1 := ⟨k - 1, by omega⟩
      have : i = n := by omega
      subst this
      exact .inl ⟨hq, hz k hq⟩
    | succ d ih =>
      intro k i hd hk hi hq
      obtain ⟨k, rfl⟩ : ∃ q, k = q + 1 := ⟨k - 1, by omega⟩
      rcases hs k i (by omega) hq with ⟨h1, h2⟩ | ⟨h1, h2⟩
      · rw [h2]
        exact ih k (i + 1) (by omega) (by omega) (by omega) (fun j hj => by
          by_cases h : j = i
          · subst h; exact h1
          · exact hq j (by omega))
      · exact .inr ⟨fun g => h1 (g i (by omega)), h2⟩
  exact key n Fuel 0 rfl (fuel_gt hn) (Nat.zero_le _) (fun j hj => by omega)
theorem for_idx {ρ : Type} {Lp : Nat → Nat → Option ρ} {n : Nat} {fin : Option ρ} (hz : ∀ k, Lp (k + 1) n = fin) (hs : ∀ k i, i < n → Lp (k + 1) i = Lp k (i + 1)) (hn : n < 1000000000000) : Lp Fuel 0 = fin := by
  rcases if_idx (Lp := Lp) (n := n) (Q := fun _ => True) (fin := fin) (bad := none) (fun k _ => hz k) (fun k i hi _ => .inl ⟨trivial, hs k i hi⟩) hn with ⟨_, h⟩ | ⟨h, _⟩
  · exact h
  · exact absurd (fun _ _ => trivial) h
theorem dec_idx {Lp : Nat → Nat → Option Bool} {n : Nat} {Q : Nat → Prop} {F : Prop} (hz : ∀ k, (∀ j, j < n → Q j) → Dec (Lp (k + 1) n) F)
    (hs : ∀ k i, i < n → (∀ j, j < i → Q j) → (Q i ∧ Lp (k + 1) i = Lp k (i + 1)) ∨ (¬ Q i ∧ Lp (k + 1) i = some false)) (hn : n < 1000000000000) : Dec (Lp Fuel 0) ((∀ j, j < n → Q j) ∧ F) := by
  have key : ∀ (d k i : Nat), n - i = d → d < k → i ≤ n → (∀ j, j < i → Q j) → Dec (Lp k i) ((∀ j, j < n → Q j) ∧ F) := by
    intro d
    induction d with
    | zero =>
      intro k i hd hk hi hq
      obtain ⟨k, rfl⟩ : ∃ q, k = q + 1 := ⟨k - 1, by omega⟩
      have : i = n := by omega
      subst this
      exact (hz k hq).of_iff ⟨fun h => ⟨hq, h⟩, fun h => h.2⟩
    | succ d ih =>
      intro k i hd hk hi hq
      obtain ⟨k, rfl⟩ : ∃ q, k = q + 1 := ⟨k - 1, by omega⟩
      rcases hs k i (by omega) hq with ⟨h1, h2⟩ | ⟨h1, h2⟩
      · rw [h2]
        exact ih k (i + 1) (by omega) (by omega) (by omega) (fun j hj => by
          by_cases h : j = i
          · subst h; exact h1
          · exact hq j (by omega))
      · rw [h2]
        exact dec_f fun g => h1 (g.1 i (by omega))
  exact key n Fuel 0 rfl (fuel_gt hn) (Nat.zero_le _) (fun j hj => by omega)
theorem sum_take {p : List Int} {i : Nat} (h : i < p.length) : (p.take (i + 1)).sum = (p.take i).sum + p[i] := by
  rw [List.take_succ_eq_append_getElem h, List.sum_append]
  simp
theorem sum_bound {p : List Int} {b : Int} (hb : ∀ x ∈ p, 0 ≤ x ∧ x ≤ b) : 0 ≤ p.sum ∧ p.sum ≤ b * p.length := by
  induction p with
  | nil => simp
  | cons x p ih =>
    have h1 := hb x (by simp)
    have h2 := ih (fun y hy => hb y (by simp [hy]))
    simp only [List.sum_cons, List.length_cons]
    have : b * ((p.length + 1 : Nat) : Int) = b * p.length + b := by rw [Int.natCast_add, Int.mul_add]; simp
    omega
theorem mem_take {α : Type} {p : List α} {i : Nat} {x : α} (h : x ∈ p.take i) : x ∈ p := List.mem_of_mem_take h
/-- a loop that adds up -/
theorem sum_loop {α ρ : Type} {p : List α} (v : α → Int) (Lp : Nat → Int → Int → Option ρ) (fin : Int → Option ρ) (hz : ∀ k s, Lp (k + 1) s (p.length : Int) = fin s)
    (hs : ∀ k s (i : Nat) (h : i < p.length), Lp (k + 1) s (i : Int) = Lp k (IntKind.i64.wrap (s + v p[i])) ((i + 1 : Nat) : Int)) (hb : ∀ x ∈ p, 0 ≤ v x ∧ v x ≤ 1000000000) (hl : p.length ≤ 1000000000) : Lp Fuel 0 0 = fin (p.map v).sum := by
  have hb' : ∀ x ∈ p.map v, 0 ≤ x ∧ x ≤ 1000000000 := fun x hx => by
    obtain ⟨y, hy, rfl⟩ := List.mem_map.1 hx
    exact hb y hy
  have := for_idx (Lp := fun k i => Lp k ((p.map v).take i).sum (i : Int)) (n := p.length) (fin := fin (p.map v).sum) (fun k => by
    show Lp _ _ _ = _
    rw [hz, List.take_of_length_le (by simp)]) (fun k i hi => by
    show Lp _ _ _ = Lp _ _ _
    have h1 := sum_bound (p := (p.map v).take (i + 1)) (b := 1000000000) (fun x hx => hb' x (mem_take hx))
    rw [hs _ _ _ hi]
    rw [sum_take (by simpa using hi)] at h1 ⊢
    rw [List.getElem_map] at h1 ⊢
    have h2 : ((p.map v).take (i + 1)).length ≤ 1000000000 := by simp; omega
    rw [wrap_id (by omega) (by omega)]) (by omega)
  simpa using this
theorem Dec.and {o o' : Option Bool} {P Q : Prop} (h : Dec o P) (h' : P → Dec o' Q) : Dec (o.bind fun y => if y then o' else some false) (P ∧ Q) := by
  rcases h.cases with ⟨rfl, p⟩ | ⟨rfl, p⟩
  · exact (h' p).of_iff ⟨fun q => ⟨p, q⟩, fun q => q.2⟩
  · exact dec_f fun q => p q.1
end Go.Vk
/- Marks, step by step. No program in sight. -/
namespace Go.Vk
theorem nat_neg (m : Nat) : ((m : Int) < 0) = False := by simp
theorem sum_ones' {α : Type} (p : List α) : (p.map fun _ => 1).sum = p.length := by induction p with | nil => rfl | cons x p ih => simp [ih]; omega
theorem sum_zero {α : Type} (p : List α) : (p.map fun _ => 0).sum = 0 := by induction p with | nil => rfl | cons x p ih => simp [ih]
theorem sum_le16 {α : Type} {f g : α → Nat} {p : List α} (h : ∀ y ∈ p, f y ≤ 16 * (1 + g y)) : (p.map f).sum ≤ 16 * (p.length + (p.map g).sum) := by
  induction p with
  | nil => simp
  | cons x p ih =>
    have h1 := h x (by simp)
    have h2 := ih (fun y hy => h y (by simp [hy]))
    simp only [List.map_cons, List.sum_cons, List.length_cons]
    omega
theorem marks_loop2 {α : Type} {p : List α} {c : α → Nat} (Lm : Nat → List α → Int → Int → Option (Int × List α)) (Lh : List α → Nat → Int → Int → Option Int)
    (zm : ∀ k l m i, ¬ (decide (i < (p.length : Int)) = true) → Lm (k + 1) l m i = some (m, l))
    (zh : ∀ (q : List α) k m i, ¬ (decide (i < (q.length : Int)) = true) → Lh q (k + 1) m i = some m)
    (hp : p.length < 1000000000000)
    (hM : ∀ x ∈ p, ∀ m : Nat, m + c x < 4611686018427387904 → ∃ (m' : Nat) (x' : α),
      (∀ k l i, decide (i < (p.length : Int)) = true → idx l i = some x → Lm (k + 1) l (m : Int) i = Lm k (l.set i.toNat x') (m' : Int) (IntKind.i64.wrap (i + 1))) ∧
      (∀ (q : List α) k i, decide (i < (q.length : Int)) = true → idx q i = some x' → Lh q (k + 1) (m : Int) i = Lh q k (m' : Int) (IntKind.i64.wrap (i + 1))) ∧ m ≤ m' ∧ m' ≤ m + c x) :
    Marks (fun p m => Lm Fuel p m 0) (fun q m => Lh q Fuel m 0) ((p.map c).sum) p := by
  have key : ∀ (d i : Nat) (l : List α) (m : Nat), p.length - i = d → i ≤ p.length → l.length = p.length → l.drop i = p.drop i → m + ((p.drop i).map c).sum < 4611686018427387904 →
      ∃ (m' : Nat) (l' : List α), (∀ k, d < k → Lm k l (m : Int) (i : Int) = some ((m' : Int), l')) ∧ (∀ k, d < k → Lh l' k (m : Int) (i : Int) = some (m' : Int)) ∧ m ≤ m' ∧ m' ≤ m + ((p.drop i).map c).sum ∧ l'.length = p.length ∧ l'.take i = l.take i := by
    intro d
    induction d with
    | zero =>
      intro i l m hd hi hl hdr hm
      refine ⟨m, l, fun k hk => ?_, fun k hk => ?_, by omega, by omega, hl, rfl⟩
      · obtain ⟨k, rfl⟩ : ∃ q, k = q + 1 := ⟨k - 1, by omega⟩
        rw [zm _ _ _ _ (by simp; omega)]
      · obtain ⟨k, rfl⟩ : ∃ q, k = q + 1 := ⟨k - 1, by omega⟩
        rw [zh _ _ _ _ (by simp; omega)]
    | succ d ih =>
      intro i l m hd hi hl hdr hm
      have hlt : i < p.length := by omega
      have hli : l[i]'(by omega) = p[i] := by
        have h1 : (l.drop i)[0]? = (p.drop i)[0]? := by rw [hdr]
        rw [List.getElem?_drop, List.getElem?_drop, Nat.add_zero, List.getElem?_eq_getElem (by omega), List.getElem?_eq_getElem hlt] at h1
        exact Option.some.inj h1
      have hsum : ((p.drop i).map c).sum = c p[i] + ((p.drop (i + 1)).map c).sum := by rw [List.drop_eq_getElem_cons hlt, List.map_cons, List.sum_cons]
      obtain ⟨m1, x', hm1, hh1, h2, h3⟩ := hM _ (List.getElem_mem hlt) m (by omega)
      obtain ⟨m', l', k1, k2, k3, k4, k5, k6⟩ := ih (i + 1) (l.set i x') m1 (by omega) (by omega) (by simp [hl]) (by
        rw [List.drop_set_of_lt (by omega)]
        have := congrArg (List.drop 1) hdr
        simpa [List.drop_drop, Nat.add_comm 1 i] using this) (by omega)
      have hl'i : l'[i]'(by omega) = x' := by
        have h4 := congrArg (fun q => q[i]?) k6
        simp only [List.getElem?_take, show i < i + 1 by omega, if_true, List.getElem?_set_self (show i < l.length by omega)] at h4
        rw [List.getElem?_eq_getElem (by omega)] at h4
        exact Option.some.inj h4
      refine ⟨m', l', fun k hk => ?_, fun k hk => ?_, by omega, by omega, k5, ?_⟩
      · obtain ⟨k, rfl⟩ : ∃ q, k = q + 1 := ⟨k - 1, by omega⟩
        rw [hm1 k l i (by simp; omega) (by rw [idx_lt (by omega : i < l.length), hli]), wrap_succ (by omega)]
        exact k1 k (by omega)
      · obtain ⟨k, rfl⟩ : ∃ q, k = q + 1 := ⟨k - 1, by omega⟩
        rw [hh1 l' k i (by simp; omega) (by rw [idx_lt (by omega : i < l'.length), hl'i]), wrap_succ (by omega)]
        exact k2 k (by omega)
      · have := congrArg (List.take i) k6
        simpa [List.take_take, List.take_set_of_le] using this
  intro m hm
  have hs : ((p.drop 0).map c).sum = (p.map c).sum := by simp
  obtain ⟨m', l', k1, k2, k3, k4, k5, _⟩ := key p.length 0 p m (by omega) (by omega) rfl rfl (by omega)
  exact ⟨m', l', k1 Fuel (fuel_gt (by omega)), k2 Fuel (fuel_gt (by omega)), k3, by omega⟩
end Go.Vk
namespace Go.Vk
/-- marked (nobody looks whether it is found so) -/
def MarksM {α : Type} (Mk : α → Int → Option (Int × α)) (c : Nat) (x : α) : Prop :=
  ∀ m : Nat, m + c < 4611686018427387904 → ∃ (m' : Nat) (x' : α), Mk x (m : Int) = some ((m' : Int), x') ∧ m ≤ m' ∧ m' ≤ m + c
theorem markM_loop {α : Type} {p : List α} {c : α → Nat} (Lm : Nat → List α → Int → Int → Option (Int × List α))
    (zm : ∀ k l m i, ¬ (decide (i < (p.length : Int)) = true) → Lm (k + 1) l m i = some (m, l))
    (hp : p.length < 1000000000000)
    (hM : ∀ x ∈ p, ∀ m : Nat, m + c x < 4611686018427387904 → ∃ (m' : Nat) (x' : α),
      (∀ k l i, decide (i < (p.length : Int)) = true → idx l i = some x → Lm (k + 1) l (m : Int) i = Lm k (l.set i.toNat x') (m' : Int) (IntKind.i64.wrap (i + 1))) ∧ m ≤ m' ∧ m' ≤ m + c x) :
    MarksM (fun p m => Lm Fuel p m 0) ((p.map c).sum) p := by
  have key : ∀ (d i : Nat) (l : List α) (m : Nat), p.length - i = d → i ≤ p.length → l.length = p.length → l.drop i = p.drop i → m + ((p.drop i).map c).sum < 4611686018427387904 →
      ∃ (m' : Nat) (l' : List α), (∀ k, d < k → Lm k l (m : Int) (i : Int) = some ((m' : Int), l')) ∧ m ≤ m' ∧ m' ≤ m + ((p.drop i).map c).sum := by
    intro d
    induction d with
    | zero =>
      intro i l m hd hi hl hdr hm
      refine ⟨m, l, fun k hk => ?_, by omega, by omega⟩
      obtain ⟨k, rfl⟩ : ∃ q, k = q + 1 := ⟨k - 1, by omega⟩
      rw [zm _ _ _ _ (by simp; omega)]
    | succ d ih =>
      intro i l m hd hi hl hdr hm
      have hlt : i < p.length := by omega
      have hli : l[i]'(by omega) = p[i] := by
        have h1 : (l.drop i)[0]? = (p.drop i)[0]? := by rw [hdr]
        rw [List.getElem?_drop, List.getElem?_drop, Nat.add_zero, List.getElem?_eq_getElem (by omega), List.getElem?_eq_getElem hlt] at h1
        exact Option.some.inj h1
      have hsum : ((p.drop i).map c).sum = c p[i] + ((p.drop (i + 1)).map c).sum := by rw [List.drop_eq_getElem_cons hlt, List.map_cons, List.sum_cons]
      obtain ⟨m1, x', hm1, h2, h3⟩ := hM _ (List.getElem_mem hlt) m (by omega)
      obtain ⟨m', l', k1, k3, k4⟩ := ih (i + 1) (l.set i x') m1 (by omega) (by omega) (by simp [hl]) (by
        rw [List.drop_set_of_lt (by omega)]
        have := congrArg (List.drop 1) hdr
        simpa [List.drop_drop, Nat.add_comm 1 i] using this) (by omega)
      refine ⟨m', l', fun k hk => ?_, by omega, by omega⟩
      obtain ⟨k, rfl⟩ : ∃ q, k = q + 1 := ⟨k - 1, by omega⟩
      rw [hm1 k l i (by simp; omega) (by rw [idx_lt (by omega : i < l.length), hli]), wrap_succ (by omega)]
      exact k1 k (by omega)
  intro m hm
  have hs : ((p.drop 0).map c).sum = (p.map c).sum := by simp
  obtain ⟨m', l', k1, k3, k4⟩ := key p.length 0 p m (by omega) (by omega) rfl rfl (by omega)
  exact ⟨m', l', k1 Fuel (fuel_gt (by omega)), k3, by omega⟩
end Go.Vk
/- What always answers. No program in sight. -/
namespace Go.Vk
/-- it answers, and what it answers has Q -/
def Tot {α : Type} (o : Option α) (Q : α → Prop) : Prop := ∃ v, o = some v ∧ Q v
theorem Tot.mono {α : Type} {o : Option α} {P Q : α → Prop} (h : Tot o P) (k : ∀ v, P v → Q v) : Tot o Q := by
  obtain ⟨v, e, h⟩ := h
  exact ⟨v, e, k v h⟩
theorem tot_some {α : Type} {v : α} {Q : α → Prop} (h : Q v) : Tot (some v) Q := ⟨v, rfl, h⟩
theorem Tot.bind {α β : Type} {o : Option α} {f : α → Option β} {P : α → Prop} {Q : β → Prop} (h : Tot o P) (k : ∀ v, P v → Tot (f v) Q) : Tot (o.bind f) Q := by
  obtain ⟨v, rfl, h⟩ := h
  exact k v h
/-- a counted loop -/
theorem tot_for {σ ρ : Type} (Lp : Nat → σ → Int → Option ρ) (n : Nat) (I : Nat → σ → Prop) {Q : ρ → Prop}
    (hz : ∀ k s, I n s → Tot (Lp (k + 1) s (n : Int)) Q)
    (hs : ∀ k s i, i < n → I i s → (∀ s', I (i + 1) s' → Tot (Lp k s' ((i + 1 : Nat) : Int)) Q) → Tot (Lp (k + 1) s (i : Int)) Q)
    (hn : n < 1000000000000) {s : σ} (h0 : I 0 s) : Tot (Lp Fuel s 0) Q := by
  have key : ∀ (d k i : Nat) (s : σ), n - i = d → d < k → i ≤ n → I i s → Tot (Lp k s (i : Int)) Q := by
    intro d
    induction d with
    | zero =>
      intro k i s hd hk hi h
      obtain ⟨k, rfl⟩ : ∃ q, k = q + 1 := ⟨k - 1, by omega⟩
      have : i = n := by omega
      subst this
      exact hz k s h
    | succ d ih =>
      intro k i s hd hk hi h
      obtain ⟨k, rfl⟩ : ∃ q, k = q + 1 := ⟨k - 1, by omega⟩
      exact hs k s i (by omega) h (fun s' h' => ih k (i + 1) s' (by omega) (by omega) (by omega) h')
  exact key n Fuel 0 s (by omega) (fuel_gt hn) (Nat.zero_le _) h0
end Go.Vk
/- A slice whose elements were handed over, and that is read on. A literal that holds what is borrowed. -/
namespace Go.Vk
open Go.RowKit
variable {P : Program} {n : Nat} {C : World → Prop} {E : Env} {m : Md} {l rest : List Oper} {w0 w : World} {M : List Nat} {L : List Res} {Q : Exit → Act → World → Prop}
end Go.Vk
/- The steps of a walk, said shortly. -/
namespace Go.Vk
variable {P : Program} {n : Nat} {C : World → Prop} {E : Env} {m : Md} {l rest : List Oper} {w0 : World} {M : List Nat} {L : List Res} {Q : Exit → Act → World → Prop}
theorem bE {α β : Type} {o : Option α} {f : α → Option β} {r : β} {G : Prop} (h : o.bind f = some r) (k : ∀ z, o = some z → f z = some r → G) : G := by
  obtain ⟨z, h1, h2⟩ := of_bind h
  exact k z h1 h2
theorem cI {α : Type} {x : Operand} {c d : Code} {b : Bool} {A B r : Option α} (H : (if b then A else B) = r) (hx : ev E x = some (.bool b)) (ht : A = r → CW P n C E Q c) (hf : B = r → CW P n C E Q d) : CW P n C E Q (.cond x c d) :=
  c_if hx (fun hb => ht (of_if_t hb H)) (fun hb => hf (of_if_f hb H))
theorem o1 {o : Oper} {v : Value} (h : (wt l E o.guard, dstOk n o.dst) = (some true, true)) (hq : Ry P n (m.cls C) E o v) (k : OW P n l C (upd E o.dst v) m rest) : OW P n l C E m (o :: rest) := by
  obtain ⟨h1, h2⟩ := Prod.mk.inj h
  exact ow_r h1 (dstOk_lt h2) hq k
theorem r1 (off i : Nat) {o : Oper} {t : TypeId} {x : Operand} {b : Nat} {v : Value} {sz by_ : Nat} {z : List Value} {T : TypeId} {cs : List Value} (h1 : (o.op, ev E x) = (.load t x, some (.pointer (some ⟨b, off, none⟩)))) (ht : isTy P t false sz by_ z)
    (h2 : (L[i]?, cs[off]?) = (some (Res.box b T cs), some v)) : Ry P n (St w0 M L) E o v := by
  obtain ⟨h1, h3⟩ := Prod.mk.inj h1
  obtain ⟨h2, h4⟩ := Prod.mk.inj h2
  exact ry_box1 h1 h3 ht (boxIn h2) h4
theorem rx (off i : Nat) (ds : List Value) {o : Oper} {t : TypeId} {x : Operand} {b : Nat} {sz by_ : Nat} {z : List Value} {T : TypeId} {cs : List Value} (h1 : (o.op, ev E x) = (.load t x, some (.pointer (some ⟨b, off, none⟩)))) (ht : isTy P t true sz by_ z)
    (h2 : (L[i]?, (cs.drop off).take sz, ds.length) = (some (Res.box b T cs), ds, sz)) : Ry P n (St w0 M L) E o (.agg ds.toArray) := by
  obtain ⟨h1, h3⟩ := Prod.mk.inj h1
  obtain ⟨h2, h4⟩ := Prod.mk.inj h2
  obtain ⟨h4, h5⟩ := Prod.mk.inj h4
  exact ry_box h1 h3 ht (boxIn h2) h4 h5
theorem ob (cs : List Value) {Q : Exit → Act → World → Prop} {o : Oper} {T : TypeId} {x : Operand} {v : Value} (h : (o.op, wt l E o.guard, dstOk n o.dst, ev E x, v.cells) = (.box T x, some true, true, some v, cs.toArray))
    (hk : ∀ b, OW P n l (St w0 M (L ++ [Res.box b T cs])) (upd E o.dst (.pointer (some ⟨b, 0, none⟩))) (.lex Q) rest) : OW P n l (St w0 M L) E (.lex Q) (o :: rest) := by
  simp only [Prod.mk.injEq] at h
  obtain ⟨h1, h2, h3, h4, h5⟩ := h
  exact ow_box h1 rfl h2 h3 h4 h5 (fun _ => kp) hk
theorem sC (off : Nat) (vs cs' : List Value) (i : Nat) {Q : Exit → Act → World → Prop} {o : Oper} {t : TypeId} {x y : Operand} {b : Nat} {v : Value} {agg : Bool} {sz by_ : Nat} {z : List Value} {T : TypeId} {cs : List Value}
    (h : (o.op, wt l E o.guard, dstOk n o.dst, ev E x, ev E y) = (.store t x y, some true, true, some (.pointer (some ⟨b, off, none⟩)), some v)) (ht : isTy P t agg sz by_ z)
    (h2 : (v.cells, vs.length, vs.all Value.oneCell', L[i]?, Nat.ble (off + sz) cs.length, splice cs off vs) = (vs.toArray, sz, true, some (Res.box b T cs), true, cs'))
    (hk : OW P n l (St w0 M (L.set i (Res.box b T cs'))) (upd E o.dst undef) (.lex Q) rest) : OW P n l (St w0 M L) E (.lex Q) (o :: rest) := by
  simp only [Prod.mk.injEq] at h h2
  obtain ⟨h1, h3, h4, h5, h6⟩ := h
  obtain ⟨g1, g2, g3, g4, g5, g6⟩ := h2
  exact ow_storeC vs cs' h1 rfl h3 h4 h5 h6 ht g1 g2 (List.all_eq_true.1 g3) g4 g5 g6 kp hk
theorem tt2 {α : Sort _} {β : α → Sort _} : ∀ a, β a → True := fun _ _ => trivial
theorem oq {o : Oper} {v : Value} (h : (m.loud (o :: rest), wt l E o.guard, dstOk n o.dst) = (true, some true, true)) (hq : Qy P n C E o v) (hS : ∀ w, C w → m.keeps w) (k : OW P n l C (upd E o.dst v) m rest) : OW P n l C E m (o :: rest) := by
  simp only [Prod.mk.injEq] at h
  exact ow_q h.1 h.2.1 (dstOk_lt h.2.2) hq hS k
theorem qc {o : Oper} {f : FuncId} {xs : List Operand} {ts : Array TypeId} {vs : List Value} {v : Value} (h : (o.op, evs E xs) = (.call { callee := .value (.func f), args := xs.toArray, argTypes := ts }, some vs)) (hf : isFn P f)
    (hc : ∀ w, St w0 M L w → Calls P f vs.toArray w fun e w' => e = .returned v ∧ Ext [] w w') : Qy P n (St w0 M L) E o v := by
  obtain ⟨h1, h2⟩ := Prod.mk.inj h
  exact qy_call h1 hf h2 hc
theorem xr (t : Nat) {fn : Func} {R : Ending → World → Prop} {v : Value} (h : (fn.results, look E t) = (#[.tmp t], some v)) (hR : ∀ w, C w → R (.returned v) w) : XW n C E (bodyPost P fn R) .ret := by
  obtain ⟨h1, h2⟩ := Prod.mk.inj h
  exact x_retR (rs := [.tmp t]) (vs := [v]) h1 ⟨h2, trivial⟩ hR
theorem q1 {v : Value} : ∀ w, St w0 M L w → (Ending.returned v = .returned v ∧ Ext M w0 w) := fun _ h => ⟨rfl, h.ext⟩
theorem sb {E : Env} : ∀ {R : Env}, R.map (fun p => look E p.1) = R.map (fun p => some p.2) → Sub R E
  | [], _ => trivial
  | (t, v) :: R, h => by
    simp only [List.map_cons, List.cons.injEq] at h
    exact ⟨h.1, sb h.2⟩
/-! the commonest steps -/
abbrev eI : Enc Int := eVal (Value.int .i64) (fun _ => rfl)
theorem oP {P : Program} {n : Nat} {C : World → Prop} {m : Md} {l rest rest' : List Oper} {E E' : Env} (h : batch n l [Hint.p (P := P)] rest E = some (rest', E')) (k : OW P n l C E' m rest') : OW P n l C E m rest := ow_batch _ h k
theorem oPP {P : Program} {n : Nat} {C : World → Prop} {m : Md} {l rest rest' : List Oper} {E E' : Env} (h : batch n l [Hint.p (P := P), Hint.p (P := P)] rest E = some (rest', E')) (k : OW P n l C E' m rest') : OW P n l C E m rest := ow_batch _ h k
theorem nQ {P : Program} {n : Nat} {C : World → Prop} {E : Env} {Q : Exit → Act → World → Prop} {l : List Oper} {y : Code} (h : CW P n C E Q y) : OW P n l C E (.lex (QS P y Q)) [] := ow_nil (x_qs h)
theorem sR {P : Program} {n : Nat} {C : World → Prop} {E : Env} {Q : Exit → Act → World → Prop} {y : Code} {id : Nat} {l : List Oper} (h : OW P n l C E (.lex (QS P y Q)) l) : CW P n C E Q (.seq (.region id l.toArray false) y) := c_seq (c_reg h)
theorem nR {P : Program} {n : Nat} {C : World → Prop} {E : Env} {Q : Exit → Act → World → Prop} {l l' : List Oper} {y : Code} {id : Nat} (h : OW P n l' C E (.lex (QS P y Q)) l') : OW P n l C E (.lex (QS P (.seq (.region id l'.toArray false) y) Q)) [] := ow_nil (x_qs (c_seq (c_reg h)))
theorem nT {P : Program} {n : Nat} {C : World → Prop} {E : Env} {Q : Exit → Act → World → Prop} {l : List Oper} (h : XW n C E Q .ret) : OW P n l C E (.lex (QS P .ret Q)) [] := ow_nil (x_qs (c_ret h))
end Go.Vk
/- The library's functions of strings, by their contracts: joined, repeated, numbers in decimal; a table of the library's that is read. -/
namespace Go.Vk
open Go.RowKit Go.Proofs Go.Shelf
variable {P : Program} {ρ : Ren}
/-- the greater of two -/
theorem ry_max {n : Nat} {S : World → Prop} {E : Env} {o : Oper} {x y : Operand} {ts : Array TypeId} {k k' : IntKind} {a b : Int} (ho : o.op = .call { callee := .builtin .max, args := #[x, y], argTypes := ts }) (hx : ev E x = some (.int k a)) (hy : ev E y = some (.int k' b)) : Ry P n S E o (.int k (if a < b then b else a)) := fun fr hF w hw => by
  unfold execOp
  simp [ho, resolve, invoke, builtin, hF.ev hx, hF.ev hy, Builtin.max_, Builtin.max2, List.foldlM]
end Go.Vk
