/- Lists and lists of lists, read. -/
import Derived.Test.YtgpfgjlmjodcaaaPD
namespace Go.Vk
theorem Pz.map_some {α β : Type} {f : α → β} {P : Pz α} {a b : Int} {v : α} (h : P a = some (v, b)) : Pz.map f P a = some (f v, b) := by unfold Pz.map; rw [h]; rfl
theorem Pz.map_none {α β : Type} {f : α → β} {P : Pz α} {a : Int} (h : P a = none) : Pz.map f P a = none := by unfold Pz.map; rw [h]; rfl
theorem Pz.map_id {α : Type} {P : Pz α} : Pz.map id P = P := by funext a; unfold Pz.map; cases P a <;> rfl
section
variable {p : List Int} (hb : Bytes p) (hp : p.length ≤ 1048576)
include hb hp
theorem sp_list {α β : Type} {op : Int → Option (α × Int × Bool)} {P : Pz α} {z : α} {sz : α → Nat} (hs : SpOk op P z) (hg : Good p P sz) (mk : List α → β) (zb : β) {big : Int → Option (β × Int × Bool)}
    (Lp : Int × Int × Bool → Nat → List α → Int → Int → Option (β × Int × Bool))
    (hbig : ∀ a, big a = (spec_GetInt p a).bind fun y => if ((!y.2.2) || (decide (y.1 < 0))) then some (zb, 0, false) else Lp y Fuel [] 0 y.2.1)
    (step : ∀ q k l i a, Lp q (k + 1) l i a = if decide (i < q.1) then (op a).bind fun y => if (!y.2.2) then some (zb, 0, false) else (app l [y.1]).bind fun l' => Lp q k l' (IntKind.i64.wrap (i + 1)) y.2.1 else some (mk l, a, true)) :
    SpOk big (Pz.map mk (listOf p P)) zb := fun a ha => by
  rw [hbig, gI_sp hb hp a ha]
  simp only [Option.bind_some]
  cases h : gI p a with
  | none =>
    rw [Pz.map_none (by unfold listOf; rw [h]; rfl)]
    rfl
  | some y =>
    obtain ⟨n, b⟩ := y
    have hi := gI_inr hb hp ha h
    obtain ⟨g1, g2, g3, _⟩ := gI_good hb hp a n b ha h
    by_cases hn : n < 0
    · rw [Pz.map_none (by unfold listOf; rw [h]; simp [hn]), if_pos (by simp [hn])]
    · rw [if_neg (by simp; omega)]
      have hl : listOf p P a = P.many n.toNat b := by unfold listOf; rw [h]; simp [hn]
      rw [sp_many hs hg hp (n := n) hi.2 (Lp (n, b, true)) (fun l a => some (mk l, a, true)) (some (zb, 0, false)) (step (n, b, true)) n.toNat Fuel 0 b [] (by simp) (fuel_gt (by have := hi.2; omega)) (by omega) (by simp) (by omega) (gI_good hb hp |>.i64 hp ha h)]
      cases hm : P.many n.toNat b with
      | none => rw [Pz.map_none (by rw [hl, hm])]
      | some z => rw [Pz.map_some (by rw [hl, hm])]; rfl
theorem rd_list {α β : Type} {op : Timpl_reader → Option (α × Timpl_reader)} {P : Pz α} {sz : α → Nat} (hr : RdOk op P) (hg : Good p P sz) (mk : List α → β) {big : Timpl_reader → Option (β × Timpl_reader)}
    (Lp : Nat → Int → Bool → List α → Int → Option (β × Timpl_reader))
    (hbig : ∀ s, big s = (impl_reader_count p s).bind fun y => Lp Fuel y.2.at_ y.2.bad_ [] y.1)
    (step : ∀ k a q l n, Lp (k + 1) a q l n = if (decide (n > 0)) && !q then (op ⟨a, q⟩).bind fun y => (app l [y.1]).bind fun l' => Lp k y.2.at_ y.2.bad_ l' (IntKind.i64.wrap (n - 1)) else some (mk l, ⟨a, q⟩)) :
    RdOk big (Pz.map mk (listOf p P)) := ⟨fun a => by
  obtain ⟨v, a', e⟩ := (count_rd hb hp).1 a
  rw [hbig, e]
  simp only [Option.bind_some]
  exact ⟨_, _, rd_stop (Lp := Lp) (fin := fun l s => some (mk l, s)) step (fuel_gt (by omega)) _ _ _⟩, fun a ha => by
  rw [hbig]
  have hc := (count_rd hb hp).2 a ha
  have hl := list_eq hb hp hg ha
  cases h : cI p a with
  | none =>
    rw [h] at hl
    rw [Pz.map_none (by rw [hl]; rfl)]
    obtain ⟨v, a', e⟩ := hc.2 h
    rw [e]
    simp only [Option.bind_some]
    exact ⟨fun v b e => by simp at e, fun _ => ⟨_, _, rd_stop (Lp := Lp) (fin := fun l s => some (mk l, s)) step (fuel_gt (by omega)) _ _ _⟩⟩
  | some y =>
    obtain ⟨n, b⟩ := y
    rw [h] at hl
    rw [hc.1 n b h]
    simp only [Option.bind_some]
    obtain ⟨h1, h2, h3⟩ := cI_some h
    obtain ⟨g1, g2, g3, _⟩ := gI_good hb hp a n b ha h1
    have hi := gI_inr hb hp ha h1
    obtain ⟨m1, m2⟩ := rd_many hr hg hp Lp (fun l s => some (mk l, s)) step n.toNat Fuel n b [] rfl (fuel_gt (by have := hi.2; omega)) hi.2 h2 (by have := hi.2; simp; omega) (gI_good hb hp |>.i64 hp ha h1)
    simp only [Option.bind_some] at hl
    cases hm : P.many n.toNat b with
    | none =>
      rw [Pz.map_none (by rw [hl, hm])]
      obtain ⟨l', a', e⟩ := m2 hm
      exact ⟨fun v b e => by simp at e, fun _ => ⟨_, _, e⟩⟩
    | some z =>
      rw [Pz.map_some (by rw [hl, hm])]
      refine ⟨fun v b e => ?_, fun e => by simp at e⟩
      obtain ⟨rfl, rfl⟩ := Prod.mk.inj (Option.some.inj e)
      exact m1 z.1 z.2 hm⟩
theorem gInts_sp : SpOk (spec_GetInts p) (listOf p (gI p)) [] := by
  have := sp_list hb hp (gI_sp hb hp) (gI_good hb hp) id [] (big := spec_GetInts p) (fun y => spec_GetInts_L1 y p) (fun _ => rfl) (fun _ _ _ _ _ => rfl)
  rwa [Pz.map_id] at this
theorem gInts_good : Good p (listOf p (gI p)) (fun vs => 1 + vs.length) := by
  have := list_good hb hp (gI_good hb hp)
  simpa only [sum_ones] using this
theorem gInts_rd : RdOk (impl_reader_list p) (listOf p (gI p)) := by
  have := rd_list hb hp (gI_rd hb hp) (gI_good hb hp) id (big := impl_reader_list p) (impl_reader_list_L1 p) (fun _ => rfl) (fun _ _ _ _ _ => rfl)
  rwa [Pz.map_id] at this
theorem gLists_sp : SpOk (spec_l27GetLists p) (listOf p (listOf p (gI p))) [] := by
  have := sp_list hb hp (gInts_sp hb hp) (gInts_good hb hp) id [] (big := spec_l27GetLists p) (fun y => spec_l27GetLists_L1 y p) (fun _ => rfl) (fun _ _ _ _ _ => rfl)
  rwa [Pz.map_id] at this
theorem gLists_good : Good p (listOf p (listOf p (gI p))) (fun vs => 1 + (vs.map fun v => 1 + v.length).sum) := list_good hb hp (gInts_good hb hp)
theorem gWindow_rd : RdOk (impl_reader_window p) (Pz.map Timpl_Window.mk (listOf p (listOf p (gI p)))) :=
  rd_list hb hp (gInts_rd hb hp) (gInts_good hb hp) Timpl_Window.mk (big := impl_reader_window p) (impl_reader_window_L1 p) (fun _ => rfl) (fun _ _ _ _ _ => rfl)
theorem getInts_both {a : Int} (ha : I64 a) : ∃ r, spec_GetInts p a = some r ∧ impl_GetInts p a = some r ∧ r.1.length ≤ 1048576 := by
  rw [gInts_sp hb hp a ha]
  unfold impl_GetInts
  have hr := (gInts_rd hb hp).2 a ha
  cases h : listOf p (gI p) a with
  | none =>
    obtain ⟨v, a', e⟩ := hr.2 h
    rw [e]
    exact ⟨_, rfl, rfl, by simp⟩
  | some y =>
    obtain ⟨v, b⟩ := y
    obtain ⟨g1, g2, g3, _⟩ := gInts_good hb hp a v b ha h
    have g2' : a + ((1 + v.length : Nat) : Int) ≤ b := g2
    rw [hr.1 v b h]
    exact ⟨_, rfl, rfl, by show v.length ≤ _; omega⟩
theorem getWindow_both {a : Int} (ha : I64 a) : ∃ r, spec_GetWindow p a = some r ∧ impl_GetWindow p a = some r ∧ (r.1.Rows_.map fun v => 1 + v.length).sum ≤ 1048576 := by
  unfold spec_GetWindow impl_GetWindow
  rw [gLists_sp hb hp a ha]
  have hr := (gWindow_rd hb hp).2 a ha
  cases h : listOf p (listOf p (gI p)) a with
  | none =>
    obtain ⟨v, a', e⟩ := hr.2 (Pz.map_none h)
    rw [e]
    exact ⟨_, rfl, rfl, by simp⟩
  | some y =>
    obtain ⟨v, b⟩ := y
    obtain ⟨g1, g2, g3, _⟩ := gLists_good hb hp a v b ha h
    have g2' : a + ((1 + (v.map fun v => 1 + v.length).sum : Nat) : Int) ≤ b := g2
    rw [hr.1 _ b (Pz.map_some h)]
    exact ⟨_, rfl, rfl, by show (v.map fun v => 1 + v.length).sum ≤ _; omega⟩
end

/-! ### lists of lists, compared and marked -/
theorem sum_ge {α : Type} {f : α → Nat} {p : List α} {x : α} (h : x ∈ p) : f x ≤ (p.map f).sum := by
  induction p with
  | nil => simp at h
  | cons y p ih =>
    simp only [List.map_cons, List.sum_cons]
    rcases List.mem_cons.1 h with rfl | h
    · omega
    · have := ih h; omega
theorem len_le_sum {α : Type} {f : α → Nat} {p : List α} (h : ∀ x ∈ p, 1 ≤ f x) : p.length ≤ (p.map f).sum := by
  induction p with
  | nil => simp
  | cons y p ih =>
    simp only [List.map_cons, List.sum_cons, List.length_cons]
    have := ih fun x hx => h x (List.mem_cons_of_mem _ hx)
    have := h y (List.mem_cons_self ..)
    omega
theorem sum_le {α : Type} {f g : α → Nat} {p : List α} (h : ∀ x ∈ p, f x ≤ g x) : (p.map f).sum ≤ (p.map g).sum := by
  induction p with
  | nil => simp
  | cons y p ih =>
    simp only [List.map_cons, List.sum_cons]
    have := ih fun x hx => h x (List.mem_cons_of_mem _ hx)
    have := h y (List.mem_cons_self ..)
    omega
theorem eqIntSS_self {p : List (List Int)} (hp : p.length < 1000000000000) (he : ∀ x ∈ p, x.length < 1000000000000) : laws_eqIntSS p p = some true := by
  unfold laws_eqIntSS
  rw [if_neg (by simp)]
  refine same_loop (p := p) (laws_eqIntSS_L1 p p) (fun x o => (laws_eqIntS x x).bind fun y => if (!y) then some false else o) (fun k i => ?_) hp (fun x hx o => by rw [eqIntS_self (he x hx)]; rfl)
  show (if _ then _ else _) = _
  cases h : idx p i with
  | none => rfl
  | some e => rfl
theorem marks_ints {x : List Int} (hx : x.length < 1000000000) : Marks laws_markIntS laws_heldIntS x.length x := fun m hm => by
  obtain ⟨m', p', h1, h2, h3, h4, _⟩ := markIntS_ok (p := x) (by omega) m (by omega)
  exact ⟨m', p', h1, h2, h3, h4⟩
theorem markIntSS_ok {p : List (List Int)} (hp : p.length < 1000000000) (hs : (p.map fun v => 1 + v.length).sum ≤ 1048576) : ∀ m : Nat, m + 1048576 < 4611686018427387904 →
    ∃ (m' : Nat) (p' : List (List Int)), laws_markIntSS p (m : Int) = some ((m' : Int), p') ∧ laws_heldIntSS p' (m : Int) = some (m' : Int) ∧ m ≤ m' ∧ m' ≤ m + (p.map List.length).sum ∧ p'.length = p.length := by
  intro m hm
  have hle : (p.map List.length).sum ≤ 1048576 := Nat.le_trans (sum_le fun x _ => by omega) hs
  unfold laws_markIntSS laws_heldIntSS
  exact marks_loop (p := p) (Mk := laws_markIntS) (Hd := laws_heldIntS) (c := List.length) (B := 1048576) (laws_markIntSS_L1 p) (fun q => laws_heldIntSS_L1 q) (fun _ _ _ _ => rfl) (fun q k m i e y h0 h1 h2 h3 => by
    show (if _ then (idx q i).bind _ else _) = _
    rw [if_pos h0, h1]
    simp only [Option.bind_some]
    rw [h2]
    simp only [Option.bind_some]
    rw [if_neg (by simp; omega)]) (fun q k m i h0 => if_neg h0) (by omega) (fun x hx => marks_ints (by have := sum_ge (f := fun v : List Int => 1 + v.length) hx; omega)) hle m hm
theorem exactGetInts {p : List Int} {a : Int} (hb : Bytes p) (ha : I64 a) : laws_FnExactGetInts p a = some true := by
  unfold laws_FnExactGetInts
  by_cases h0 : 1048576 < p.length
  · rw [if_pos (by simp; omega)]
  · rw [if_neg (by simp; omega)]
    have hl : p.length ≤ 1048576 := by omega
    rw [toByteS_id hl]
    simp only [Option.bind_some]
    obtain ⟨⟨v, b, q⟩, e1, e2, hv⟩ := getInts_both hb hl ha
    have hv' : v.length ≤ 1048576 := hv
    rw [e1, e2]
    simp only [Option.bind_some]
    rw [eqIntS_self (by omega), eqByteS_self (by omega)]
    obtain ⟨m1, p1, a1, a2, a3, a4, a5⟩ := markByteS_ok (p := p) (by omega) 1 (by omega)
    obtain ⟨m2, b2, b1, b3, b4, b5, b6⟩ := markIntS_ok (p := v) (by omega) 1 (by omega)
    have a1' : laws_markByteS p 1 = some ((m1 : Int), p1) := a1
    have b1' : laws_markIntS v 1 = some ((m2 : Int), b2) := b1
    have b3' : laws_heldIntS b2 1 = some (m2 : Int) := b3
    rw [a1', b1']
    simp only [Option.bind_some, b3', bne_self_eq_false, Bool.not_true, Bool.or_false, Bool.false_eq_true, if_false]
    rw [if_neg (by simp), if_neg (by simp)]
    simp only [Option.bind_some, Bool.false_eq_true, if_false]
    rw [if_neg (by simp)]
theorem eqWindow_self {x : Timpl_Window} (hx : (x.Rows_.map fun v => 1 + v.length).sum ≤ 1048576) : laws_eqWindow x x = some true := by
  unfold laws_eqWindow
  rw [eqIntSS_self (by have := len_le_sum (f := fun v : List Int => 1 + v.length) (p := x.Rows_) (fun _ _ => by omega); omega) (fun v hv => by have := sum_ge (f := fun v : List Int => 1 + v.length) hv; omega)]
  rfl
theorem markWindow_ok {x : Timpl_Window} (hx : (x.Rows_.map fun v => 1 + v.length).sum ≤ 1048576) : ∃ (m : Nat) (y : Timpl_Window), laws_markWindow x 1 = some ((m : Int), y) ∧ laws_heldWindow y 1 = some (m : Int) := by
  obtain ⟨m, y, h1, h2, h3, _⟩ := markIntSS_ok (p := x.Rows_) (by have := len_le_sum (f := fun v : List Int => 1 + v.length) (p := x.Rows_) (fun _ _ => by omega); omega) hx 1 (by omega)
  have h1' : laws_markIntSS x.Rows_ 1 = some ((m : Int), y) := h1
  have h2' : laws_heldIntSS y 1 = some (m : Int) := h2
  refine ⟨m, ⟨y⟩, ?_, ?_⟩
  · unfold laws_markWindow; rw [h1']; rfl
  · unfold laws_heldWindow
    show (laws_heldIntSS y 1).bind _ = _
    rw [h2']
    simp only [Option.bind_some]
    rw [if_neg (by simp)]
theorem exactGetWindow {p : List Int} {a : Int} (hb : Bytes p) (ha : I64 a) : laws_FnExactGetWindow p a = some true := by
  unfold laws_FnExactGetWindow
  by_cases h0 : 1048576 < p.length
  · rw [if_pos (by simp; omega)]
  · rw [if_neg (by simp; omega)]
    have hl : p.length ≤ 1048576 := by omega
    rw [toByteS_id hl]
    simp only [Option.bind_some]
    obtain ⟨⟨v, b, q⟩, e1, e2, hv⟩ := getWindow_both hb hl ha
    rw [e1, e2]
    simp only [Option.bind_some]
    rw [eqWindow_self hv, eqByteS_self (by omega)]
    obtain ⟨m1, p1, a1, a2, a3, a4, a5⟩ := markByteS_ok (p := p) (by omega) 1 (by omega)
    obtain ⟨m2, b2, b1, b3⟩ := markWindow_ok hv
    have a1' : laws_markByteS p 1 = some ((m1 : Int), p1) := a1
    have b1' : laws_markWindow v 1 = some ((m2 : Int), b2) := b1
    rw [a1', b1']
    simp only [Option.bind_some, b3, bne_self_eq_false, Bool.not_true, Bool.or_false, Bool.false_eq_true, if_false]
    rw [if_neg (by simp), if_neg (by simp)]
    simp only [Option.bind_some, Bool.false_eq_true, if_false]
    rw [if_neg (by simp)]
theorem bytesOk {p : List Int} (h : ∀ x ∈ p, IntOk .u8 x) : Bytes p := fun x hx => by
  have := h x hx
  simp [IntOk, Lit.wf, IntKind.min, IntKind.max, IntKind.signed, IntKind.bits] at this
  exact ⟨by omega, by omega⟩
theorem i64Ok {x : Int} (h : IntOk .i64 x) : I64 x := by
  simp [IntOk, Lit.wf, IntKind.min, IntKind.max, IntKind.signed, IntKind.bits] at h
  exact ⟨by omega, by omega⟩
end Go.Vk
