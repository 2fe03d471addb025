/- Functions of data of other seats, to lean on. -/
import Derived.Test.YtdckhcfbccnjiaaGreatDoorRF
import Derived.Test.YtdckhcfbccnjiaaGreatDoorVkP
namespace Go.Vk
noncomputable def fm (p0 : List Int) : Option (List Int) :=
  (app ([] : List Int) p0).bind fun a => some a
noncomputable def gX (p0 : List (List Int)) : Nat → (List (List Int)) → Int → Option (List (List Int))
  | 0, _, _ => none
  | k1 + 1, c, a =>
    if decide (a < (p0.length : Int)) then (idx p0 a).bind fun d => (fm d).bind fun e => (app c [e]).bind fun f => (gX p0 k1) f (IntKind.i64.wrap (a + 1)) else some c
noncomputable def oF (p0 : List (List Int)) : Option (List (List Int)) :=
  gX p0 bh ([] : List (List Int)) 0
noncomputable def mj (p0 : av) : Option (av) :=
  (fm p0.e_).bind fun a => (oF p0.d_).bind fun c => some (av.mk a c)
noncomputable def gQ (e : av) (p2 : bw) (p0 : ae) (p3 : Int) (g : Int) : Nat → (List (List Int)) → Int → Option (av × Bool)
  | 0, _, _ => none
  | k1 + 1, f, a =>
    if decide (a < (e.d_.length : Int)) then (idx f a).bind fun c => (idx p2.u_ a).bind fun h => if decide (h ≥ 0) then (idx p2.u_ a).bind fun d => (idx c (IntKind.i64.wrap ((IntKind.i64.wrap (d * (p0.k_.length : Int))) + p2.z_))).bind fun i => (idx c (IntKind.i64.wrap ((IntKind.i64.wrap (d * (p0.k_.length : Int))) + p2.z_))).bind fun _ => (gQ e p2 p0 p3 g k1) (f.set a.toNat (c.set (IntKind.i64.wrap ((IntKind.i64.wrap (d * (p0.k_.length : Int))) + p2.z_)).toNat (IntKind.i64.wrap (i + p3)))) (IntKind.i64.wrap (a + 1)) else (gQ e p2 p0 p3 g k1) f (IntKind.i64.wrap (a + 1)) else some ((av.mk (e.e_.set p2.z_.toNat (IntKind.i64.wrap (g + p3))) f), true)
noncomputable def pY (p0 : ae) (p1 : av) (p2 : bw) (p3 : Int) : Option (av × Bool) :=
  (mj p1).bind fun a => (ji p0 p1).bind fun c => (if (!c) then some true else (rt p0 p2).bind fun d => some (!d)).bind fun e => (if (e || (p2.z_ == (-1))) then some true else (bL p3 1 7).bind fun f => some (!f)).bind fun g => (if g then some true else (kD p1.e_).bind fun h => some (decide ((IntKind.i64.wrap (h + p3)) > 999))).bind fun i => if i then some (a, false) else (idx a.e_ p2.z_).bind fun j => (idx a.e_ p2.z_).bind fun _ => gQ a p2 p0 p3 j bh a.d_ 0
noncomputable def fi (p1 : Int) (p0 : Int) : Nat → Int → Int → Option (Int)
  | 0, _, _ => none
  | k1 + 1, a, c =>
    if decide (a < p1) then (quo .i64 (IntKind.i64.wrap (c * (IntKind.i64.wrap (p0 - a)))) (IntKind.i64.wrap (a + 1))).bind fun d => (fi p1 p0 k1) (IntKind.i64.wrap (a + 1)) d else some c
noncomputable def lN (p0 : Int) (p1 : Int) : Option (Int) :=
  (bL p0 0 20).bind fun a => (if (!a) then some true else (bL p1 0 p0).bind fun c => some (!c)).bind fun d => if d then some 0 else fi p1 p0 bh 0 1
noncomputable def gM (p1 : Int) (p0 : Int) : Nat → Int → (List Int) → Int → Option (List Int)
  | 0, _, _, _ => none
  | k1 + 1, d, a, c =>
    if decide ((a.length : Int) < p1) then (lN (IntKind.i64.wrap ((IntKind.i64.wrap (p0 - c)) - 1)) (IntKind.i64.wrap ((IntKind.i64.wrap (p1 - (a.length : Int))) - 1))).bind fun e => if decide (d < e) then (app a ([c] : List Int)).bind fun f => (gM p1 p0 k1) d f (IntKind.i64.wrap (c + 1)) else (gM p1 p0 k1) (IntKind.i64.wrap (d - e)) a (IntKind.i64.wrap (c + 1)) else some a
noncomputable def pP (p0 : Int) (p1 : Int) (p2 : Int) : Option (List Int) :=
  (lN p0 p1).bind fun a => (bL p2 0 (IntKind.i64.wrap (a - 1))).bind fun c => if (!c) then some ([] : List Int) else gM p1 p0 bh p2 ([] : List Int) 0
end Go.Vk
/- The laws' types: weighed, copied, compared; the rows' frames. Printed by program. -/
namespace Go.Vk
def kn (x : List Int) : Prop := x.length ≤ 1048576 ∧ ∀ y ∈ x, (-9223372036854775808 ≤ y ∧ y ≤ 9223372036854775807)
def nm (x : List (List UInt8)) : Prop := x.length ≤ 1048576 ∧ ∀ y ∈ x, y.length ≤ 1048576
def ln (x : bi) : Prop := x.x_.length ≤ 1048576 ∧ kn x.t_ ∧ nm x.y_
def xq (x : List bi) : Prop := x.length ≤ 1048576 ∧ ∀ y ∈ x, ln y
def bp (x : ae) : Prop := xq x.b_ ∧ nm x.k_
def yg (x : ar) : Prop := (-9223372036854775808 ≤ x.g_ ∧ x.g_ ≤ 9223372036854775807) ∧ (-9223372036854775808 ≤ x.c_ ∧ x.c_ ≤ 9223372036854775807)
def xz (x : List (List Int)) : Prop := x.length ≤ 1048576 ∧ ∀ y ∈ x, kn y
def eO (x : av) : Prop := kn x.e_ ∧ xz x.d_
def lU (x : aR) : Prop := True ∧ yg x.l_ ∧ kn x.r_ ∧ (-9223372036854775808 ≤ x.w_ ∧ x.w_ ≤ 9223372036854775807) ∧ eO x.n_ ∧ (-9223372036854775808 ≤ x.v_ ∧ x.v_ ≤ 9223372036854775807) ∧ kn x.b_ ∧ (-9223372036854775808 ≤ x.m_ ∧ x.m_ ≤ 9223372036854775807) ∧ (-9223372036854775808 ≤ x.o_ ∧ x.o_ ≤ 9223372036854775807) ∧ (-9223372036854775808 ≤ x.p_ ∧ x.p_ ≤ 9223372036854775807)
def xx (x : List aR) : Prop := x.length ≤ 1048576 ∧ ∀ y ∈ x, lU y
def go (x : aj) : Prop := xx x.a_ ∧ (-9223372036854775808 ≤ x.j_ ∧ x.j_ ≤ 9223372036854775807)
end Go.Vk
/- Words, cuts, attributes: tested alike. -/
namespace Go.Vk
def qw (w : List UInt8) : Prop := (1 ≤ (w.length : Int) ∧ (w.length : Int) ≤ 8) ∧ ∀ i, 0 ≤ i → (h : i < w.length) → 97 ≤ (w[i]).toNat ∧ (w[i]).toNat ≤ 122
theorem vQ {w : List UInt8} (hw : w.length < 1000000000000) : Dec (kE w) (qw w) := by
  unfold kE bj qw
  simp only [bS]
  by_cases h : 1 ≤ (w.length : Int) ∧ (w.length : Int) ≤ 8
  · rw [ov h]
    simp only [Bool.not_true, Bool.false_eq_true, if_false]
    refine (ku (Lp := gY w) (n := w.length) (Q := fun i => ∀ h : i < w.length, 97 ≤ (w[i]).toNat ∧ (w[i]).toNat ≤ 122) 0 (fun k i hi => ?_) (fun k i _ hi => ?_) hw).of_iff ⟨fun g => ⟨h, fun i h0 h1 => g i h0 h1 h1⟩, fun g i h0 h1 _ => g.2 i h0 h1⟩
    · show (if _ then _ else _) = _
      rw [if_neg (by simp; omega)]
    · rw [gY]
      rw [if_pos (by simp; omega), bc hi, aK (by omega)]
      simp only [bS]
      by_cases h1 : ((w[i]).toNat : Int) < 97
      · rw [if_pos (by simpa using h1)]
        exact .inr ⟨fun g => by have := g hi; omega, rfl⟩
      · rw [if_neg (by simpa using h1)]
        simp only [bS]
        by_cases h2 : ((w[i]).toNat : Int) > 122
        · rw [if_pos (by simpa using h2)]
          exact .inr ⟨fun g => by have := g hi; omega, rfl⟩
        · rw [if_neg (by simpa using h2)]
          exact .inl ⟨fun _ => ⟨by omega, by omega⟩, rfl⟩
  · rw [od h]
    exact cy fun g => h g.1
theorem vg {w : List UInt8} (hw : w.length < 1000000000000) : Dec (kN w) (qw w) := by
  unfold kN bL qw
  simp only [bS]
  by_cases h : 1 ≤ (w.length : Int) ∧ (w.length : Int) ≤ 8
  · rw [ov h]
    simp only [Bool.not_true, Bool.false_eq_true, if_false]
    refine (ku (Lp := gS w) (n := w.length) (Q := fun i => ∀ h : i < w.length, 97 ≤ (w[i]).toNat ∧ (w[i]).toNat ≤ 122) 0 (fun k i hi => ?_) (fun k i _ hi => ?_) hw).of_iff ⟨fun g => ⟨h, fun i h0 h1 => g i h0 h1 h1⟩, fun g i h0 h1 _ => g.2 i h0 h1⟩
    · show (if _ then _ else _) = _
      rw [if_neg (by simp; omega)]
    · rw [gS]
      rw [if_pos (by simp; omega), bc hi, aK (by omega)]
      simp only [bS]
      by_cases h1 : ((w[i]).toNat : Int) < 97
      · rw [if_pos (by simpa using h1)]
        exact .inr ⟨fun g => by have := g hi; omega, rfl⟩
      · rw [if_neg (by simpa using h1)]
        simp only [bS]
        by_cases h2 : ((w[i]).toNat : Int) > 122
        · rw [if_pos (by simpa using h2)]
          exact .inr ⟨fun g => by have := g hi; omega, rfl⟩
        · rw [if_neg (by simpa using h2)]
          exact .inl ⟨fun _ => ⟨by omega, by omega⟩, rfl⟩
  · rw [od h]
    exact cy fun g => h g.1
def qg (ws : List (List UInt8)) : Prop := ∀ i, 0 ≤ i → i < ws.length → ∀ h : i < ws.length, qw ws[i] ∧ ∀ j, (hj : j < i) → ws[i] ≠ ws[j]
theorem tN {ws : List (List UInt8)} (hn : ws.length < 1000000000000) (hl : ∀ w ∈ ws, w.length < 1000000000000) : Dec (jP ws) (qg ws) := by
  unfold jP
  refine ku (Lp := dN ws) (n := ws.length) (Q := fun i => ∀ h : i < ws.length, qw ws[i] ∧ ∀ j, (hj : j < i) → ws[i] ≠ ws[j]) 0 (fun k i hi => ?_) (fun k i _ hi => ?_) hn
  · show (if _ then _ else _) = _
    rw [if_neg (by simp; omega)]
  · rw [dN]
    rw [if_pos (by simp; omega), bc hi]
    simp only [bS]
    rcases (vQ (hl _ (List.getElem_mem hi))).cases with ⟨e, hw⟩ | ⟨e, hw⟩
    · rw [e]
      simp only [Option.bind_some, Bool.not_true, Bool.false_eq_true, if_false]
      have key : ∀ (d q j : Nat), i - j = d → d < q → (hj : j ≤ i) → (∀ m, (hm : m < j) → ws[i] ≠ ws[m]'(by omega)) →
          ((∀ m, (hm : m < i) → ws[i] ≠ ws[m]) ∧ eZ i ws (dN ws k) q (j : Int) = dN ws k ((i + 1 : Nat) : Int)) ∨ ((¬ ∀ m, (hm : m < i) → ws[i] ≠ ws[m]) ∧ eZ i ws (dN ws k) q (j : Int) = some false) := by
        intro d
        induction d with
        | zero =>
          intro q j hd hq hj hm
          obtain ⟨q, rfl⟩ : ∃ r, q = r + 1 := ⟨q - 1, by omega⟩
          rw [eZ]
          rw [if_neg (by simp; omega), aK (by omega)]
          exact .inl ⟨fun m hm' => hm m (by omega), rfl⟩
        | succ d ih =>
          intro q j hd hq hj hm
          obtain ⟨q, rfl⟩ : ∃ r, q = r + 1 := ⟨q - 1, by omega⟩
          rw [eZ]
          rw [if_pos (by simp; omega), bc hi, bc (show j < ws.length by omega)]
          simp only [bS]
          by_cases hc : ws[i] = ws[j]
          · rw [if_pos (by simpa using hc)]
            exact .inr ⟨fun g => g j (by omega) hc, rfl⟩
          · rw [if_neg (by simpa using hc), aK (by omega)]
            exact ih q (j + 1) (by omega) (by omega) (by omega) (fun m hm' => by
              by_cases h : m = j
              · subst h; exact hc
              · exact hm m (by omega))
      rcases key i bh 0 (by omega) (eY (by omega)) (by omega) (fun m hm => by omega) with ⟨h1, h2⟩ | ⟨h1, h2⟩
      · exact .inl ⟨fun _ => ⟨hw, h1⟩, h2⟩
      · exact .inr ⟨fun g => h1 (g hi).2, h2⟩
    · rw [e]
      exact .inr ⟨fun g => hw (g hi).1, rfl⟩
theorem qP {ws : List (List UInt8)} (hn : ws.length < 1000000000000) (hl : ∀ w ∈ ws, w.length < 1000000000000) : Dec (eh ws) (qg ws) := by
  unfold eh
  refine ku (Lp := dY ws) (n := ws.length) (Q := fun i => ∀ h : i < ws.length, qw ws[i] ∧ ∀ j, (hj : j < i) → ws[i] ≠ ws[j]) 0 (fun k i hi => ?_) (fun k i _ hi => ?_) hn
  · show (if _ then _ else _) = _
    rw [if_neg (by simp; omega)]
  · rw [dY]
    rw [if_pos (by simp; omega), bc hi, aK (by omega)]
    simp only [bS]
    rcases (vg (hl _ (List.getElem_mem hi))).cases with ⟨e, hw⟩ | ⟨e, hw⟩
    · rw [e]
      simp only [Option.bind_some, Bool.not_true, Bool.false_eq_true, if_false]
      have hs : sub ws 0 (i : Int) = some (ws.take i) := by
        unfold sub
        rw [if_pos (by omega)]
        simp
      rw [hs]
      simp only [bS]
      unfold du dR
      have hf := pw (Lp := cm (ws.take i) ws[i]) (n := i) (Q := fun j => ∀ hj : j < i, ws[i] = ws[j]) (fun k j hj => by
        show (if _ then _ else _) = _
        rw [if_neg (by simp; omega)]) (fun k j hj => by
        rw [cm]
        rw [if_pos (by simp; omega), bc (show j < (ws.take i).length by simp; omega), aK (by omega)]
        simp only [Option.bind_some, List.getElem_take]
        by_cases hc : ws[i] = ws[j]
        · rw [if_pos (by simpa using hc)]
          exact .inl ⟨fun _ => hc, rfl⟩
        · rw [if_neg (by simpa using hc)]
          exact .inr ⟨fun g => hc (g hj), rfl⟩) (by omega)
      rcases hf.cases with ⟨e2, j, hj, hQ⟩ | ⟨e2, hQ⟩
      · rw [e2]
        exact .inr ⟨fun g => (g hi).2 j hj (hQ hj), rfl⟩
      · rw [e2]
        exact .inl ⟨fun _ => ⟨hw, fun j hj hc => hQ ⟨j, hj, fun _ => hc⟩⟩, rfl⟩
    · rw [e]
      exact .inr ⟨fun g => hw (g hi).1, rfl⟩
def yq (l : List Int) : Prop := ∀ i, 0 ≤ i → i < l.length → ∀ h : i < l.length, (-9999 ≤ l[i] ∧ l[i] ≤ 9998) ∧ ∀ h0 : 0 < i, l[i - 1] < l[i]
theorem yx {l : List Int} (hn : l.length < 1000000000000) : Dec (ma l) ((1 ≤ (l.length : Int) ∧ (l.length : Int) ≤ 3) ∧ yq l) := by
  unfold ma bL
  simp only [bS]
  by_cases h : 1 ≤ (l.length : Int) ∧ (l.length : Int) ≤ 3
  · rw [ov h]
    simp only [if_true]
    have ha : Dec (fz l) (∀ i, 1 ≤ i → i < l.length → ∀ (h : i < l.length), l[i - 1] < l[i]) := by
      unfold fz
      refine ku (Lp := ec l) (n := l.length) (Q := fun i => ∀ (h : i < l.length), l[i - 1] < l[i]) 1 (fun k i hi => ?_) (fun k i h1 hi => ?_) hn
      · show (if _ then _ else _) = _
        rw [if_neg (by simp; omega)]
      · rw [ec]
        rw [if_pos (by simp; omega), bc hi, aK (by omega), bu (by omega) (by omega), show (i : Int) - 1 = ((i - 1 : Nat) : Int) by omega, bc (show i - 1 < l.length by omega)]
        simp only [bS]
        by_cases hc : l[i] ≤ l[i - 1]
        · rw [if_pos (by simpa using hc)]
          exact .inr ⟨fun g => by have := g hi; omega, rfl⟩
        · rw [if_neg (by simpa using hc)]
          exact .inl ⟨fun _ => by omega, rfl⟩
    rcases ha.cases with ⟨e, hA⟩ | ⟨e, hA⟩
    · rw [e]
      simp only [Option.bind_some, if_true]
      unfold cC cL
      have hf := pw (Lp := bG l) (n := l.length) (Q := fun j => ∀ hj : j < l.length, ¬ (-9999 ≤ l[j] ∧ l[j] ≤ 9998)) (fun k j hj => by
        show (if _ then _ else _) = _
        rw [if_neg (by simp; omega)]) (fun k j hj => by
        rw [bG]
        rw [if_pos (by simp; omega), bc hj, aK (by omega)]
        unfold lM ow bL
        simp only [bS]
        by_cases hc : -9999 ≤ l[j] ∧ l[j] ≤ 9998
        · rw [ov hc]
          exact .inr ⟨fun g => g hj hc, rfl⟩
        · rw [od hc]
          exact .inl ⟨fun _ => hc, rfl⟩) hn
      rcases hf.cases with ⟨e2, j, hj, hQ⟩ | ⟨e2, hQ⟩
      · rw [e2]
        exact cy fun g => hQ hj (g.2 j (Nat.zero_le _) hj hj).1
      · rw [e2]
        exact mW ⟨h, fun i _ hi _ => ⟨Classical.byContradiction fun c => hQ ⟨i, hi, fun _ => c⟩, fun h0 => hA i h0 hi hi⟩⟩
    · rw [e]
      exact cy fun g => hA fun i h1 hi h2 => (g.2 i (Nat.zero_le _) hi h2).2 h1
  · rw [od h]
    exact cy fun g => h g.1
end Go.Vk
/- Attributes: weighed, copied, compared; FullMask. -/
namespace Go.Vk
def nK (x : bi) : Prop := qw x.x_ ∧ ((x.t_.length = 0 ∧ (2 ≤ (x.y_.length : Int) ∧ (x.y_.length : Int) ≤ 4) ∧ qg x.y_) ∨ (x.y_.length = 0 ∧ (1 ≤ (x.t_.length : Int) ∧ (x.t_.length : Int) ≤ 3) ∧ yq x.t_))
def OkM (x : bi) : Prop := x.x_.length < 1000000000000 ∧ x.t_.length < 1000000000000 ∧ x.y_.length < 1000000000000 ∧ ∀ y ∈ x.y_, y.length < 1000000000000
theorem sF {x : bi} (hx : OkM x) : Dec (kM x) (nK x) := by
  obtain ⟨h1, h2, h3, h4⟩ := hx
  unfold kM nK
  rcases (vQ h1).cases with ⟨e, hw⟩ | ⟨e, hw⟩
  · rw [e]
    simp only [Option.bind_some, Bool.not_true, Bool.false_eq_true, if_false]
    by_cases hc : x.t_.length = 0
    · rw [if_pos (by rw [beq_iff_eq]; omega)]
      unfold bj
      simp only [bS]
      by_cases hv : 2 ≤ (x.y_.length : Int) ∧ (x.y_.length : Int) ≤ 4
      · rw [ov hv]
        simp only [if_true]
        rcases (tN h3 h4).cases with ⟨e2, hW⟩ | ⟨e2, hW⟩
        · rw [e2]; exact mW ⟨hw, .inl ⟨hc, hv, hW⟩⟩
        · rw [e2]; exact cy fun g => by rcases g.2 with ⟨_, _, g⟩ | ⟨_, g, _⟩ <;> first | exact hW g | omega
      · rw [od hv]
        exact cy fun g => by rcases g.2 with ⟨_, g, _⟩ | ⟨_, g, _⟩ <;> omega
    · rw [if_neg (by rw [beq_iff_eq]; omega)]
      by_cases hb : 0 < x.y_.length ∨ 3 < x.t_.length
      · rw [if_pos (by simp; omega)]
        exact cy fun g => by rcases g.2 with ⟨g, _, _⟩ | ⟨_, g, _⟩ <;> omega
      · rw [if_neg (by rw [Bool.or_eq_true, decide_eq_true_eq, decide_eq_true_eq]; omega)]
        have ha : Dec (gd x bh 0) (yq x.t_) := by
          refine ku (Lp := gd x) (n := x.t_.length) (Q := fun i => ∀ h : i < x.t_.length, (-9999 ≤ x.t_[i] ∧ x.t_[i] ≤ 9998) ∧ ∀ h0 : 0 < i, x.t_[i - 1] < x.t_[i]) 0 (fun k i hi => ?_) (fun k i _ hi => ?_) h2
          · show (if _ then _ else _) = _
            rw [if_neg (by simp; omega)]
          · rw [gd]
            rw [if_pos (by simp; omega), bc hi, aK (by omega)]
            unfold bj
            simp only [bS]
            by_cases hr : -9999 ≤ x.t_[i] ∧ x.t_[i] ≤ 9998
            · rw [ov hr]
              simp only [Bool.not_true, Bool.false_eq_true, if_false]
              by_cases h0 : 0 < i
              · rw [if_pos (by simp; omega), bu (by omega) (by omega), show (i : Int) - 1 = ((i - 1 : Nat) : Int) by omega, bc (show i - 1 < x.t_.length by omega)]
                simp only [bS]
                by_cases hle : x.t_[i] ≤ x.t_[i - 1]
                · rw [if_pos (by simpa using hle)]
                  exact .inr ⟨fun g => by have := (g hi).2 h0; omega, rfl⟩
                · rw [if_neg (by simpa using hle)]
                  exact .inl ⟨fun _ => ⟨hr, fun _ => by omega⟩, rfl⟩
              · rw [if_neg (by simp; omega)]
                exact .inl ⟨fun _ => ⟨hr, fun h => absurd h h0⟩, rfl⟩
            · rw [od hr]
              exact .inr ⟨fun g => hr (g hi).1, rfl⟩
        exact ha.of_iff ⟨fun g => ⟨hw, .inr ⟨by omega, by omega, g⟩⟩, fun g => by rcases g.2 with ⟨g, _, _⟩ | ⟨_, _, g⟩; exact absurd g hc; exact g⟩
  · rw [e]
    exact cy fun g => hw g.1
theorem zy {x : bi} (hx : OkM x) : Dec (lY x) (nK x) := by
  obtain ⟨h1, h2, h3, h4⟩ := hx
  unfold lY nK
  rcases (vg h1).cases with ⟨e, hw⟩ | ⟨e, hw⟩
  · rw [e]
    simp only [Option.bind_some, Bool.not_true, Bool.false_eq_true, if_false]
    by_cases hc : x.t_.length = 0
    · rw [if_pos (by rw [beq_iff_eq]; omega)]
      unfold bL
      simp only [bS]
      by_cases hv : 2 ≤ (x.y_.length : Int) ∧ (x.y_.length : Int) ≤ 4
      · rw [ov hv]
        simp only [if_true]
        rcases (qP h3 h4).cases with ⟨e2, hW⟩ | ⟨e2, hW⟩
        · rw [e2]; exact mW ⟨hw, .inl ⟨hc, hv, hW⟩⟩
        · rw [e2]; exact cy fun g => by rcases g.2 with ⟨_, _, g⟩ | ⟨_, g, _⟩ <;> first | exact hW g | omega
      · rw [od hv]
        exact cy fun g => by rcases g.2 with ⟨_, g, _⟩ | ⟨_, g, _⟩ <;> omega
    · rw [if_neg (by rw [beq_iff_eq]; omega)]
      by_cases hb : x.y_.length = 0
      · rw [if_pos (by rw [beq_iff_eq]; omega)]
        rcases (yx h2).cases with ⟨e2, hC⟩ | ⟨e2, hC⟩
        · rw [e2]; exact mW ⟨hw, .inr ⟨hb, hC.1, hC.2⟩⟩
        · rw [e2]; exact cy fun g => by
            rcases g.2 with ⟨g, _, _⟩ | ⟨_, g, g'⟩
            · exact hc g
            · exact hC ⟨g, g'⟩
      · rw [if_neg (by rw [beq_iff_eq]; omega)]
        exact cy fun g => by rcases g.2 with ⟨g, _, _⟩ | ⟨g, _, _⟩ <;> omega
  · rw [e]
    exact cy fun g => hw g.1
end Go.Vk
/- FullMask answers alike. -/
namespace Go.Vk
theorem ul {x : bi} (hx : OkM x) (h : nK x) : ∃ n : Nat, fE x = some (n : Int) ∧ gg x = some (n : Int) ∧ 2 ≤ n ∧ n ≤ 4 := by
  unfold fE gg
  rcases (sF hx).cases with ⟨e, _⟩ | ⟨_, g⟩
  · rw [e]
    simp only [Option.bind_some, Bool.not_true, Bool.false_eq_true, if_false]
    rcases h.2 with ⟨h1, h2, _⟩ | ⟨h1, h2, _⟩
    · rw [if_neg (fun g => by have := of_decide_eq_true g; omega)]
      exact ⟨_, rfl, rfl, by omega, by omega⟩
    · rw [if_pos (decide_eq_true (by omega)), aK (by omega)]
      exact ⟨_, rfl, rfl, by omega, by omega⟩
  · exact absurd h g
end Go.Vk
/- Schemas: tested, weighed, copied, compared; AllRoom. -/
namespace Go.Vk
def wx (l : List bi) : Prop := ∀ i, 0 ≤ i → i < l.length → ∀ h : i < l.length, nK l[i] ∧ ∀ j, (hj : j < i) → l[i].x_ ≠ l[j].x_
def eM (x : ae) : Prop := (1 ≤ (x.b_.length : Int) ∧ (x.b_.length : Int) ≤ 5) ∧ (2 ≤ (x.k_.length : Int) ∧ (x.k_.length : Int) ≤ 3) ∧ qg x.k_ ∧ wx x.b_
def OkS (x : ae) : Prop := x.b_.length < 1000000000 ∧ (∀ a ∈ x.b_, OkM a) ∧ x.k_.length < 1000000000000 ∧ ∀ y ∈ x.k_, y.length < 1000000000000
theorem xM {x : ae} (hx : OkS x) : Dec (dl x bh 0) (wx x.b_) := by
  obtain ⟨h1, h2, _, _⟩ := hx
  refine ku (Lp := dl x) (n := x.b_.length) (Q := fun i => ∀ h : i < x.b_.length, nK x.b_[i] ∧ ∀ j, (hj : j < i) → x.b_[i].x_ ≠ x.b_[j].x_) 0 (fun k i hi => ?_) (fun k i _ hi => ?_) (by omega)
  · show (if _ then _ else _) = _
    rw [if_neg (by simp; omega)]
  · rw [dl]
    rw [if_pos (by simp; omega), bc hi]
    simp only [bS]
    rcases (sF (h2 _ (List.getElem_mem hi))).cases with ⟨e, hw⟩ | ⟨e, hw⟩
    · rw [e]
      simp only [Option.bind_some, Bool.not_true, Bool.false_eq_true, if_false]
      have key : ∀ (d q j : Nat), i - j = d → d < q → (hj : j ≤ i) → (∀ m, (hm : m < j) → x.b_[i].x_ ≠ (x.b_[m]'(by omega)).x_) →
          ((∀ m, (hm : m < i) → x.b_[i].x_ ≠ x.b_[m].x_) ∧ eH i x (dl x k) q (j : Int) = dl x k ((i + 1 : Nat) : Int)) ∨ ((¬ ∀ m, (hm : m < i) → x.b_[i].x_ ≠ x.b_[m].x_) ∧ eH i x (dl x k) q (j : Int) = some false) := by
        intro d
        induction d with
        | zero =>
          intro q j hd hq hj hm
          obtain ⟨q, rfl⟩ : ∃ r, q = r + 1 := ⟨q - 1, by omega⟩
          rw [eH]
          rw [if_neg (by simp; omega), aK (by omega)]
          exact .inl ⟨fun m hm' => hm m (by omega), rfl⟩
        | succ d ih =>
          intro q j hd hq hj hm
          obtain ⟨q, rfl⟩ : ∃ r, q = r + 1 := ⟨q - 1, by omega⟩
          rw [eH]
          rw [if_pos (by simp; omega), bc hi, bc (show j < x.b_.length by omega)]
          simp only [bS]
          by_cases hc : x.b_[i].x_ = x.b_[j].x_
          · rw [if_pos (by simpa using hc)]
            exact .inr ⟨fun g => g j (by omega) hc, rfl⟩
          · rw [if_neg (by simpa using hc), aK (by omega)]
            exact ih q (j + 1) (by omega) (by omega) (by omega) (fun m hm' => by
              by_cases h : m = j
              · subst h; exact hc
              · exact hm m (by omega))
      rcases key i bh 0 (by omega) (eY (by omega)) (by omega) (fun m hm => by omega) with ⟨h1, h2⟩ | ⟨h1, h2⟩
      · exact .inl ⟨fun _ => ⟨hw, h1⟩, h2⟩
      · exact .inr ⟨fun g => h1 (g hi).2, h2⟩
    · rw [e]
      exact .inr ⟨fun g => hw (g hi).1, rfl⟩
theorem xm {x : ae} (hx : OkS x) : Dec (dU x bh 0 []) (wx x.b_) := by
  obtain ⟨h1, h2, _, _⟩ := hx
  have hW : Dec (eh (x.b_.map bi.x_)) (qg (x.b_.map bi.x_)) := qP (by simp; omega) (fun w hw => by
    obtain ⟨a, ha, rfl⟩ := List.mem_map.1 hw
    exact (h2 a ha).1)
  have key : ∀ (d k i : Nat), x.b_.length - i = d → d < k → i ≤ x.b_.length → Dec (dU x k (i : Int) ((x.b_.take i).map bi.x_)) ((∀ j, i ≤ j → ∀ hj : j < x.b_.length, nK x.b_[j]) ∧ qg (x.b_.map bi.x_)) := by
    intro d
    induction d with
    | zero =>
      intro k i hd hk hi
      obtain ⟨k, rfl⟩ : ∃ q, k = q + 1 := ⟨k - 1, by omega⟩
      rw [dU]
      rw [if_neg (by simp; omega), List.take_of_length_le (by omega)]
      have : ∀ o : Option Bool, (o.bind fun y => some y) = o := fun o => by cases o <;> rfl
      rw [this]
      exact hW.of_iff ⟨fun g => ⟨fun j h3 h4 => by omega, g⟩, fun g => g.2⟩
    | succ d ih =>
      intro k i hd hk hi
      obtain ⟨k, rfl⟩ : ∃ q, k = q + 1 := ⟨k - 1, by omega⟩
      have hlt : i < x.b_.length := by omega
      rw [dU]
      rw [if_pos (by simp; omega), bc hlt]
      simp only [bS]
      rcases (zy (h2 _ (List.getElem_mem hlt))).cases with ⟨e, hw⟩ | ⟨e, hw⟩
      · rw [e]
        simp only [Option.bind_some, Bool.not_true, Bool.false_eq_true, if_false]
        rw [cN (by simp; omega)]
        simp only [bS]
        rw [aK (by omega), show (x.b_.take i).map bi.x_ ++ [x.b_[i].x_] = (x.b_.take (i + 1)).map bi.x_ by rw [List.take_succ_eq_append_getElem hlt, List.map_append]; rfl]
        refine (ih k (i + 1) (by omega) (by omega) (by omega)).of_iff ⟨fun g => ⟨fun j h3 h4 => ?_, g.2⟩, fun g => ⟨fun j h3 h4 => g.1 j (by omega) h4, g.2⟩⟩
        by_cases hj : j = i
        · subst hj; exact hw
        · exact g.1 j (by omega) h4
      · rw [e]
        exact cy fun g => hw (g.1 i (Nat.le_refl _) hlt)
  have := key x.b_.length bh 0 (by omega) (eY (by omega)) (by omega)
  have h0 : Dec (dU x bh 0 []) ((∀ j, 0 ≤ j → ∀ hj : j < x.b_.length, nK x.b_[j]) ∧ qg (x.b_.map bi.x_)) := this
  refine h0.of_iff ⟨fun g i _ _ h => ⟨g.1 i (Nat.zero_le _) h, fun j hj hc => ?_⟩, fun g => ⟨fun j _ hj => (g j (Nat.zero_le _) hj hj).1, fun i _ _ h => ?_⟩⟩
  · have := (g.2 i (Nat.zero_le _) (by simpa using h) (by simpa using h)).2 j hj
    simp at this
    exact this hc
  · have hi : i < x.b_.length := by simpa using h
    obtain ⟨g1, g2⟩ := g i (Nat.zero_le _) hi hi
    exact ⟨by simpa using g1.1, fun j hj => by simpa using g2 j hj⟩
theorem kz {x : ae} (hx : OkS x) : Dec (ft x) (eM x) := by
  have hN := xM hx
  obtain ⟨h1, h2, h3, h4⟩ := hx
  unfold ft bj eM
  simp only [bS]
  by_cases ha : 1 ≤ (x.b_.length : Int) ∧ (x.b_.length : Int) ≤ 5
  · rw [ov ha]
    simp only [Bool.not_true, Bool.false_eq_true, if_false]
    by_cases hc : 2 ≤ (x.k_.length : Int) ∧ (x.k_.length : Int) ≤ 3
    · rw [ov hc]
      simp only [Option.bind_some, Bool.not_true, Bool.false_eq_true, if_false]
      rcases (tN h3 h4).cases with ⟨e, hW⟩ | ⟨e, hW⟩
      · rw [e]
        simp only [Option.bind_some, Bool.not_true, Bool.false_eq_true, if_false]
        exact hN.of_iff ⟨fun g => ⟨ha, hc, hW, g⟩, fun g => g.2.2.2⟩
      · rw [e]
        exact cy fun g => hW g.2.2.1
    · rw [od hc]
      exact cy fun g => hc g.2.1
  · rw [od ha]
    exact cy fun g => ha g.1
theorem mJ {x : ae} (hx : OkS x) : Dec (fS x) (eM x) := by
  have hN := xm hx
  obtain ⟨h1, h2, h3, h4⟩ := hx
  unfold fS bL eM
  simp only [bS]
  by_cases ha : 1 ≤ (x.b_.length : Int) ∧ (x.b_.length : Int) ≤ 5
  · rw [ov ha]
    simp only [Bool.not_true, Bool.false_eq_true, if_false]
    by_cases hc : 2 ≤ (x.k_.length : Int) ∧ (x.k_.length : Int) ≤ 3
    · rw [ov hc]
      simp only [Option.bind_some, Bool.not_true, Bool.false_eq_true, if_false]
      rcases (qP h3 h4).cases with ⟨e, hW⟩ | ⟨e, hW⟩
      · rw [e]
        simp only [Option.bind_some, Bool.not_true, Bool.false_eq_true, if_false]
        exact hN.of_iff ⟨fun g => ⟨ha, hc, hW, g⟩, fun g => g.2.2.2⟩
      · rw [e]
        exact cy fun g => hW g.2.2.1
    · rw [od hc]
      exact cy fun g => hc g.2.1
  · rw [od ha]
    exact cy fun g => ha g.1
end Go.Vk
/- Masks. -/
namespace Go.Vk
end Go.Vk
/- Two texts of data, walked side by side. -/
namespace Go.Vk
def mS {ρ : Type} (a b : Option ρ) (Q : ρ → Prop) : Prop := ∃ m, a = some m ∧ b = some m ∧ Q m
theorem nJ {ρ : Type} {m : ρ} {Q : ρ → Prop} (h : Q m) : mS (some m) (some m) Q := ⟨m, rfl, rfl, h⟩
theorem mS.mono {ρ : Type} {a b : Option ρ} {Q R : ρ → Prop} (h : mS a b Q) (f : ∀ m, Q m → R m) : mS a b R := by
  obtain ⟨m, h1, h2, h3⟩ := h
  exact ⟨m, h1, h2, f m h3⟩
theorem mS.bind {α ρ : Type} {a b : Option α} {Q : α → Prop} {f g : α → Option ρ} {R : ρ → Prop} (h : mS a b Q) (k : ∀ m, Q m → mS (f m) (g m) R) : mS (a.bind f) (b.bind g) R := by
  obtain ⟨m, h1, h2, h3⟩ := h
  rw [h1, h2]
  exact k m h3
theorem uS {ρ : Type} {c d : Prop} [Decidable c] [Decidable d] {a b a' b' : Option ρ} {Q : ρ → Prop} (e : c ↔ d) (h : c → mS a b Q) (h' : ¬ c → mS a' b' Q) : mS (if c then a else a') (if d then b else b') Q := by
  by_cases hc : c
  · rw [if_pos hc, if_pos (e.1 hc)]; exact h hc
  · rw [if_neg hc, if_neg (fun hd => hc (e.2 hd))]; exact h' hc
theorem vM {ρ : Type} {a b : Option Bool} {P : Prop} {f g : Bool → Option ρ} {R : ρ → Prop} (h : Dec a P) (h' : Dec b P) (ht : P → mS (f true) (g true) R) (hf : ¬ P → mS (f false) (g false) R) : mS (a.bind f) (b.bind g) R := by
  rw [← h.eq h']
  rcases h.cases with ⟨e, hp⟩ | ⟨e, hp⟩
  · rw [e]; exact ht hp
  · rw [e]; exact hf hp
theorem yp {σ τ ρ : Type} (Lp : Nat → σ → Int → Option ρ) (Lq : Nat → τ → Int → Option ρ) (n : Nat) (I : Nat → σ → τ → Prop) {Q : ρ → Prop}
    (hz : ∀ k s t, I n s t → mS (Lp (k + 1) s (n : Int)) (Lq (k + 1) t (n : Int)) Q)
    (hs : ∀ k s t i, i < n → I i s t → (∀ s' t', I (i + 1) s' t' → mS (Lp k s' ((i + 1 : Nat) : Int)) (Lq k t' ((i + 1 : Nat) : Int)) Q) → mS (Lp (k + 1) s (i : Int)) (Lq (k + 1) t (i : Int)) Q)
    (hn : n < 1000000000000) {s : σ} {t : τ} (h0 : I 0 s t) : mS (Lp bh s 0) (Lq bh t 0) Q := by
  have key : ∀ (d k i : Nat) (s : σ) (t : τ), n - i = d → d < k → i ≤ n → I i s t → mS (Lp k s (i : Int)) (Lq k t (i : Int)) Q := by
    intro d
    induction d with
    | zero =>
      intro k i s t hd hk hi h
      obtain ⟨k, rfl⟩ : ∃ q, k = q + 1 := ⟨k - 1, by omega⟩
      have : i = n := by omega
      subst this
      exact hz k s t h
    | succ d ih =>
      intro k i s t hd hk hi h
      obtain ⟨k, rfl⟩ : ∃ q, k = q + 1 := ⟨k - 1, by omega⟩
      exact hs k s t i (by omega) h (fun s' t' h' => ih k (i + 1) s' t' (by omega) (by omega) (by omega) h')
  exact key n bh 0 s t (by omega) (eY hn) (Nat.zero_le _) h0
end Go.Vk
/- Statistics: tested alike; the greatest of a list. -/
namespace Go.Vk
theorem vW {a : bi} (h : ln a) : OkM a := by
  obtain ⟨h1, h2, h3⟩ := h
  exact ⟨by omega, by have := h2.1; omega, by have := h3.1; omega, fun y hy => by have := h3.2 y hy; omega⟩
theorem kB {s : ae} (h : bp s) : OkS s := by
  obtain ⟨h1, h2⟩ := h
  exact ⟨by have := h1.1; omega, fun a ha => vW (h1.2 a ha), by have := h2.1; omega, fun y hy => by have := h2.2 y hy; omega⟩
theorem nX {o : Option Bool} {P R : Prop} {f : Bool → Option Bool} (h : Dec o P) (ht : P → Dec (f true) R) (hf : ¬ P → Dec (f false) R) : Dec (o.bind f) R := by
  rcases h.cases with ⟨e, hp⟩ | ⟨e, hp⟩
  · rw [e]; exact ht hp
  · rw [e]; exact hf hp
theorem xX {c : Prop} [Decidable c] {P R : Prop} {a b : Option Bool} (e : c ↔ P) (ht : P → Dec a R) (hf : ¬ P → Dec b R) : Dec (if c then a else b) R := by
  by_cases hc : c
  · rw [if_pos hc]; exact ht (e.1 hc)
  · rw [if_neg hc]; exact hf (fun hp => hc (e.2 hp))
theorem eL {x a b : Int} : Dec (bL x a b) (a ≤ x ∧ x ≤ b) := yo
theorem cX {x a b : Int} : Dec (bj x a b) (a ≤ x ∧ x ≤ b) := yo
def nb (a : bi) : Nat := if 0 < a.t_.length then a.t_.length + 1 else a.y_.length
theorem mZ {a : bi} (hx : ln a) : gg a = some (nb a : Int) := by
  have h1 := hx.2.1.1
  unfold gg nb
  by_cases h0 : 0 < a.t_.length
  · rw [if_pos (by simpa using h0), if_pos h0, aK (by omega)]
  · rw [if_neg (by simpa using h0), if_neg h0]
theorem sd {a : bi} (h : nK a) : 2 ≤ nb a ∧ nb a ≤ 4 := by
  unfold nb
  rcases h.2 with ⟨h1, h2, _⟩ | ⟨h1, h2, _⟩
  · rw [if_neg (by omega)]; omega
  · rw [if_pos (by omega)]; omega
theorem me {a : bi} (hx : ln a) (h : nK a) : fE a = some (nb a : Int) := by
  obtain ⟨n, b1, b2, _⟩ := ul (vW hx) h
  rw [b1, ← b2, mZ hx]
theorem eM.attr {s : ae} (h : eM s) {i : Nat} (hi : i < s.b_.length) : nK s.b_[i] := (h.2.2.2 i (Nat.zero_le _) hi hi).1
def jw (l : List Int) (c k : Nat) : Nat → Int
  | 0 => 0
  | b + 1 => jw l c k b + l.getD (b * c + k) 0
def sU (c n : Nat) (tot l : List Int) : Prop := l.length = n * c ∧ (∀ x ∈ l, 0 ≤ x ∧ x ≤ 999) ∧ ∀ k, k < c → jw l c k n ≤ tot.getD k 0
def nv (s : ae) (t : av) : Prop := eM s ∧ t.e_.length = s.k_.length ∧ (∀ x ∈ t.e_, 0 ≤ x ∧ x ≤ 999) ∧ t.e_.sum ≤ 999 ∧
  (t.d_.length = 0 ∨ (t.d_.length = s.b_.length ∧ ∀ i (h : i < t.d_.length) (h2 : i < s.b_.length), sU s.k_.length (nb s.b_[i]) t.e_ t.d_[i]))
theorem xW {l : List Int} (h : ∀ x ∈ l, 0 ≤ x ∧ x ≤ 999) (i : Nat) : 0 ≤ l.getD i 0 ∧ l.getD i 0 ≤ 999 := by
  rw [List.getD_eq_getElem?_getD]
  by_cases hi : i < l.length
  · rw [List.getElem?_eq_getElem hi]; exact h _ (List.getElem_mem hi)
  · rw [List.getElem?_eq_none (by omega)]; simp
theorem nk {l : List Int} {i : Nat} (h : i < l.length) : l.getD i 0 = l[i] := by simp [h]
theorem zn {l : List Int} {c k : Nat} (h : ∀ x ∈ l, 0 ≤ x ∧ x ≤ 999) : ∀ n : Nat, 0 ≤ jw l c k n ∧ jw l c k n ≤ 999 * n
  | 0 => by simp [jw]
  | n + 1 => by
    have := zn (c := c) (k := k) h n
    have := xW h (n * c + k)
    simp only [jw]
    omega
theorem xf {l : List Int} {c k : Nat} (h : ∀ x ∈ l, 0 ≤ x ∧ x ≤ 999) {n m : Nat} (hm : n ≤ m) : jw l c k n ≤ jw l c k m := by
  induction m with
  | zero => rw [show n = 0 by omega]; exact Int.le_refl _
  | succ m ih =>
    by_cases e : n = m + 1
    · rw [e]; exact Int.le_refl _
    · have := ih (by omega)
      have := xW h (m * c + k)
      simp only [jw]
      omega
theorem sJ {l : List Int} (hl : l.length ≤ 1048576) (n : Int) : Dec (jN l n) ((l.length : Int) = n ∧ ∀ x ∈ l, 0 ≤ x ∧ x ≤ 999) := by
  unfold jN
  by_cases hn : (l.length : Int) = n
  · rw [if_pos (by simpa using hn)]
    have hf : Dec (cd l) (∃ i, i < l.length ∧ ∀ h : i < l.length, ¬ (0 ≤ l[i] ∧ l[i] ≤ 999)) := by
      unfold cd cF
      refine pw (Lp := bB l) (n := l.length) (fun k i hi => ?_) (fun k i hi => ?_) (by omega)
      · show (if _ then _ else _) = _
        rw [if_neg (by simp; omega)]
      · rw [bB, if_pos (by simp; omega), bc hi, aK (by omega)]
        unfold lh bL
        simp only [bS]
        by_cases h : 0 ≤ l[i] ∧ l[i] ≤ 999
        · rw [ov h]; exact .inr ⟨fun g => g hi h, rfl⟩
        · rw [od h]; exact .inl ⟨fun _ => h, rfl⟩
    rcases hf.cases with ⟨e, i, hi, h⟩ | ⟨e, h⟩
    · rw [e]; exact cy fun g => h hi (g.2 _ (List.getElem_mem hi))
    · rw [e]; exact mW ⟨hn, fun x hx => by
        obtain ⟨i, hi, rfl⟩ := List.getElem_of_mem hx
        exact Classical.byContradiction fun c => h ⟨i, hi, fun _ => c⟩⟩
  · rw [if_neg (by simpa using hn)]
    exact cy fun g => hn g.1
theorem sT {p : List Int} (hb : ∀ x ∈ p, 0 ≤ x ∧ x ≤ 1000000000) (hl : p.length ≤ 1048576) : kD p = some p.sum := by
  unfold kD
  have h := vL (p := p) (fun x => x) (iD p) some (fun k s => by
    show (if _ then _ else _) = _
    rw [if_neg (by simp)]) (fun k s i hi => by
    rw [iD, if_pos (by simp; omega), bc hi, aK (by omega)]
    rfl) hb (by omega)
  simpa using h
theorem tZ {s : ae} (hS : eM s) {l : List Int} (h1 : l.length = s.k_.length) (h2 : ∀ x ∈ l, 0 ≤ x ∧ x ≤ 999) : 0 ≤ l.sum ∧ l.sum ≤ 2997 := by
  have h := ra h2
  have := hS.2.1
  omega
def kA (l : List Int) (c i : Nat) : List Int := (List.range c).map fun k => jw l c k (i / c + if k < i % c then 1 else 0)
theorem oB (l : List Int) (c i : Nat) : (kA l c i).length = c := by simp [kA]
theorem ng {l : List Int} {c i k : Nat} (h : k < c) : (kA l c i)[k]'(by simpa [kA] using h) = jw l c k (i / c + if k < i % c then 1 else 0) := by simp [kA]
theorem ry {l : List Int} {c i : Nat} (hc : 0 < c) : kA l c (i + 1) = (kA l c i).set (i % c) (jw l c (i % c) (i / c + 1)) := by
  have hm := Nat.mod_lt i hc
  have hd := Nat.div_add_mod i c
  apply List.ext_getElem (by simp [kA])
  intro k h1 h2
  have hk : k < c := by simpa [kA] using h1
  rw [ng hk, List.getElem_set]
  by_cases hlast : i % c + 1 = c
  · have e1 : (i + 1) / c = i / c + 1 := by
      have : i + 1 = c * (i / c + 1) := by rw [Nat.mul_add, Nat.mul_one]; omega
      rw [this, Nat.mul_div_cancel_left _ hc]
    have e2 : (i + 1) % c = 0 := by
      have : i + 1 = c * (i / c + 1) := by rw [Nat.mul_add, Nat.mul_one]; omega
      rw [this, Nat.mul_mod_right]
    rw [e1, e2, if_neg (by omega)]
    by_cases he : i % c = k
    · rw [if_pos he, he]
    · rw [if_neg he, ng hk, if_pos (by omega)]
  · have e1 : (i + 1) / c = i / c := by
      have : i + 1 = (i % c + 1) + c * (i / c) := by omega
      rw [this, Nat.add_mul_div_left _ _ hc, Nat.div_eq_of_lt (by omega), Nat.zero_add]
    have e2 : (i + 1) % c = i % c + 1 := by
      have : i + 1 = (i % c + 1) + c * (i / c) := by omega
      rw [this, Nat.add_mul_mod_self_left, Nat.mod_eq_of_lt (by omega)]
    rw [e1, e2]
    by_cases he : i % c = k
    · rw [if_pos he, if_pos (by omega), he]
    · rw [if_neg he, ng hk]
      by_cases hlt : k < i % c
      · rw [if_pos (by omega), if_pos hlt]
      · rw [if_neg (by omega), if_neg hlt]
theorem ve (l : List Int) (c : Nat) : kA l c 0 = List.replicate c 0 := by
  apply List.ext_getElem (by simp [kA])
  intro k h1 h2
  have hk : k < c := by simpa [kA] using h1
  rw [ng hk]
  simp [jw]
theorem wk {s : ae} {t : av} {l : List Int} {n : Nat} (hS : eM s) (hT : t.e_.length = s.k_.length) (hn : n ≤ 4) (h1 : l.length = n * s.k_.length) (h2 : ∀ x ∈ l, 0 ≤ x ∧ x ≤ 999) (R : Int → Option Bool) (i : Nat) (hi : i ≤ 1048576) :
    ((∀ k, k < s.k_.length → jw l s.k_.length k n ≤ t.e_.getD k 0 ∨ n = 0) ∧ dm l s t R (i : Int) bh 0 (List.replicate s.k_.length 0) = R ((i + 1 : Nat) : Int)) ∨
    ((¬ ∀ k, k < s.k_.length → jw l s.k_.length k n ≤ t.e_.getD k 0 ∨ n = 0) ∧ dm l s t R (i : Int) bh 0 (List.replicate s.k_.length 0) = some false) := by
  have hcb : 2 ≤ s.k_.length ∧ s.k_.length ≤ 3 := by have := hS.2.1; omega
  generalize hc : s.k_.length = c at *
  have hc0 : 0 < c := by omega
  have hlen : l.length ≤ 12 := by
    have : n * c ≤ 4 * 3 := Nat.mul_le_mul hn hcb.2
    omega
  rw [← ve l c]
  rcases sM (Lp := fun k j => dm l s t R (i : Int) k (j : Int) (kA l c j)) (n := l.length) (Q := fun j => jw l c (j % c) (j / c + 1) ≤ t.e_.getD (j % c) 0) (fin := R ((i + 1 : Nat) : Int)) (bad := some false) (fun k _ => by
      show dm l s t R (i : Int) (k + 1) _ _ = _
      rw [dm, if_neg (by simp), aK (by omega)]) (fun k j hj _ => by
      show (_ ∧ dm l s t R (i : Int) (k + 1) _ _ = _) ∨ (_ ∧ dm l s t R (i : Int) (k + 1) _ _ = _)
      have hm := Nat.mod_lt j hc0
      have hrem : rem (j : Int) (c : Int) = some ((j % c : Nat) : Int) := by
        unfold rem
        rw [if_neg (by omega), xT]
      have hjd : j / c * c + j % c = j := by rw [Nat.mul_comm]; exact Nat.div_add_mod j c
      have hval : jw l c (j % c) (j / c + 1) = jw l c (j % c) (j / c) + l[j] := by
        simp only [jw]
        rw [hjd, nk hj]
      have hb := zn (c := c) (k := j % c) h2 (j / c)
      have hdv : j / c ≤ 12 := Nat.le_trans (Nat.div_le_self _ _) (by omega)
      have hlj := h2 _ (List.getElem_mem hj)
      have hg : (kA l c j)[j % c]'(by rw [oB]; exact hm) = jw l c (j % c) (j / c) := by
        rw [ng hm, if_neg (by omega)]; rfl
      have hw : IntKind.i64.wrap (jw l c (j % c) (j / c) + l[j]) = jw l c (j % c) (j / c + 1) := by
        rw [hval, bu (by omega) (by omega)]
      rw [dm, if_pos (by simp; omega), bc hj, hc, hrem]
      simp only [bS]
      rw [bc (by rw [oB]; exact hm), hg]
      simp only [Option.bind_some, Int.toNat_natCast]
      rw [hw, ← ry hc0, bc (by rw [oB]; exact hm), bc (by omega : j % c < t.e_.length)]
      simp only [bS]
      have hg2 : (kA l c (j + 1))[j % c]'(by rw [oB]; exact hm) = jw l c (j % c) (j / c + 1) := by
        simp only [ry hc0, List.getElem_set_self]
      rw [hg2, nk (by omega : j % c < t.e_.length), aK (by omega)]
      by_cases hq : jw l c (j % c) (j / c + 1) ≤ t.e_[j % c]
      · rw [if_neg (by simpa using hq)]
        exact .inl ⟨hq, rfl⟩
      · rw [if_pos (by simpa using hq)]
        exact .inr ⟨hq, rfl⟩) (by omega) with ⟨h3, h4⟩ | ⟨h3, h4⟩
  · refine .inl ⟨fun k hk => ?_, h4⟩
    by_cases hn0 : n = 0
    · exact .inr hn0
    · left
      have hlt : (n - 1) * c + k < l.length := by
        rw [h1]
        obtain ⟨m, rfl⟩ : ∃ m, n = m + 1 := ⟨n - 1, by omega⟩
        rw [Nat.add_sub_cancel, Nat.add_mul]; omega
      have := h3 _ hlt
      rw [show ((n - 1) * c + k) % c = k by rw [Nat.mul_comm, Nat.mul_add_mod, Nat.mod_eq_of_lt hk], show ((n - 1) * c + k) / c + 1 = n by rw [Nat.mul_comm, Nat.mul_add_div hc0, Nat.div_eq_of_lt hk]; omega] at this
      exact this
  · refine .inr ⟨fun g => h3 fun j hj => ?_, h4⟩
    have hm := Nat.mod_lt j hc0
    rcases g _ hm with g | g
    · refine Int.le_trans (xf h2 ?_) g
      have : j / c < n := Nat.div_lt_of_lt_mul (by rw [Nat.mul_comm]; omega)
      omega
    · rw [h1, g, Nat.zero_mul] at hj
      omega
theorem rp {s : ae} {t : av} (hs : bp s) (ht : eO t) : Dec (ji s t) (nv s t) := by
  unfold ji nv
  refine nX (mJ (kB hs)) (fun hS => ?_) (fun g => cy fun h => g h.1)
  simp only [Bool.not_true, Bool.false_eq_true, if_false]
  have hl := ht.1.1
  have hl2 := ht.2.1
  rcases (sJ hl (s.k_.length : Int)).cases with ⟨e, hw⟩ | ⟨e, hw⟩
  · rw [e]
    simp only [Option.bind_some, Bool.not_true, Bool.false_eq_true, if_false]
    have hT : t.e_.length = s.k_.length := by omega
    rw [sT (fun x hx => by have := hw.2 x hx; omega) hl]
    simp only [bS]
    by_cases hsum : t.e_.sum ≤ 999
    · rw [if_neg (by simp; omega)]
      by_cases h0 : t.d_.length = 0
      · rw [if_pos (by simp; exact List.length_eq_zero_iff.1 h0)]
        exact mW ⟨hS, hT, hw.2, hsum, .inl h0⟩
      · rw [if_neg (by rw [beq_iff_eq]; omega)]
        by_cases hn : t.d_.length = s.b_.length
        · rw [if_neg (by simp [hn])]
          refine (qJ (Lp := fun k i => dc t s k (i : Int)) (n := t.d_.length) (Q := fun i => ∀ (h : i < t.d_.length) (h2 : i < s.b_.length), sU s.k_.length (nb s.b_[i]) t.e_ t.d_[i]) (F := True) (fun k _ => ?_) (fun k i hi _ => ?_) (by omega)).of_iff
            ⟨fun g => ⟨hS, hT, hw.2, hsum, .inr ⟨hn, fun i h h2 => g.1 i h h h2⟩⟩, fun g => ⟨fun i _ h h2 => by
              rcases g.2.2.2.2 with g | g
              · exact absurd g h0
              · exact g.2 i h h2, trivial⟩⟩
          · show Dec (dc t s (k + 1) _) _
            rw [dc, if_neg (by simp)]
            exact mW trivial
          · show (_ ∧ dc t s (k + 1) _ = dc t s k _) ∨ (_ ∧ dc t s (k + 1) _ = _)
            have ha : i < s.b_.length := by omega
            have hA := hs.1.2 _ (List.getElem_mem ha)
            have hnb := sd (hS.attr ha)
            have hcl := ht.2.2 _ (List.getElem_mem hi)
            have hc := hS.2.1
            have hmul : nb s.b_[i] * s.k_.length ≤ 4 * 3 := Nat.mul_le_mul (by omega) (by omega)
            rw [dc, if_pos (by simp; omega), bc hi, bc ha]
            simp only [bS]
            rw [mZ hA]
            simp only [bS]
            have hw2 : IntKind.i64.wrap ((nb s.b_[i] : Int) * (s.k_.length : Int)) = ((nb s.b_[i] * s.k_.length : Nat) : Int) := by
              rw [← Int.natCast_mul, jq (by omega)]
            rw [hw2]
            rcases (sJ hcl.1 ((nb s.b_[i] * s.k_.length : Nat) : Int)).cases with ⟨e2, h2⟩ | ⟨e2, h2⟩
            · rw [e2]
              simp only [Option.bind_some, Bool.not_true, Bool.false_eq_true, if_false]
              unfold og
              rw [zu _ (by omega)]
              simp only [bS]
              have hlen : t.d_[i].length = nb s.b_[i] * s.k_.length := by omega
              rcases wk (t := t) hS hT hnb.2 hlen h2.2 (dc t s k) i (by omega) with ⟨h3, h4⟩ | ⟨h3, h4⟩
              · exact .inl ⟨fun _ _ => ⟨hlen, h2.2, fun k hk => by
                  rcases h3 k hk with g | g
                  · exact g
                  · omega⟩, h4⟩
              · exact .inr ⟨fun g => h3 fun k hk => .inl ((g hi ha).2.2 k hk), h4⟩
            · rw [e2]
              exact .inr ⟨fun g => h2 ⟨by have := (g hi ha).1; omega, (g hi ha).2.1⟩, rfl⟩
        · rw [if_pos (by simp; omega)]
          exact cy fun g => by
            rcases g.2.2.2.2 with g | g
            · exact h0 g
            · exact hn g.1
    · rw [if_pos (by simp; omega)]
      exact cy fun g => hsum g.2.2.2.1
  · rw [e]
    exact cy fun g => hw ⟨by have := g.2.1; omega, g.2.2.1⟩
theorem wc {s : ae} {t : av} {l : List Int} {n i : Nat} (hS : eM s) (hT : t.e_.length = s.k_.length) (hn : n ≤ 4) (hi : i < t.d_.length) (hl : t.d_[i] = l) (h1 : l.length = n * s.k_.length) (R : Int → Option Bool) (hi2 : i ≤ 1048576) :
    (((∀ x ∈ l, 0 ≤ x ∧ x ≤ 999) ∧ ∀ k, k < s.k_.length → jw l s.k_.length k n ≤ t.e_.getD k 0) ∧ bQ s (n : Int) t (i : Int) R bh 0 = R ((i + 1 : Nat) : Int)) ∨
    ((¬ ((∀ x ∈ l, 0 ≤ x ∧ x ≤ 999) ∧ ∀ k, k < s.k_.length → jw l s.k_.length k n ≤ t.e_.getD k 0)) ∧ bQ s (n : Int) t (i : Int) R bh 0 = some false) := by
  have hcb : 2 ≤ s.k_.length ∧ s.k_.length ≤ 3 := by have := hS.2.1; omega
  generalize hc : s.k_.length = c at *
  have hc0 : 0 < c := by omega
  have hpos : ∀ k b, k < c → b < n → b * c + k < l.length := fun k b hk hb => by
    rw [h1]
    have : (b + 1) * c ≤ n * c := Nat.mul_le_mul_right _ hb
    rw [Nat.add_mul] at this; omega
  rcases sM (Lp := fun q k => bQ s (n : Int) t (i : Int) R q (k : Int)) (n := c) (Q := fun k => (∀ b, b < n → 0 ≤ l.getD (b * c + k) 0 ∧ l.getD (b * c + k) 0 ≤ 999) ∧ jw l c k n ≤ t.e_.getD k 0) (fin := R ((i + 1 : Nat) : Int)) (bad := some false) (fun q _ => by
      show bQ s (n : Int) t (i : Int) R (q + 1) _ = _
      rw [bQ, hc, if_neg (by simp), aK (by omega)]) (fun q k hk _ => by
      show (_ ∧ bQ s (n : Int) t (i : Int) R (q + 1) _ = bQ s (n : Int) t (i : Int) R q _) ∨ (_ ∧ bQ s (n : Int) t (i : Int) R (q + 1) _ = _)
      rw [bQ, hc, if_pos (by simp; omega)]
      rcases sM (Lp := fun q2 b => db (n : Int) t (i : Int) s (k : Int) (bQ s (n : Int) t (i : Int) R q) q2 (jw l c k b) (b : Int)) (n := n) (Q := fun b => 0 ≤ l.getD (b * c + k) 0 ∧ l.getD (b * c + k) 0 ≤ 999)
          (fin := if jw l c k n ≤ t.e_.getD k 0 then bQ s (n : Int) t (i : Int) R q ((k + 1 : Nat) : Int) else some false) (bad := some false) (fun q2 _ => by
          show db (n : Int) t (i : Int) s (k : Int) (bQ s (n : Int) t (i : Int) R q) (q2 + 1) _ _ = _
          rw [db, if_neg (by simp), bc (by omega : k < t.e_.length), aK (by omega), nk (by omega : k < t.e_.length)]
          simp only [bS]
          by_cases g : jw l c k n ≤ t.e_[k]
          · rw [if_pos g, if_neg (by simpa using g)]
          · rw [if_neg g, if_pos (by simpa using g)]) (fun q2 b hb hQ => by
          show (_ ∧ db (n : Int) t (i : Int) s (k : Int) (bQ s (n : Int) t (i : Int) R q) (q2 + 1) _ _ = db (n : Int) t (i : Int) s (k : Int) (bQ s (n : Int) t (i : Int) R q) q2 _ _) ∨ (_ ∧ db (n : Int) t (i : Int) s (k : Int) (bQ s (n : Int) t (i : Int) R q) (q2 + 1) _ _ = _)
          have hlt := hpos k b hk hb
          have hbc : b * c ≤ 4 * 3 := Nat.mul_le_mul (by omega) (by omega)
          have hw : IntKind.i64.wrap (IntKind.i64.wrap ((b : Int) * (c : Int)) + (k : Int)) = ((b * c + k : Nat) : Int) := by
            rw [← Int.natCast_mul, jq (by omega), ← Int.natCast_add, jq (by omega)]
          have hcs : ∀ m, m ≤ b → 0 ≤ jw l c k m ∧ jw l c k m ≤ 999 * m := fun m => by
            induction m with
            | zero => intro _; simp [jw]
            | succ m ih =>
              intro hm
              have h3 := ih (by omega)
              have h4 := hQ m (by omega)
              simp only [jw]
              omega
          have hcb2 := hcs b (Nat.le_refl _)
          rw [db, if_pos (by simp; omega), bc hi, hc, hw]
          simp only [bS]
          rw [hl, bc hlt]
          simp only [bS]
          unfold bj
          simp only [bS]
          have hgd := nk hlt
          by_cases g : 0 ≤ l[b * c + k] ∧ l[b * c + k] ≤ 999
          · rw [ov g, hgd]
            simp only [Bool.not_true, Bool.false_eq_true, if_false]
            rw [bu (n := jw l c k b + l[b * c + k]) (by omega) (by omega), aK (by omega)]
            refine .inl ⟨g, ?_⟩
            congr 1
            simp only [jw]
            rw [hgd]
          · rw [od g, hgd]
            exact .inr ⟨g, rfl⟩) (by omega) with ⟨h3, h4⟩ | ⟨h3, h4⟩
      · have h4 : db (n : Int) t (i : Int) s (k : Int) (bQ s (n : Int) t (i : Int) R q) bh 0 0 = _ := h4
        rw [h4]
        by_cases g : jw l c k n ≤ t.e_.getD k 0
        · rw [if_pos g]; exact .inl ⟨⟨h3, g⟩, rfl⟩
        · rw [if_neg g]; exact .inr ⟨fun x => g x.2, rfl⟩
      · have h4 : db (n : Int) t (i : Int) s (k : Int) (bQ s (n : Int) t (i : Int) R q) bh 0 0 = _ := h4
        rw [h4]
        exact .inr ⟨fun x => h3 x.1, rfl⟩) (by omega) with ⟨h3, h4⟩ | ⟨h3, h4⟩
  · refine .inl ⟨⟨fun x hx => ?_, fun k hk => (h3 k hk).2⟩, h4⟩
    obtain ⟨j, hj, rfl⟩ := List.getElem_of_mem hx
    have hm := Nat.mod_lt j hc0
    have hjd : j / c * c + j % c = j := by rw [Nat.mul_comm]; exact Nat.div_add_mod j c
    have := (h3 _ hm).1 (j / c) (Nat.div_lt_of_lt_mul (by rw [Nat.mul_comm]; omega))
    rw [hjd, nk hj] at this
    exact this
  · refine .inr ⟨fun g => h3 fun k hk => ⟨fun b hb => ?_, g.2 k hk⟩, h4⟩
    rw [nk (hpos k b hk hb)]
    exact g.1 _ (List.getElem_mem _)
theorem iO {s : ae} {t : av} (hs : bp s) (ht : eO t) : Dec (eE s t) (nv s t) := by
  unfold eE nv
  refine nX (kz (kB hs)) (fun hS => ?_) (fun g => cy fun h => g h.1)
  have hl := ht.1.1
  have hl2 := ht.2.1
  by_cases hT : t.e_.length = s.k_.length
  · rw [if_neg (by simp [hT])]
    have hcb : 2 ≤ s.k_.length ∧ s.k_.length ≤ 3 := by have := hS.2.1; omega
    have hD : (∀ i, i < t.e_.length → ∀ h : i < t.e_.length, 0 ≤ t.e_[i] ∧ t.e_[i] ≤ 999) → Dec (if decide (t.e_.sum > 999) then some false else if ((t.d_.length : Int) == 0) then some true else if ((t.d_.length : Int) != (s.b_.length : Int)) then some false else cJ t s bh 0) (t.e_.sum ≤ 999 ∧
        (t.d_.length = 0 ∨ (t.d_.length = s.b_.length ∧ ∀ i (h : i < t.d_.length) (h2 : i < s.b_.length), sU s.k_.length (nb s.b_[i]) t.e_ t.d_[i]))) := fun _ => by
      by_cases hsum : t.e_.sum ≤ 999
      · rw [if_neg (by simp; omega)]
        by_cases h0 : t.d_.length = 0
        · rw [if_pos (by simp; exact List.length_eq_zero_iff.1 h0)]
          exact mW ⟨hsum, .inl h0⟩
        · rw [if_neg (by rw [beq_iff_eq]; omega)]
          by_cases hn : t.d_.length = s.b_.length
          · rw [if_neg (by simp [hn])]
            refine (qJ (Lp := fun k i => cJ t s k (i : Int)) (n := t.d_.length) (Q := fun i => ∀ (h : i < t.d_.length) (h2 : i < s.b_.length), sU s.k_.length (nb s.b_[i]) t.e_ t.d_[i]) (F := True) (fun k _ => ?_) (fun k i hi _ => ?_) (by omega)).of_iff
              ⟨fun g => ⟨hsum, .inr ⟨hn, fun i h h2 => g.1 i h h h2⟩⟩, fun g => ⟨fun i _ h h2 => by
                rcases g.2 with g | g
                · exact absurd g h0
                · exact g.2 i h h2, trivial⟩⟩
            · show Dec (cJ t s (k + 1) _) _
              rw [cJ, if_neg (by simp)]
              exact mW trivial
            · show (_ ∧ cJ t s (k + 1) _ = cJ t s k _) ∨ (_ ∧ cJ t s (k + 1) _ = _)
              have ha : i < s.b_.length := by omega
              have hA := hs.1.2 _ (List.getElem_mem ha)
              have hnb := sd (hS.attr ha)
              have hmul : nb s.b_[i] * s.k_.length ≤ 4 * 3 := Nat.mul_le_mul (by omega) (by omega)
              have hw2 : IntKind.i64.wrap ((nb s.b_[i] : Int) * (s.k_.length : Int)) = ((nb s.b_[i] * s.k_.length : Nat) : Int) := by
                rw [← Int.natCast_mul, jq (by omega)]
              rw [cJ, if_pos (by simp; omega), bc hi, bc ha]
              simp only [bS]
              rw [me hA (hS.attr ha)]
              simp only [bS]
              rw [hw2]
              by_cases hlen : t.d_[i].length = nb s.b_[i] * s.k_.length
              · rw [if_neg (by rw [bne_iff_ne]; omega)]
                rcases wc hS hT hnb.2 hi rfl hlen (cJ t s k) (by omega) with ⟨h3, h4⟩ | ⟨h3, h4⟩
                · exact .inl ⟨fun _ _ => ⟨hlen, h3.1, h3.2⟩, h4⟩
                · exact .inr ⟨fun g => h3 ⟨(g hi ha).2.1, (g hi ha).2.2⟩, h4⟩
              · rw [if_pos (by rw [bne_iff_ne]; omega)]
                exact .inr ⟨fun g => hlen (g hi ha).1, rfl⟩
          · rw [if_pos (by simp; omega)]
            exact cy fun g => by
              rcases g.2 with g | g
              · exact h0 g
              · exact hn g.1
      · rw [if_pos (by simp; omega)]
        exact cy fun g => hsum g.1
    refine Dec.of_iff (P := (∀ i, i < t.e_.length → ∀ h : i < t.e_.length, 0 ≤ t.e_[i] ∧ t.e_[i] ≤ 999) ∧ (t.e_.sum ≤ 999 ∧
        (t.d_.length = 0 ∨ (t.d_.length = s.b_.length ∧ ∀ i (h : i < t.d_.length) (h2 : i < s.b_.length), sU s.k_.length (nb s.b_[i]) t.e_ t.d_[i])))) ?_ ⟨fun g => ⟨hS, hT, fun x hx => by
        obtain ⟨i, hi, rfl⟩ := List.getElem_of_mem hx
        exact g.1 i hi hi, g.2⟩, fun g => ⟨fun i hi _ => g.2.2.1 _ (List.getElem_mem hi), g.2.2.2⟩⟩
    have := qJ (Lp := fun k i => dw t s k (t.e_.take i).sum (i : Int)) (n := t.e_.length) (Q := fun i => ∀ h : i < t.e_.length, 0 ≤ t.e_[i] ∧ t.e_[i] ≤ 999) (F := t.e_.sum ≤ 999 ∧
        (t.d_.length = 0 ∨ (t.d_.length = s.b_.length ∧ ∀ i (h : i < t.d_.length) (h2 : i < s.b_.length), sU s.k_.length (nb s.b_[i]) t.e_ t.d_[i]))) (fun k hQ => by
      show Dec (dw t s (k + 1) _ _) _
      rw [dw, if_neg (by simp), List.take_length]
      exact hD hQ) (fun k i hi hQ => by
      show (_ ∧ dw t s (k + 1) _ _ = dw t s k _ _) ∨ (_ ∧ dw t s (k + 1) _ _ = _)
      have hb := ra (p := t.e_.take i) (b := 999) (fun x hx => by
        obtain ⟨j, hj, rfl⟩ := List.getElem_of_mem hx
        have hj2 : j < i := by have : j < (t.e_.take i).length := hj; simp at this; omega
        rw [List.getElem_take]
        exact hQ j hj2 (by omega))
      have hlt : ((t.e_.take i).length : Int) ≤ 3 := by simp; omega
      rw [dw, if_pos (by simp; omega), bc hi]
      unfold bj
      simp only [bS]
      by_cases g : 0 ≤ t.e_[i] ∧ t.e_[i] ≤ 999
      · rw [ov g]
        simp only [Bool.not_true, Bool.false_eq_true, if_false]
        rw [bu (n := (t.e_.take i).sum + t.e_[i]) (by omega) (by omega), aK (by omega), vI hi]
        exact .inl ⟨fun _ => g, rfl⟩
      · rw [od g]
        exact .inr ⟨fun x => g (x hi), rfl⟩) (by omega)
    simpa using this
  · rw [if_pos (by simp; omega)]
    exact cy fun g => hT g.2.1
end Go.Vk
/- Forks: tested alike. -/
namespace Go.Vk
def pf (a : bi) : Int := (nb a : Int) - (if 0 < a.t_.length then 2 else 1)
def atr (s : ae) (f : ar) : bi := s.b_.getD f.g_.toNat default
def lS (s : ae) (f : ar) : Prop := eM s ∧ (0 ≤ f.g_ ∧ f.g_ ≤ (s.b_.length : Int) - 1) ∧ (-1 ≤ f.c_ ∧ f.c_ ≤ pf (atr s f))
theorem qW {s : ae} {f : ar} (h : 0 ≤ f.g_ ∧ f.g_ ≤ (s.b_.length : Int) - 1) : ∃ (i : Nat) (hi : i < s.b_.length), f.g_ = i ∧ atr s f = s.b_[i] := by
  refine ⟨f.g_.toNat, by omega, by omega, ?_⟩
  unfold atr
  simp [show f.g_.toNat < s.b_.length by omega]
theorem nZ {s : ae} {f : ar} (h : 0 ≤ f.g_ ∧ f.g_ ≤ (s.b_.length : Int) - 1) : idx s.b_ f.g_ = some (atr s f) := by
  obtain ⟨i, hi, e1, e2⟩ := qW h
  rw [e1, e2, bc hi]
theorem ot {s : ae} {f : ar} (h : 0 ≤ f.g_ ∧ f.g_ ≤ (s.b_.length : Int) - 1) : atr s f ∈ s.b_ := by
  obtain ⟨i, hi, e1, e2⟩ := qW h
  rw [e2]; exact List.getElem_mem hi
theorem pu {s : ae} {f : ar} (hS : eM s) (h : 0 ≤ f.g_ ∧ f.g_ ≤ (s.b_.length : Int) - 1) : nK (atr s f) := by
  obtain ⟨i, hi, e1, e2⟩ := qW h
  rw [e2]; exact hS.attr hi
theorem jA {s : ae} {f : ar} (hs : bp s) : Dec (fF s f) (lS s f) := by
  unfold fF lS
  refine nX (kz (kB hs)) (fun hS => ?_) (fun g => cy fun h => g h.1)
  have hn := hs.1.1
  simp only [Bool.not_true, Bool.false_eq_true, if_false]
  rw [bu (n := (s.b_.length : Int) - 1) (by omega) (by omega)]
  rcases (cX (x := f.g_) (a := 0) (b := (s.b_.length : Int) - 1)).cases with ⟨e, hr⟩ | ⟨e, hr⟩
  · rw [e]
    simp only [Option.bind_some, Bool.not_true, Bool.false_eq_true, if_false]
    have hm := hs.1.2 _ (ot hr)
    have hA := pu hS hr
    have hnb := sd hA
    rw [nZ hr]
    simp only [bS]
    rw [me hm hA]
    simp only [bS]
    unfold pf
    refine xX (P := 0 < (atr s f).t_.length) (by simp) (fun h => ?_) (fun h => ?_)
    · rw [if_pos h, bu (by omega) (by omega)]
      have : ∀ o : Option Bool, (o.bind fun y => some y) = o := fun o => by cases o <;> rfl
      rw [this]
      exact cX.of_iff ⟨fun g => ⟨hS, hr, g⟩, fun g => g.2.2⟩
    · rw [if_neg h, bu (by omega) (by omega)]
      have : ∀ o : Option Bool, (o.bind fun y => some y) = o := fun o => by cases o <;> rfl
      rw [this]
      exact cX.of_iff ⟨fun g => ⟨hS, hr, g⟩, fun g => g.2.2⟩
  · rw [e]
    exact cy fun g => hr g.2.1
theorem pg {s : ae} {f : ar} (hs : bp s) : Dec (jb s f) (lS s f) := by
  unfold jb lS
  refine nX (mJ (kB hs)) (fun hS => ?_) (fun g => cy fun h => g h.1)
  have hn := hs.1.1
  simp only [Bool.not_true, Bool.false_eq_true, if_false]
  rw [bu (n := (s.b_.length : Int) - 1) (by omega) (by omega)]
  rcases (eL (x := f.g_) (a := 0) (b := (s.b_.length : Int) - 1)).cases with ⟨e, hr⟩ | ⟨e, hr⟩
  · rw [e]
    simp only [Option.bind_some, Bool.not_true, Bool.false_eq_true, if_false]
    have hm := hs.1.2 _ (ot hr)
    have hA := pu hS hr
    have hnb := sd hA
    rw [nZ hr]
    simp only [bS]
    rw [mZ hm]
    simp only [bS]
    unfold pf
    have hid : ∀ o : Option Bool, (o.bind fun y => some y) = o := fun o => by cases o <;> rfl
    refine xX (P := 0 < (atr s f).t_.length) (by simp) (fun h => ?_) (fun h => ?_)
    · rw [if_pos h, bu (n := (nb (atr s f) : Int) - 1) (by omega) (by omega), bu (by omega) (by omega), hid, show (nb (atr s f) : Int) - 1 - 1 = (nb (atr s f) : Int) - 2 by omega]
      exact eL.of_iff ⟨fun g => ⟨hS, hr, g⟩, fun g => g.2.2⟩
    · rw [if_neg h, bu (by omega) (by omega), hid]
      exact eL.of_iff ⟨fun g => ⟨hS, hr, g⟩, fun g => g.2.2⟩
  · rw [e]
    exact cy fun g => hr g.2.1
end Go.Vk
