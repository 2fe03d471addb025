/- Statistics: tested alike; the greatest of a list. -/
import Derived.Test.YthdoeealefnabaaGreatDoorPT
import Derived.Test.YthdoeealefnabaaGreatDoorVkU
namespace Go.Vk
theorem Dq {a : aB} (h : rk a) : OkM a := by
  obtain ⟨h1, h2, h3⟩ := h
  exact ⟨by omega, by have := h2.1; omega, by have := h3.1; omega, fun y hy => by have := h3.2 y hy; omega⟩
theorem qp {s : am} (h : cB s) : OkS s := by
  obtain ⟨h1, h2⟩ := h
  exact ⟨by have := h1.1; omega, fun a ha => Dq (h1.2 a ha), by have := h2.1; omega, fun y hy => by have := h2.2 y hy; omega⟩
theorem sE {o : Option Bool} {P R : Prop} {f : Bool → Option Bool} (h : Dec o P) (ht : P → Dec (f true) R) (hf : ¬ P → Dec (f false) R) : Dec (o.bind f) R := by
  rcases h.cases with ⟨e, hp⟩ | ⟨e, hp⟩
  · rw [e]; exact ht hp
  · rw [e]; exact hf hp
theorem Jn {c : Prop} [Decidable c] {P R : Prop} {a b : Option Bool} (e : c ↔ P) (ht : P → Dec a R) (hf : ¬ P → Dec b R) : Dec (if c then a else b) R := by
  by_cases hc : c
  · rw [if_pos hc]; exact ht (e.1 hc)
  · rw [if_neg hc]; exact hf (fun hp => hc (e.2 hp))
theorem fE {x a b : Int} : Dec (aZ x a b) (a ≤ x ∧ x ≤ b) := JU
theorem iP {x a b : Int} : Dec (bn x a b) (a ≤ x ∧ x ≤ b) := JU
def nb (a : aB) : Nat := if 0 < a.z_.length then a.z_.length + 1 else a.I_.length
theorem wK {a : aB} (hx : rk a) : mh a = some (nb a : Int) := by
  have h1 := hx.2.1.1
  unfold mh nb
  by_cases h0 : 0 < a.z_.length
  · rw [if_pos (by simpa using h0), if_pos h0, aD (by omega)]
  · rw [if_neg (by simpa using h0), if_neg h0]
theorem FV {a : aB} (h : rA a) : 2 ≤ nb a ∧ nb a ≤ 4 := by
  unfold nb
  rcases h.2 with ⟨h1, h2, _⟩ | ⟨h1, h2, _⟩
  · rw [if_neg (by omega)]; omega
  · rw [if_pos (by omega)]; omega
theorem AB {a : aB} (hx : rk a) (h : rA a) : lW a = some (nb a : Int) := by
  obtain ⟨n, b1, b2, _⟩ := Lc (Dq hx) h
  rw [b1, ← b2, wK hx]
theorem kn.attr {s : am} (h : kn s) {i : Nat} (hi : i < s.d_.length) : rA s.d_[i] := (h.2.2.2 i (Nat.zero_le _) hi hi).1
def li (l : List Int) (c k : Nat) : Nat → Int
  | 0 => 0
  | b + 1 => li l c k b + l.getD (b * c + k) 0
def Cp (c n : Nat) (tot l : List Int) : Prop := l.length = n * c ∧ (∀ x ∈ l, 0 ≤ x ∧ x ≤ 999) ∧ ∀ k, k < c → li l c k n ≤ tot.getD k 0
def tv (s : am) (t : aV) : Prop := kn s ∧ t.k_.length = s.m_.length ∧ (∀ x ∈ t.k_, 0 ≤ x ∧ x ≤ 999) ∧ t.k_.sum ≤ 999 ∧
  (t.h_.length = 0 ∨ (t.h_.length = s.d_.length ∧ ∀ i (h : i < t.h_.length) (h2 : i < s.d_.length), Cp s.m_.length (nb s.d_[i]) t.k_ t.h_[i]))
theorem Jl {l : List Int} (h : ∀ x ∈ l, 0 ≤ x ∧ x ≤ 999) (i : Nat) : 0 ≤ l.getD i 0 ∧ l.getD i 0 ≤ 999 := by
  rw [List.getD_eq_getElem?_getD]
  by_cases hi : i < l.length
  · rw [List.getElem?_eq_getElem hi]; exact h _ (List.getElem_mem hi)
  · rw [List.getElem?_eq_none (by omega)]; simp
theorem uK {l : List Int} {i : Nat} (h : i < l.length) : l.getD i 0 = l[i] := by simp [h]
theorem Jf {l : List Int} {c k : Nat} (h : ∀ x ∈ l, 0 ≤ x ∧ x ≤ 999) : ∀ n : Nat, 0 ≤ li l c k n ∧ li l c k n ≤ 999 * n
  | 0 => by simp [li]
  | n + 1 => by
    have := Jf (c := c) (k := k) h n
    have := Jl h (n * c + k)
    simp only [li]
    omega
theorem HD {l : List Int} {c k : Nat} (h : ∀ x ∈ l, 0 ≤ x ∧ x ≤ 999) {n m : Nat} (hm : n ≤ m) : li l c k n ≤ li l c k m := by
  induction m with
  | zero => rw [show n = 0 by omega]; exact Int.le_refl _
  | succ m ih =>
    by_cases e : n = m + 1
    · rw [e]; exact Int.le_refl _
    · have := ih (by omega)
      have := Jl h (m * c + k)
      simp only [li]
      omega
theorem zG {l : List Int} (hl : l.length ≤ 1048576) (n : Int) : Dec (lU l n) ((l.length : Int) = n ∧ ∀ x ∈ l, 0 ≤ x ∧ x ≤ 999) := by
  unfold lU
  by_cases hn : (l.length : Int) = n
  · rw [if_pos (by simpa using hn)]
    have hf : Dec (bZ l) (∃ i, i < l.length ∧ ∀ h : i < l.length, ¬ (0 ≤ l[i] ∧ l[i] ≤ 999)) := by
      unfold bZ cG
      refine pO (Lp := bv l) (n := l.length) (fun k i hi => ?_) (fun k i hi => ?_) (by omega)
      · show (if _ then _ else _) = _
        rw [if_neg (by simp; omega)]
      · rw [bv, if_pos (by simp; omega), bf hi, aD (by omega)]
        unfold oQ aZ
        simp only [bS]
        by_cases h : 0 ≤ l[i] ∧ l[i] ≤ 999
        · rw [pq h]; exact .inr ⟨fun g => g hi h, rfl⟩
        · rw [pP h]; exact .inl ⟨fun _ => h, rfl⟩
    rcases hf.cases with ⟨e, i, hi, h⟩ | ⟨e, h⟩
    · rw [e]; exact bF fun g => h hi (g.2 _ (List.getElem_mem hi))
    · rw [e]; exact lC ⟨hn, fun x hx => by
        obtain ⟨i, hi, rfl⟩ := List.getElem_of_mem hx
        exact Classical.byContradiction fun c => h ⟨i, hi, fun _ => c⟩⟩
  · rw [if_neg (by simpa using hn)]
    exact bF fun g => hn g.1
theorem DH {p : List Int} (hb : ∀ x ∈ p, 0 ≤ x ∧ x ≤ 1000000000) (hl : p.length ≤ 1048576) : kC p = some p.sum := by
  unfold kC
  have h := wL (p := p) (fun x => x) (eV p) some (fun k s => by
    show (if _ then _ else _) = _
    rw [if_neg (by simp)]) (fun k s i hi => by
    rw [eV, if_pos (by simp; omega), bf hi, aD (by omega)]
    rfl) hb (by omega)
  simpa using h
def ng (l : List Int) (c i : Nat) : List Int := (List.range c).map fun k => li l c k (i / c + if k < i % c then 1 else 0)
theorem tp (l : List Int) (c i : Nat) : (ng l c i).length = c := by simp [ng]
theorem ri {l : List Int} {c i k : Nat} (h : k < c) : (ng l c i)[k]'(by simpa [ng] using h) = li l c k (i / c + if k < i % c then 1 else 0) := by simp [ng]
theorem yk {l : List Int} {c i : Nat} (hc : 0 < c) : ng l c (i + 1) = (ng l c i).set (i % c) (li l c (i % c) (i / c + 1)) := by
  have hm := Nat.mod_lt i hc
  have hd := Nat.div_add_mod i c
  apply List.ext_getElem (by simp [ng])
  intro k h1 h2
  have hk : k < c := by simpa [ng] using h1
  rw [ri hk, List.getElem_set]
  by_cases hlast : i % c + 1 = c
  · have e1 : (i + 1) / c = i / c + 1 := by
      have : i + 1 = c * (i / c + 1) := by rw [Nat.mul_add, Nat.mul_one]; omega
      rw [this, Nat.mul_div_cancel_left _ hc]
    have e2 : (i + 1) % c = 0 := by
      have : i + 1 = c * (i / c + 1) := by rw [Nat.mul_add, Nat.mul_one]; omega
      rw [this, Nat.mul_mod_right]
    rw [e1, e2, if_neg (by omega)]
    by_cases he : i % c = k
    · rw [if_pos he, he]
    · rw [if_neg he, ri hk, if_pos (by omega)]
  · have e1 : (i + 1) / c = i / c := by
      have : i + 1 = (i % c + 1) + c * (i / c) := by omega
      rw [this, Nat.add_mul_div_left _ _ hc, Nat.div_eq_of_lt (by omega), Nat.zero_add]
    have e2 : (i + 1) % c = i % c + 1 := by
      have : i + 1 = (i % c + 1) + c * (i / c) := by omega
      rw [this, Nat.add_mul_mod_self_left, Nat.mod_eq_of_lt (by omega)]
    rw [e1, e2]
    by_cases he : i % c = k
    · rw [if_pos he, if_pos (by omega), he]
    · rw [if_neg he, ri hk]
      by_cases hlt : k < i % c
      · rw [if_pos (by omega), if_pos hlt]
      · rw [if_neg (by omega), if_neg hlt]
theorem DT (l : List Int) (c : Nat) : ng l c 0 = List.replicate c 0 := by
  apply List.ext_getElem (by simp [ng])
  intro k h1 h2
  have hk : k < c := by simpa [ng] using h1
  rw [ri hk]
  simp [li]
theorem Gi {s : am} {t : aV} {l : List Int} {n : Nat} (hS : kn s) (hT : t.k_.length = s.m_.length) (hn : n ≤ 4) (h1 : l.length = n * s.m_.length) (h2 : ∀ x ∈ l, 0 ≤ x ∧ x ≤ 999) (R : Int → Option Bool) (i : Nat) (hi : i ≤ 1048576) :
    ((∀ k, k < s.m_.length → li l s.m_.length k n ≤ t.k_.getD k 0 ∨ n = 0) ∧ dp l s t R (i : Int) aK 0 (List.replicate s.m_.length 0) = R ((i + 1 : Nat) : Int)) ∨
    ((¬ ∀ k, k < s.m_.length → li l s.m_.length k n ≤ t.k_.getD k 0 ∨ n = 0) ∧ dp l s t R (i : Int) aK 0 (List.replicate s.m_.length 0) = some false) := by
  have hcb : 2 ≤ s.m_.length ∧ s.m_.length ≤ 3 := by have := hS.2.1; omega
  generalize hc : s.m_.length = c at *
  have hc0 : 0 < c := by omega
  have hlen : l.length ≤ 12 := by
    have : n * c ≤ 4 * 3 := Nat.mul_le_mul hn hcb.2
    omega
  rw [← DT l c]
  rcases tM (Lp := fun k j => dp l s t R (i : Int) k (j : Int) (ng l c j)) (n := l.length) (Q := fun j => li l c (j % c) (j / c + 1) ≤ t.k_.getD (j % c) 0) (fin := R ((i + 1 : Nat) : Int)) (bad := some false) (fun k _ => by
      show dp l s t R (i : Int) (k + 1) _ _ = _
      rw [dp, if_neg (by simp), aD (by omega)]) (fun k j hj _ => by
      show (_ ∧ dp l s t R (i : Int) (k + 1) _ _ = _) ∨ (_ ∧ dp l s t R (i : Int) (k + 1) _ _ = _)
      have hm := Nat.mod_lt j hc0
      have hrem : rem (j : Int) (c : Int) = some ((j % c : Nat) : Int) := by
        unfold rem
        rw [if_neg (by omega), sg]
      have hjd : j / c * c + j % c = j := by rw [Nat.mul_comm]; exact Nat.div_add_mod j c
      have hval : li l c (j % c) (j / c + 1) = li l c (j % c) (j / c) + l[j] := by
        simp only [li]
        rw [hjd, uK hj]
      have hb := Jf (c := c) (k := j % c) h2 (j / c)
      have hdv : j / c ≤ 12 := Nat.le_trans (Nat.div_le_self _ _) (by omega)
      have hlj := h2 _ (List.getElem_mem hj)
      have hg : (ng l c j)[j % c]'(by rw [tp]; exact hm) = li l c (j % c) (j / c) := by
        rw [ri hm, if_neg (by omega)]; rfl
      have hw : IntKind.i64.wrap (li l c (j % c) (j / c) + l[j]) = li l c (j % c) (j / c + 1) := by
        rw [hval, cd (by omega) (by omega)]
      rw [dp, if_pos (by simp; omega), bf hj, hc, hrem]
      simp only [bS]
      rw [bf (by rw [tp]; exact hm), hg]
      simp only [Option.bind_some, Int.toNat_natCast]
      rw [hw, ← yk hc0, bf (by rw [tp]; exact hm), bf (by omega : j % c < t.k_.length)]
      simp only [bS]
      have hg2 : (ng l c (j + 1))[j % c]'(by rw [tp]; exact hm) = li l c (j % c) (j / c + 1) := by
        simp only [yk hc0, List.getElem_set_self]
      rw [hg2, uK (by omega : j % c < t.k_.length), aD (by omega)]
      by_cases hq : li l c (j % c) (j / c + 1) ≤ t.k_[j % c]
      · rw [if_neg (by simpa using hq)]
        exact .inl ⟨hq, rfl⟩
      · rw [if_pos (by simpa using hq)]
        exact .inr ⟨hq, rfl⟩) (by omega) with ⟨h3, h4⟩ | ⟨h3, h4⟩
  · refine .inl ⟨fun k hk => ?_, h4⟩
    by_cases hn0 : n = 0
    · exact .inr hn0
    · left
      have hlt : (n - 1) * c + k < l.length := by
        rw [h1]
        obtain ⟨m, rfl⟩ : ∃ m, n = m + 1 := ⟨n - 1, by omega⟩
        rw [Nat.add_sub_cancel, Nat.add_mul]; omega
      have := h3 _ hlt
      rw [show ((n - 1) * c + k) % c = k by rw [Nat.mul_comm, Nat.mul_add_mod, Nat.mod_eq_of_lt hk], show ((n - 1) * c + k) / c + 1 = n by rw [Nat.mul_comm, Nat.mul_add_div hc0, Nat.div_eq_of_lt hk]; omega] at this
      exact this
  · refine .inr ⟨fun g => h3 fun j hj => ?_, h4⟩
    have hm := Nat.mod_lt j hc0
    rcases g _ hm with g | g
    · refine Int.le_trans (HD h2 ?_) g
      have : j / c < n := Nat.div_lt_of_lt_mul (by rw [Nat.mul_comm]; omega)
      omega
    · rw [h1, g, Nat.zero_mul] at hj
      omega
theorem HY {s : am} {t : aV} (hs : cB s) (ht : lV t) : Dec (oH s t) (tv s t) := by
  unfold oH tv
  refine sE (pp (qp hs)) (fun hS => ?_) (fun g => bF fun h => g h.1)
  simp only [Bool.not_true, Bool.false_eq_true, if_false]
  have hl := ht.1.1
  have hl2 := ht.2.1
  rcases (zG hl (s.m_.length : Int)).cases with ⟨e, hw⟩ | ⟨e, hw⟩
  · rw [e]
    simp only [Option.bind_some, Bool.not_true, Bool.false_eq_true, if_false]
    have hT : t.k_.length = s.m_.length := by omega
    rw [DH (fun x hx => by have := hw.2 x hx; omega) hl]
    simp only [bS]
    by_cases hsum : t.k_.sum ≤ 999
    · rw [if_neg (by simp; omega)]
      by_cases h0 : t.h_.length = 0
      · rw [if_pos (by simp; exact List.length_eq_zero_iff.1 h0)]
        exact lC ⟨hS, hT, hw.2, hsum, .inl h0⟩
      · rw [if_neg (by rw [beq_iff_eq]; omega)]
        by_cases hn : t.h_.length = s.d_.length
        · rw [if_neg (by simp [hn])]
          refine (qw (Lp := fun k i => de t s k (i : Int)) (n := t.h_.length) (Q := fun i => ∀ (h : i < t.h_.length) (h2 : i < s.d_.length), Cp s.m_.length (nb s.d_[i]) t.k_ t.h_[i]) (F := True) (fun k _ => ?_) (fun k i hi _ => ?_) (by omega)).of_iff
            ⟨fun g => ⟨hS, hT, hw.2, hsum, .inr ⟨hn, fun i h h2 => g.1 i h h h2⟩⟩, fun g => ⟨fun i _ h h2 => by
              rcases g.2.2.2.2 with g | g
              · exact absurd g h0
              · exact g.2 i h h2, trivial⟩⟩
          · show Dec (de t s (k + 1) _) _
            rw [de, if_neg (by simp)]
            exact lC trivial
          · show (_ ∧ de t s (k + 1) _ = de t s k _) ∨ (_ ∧ de t s (k + 1) _ = _)
            have ha : i < s.d_.length := by omega
            have hA := hs.1.2 _ (List.getElem_mem ha)
            have hnb := FV (hS.attr ha)
            have hcl := ht.2.2 _ (List.getElem_mem hi)
            have hc := hS.2.1
            have hmul : nb s.d_[i] * s.m_.length ≤ 4 * 3 := Nat.mul_le_mul (by omega) (by omega)
            rw [de, if_pos (by simp; omega), bf hi, bf ha]
            simp only [bS]
            rw [wK hA]
            simp only [bS]
            have hw2 : IntKind.i64.wrap ((nb s.d_[i] : Int) * (s.m_.length : Int)) = ((nb s.d_[i] * s.m_.length : Nat) : Int) := by
              rw [← Int.natCast_mul, jV (by omega)]
            rw [hw2]
            rcases (zG hcl.1 ((nb s.d_[i] * s.m_.length : Nat) : Int)).cases with ⟨e2, h2⟩ | ⟨e2, h2⟩
            · rw [e2]
              simp only [Option.bind_some, Bool.not_true, Bool.false_eq_true, if_false]
              unfold sW
              rw [yz _ (by omega)]
              simp only [bS]
              have hlen : t.h_[i].length = nb s.d_[i] * s.m_.length := by omega
              rcases Gi (t := t) hS hT hnb.2 hlen h2.2 (de t s k) i (by omega) with ⟨h3, h4⟩ | ⟨h3, h4⟩
              · exact .inl ⟨fun _ _ => ⟨hlen, h2.2, fun k hk => by
                  rcases h3 k hk with g | g
                  · exact g
                  · omega⟩, h4⟩
              · exact .inr ⟨fun g => h3 fun k hk => .inl ((g hi ha).2.2 k hk), h4⟩
            · rw [e2]
              exact .inr ⟨fun g => h2 ⟨by have := (g hi ha).1; omega, (g hi ha).2.1⟩, rfl⟩
        · rw [if_pos (by simp; omega)]
          exact bF fun g => by
            rcases g.2.2.2.2 with g | g
            · exact h0 g
            · exact hn g.1
    · rw [if_pos (by simp; omega)]
      exact bF fun g => hsum g.2.2.2.1
  · rw [e]
    exact bF fun g => hw ⟨by have := g.2.1; omega, g.2.2.1⟩
theorem Gd {s : am} {t : aV} {l : List Int} {n i : Nat} (hS : kn s) (hT : t.k_.length = s.m_.length) (hn : n ≤ 4) (hi : i < t.h_.length) (hl : t.h_[i] = l) (h1 : l.length = n * s.m_.length) (R : Int → Option Bool) (hi2 : i ≤ 1048576) :
    (((∀ x ∈ l, 0 ≤ x ∧ x ≤ 999) ∧ ∀ k, k < s.m_.length → li l s.m_.length k n ≤ t.k_.getD k 0) ∧ bR s (n : Int) t (i : Int) R aK 0 = R ((i + 1 : Nat) : Int)) ∨
    ((¬ ((∀ x ∈ l, 0 ≤ x ∧ x ≤ 999) ∧ ∀ k, k < s.m_.length → li l s.m_.length k n ≤ t.k_.getD k 0)) ∧ bR s (n : Int) t (i : Int) R aK 0 = some false) := by
  have hcb : 2 ≤ s.m_.length ∧ s.m_.length ≤ 3 := by have := hS.2.1; omega
  generalize hc : s.m_.length = c at *
  have hc0 : 0 < c := by omega
  have hpos : ∀ k b, k < c → b < n → b * c + k < l.length := fun k b hk hb => by
    rw [h1]
    have : (b + 1) * c ≤ n * c := Nat.mul_le_mul_right _ hb
    rw [Nat.add_mul] at this; omega
  rcases tM (Lp := fun q k => bR s (n : Int) t (i : Int) R q (k : Int)) (n := c) (Q := fun k => (∀ b, b < n → 0 ≤ l.getD (b * c + k) 0 ∧ l.getD (b * c + k) 0 ≤ 999) ∧ li l c k n ≤ t.k_.getD k 0) (fin := R ((i + 1 : Nat) : Int)) (bad := some false) (fun q _ => by
      show bR s (n : Int) t (i : Int) R (q + 1) _ = _
      rw [bR, hc, if_neg (by simp), aD (by omega)]) (fun q k hk _ => by
      show (_ ∧ bR s (n : Int) t (i : Int) R (q + 1) _ = bR s (n : Int) t (i : Int) R q _) ∨ (_ ∧ bR s (n : Int) t (i : Int) R (q + 1) _ = _)
      rw [bR, hc, if_pos (by simp; omega)]
      rcases tM (Lp := fun q2 b => dh (n : Int) t (i : Int) s (k : Int) (bR s (n : Int) t (i : Int) R q) q2 (li l c k b) (b : Int)) (n := n) (Q := fun b => 0 ≤ l.getD (b * c + k) 0 ∧ l.getD (b * c + k) 0 ≤ 999)
          (fin := if li l c k n ≤ t.k_.getD k 0 then bR s (n : Int) t (i : Int) R q ((k + 1 : Nat) : Int) else some false) (bad := some false) (fun q2 _ => by
          show dh (n : Int) t (i : Int) s (k : Int) (bR s (n : Int) t (i : Int) R q) (q2 + 1) _ _ = _
          rw [dh, if_neg (by simp), bf (by omega : k < t.k_.length), aD (by omega), uK (by omega : k < t.k_.length)]
          simp only [bS]
          by_cases g : li l c k n ≤ t.k_[k]
          · rw [if_pos g, if_neg (by simpa using g)]
          · rw [if_neg g, if_pos (by simpa using g)]) (fun q2 b hb hQ => by
          show (_ ∧ dh (n : Int) t (i : Int) s (k : Int) (bR s (n : Int) t (i : Int) R q) (q2 + 1) _ _ = dh (n : Int) t (i : Int) s (k : Int) (bR s (n : Int) t (i : Int) R q) q2 _ _) ∨ (_ ∧ dh (n : Int) t (i : Int) s (k : Int) (bR s (n : Int) t (i : Int) R q) (q2 + 1) _ _ = _)
          have hlt := hpos k b hk hb
          have hbc : b * c ≤ 4 * 3 := Nat.mul_le_mul (by omega) (by omega)
          have hw : IntKind.i64.wrap (IntKind.i64.wrap ((b : Int) * (c : Int)) + (k : Int)) = ((b * c + k : Nat) : Int) := by
            rw [← Int.natCast_mul, jV (by omega), ← Int.natCast_add, jV (by omega)]
          have hcs : ∀ m, m ≤ b → 0 ≤ li l c k m ∧ li l c k m ≤ 999 * m := fun m => by
            induction m with
            | zero => intro _; simp [li]
            | succ m ih =>
              intro hm
              have h3 := ih (by omega)
              have h4 := hQ m (by omega)
              simp only [li]
              omega
          have hcb2 := hcs b (Nat.le_refl _)
          rw [dh, if_pos (by simp; omega), bf hi, hc, hw]
          simp only [bS]
          rw [hl, bf hlt]
          simp only [bS]
          unfold bn
          simp only [bS]
          have hgd := uK hlt
          by_cases g : 0 ≤ l[b * c + k] ∧ l[b * c + k] ≤ 999
          · rw [pq g, hgd]
            simp only [Bool.not_true, Bool.false_eq_true, if_false]
            rw [cd (n := li l c k b + l[b * c + k]) (by omega) (by omega), aD (by omega)]
            refine .inl ⟨g, ?_⟩
            congr 1
            simp only [li]
            rw [hgd]
          · rw [pP g, hgd]
            exact .inr ⟨g, rfl⟩) (by omega) with ⟨h3, h4⟩ | ⟨h3, h4⟩
      · have h4 : dh (n : Int) t (i : Int) s (k : Int) (bR s (n : Int) t (i : Int) R q) aK 0 0 = _ := h4
        rw [h4]
        by_cases g : li l c k n ≤ t.k_.getD k 0
        · rw [if_pos g]; exact .inl ⟨⟨h3, g⟩, rfl⟩
        · rw [if_neg g]; exact .inr ⟨fun x => g x.2, rfl⟩
      · have h4 : dh (n : Int) t (i : Int) s (k : Int) (bR s (n : Int) t (i : Int) R q) aK 0 0 = _ := h4
        rw [h4]
        exact .inr ⟨fun x => h3 x.1, rfl⟩) (by omega) with ⟨h3, h4⟩ | ⟨h3, h4⟩
  · refine .inl ⟨⟨fun x hx => ?_, fun k hk => (h3 k hk).2⟩, h4⟩
    obtain ⟨j, hj, rfl⟩ := List.getElem_of_mem hx
    have hm := Nat.mod_lt j hc0
    have hjd : j / c * c + j % c = j := by rw [Nat.mul_comm]; exact Nat.div_add_mod j c
    have := (h3 _ hm).1 (j / c) (Nat.div_lt_of_lt_mul (by rw [Nat.mul_comm]; omega))
    rw [hjd, uK hj] at this
    exact this
  · refine .inr ⟨fun g => h3 fun k hk => ⟨fun b hb => ?_, g.2 k hk⟩, h4⟩
    rw [uK (hpos k b hk hb)]
    exact g.1 _ (List.getElem_mem _)
theorem xc {s : am} {t : aV} (hs : cB s) (ht : lV t) : Dec (kB s t) (tv s t) := by
  unfold kB tv
  refine sE (pb (qp hs)) (fun hS => ?_) (fun g => bF fun h => g h.1)
  have hl := ht.1.1
  have hl2 := ht.2.1
  by_cases hT : t.k_.length = s.m_.length
  · rw [if_neg (by simp [hT])]
    have hcb : 2 ≤ s.m_.length ∧ s.m_.length ≤ 3 := by have := hS.2.1; omega
    have hD : (∀ i, i < t.k_.length → ∀ h : i < t.k_.length, 0 ≤ t.k_[i] ∧ t.k_[i] ≤ 999) → Dec (if decide (t.k_.sum > 999) then some false else if ((t.h_.length : Int) == 0) then some true else if ((t.h_.length : Int) != (s.d_.length : Int)) then some false else cK t s aK 0) (t.k_.sum ≤ 999 ∧
        (t.h_.length = 0 ∨ (t.h_.length = s.d_.length ∧ ∀ i (h : i < t.h_.length) (h2 : i < s.d_.length), Cp s.m_.length (nb s.d_[i]) t.k_ t.h_[i]))) := fun _ => by
      by_cases hsum : t.k_.sum ≤ 999
      · rw [if_neg (by simp; omega)]
        by_cases h0 : t.h_.length = 0
        · rw [if_pos (by simp; exact List.length_eq_zero_iff.1 h0)]
          exact lC ⟨hsum, .inl h0⟩
        · rw [if_neg (by rw [beq_iff_eq]; omega)]
          by_cases hn : t.h_.length = s.d_.length
          · rw [if_neg (by simp [hn])]
            refine (qw (Lp := fun k i => cK t s k (i : Int)) (n := t.h_.length) (Q := fun i => ∀ (h : i < t.h_.length) (h2 : i < s.d_.length), Cp s.m_.length (nb s.d_[i]) t.k_ t.h_[i]) (F := True) (fun k _ => ?_) (fun k i hi _ => ?_) (by omega)).of_iff
              ⟨fun g => ⟨hsum, .inr ⟨hn, fun i h h2 => g.1 i h h h2⟩⟩, fun g => ⟨fun i _ h h2 => by
                rcases g.2 with g | g
                · exact absurd g h0
                · exact g.2 i h h2, trivial⟩⟩
            · show Dec (cK t s (k + 1) _) _
              rw [cK, if_neg (by simp)]
              exact lC trivial
            · show (_ ∧ cK t s (k + 1) _ = cK t s k _) ∨ (_ ∧ cK t s (k + 1) _ = _)
              have ha : i < s.d_.length := by omega
              have hA := hs.1.2 _ (List.getElem_mem ha)
              have hnb := FV (hS.attr ha)
              have hmul : nb s.d_[i] * s.m_.length ≤ 4 * 3 := Nat.mul_le_mul (by omega) (by omega)
              have hw2 : IntKind.i64.wrap ((nb s.d_[i] : Int) * (s.m_.length : Int)) = ((nb s.d_[i] * s.m_.length : Nat) : Int) := by
                rw [← Int.natCast_mul, jV (by omega)]
              rw [cK, if_pos (by simp; omega), bf hi, bf ha]
              simp only [bS]
              rw [AB hA (hS.attr ha)]
              simp only [bS]
              rw [hw2]
              by_cases hlen : t.h_[i].length = nb s.d_[i] * s.m_.length
              · rw [if_neg (by rw [bne_iff_ne]; omega)]
                rcases Gd hS hT hnb.2 hi rfl hlen (cK t s k) (by omega) with ⟨h3, h4⟩ | ⟨h3, h4⟩
                · exact .inl ⟨fun _ _ => ⟨hlen, h3.1, h3.2⟩, h4⟩
                · exact .inr ⟨fun g => h3 ⟨(g hi ha).2.1, (g hi ha).2.2⟩, h4⟩
              · rw [if_pos (by rw [bne_iff_ne]; omega)]
                exact .inr ⟨fun g => hlen (g hi ha).1, rfl⟩
          · rw [if_pos (by simp; omega)]
            exact bF fun g => by
              rcases g.2 with g | g
              · exact h0 g
              · exact hn g.1
      · rw [if_pos (by simp; omega)]
        exact bF fun g => hsum g.1
    refine Dec.of_iff (P := (∀ i, i < t.k_.length → ∀ h : i < t.k_.length, 0 ≤ t.k_[i] ∧ t.k_[i] ≤ 999) ∧ (t.k_.sum ≤ 999 ∧
        (t.h_.length = 0 ∨ (t.h_.length = s.d_.length ∧ ∀ i (h : i < t.h_.length) (h2 : i < s.d_.length), Cp s.m_.length (nb s.d_[i]) t.k_ t.h_[i])))) ?_ ⟨fun g => ⟨hS, hT, fun x hx => by
        obtain ⟨i, hi, rfl⟩ := List.getElem_of_mem hx
        exact g.1 i hi hi, g.2⟩, fun g => ⟨fun i hi _ => g.2.2.1 _ (List.getElem_mem hi), g.2.2.2⟩⟩
    have := qw (Lp := fun k i => dR t s k (t.k_.take i).sum (i : Int)) (n := t.k_.length) (Q := fun i => ∀ h : i < t.k_.length, 0 ≤ t.k_[i] ∧ t.k_[i] ≤ 999) (F := t.k_.sum ≤ 999 ∧
        (t.h_.length = 0 ∨ (t.h_.length = s.d_.length ∧ ∀ i (h : i < t.h_.length) (h2 : i < s.d_.length), Cp s.m_.length (nb s.d_[i]) t.k_ t.h_[i]))) (fun k hQ => by
      show Dec (dR t s (k + 1) _ _) _
      rw [dR, if_neg (by simp), List.take_length]
      exact hD hQ) (fun k i hi hQ => by
      show (_ ∧ dR t s (k + 1) _ _ = dR t s k _ _) ∨ (_ ∧ dR t s (k + 1) _ _ = _)
      have hb := ph (p := t.k_.take i) (b := 999) (fun x hx => by
        obtain ⟨j, hj, rfl⟩ := List.getElem_of_mem hx
        have hj2 : j < i := by have : j < (t.k_.take i).length := hj; simp at this; omega
        rw [List.getElem_take]
        exact hQ j hj2 (by omega))
      have hlt : ((t.k_.take i).length : Int) ≤ 3 := by simp; omega
      rw [dR, if_pos (by simp; omega), bf hi]
      unfold bn
      simp only [bS]
      by_cases g : 0 ≤ t.k_[i] ∧ t.k_[i] ≤ 999
      · rw [pq g]
        simp only [Bool.not_true, Bool.false_eq_true, if_false]
        rw [cd (n := (t.k_.take i).sum + t.k_[i]) (by omega) (by omega), aD (by omega), wA hi]
        exact .inl ⟨fun _ => g, rfl⟩
      · rw [pP g]
        exact .inr ⟨fun x => g (x hi), rfl⟩) (by omega)
    simpa using this
  · rw [if_pos (by simp; omega)]
    exact bF fun g => hT g.2.1
end Go.Vk
/- Forks: tested alike. -/
namespace Go.Vk
def Db (a : aB) : Int := (nb a : Int) - (if 0 < a.z_.length then 2 else 1)
def atr (s : am) (f : bC) : aB := s.d_.getD f.q_.toNat default
def uF (s : am) (f : bC) : Prop := kn s ∧ (0 ≤ f.q_ ∧ f.q_ ≤ (s.d_.length : Int) - 1) ∧ (-1 ≤ f.u_ ∧ f.u_ ≤ Db (atr s f))
theorem Gm {s : am} {f : bC} (h : 0 ≤ f.q_ ∧ f.q_ ≤ (s.d_.length : Int) - 1) : ∃ (i : Nat) (hi : i < s.d_.length), f.q_ = i ∧ atr s f = s.d_[i] := by
  refine ⟨f.q_.toNat, by omega, by omega, ?_⟩
  unfold atr
  simp [show f.q_.toNat < s.d_.length by omega]
theorem zx {s : am} {f : bC} (h : 0 ≤ f.q_ ∧ f.q_ ≤ (s.d_.length : Int) - 1) : idx s.d_ f.q_ = some (atr s f) := by
  obtain ⟨i, hi, e1, e2⟩ := Gm h
  rw [e1, e2, bf hi]
theorem wX {s : am} {f : bC} (h : 0 ≤ f.q_ ∧ f.q_ ≤ (s.d_.length : Int) - 1) : atr s f ∈ s.d_ := by
  obtain ⟨i, hi, e1, e2⟩ := Gm h
  rw [e2]; exact List.getElem_mem hi
theorem Dj {s : am} {f : bC} (hS : kn s) (h : 0 ≤ f.q_ ∧ f.q_ ≤ (s.d_.length : Int) - 1) : rA (atr s f) := by
  obtain ⟨i, hi, e1, e2⟩ := Gm h
  rw [e2]; exact hS.attr hi
theorem EO {s : am} {f : bC} (hs : cB s) : Dec (np s f) (uF s f) := by
  unfold np uF
  refine sE (pb (qp hs)) (fun hS => ?_) (fun g => bF fun h => g h.1)
  have hn := hs.1.1
  simp only [Bool.not_true, Bool.false_eq_true, if_false]
  rw [cd (n := (s.d_.length : Int) - 1) (by omega) (by omega)]
  rcases (iP (x := f.q_) (a := 0) (b := (s.d_.length : Int) - 1)).cases with ⟨e, hr⟩ | ⟨e, hr⟩
  · rw [e]
    simp only [Option.bind_some, Bool.not_true, Bool.false_eq_true, if_false]
    have hm := hs.1.2 _ (wX hr)
    have hA := Dj hS hr
    have hnb := FV hA
    rw [zx hr]
    simp only [bS]
    rw [AB hm hA]
    simp only [bS]
    unfold Db
    refine Jn (P := 0 < (atr s f).z_.length) (by simp) (fun h => ?_) (fun h => ?_)
    · rw [if_pos h, cd (by omega) (by omega)]
      have : ∀ o : Option Bool, (o.bind fun y => some y) = o := fun o => by cases o <;> rfl
      rw [this]
      exact iP.of_iff ⟨fun g => ⟨hS, hr, g⟩, fun g => g.2.2⟩
    · rw [if_neg h, cd (by omega) (by omega)]
      have : ∀ o : Option Bool, (o.bind fun y => some y) = o := fun o => by cases o <;> rfl
      rw [this]
      exact iP.of_iff ⟨fun g => ⟨hS, hr, g⟩, fun g => g.2.2⟩
  · rw [e]
    exact bF fun g => hr g.2.1
theorem Ev {s : am} {f : bC} (hs : cB s) : Dec (pJ s f) (uF s f) := by
  unfold pJ uF
  refine sE (pp (qp hs)) (fun hS => ?_) (fun g => bF fun h => g h.1)
  have hn := hs.1.1
  simp only [Bool.not_true, Bool.false_eq_true, if_false]
  rw [cd (n := (s.d_.length : Int) - 1) (by omega) (by omega)]
  rcases (fE (x := f.q_) (a := 0) (b := (s.d_.length : Int) - 1)).cases with ⟨e, hr⟩ | ⟨e, hr⟩
  · rw [e]
    simp only [Option.bind_some, Bool.not_true, Bool.false_eq_true, if_false]
    have hm := hs.1.2 _ (wX hr)
    have hA := Dj hS hr
    have hnb := FV hA
    rw [zx hr]
    simp only [bS]
    rw [wK hm]
    simp only [bS]
    unfold Db
    have hid : ∀ o : Option Bool, (o.bind fun y => some y) = o := fun o => by cases o <;> rfl
    refine Jn (P := 0 < (atr s f).z_.length) (by simp) (fun h => ?_) (fun h => ?_)
    · rw [if_pos h, cd (n := (nb (atr s f) : Int) - 1) (by omega) (by omega), cd (by omega) (by omega), hid, show (nb (atr s f) : Int) - 1 - 1 = (nb (atr s f) : Int) - 2 by omega]
      exact fE.of_iff ⟨fun g => ⟨hS, hr, g⟩, fun g => g.2.2⟩
    · rw [if_neg h, cd (by omega) (by omega), hid]
      exact fE.of_iff ⟨fun g => ⟨hS, hr, g⟩, fun g => g.2.2⟩
  · rw [e]
    exact bF fun g => hr g.2.1
end Go.Vk
/- Attributes' places, branches, nodes, trees: tested alike. -/
namespace Go.Vk
def Asc (l : List Int) : Prop := ∀ i, 1 ≤ i → i < l.length → ∀ h : i < l.length, l[i - 1] < l[i]
theorem Je {l : List Int} (hl : l.length ≤ 1048576) : Dec (gc l) (Asc l) := by
  unfold gc
  refine oy (Lp := eJ l) (n := l.length) (Q := fun i => ∀ h : i < l.length, l[i - 1] < l[i]) 1 (fun k i hi => ?_) (fun k i h1 hi => ?_) (by omega)
  · show (if _ then _ else _) = _
    rw [if_neg (by simp; omega)]
  · rw [eJ]
    rw [if_pos (by simp; omega), bf hi, aD (by omega), cd (by omega) (by omega), show (i : Int) - 1 = ((i - 1 : Nat) : Int) by omega, bf (show i - 1 < l.length by omega)]
    simp only [bS]
    by_cases hc : l[i] ≤ l[i - 1]
    · rw [if_pos (by simpa using hc)]
      exact .inr ⟨fun g => by have := g hi; omega, rfl⟩
    · rw [if_neg (by simpa using hc)]
      exact .inl ⟨fun _ => by omega, rfl⟩
theorem Asc.le {l : List Int} (h : Asc l) : ∀ {j : Nat} (i : Nat) (hi : i ≤ j) (hj : j < l.length), l[i] ≤ l[j]
  | 0, i, hi, hj => by
    have : i = 0 := by omega
    subst this; exact Int.le_refl _
  | j + 1, i, hi, hj => by
    by_cases e : i = j + 1
    · subst e; exact Int.le_refl _
    · have h1 := h.le (j := j) i (by omega) (by omega)
      have h2 := h (j + 1) (by omega) hj hj
      simp only [Nat.add_sub_cancel] at h2
      omega
def vI (s : am) (l : List Int) : Prop := kn s ∧ l.length ≠ 0 ∧ ∀ i, 0 ≤ i → i < l.length → ∀ h : i < l.length, (0 ≤ l[i] ∧ l[i] ≤ (s.d_.length : Int) - 1) ∧ (0 < i → l[i - 1] < l[i])
theorem Cc {s : am} {l : List Int} (hs : cB s) (hl : l.length ≤ 1048576) : Dec (lX s l) (vI s l) := by
  unfold lX vI
  refine sE (pb (qp hs)) (fun hS => ?_) (fun g => bF fun h => g h.1)
  have hn := hs.1.1
  by_cases h0 : l.length = 0
  · rw [if_pos (by simp; exact List.length_eq_zero_iff.1 h0)]
    exact bF fun g => g.2.1 h0
  · rw [if_neg (by simp; exact fun e => h0 (by rw [e]; rfl))]
    refine (oy (Lp := ik l s) (n := l.length) (Q := fun i => ∀ h : i < l.length, (0 ≤ l[i] ∧ l[i] ≤ (s.d_.length : Int) - 1) ∧ (0 < i → l[i - 1] < l[i])) 0 (fun k i hi => ?_) (fun k i _ hi => ?_) (by omega)).of_iff ⟨fun g => ⟨hS, h0, g⟩, fun g => g.2.2⟩
    · show (if _ then _ else _) = _
      rw [if_neg (by simp; omega)]
    · rw [ik, if_pos (by simp; omega), bf hi, aD (by omega), cd (n := (s.d_.length : Int) - 1) (by omega) (by omega)]
      unfold bn
      simp only [bS]
      by_cases hr : 0 ≤ l[i] ∧ l[i] ≤ (s.d_.length : Int) - 1
      · rw [pq hr]
        simp only [Bool.not_true, Bool.false_eq_true, if_false]
        by_cases h1 : 0 < i
        · rw [if_pos (by simp; omega), cd (n := (i : Int) - 1) (by omega) (by omega), show (i : Int) - 1 = ((i - 1 : Nat) : Int) by omega, bf (show i - 1 < l.length by omega)]
          simp only [bS]
          by_cases hc : l[i] ≤ l[i - 1]
          · rw [if_pos (by simpa using hc)]
            exact .inr ⟨fun g => by have := (g hi).2 h1; omega, rfl⟩
          · rw [if_neg (by simpa using hc)]
            exact .inl ⟨fun _ => ⟨hr, fun _ => by omega⟩, rfl⟩
        · rw [if_neg (by simp; omega)]
          exact .inl ⟨fun _ => ⟨hr, fun g => absurd g h1⟩, rfl⟩
      · rw [pP hr]
        exact .inr ⟨fun g => hr (g hi).1, rfl⟩
theorem Hv {s : am} {l : List Int} (hs : cB s) (hl : l.length ≤ 1048576) : Dec (nW s l) (vI s l) := by
  unfold nW vI
  refine sE (pp (qp hs)) (fun hS => ?_) (fun g => bF fun h => g h.1)
  have hn := hs.1.1
  by_cases h0 : l.length = 0
  · rw [if_neg (by simp; exact List.length_eq_zero_iff.1 h0)]
    exact bF fun g => g.2.1 h0
  · rw [if_pos (by simp only [Bool.and_eq_true, decide_eq_true_eq, eq_self, true_and]; omega)]
    rcases (Je hl).cases with ⟨e, hA⟩ | ⟨e, hA⟩
    · rw [e]
      simp only [Option.bind_some, if_true]
      rw [show (0 : Int) = ((0 : Nat) : Int) from rfl, bf (show 0 < l.length by omega), cd (by omega) (by omega), show (l.length : Int) - 1 = ((l.length - 1 : Nat) : Int) by omega, bf (show l.length - 1 < l.length by omega)]
      simp only [bS]
      by_cases h1 : 0 ≤ l[0]
      · rw [if_pos (by simpa using h1)]
        refine ⟨_, rfl, ?_⟩
        rw [decide_eq_true_iff]
        refine ⟨fun g => ⟨hS, h0, fun i _ hi _ => ⟨⟨?_, ?_⟩, fun hp => hA i hp hi hi⟩⟩, fun g => ?_⟩
        · exact Int.le_trans h1 (hA.le 0 (Nat.zero_le _) hi)
        · have := hA.le (j := l.length - 1) i (by omega) (by omega); omega
        · have := (g.2.2 (l.length - 1) (Nat.zero_le _) (by omega) (by omega)).1; omega
      · rw [if_neg (by simpa using h1)]
        exact bF fun g => h1 (g.2.2 0 (Nat.zero_le _) (by omega) (by omega)).1.1
    · rw [e]
      exact bF fun g => hA fun i h1 hi _ => (g.2.2 i (Nat.zero_le _) hi hi).2 h1
theorem Ip {s : am} {t : aV} (hs : cB s) (ht : lV t) (h : tv s t) : kL s t = some t.k_.sum := by
  unfold kL
  rcases (xc hs ht).cases with ⟨e, _⟩ | ⟨_, g⟩
  · rw [e]
    simp only [Option.bind_some, Bool.not_true, Bool.false_eq_true, if_false]
    have h1 := wL (p := t.k_) (fun x => x) (fH t) some (fun k s => by
      show (if _ then _ else _) = _
      rw [if_neg (by simp)]) (fun k s i hi => by
      have := ht.1.1
      rw [fH, if_pos (by simp; omega), bf hi, aD (by omega)]
      rfl) (fun x hx => by have := h.2.2.1 x hx; omega) (by have := ht.1.1; omega)
    simpa using h1
  · exact absurd h g
def brN (s : am) (f : bC) : Nat := if f.u_ = -1 then nb (atr s f) else 2
theorem Jc {s : am} {f : bC} (h : uF s f) : 2 ≤ brN s f ∧ brN s f ≤ 4 := by
  have := FV (Dj h.1 h.2.1)
  unfold brN
  split <;> omega
theorem Dk {s : am} {f : bC} (hs : cB s) (h : uF s f) : mA s f = some (brN s f : Int) := by
  unfold mA brN
  rcases (EO (f := f) hs).cases with ⟨e, _⟩ | ⟨_, g⟩
  · rw [e]
    simp only [Option.bind_some, Bool.not_true, Bool.false_eq_true, if_false]
    rw [zx h.2.1]
    simp only [bS]
    rw [AB (hs.1.2 _ (wX h.2.1)) (Dj h.1 h.2.1)]
    by_cases h1 : f.u_ = -1
    · rw [if_pos (by simpa using h1), if_pos h1]; rfl
    · rw [if_neg (by simpa using h1), if_neg h1]; rfl
  · exact absurd h g
theorem Ds {s : am} {f : bC} (hs : cB s) (h : uF s f) : jK s f = some (brN s f : Int) := by
  unfold jK brN
  rcases (Ev (f := f) hs).cases with ⟨e, _⟩ | ⟨_, g⟩
  · rw [e]
    simp only [Option.bind_some, Bool.not_true, Bool.false_eq_true, if_false]
    rw [zx h.2.1]
    simp only [bS]
    rw [wK (hs.1.2 _ (wX h.2.1))]
    by_cases h1 : f.u_ = -1
    · rw [if_pos (by simpa using h1), if_pos h1]; rfl
    · rw [if_neg (by simpa using h1), if_neg h1]; rfl
  · exact absurd h g
theorem BK {s : am} {f : bC} (hs : cB s) (h : ¬ uF s f) : jK s f = some 0 := by
  unfold jK
  rcases (Ev (f := f) hs).cases with ⟨_, g⟩ | ⟨e, _⟩
  · exact absurd g h
  · rw [e]; rfl
def Hn (t : ap) (i : Nat) (x : Int) : Prop := ∃ m : Nat, ∃ hm : m < t.b_.length, x = m ∧ i < m ∧ t.b_[m].x_ = i
def LA (n : au) : Prop := (n.g_.q_ = 0 ∧ n.g_.u_ = 0) ∧ n.r_.length = 0 ∧ n.C_ = 0 ∧ (0 ≤ n.D_ ∧ n.D_ ≤ if n.i_.h_.length = 0 then 0 else n.i_.k_.sum)
def ND (t : ap) (i : Nat) (l : List Int) : Prop := Asc l ∧ ∀ x ∈ l, Hn t i x
def Jk (s : am) (t : ap) (i : Nat) (n : au) : Prop := uF s n.g_ ∧ n.r_.length = brN s n.g_ ∧ (0 ≤ n.C_ ∧ n.C_ ≤ (n.r_.length : Int) - 1) ∧ n.i_.h_.length = 0 ∧ n.D_ = 0 ∧ ND t i n.r_
def DS (s : am) (t : ap) (i : Nat) (n : au) : Prop := (0 ≤ n.f_ ∧ n.f_ ≤ 6) ∧ (0 ≤ n.B_ ∧ n.B_ ≤ t.A_) ∧ tv s n.i_ ∧ vI s n.d_ ∧ (n.y_ = true → LA n) ∧ (n.y_ = false → Jk s t i n)
def Ny (t : ap) (i : Nat) (n : au) : Prop := (i = 0 → n.x_ = -1 ∧ n.f_ = 0 ∧ n.B_ = 0) ∧
  (0 < i → ∃ u, ∃ _ : u < i, ∃ hu : u < t.b_.length, n.x_ = u ∧ t.b_[u].y_ = false ∧ (i : Int) ∈ t.b_[u].r_ ∧ t.b_[u].f_ + 1 = n.f_ ∧ t.b_[u].B_ ≤ n.B_)
def Iv (s : am) (t : ap) (i : Nat) : Prop := ∀ h : i < t.b_.length, DS s t i t.b_[i] ∧ Ny t i t.b_[i]
def yl (s : am) (t : ap) : Prop := kn s ∧ (1 ≤ (t.b_.length : Int) ∧ (t.b_.length : Int) ≤ 31) ∧ (0 ≤ t.A_ ∧ t.A_ ≤ 99999) ∧ ∀ i, i < t.b_.length → Iv s t i
theorem Lb {t : ap} (hl : t.b_.length ≤ 1048576) {i : Nat} (hi : i < t.b_.length) (x : Int) : Dec (my x (i : Int) t) (¬ Hn t i x) := by
  unfold my
  rw [aD (by omega), cd (n := (t.b_.length : Int) - 1) (by omega) (by omega)]
  rcases (fE (x := x) (a := ((i + 1 : Nat) : Int)) (b := (t.b_.length : Int) - 1)).cases with ⟨e, hr⟩ | ⟨e, hr⟩
  · rw [e]
    simp only [Option.bind_some, Bool.not_true, Bool.false_eq_true, if_false]
    obtain ⟨m, rfl⟩ : ∃ m : Nat, x = m := ⟨x.toNat, by omega⟩
    have hm : m < t.b_.length := by omega
    rw [bf hm]
    simp only [bS]
    refine ⟨_, rfl, ?_⟩
    rw [bne_iff_ne]
    refine ⟨fun g ⟨m', _, h1, _, h2⟩ => ?_, fun g h => g ⟨m, hm, rfl, by omega, h⟩⟩
    obtain rfl : m = m' := by omega
    exact g h2
  · rw [e]
    exact lC fun ⟨m, hm, h1, h2, _⟩ => hr ⟨by omega, by omega⟩
theorem Hu {t : ap} (hl : t.b_.length ≤ 1048576) {i : Nat} (hi : i < t.b_.length) {l : List Int} (hk : l.length ≤ 1048576) : Dec (cb l (i : Int) t) (∃ x ∈ l, ¬ Hn t i x) := by
  unfold cb cM
  refine (pO (Lp := bx l (i : Int) t) (n := l.length) (Q := fun j => ∀ h : j < l.length, ¬ Hn t i l[j]) (fun k j hj => ?_) (fun k j hj => ?_) (by omega)).of_iff ⟨fun ⟨j, hj, g⟩ => ⟨_, List.getElem_mem hj, g hj⟩, fun ⟨x, hx, g⟩ => ?_⟩
  · show (if _ then _ else _) = _
    rw [if_neg (by simp; omega)]
  · rw [bx, if_pos (by simp; omega), bf hj, aD (by omega)]
    simp only [bS]
    rcases (Lb hl hi l[j]).cases with ⟨e, h⟩ | ⟨e, h⟩
    · rw [e]; exact .inl ⟨fun _ => h, rfl⟩
    · rw [e]; exact .inr ⟨fun g => h (g hj), rfl⟩
  · obtain ⟨j, hj, rfl⟩ := List.getElem_of_mem hx
    exact ⟨j, hj, fun _ => g⟩
theorem Jr {s : am} {t : ap} (hs : cB s) (ht : kR t) {i : Nat} (hi : i < t.b_.length) : Dec (pz s t (i : Int)) (DS s t i t.b_[i]) := by
  unfold pz
  have hl := ht.1.1
  rw [bf hi]
  simp only [bS]
  have hnd := ht.1.2 _ (List.getElem_mem hi)
  generalize t.b_[i] = n at *
  have hkl : n.r_.length ≤ 1048576 := hnd.2.2.1.1
  have hst : lV n.i_ := hnd.2.2.2.2.1
  have hal : n.d_.length ≤ 1048576 := hnd.2.2.2.2.2.2.1.1
  rcases (fE (x := n.f_) (a := 0) (b := 6)).cases with ⟨e, hd⟩ | ⟨e, hd⟩
  · rw [e]
    simp only [Option.bind_some, Bool.not_true, Bool.false_eq_true, if_false]
    rcases (fE (x := n.B_) (a := 0) (b := t.A_)).cases with ⟨e, hb⟩ | ⟨e, hb⟩
    · rw [e]
      simp only [Option.bind_some, Bool.not_true, Bool.false_eq_true, if_false]
      rcases (HY hs hst).cases with ⟨e, hS⟩ | ⟨e, hS⟩
      · rw [e]
        simp only [Option.bind_some, Bool.not_true, Bool.false_eq_true, if_false]
        rcases (Hv hs hal).cases with ⟨e, hA⟩ | ⟨e, hA⟩
        · rw [e]
          simp only [Option.bind_some, Bool.not_true, Bool.false_eq_true, if_false]
          by_cases hL : n.y_ = true
          case neg =>
            have hL' : n.y_ = false := by simpa using hL
            rw [if_neg hL]
            by_cases hF : uF s n.g_
            · have hbr := Jc hF
              rw [Ds hs hF]
              simp only [bS]
              by_cases hk : n.r_.length = brN s n.g_
              · rw [if_neg (by simp; omega)]
                rcases (Je hkl).cases with ⟨e, hAs⟩ | ⟨e, hAs⟩
                · rw [e]
                  simp only [Option.bind_some, Bool.not_true, Bool.false_eq_true, if_false]
                  rw [cd (n := (brN s n.g_ : Int) - 1) (by omega) (by omega)]
                  rcases (fE (x := n.C_) (a := 0) (b := (brN s n.g_ : Int) - 1)).cases with ⟨e, hm⟩ | ⟨e, hm⟩
                  · rw [e]
                    simp only [Option.bind_some, Bool.not_true, Bool.false_or]
                    by_cases hc : n.i_.h_.length = 0 ∧ n.D_ = 0
                    · rw [if_neg (by simp [hc.1, hc.2])]
                      rcases (Hu hl hi hkl).cases with ⟨e, x, hx, hK⟩ | ⟨e, hK⟩
                      · rw [e]
                        exact bF fun g => hK ((g.2.2.2.2.2 hL').2.2.2.2.2.2 x hx)
                      · rw [e]
                        exact lC ⟨hd, hb, hS, hA, fun g => absurd g hL, fun _ => ⟨hF, hk, by omega, hc.1, hc.2, hAs, fun x hx => Classical.byContradiction fun c => hK ⟨x, hx, c⟩⟩⟩
                    · rw [if_pos (by simp only [Bool.or_eq_true, bne_iff_ne, ne_eq]; omega)]
                      exact bF fun g => hc ⟨(g.2.2.2.2.2 hL').2.2.2.1, (g.2.2.2.2.2 hL').2.2.2.2.1⟩
                  · rw [e]
                    exact bF fun g => hm (by have := (g.2.2.2.2.2 hL').2.2.1; omega)
                · rw [e]
                  exact bF fun g => hAs (g.2.2.2.2.2 hL').2.2.2.2.2.1
              · rw [if_pos (by simp; omega)]
                exact bF fun g => hk (g.2.2.2.2.2 hL').2.1
            · rw [BK hs hF]
              exact bF fun g => hF (g.2.2.2.2.2 hL').1
          case pos =>
            rw [if_pos hL, DH (fun x hx => by have := hS.2.2.1 x hx; omega) hst.1.1]
            simp only [bS]
            have key : ∀ q : Int, q = (if n.i_.h_.length = 0 then 0 else n.i_.k_.sum) → Dec (ke n q) (DS s t i n) := fun q hq => by
              unfold ke
              have hid : ∀ o : Option Bool, (o.bind fun y => some y) = o := fun o => by cases o <;> rfl
              by_cases hc : (n.g_.q_ = 0 ∧ n.g_.u_ = 0) ∧ n.r_.length = 0 ∧ n.C_ = 0
              · rw [if_pos (by simp [hc.1.1, hc.1.2, hc.2.1, hc.2.2]), hid, hid]
                exact fE.of_iff ⟨fun g => ⟨hd, hb, hS, hA, fun _ => ⟨hc.1, hc.2.1, hc.2.2, by rw [← hq]; exact g⟩, fun g => by rw [hL] at g; cases g⟩, fun g => by rw [hq]; exact (g.2.2.2.2.1 hL).2.2.2⟩
              · rw [if_neg (by simp only [Bool.and_eq_true, beq_iff_eq, Bool.and_true]; omega)]
                exact bF fun g => hc ⟨(g.2.2.2.2.1 hL).1, (g.2.2.2.2.1 hL).2.1, (g.2.2.2.2.1 hL).2.2.1⟩
            by_cases hc : n.i_.h_.length = 0
            · rw [if_pos (by simp; exact List.length_eq_zero_iff.1 hc)]
              exact key 0 (by rw [if_pos hc])
            · rw [if_neg (by simp; exact fun e => hc (by rw [e]; rfl))]
              exact key _ (by rw [if_neg hc])
        · rw [e]
          exact bF fun g => hA g.2.2.2.1
      · rw [e]
        exact bF fun g => hS g.2.2.1
    · rw [e]
      exact bF fun g => hb g.2.1
  · rw [e]
    exact bF fun g => hd g.1
theorem Jb {s : am} {n : au} (hs : cB s) (hn : rb n) : Dec (km s n) (LA n ∧ tv s n.i_ ∧ vI s n.d_) := by
  unfold km
  have hst : lV n.i_ := hn.2.2.2.2.1
  have hal : n.d_.length ≤ 1048576 := hn.2.2.2.2.2.2.1.1
  by_cases hc : (n.g_.q_ = 0 ∧ n.g_.u_ = 0) ∧ n.r_.length = 0 ∧ n.C_ = 0
  · rw [if_neg (by simp only [Bool.or_eq_true, Bool.not_eq_true', bne_iff_ne, decide_eq_true_eq, ne_eq, Bool.and_true, Bool.and_eq_false_iff, beq_eq_false_iff_ne]; omega)]
    rcases (xc hs hst).cases with ⟨e, hS⟩ | ⟨e, hS⟩
    · rw [e]
      simp only [Option.bind_some, Bool.not_true, Bool.false_eq_true, if_false]
      rcases (Cc hs hal).cases with ⟨e, hA⟩ | ⟨e, hA⟩
      · rw [e]
        simp only [Option.bind_some, Bool.not_true, Bool.false_eq_true, if_false]
        by_cases h0 : n.i_.h_.length = 0
        · rw [if_pos (by simp only [beq_iff_eq]; omega)]
          refine ⟨_, rfl, ?_⟩
          rw [beq_iff_eq]
          exact ⟨fun g => ⟨⟨hc.1, hc.2.1, hc.2.2, by rw [if_pos h0]; omega⟩, hS, hA⟩, fun g => by have := g.1.2.2.2; rw [if_pos h0] at this; omega⟩
        · rw [if_neg (by simp only [beq_iff_eq]; omega), Ip hs hst hS]
          simp only [bS]
          have hid : ∀ o : Option Bool, (o.bind fun y => some y) = o := fun o => by cases o <;> rfl
          rw [hid]
          exact iP.of_iff ⟨fun g => ⟨⟨hc.1, hc.2.1, hc.2.2, by rw [if_neg h0]; exact g⟩, hS, hA⟩, fun g => by have := g.1.2.2.2; rw [if_neg h0] at this; exact this⟩
      · rw [e]
        exact bF fun g => hA g.2.2
    · rw [e]
      exact bF fun g => hS g.2.1
  · rw [if_pos (by simp only [Bool.or_eq_true, Bool.not_eq_true', bne_iff_ne, decide_eq_true_eq, ne_eq, Bool.and_true, Bool.and_eq_false_iff, beq_eq_false_iff_ne]; omega)]
    exact bF fun g => hc ⟨g.1.1, g.1.2.1, g.1.2.2.1⟩
theorem HA {s : am} {t : ap} (hs : cB s) (ht : kR t) {i : Nat} (hi : i < t.b_.length) : Dec (jH s t (i : Int)) (Jk s t i t.b_[i] ∧ tv s t.b_[i].i_ ∧ vI s t.b_[i].d_) := by
  unfold jH
  have hl := ht.1.1
  rw [bf hi]
  simp only [bS]
  have hnd := ht.1.2 _ (List.getElem_mem hi)
  generalize t.b_[i] = n at *
  have hkl : n.r_.length ≤ 1048576 := hnd.2.2.1.1
  have hst : lV n.i_ := hnd.2.2.2.2.1
  have hal : n.d_.length ≤ 1048576 := hnd.2.2.2.2.2.2.1.1
  rcases (EO (f := n.g_) hs).cases with ⟨e, hF⟩ | ⟨e, hF⟩
  · rw [e]
    simp only [Option.bind_some, Bool.not_true, Bool.false_eq_true, if_false]
    have hbr := Jc hF
    rw [Dk hs hF]
    simp only [bS]
    by_cases hk : n.r_.length = brN s n.g_
    · rw [if_neg (by simp only [bne_iff_ne, ne_eq]; omega), cd (n := (n.r_.length : Int) - 1) (by omega) (by omega)]
      rcases (iP (x := n.C_) (a := 0) (b := (n.r_.length : Int) - 1)).cases with ⟨e, hm⟩ | ⟨e, hm⟩
      · rw [e]
        simp only [Option.bind_some, Bool.not_true, Bool.false_eq_true, if_false]
        rcases (xc hs hst).cases with ⟨e, hS⟩ | ⟨e, hS⟩
        · rw [e]
          simp only [Option.bind_some, Bool.not_true, Bool.false_or]
          by_cases hc : n.i_.h_.length = 0 ∧ n.D_ = 0
          · rw [if_neg (by simp only [Bool.or_eq_true, bne_iff_ne, decide_eq_true_eq, ne_eq]; omega)]
            rcases (Cc hs hal).cases with ⟨e, hA⟩ | ⟨e, hA⟩
            · rw [e]
              simp only [Option.bind_some, Bool.not_true, Bool.false_eq_true, if_false]
              refine (oy (Lp := gv n (i : Int) t) (n := n.r_.length) (Q := fun j => ∀ h : j < n.r_.length, Hn t i n.r_[j] ∧ (0 < j → n.r_[j - 1] < n.r_[j])) 0 (fun k j hj => ?_) (fun k j _ hj => ?_) (by omega)).of_iff
                ⟨fun g => ⟨⟨hF, hk, hm, hc.1, hc.2, fun j h1 hj _ => (g j (Nat.zero_le _) hj hj).2 h1, fun x hx => by
                  obtain ⟨j, hj, rfl⟩ := List.getElem_of_mem hx
                  exact (g j (Nat.zero_le _) hj hj).1⟩, hS, hA⟩, fun g j _ hj _ => ⟨g.1.2.2.2.2.2.2 _ (List.getElem_mem hj), fun h1 => g.1.2.2.2.2.2.1 j h1 hj hj⟩⟩
              · show (if _ then _ else _) = _
                rw [if_neg (by simp; omega)]
              · rw [gv, if_pos (by simp; omega), bf hj]
                simp only [bS]
                rw [aD (i := i) (by omega), cd (n := (t.b_.length : Int) - 1) (by omega) (by omega), aD (i := j) (by omega)]
                generalize hx : n.r_[j] = x
                rcases (iP (x := x) (a := ((i + 1 : Nat) : Int)) (b := (t.b_.length : Int) - 1)).cases with ⟨e, hr⟩ | ⟨e, hr⟩
                · rw [e]
                  simp only [Option.bind_some, Bool.not_true, Bool.false_eq_true, if_false]
                  obtain ⟨m, rfl⟩ : ∃ m : Nat, x = m := ⟨x.toNat, by omega⟩
                  have hm : m < t.b_.length := by omega
                  rw [bf hm]
                  simp only [bS]
                  by_cases hu : t.b_[m].x_ = (i : Int)
                  · rw [if_neg (by simp only [bne_iff_ne, ne_eq]; omega)]
                    have hK : Hn t i n.r_[j] := by rw [hx]; exact ⟨m, hm, rfl, by omega, hu⟩
                    by_cases h1 : 0 < j
                    · rw [if_pos (by simp; omega), cd (n := (j : Int) - 1) (by omega) (by omega), show (j : Int) - 1 = ((j - 1 : Nat) : Int) by omega, bf (show j - 1 < n.r_.length by omega)]
                      simp only [bS]
                      by_cases hlt : n.r_[j] ≤ n.r_[j - 1]
                      · rw [if_pos (by rw [← hx]; simpa using hlt)]
                        exact .inr ⟨fun g => by have := (g hj).2 h1; omega, rfl⟩
                      · rw [if_neg (by rw [← hx]; simpa using hlt)]
                        exact .inl ⟨fun _ => ⟨hK, fun _ => by omega⟩, rfl⟩
                    · rw [if_neg (by simp; omega)]
                      exact .inl ⟨fun _ => ⟨hK, fun g => absurd g h1⟩, rfl⟩
                  · rw [if_pos (by simp only [bne_iff_ne, ne_eq]; omega)]
                    exact .inr ⟨fun g => by
                      obtain ⟨m', hm', g1, _, g2⟩ := (g hj).1
                      rw [hx] at g1
                      obtain rfl : m = m' := by omega
                      exact hu g2, rfl⟩
                · rw [e]
                  exact .inr ⟨fun g => by
                      obtain ⟨m', hm', g1, g3, g2⟩ := (g hj).1
                      rw [hx] at g1
                      exact hr ⟨by omega, by omega⟩, rfl⟩
            · rw [e]
              exact bF fun g => hA g.2.2
          · rw [if_pos (by simp only [Bool.or_eq_true, bne_iff_ne, decide_eq_true_eq, ne_eq]; omega)]
            exact bF fun g => hc ⟨g.1.2.2.2.1, g.1.2.2.2.2.1⟩
        · rw [e]
          exact bF fun g => hS g.2.1
      · rw [e]
        exact bF fun g => hm g.1.2.2.1
    · rw [if_pos (by simp only [bne_iff_ne, ne_eq]; omega)]
      exact bF fun g => hk g.1.2.1
  · rw [e]
    exact bF fun g => hF g.1.1
theorem Dt {l : List Int} (hl : l.length ≤ 1048576) (x : Int) : Dec (dW l x) (x ∈ l) := by
  unfold dW fQ
  refine (pO (Lp := cH l x) (n := l.length) (Q := fun j => ∀ h : j < l.length, x = l[j]) (fun k j hj => ?_) (fun k j hj => ?_) (by omega)).of_iff ⟨fun ⟨j, hj, g⟩ => by rw [g hj]; exact List.getElem_mem hj, fun hx => ?_⟩
  · show (if _ then _ else _) = _
    rw [if_neg (by simp; omega)]
  · rw [cH, if_pos (by simp; omega), bf hj, aD (by omega)]
    simp only [bS]
    by_cases h : x = l[j]
    · rw [if_pos (by simpa using h)]; exact .inl ⟨fun _ => h, rfl⟩
    · rw [if_neg (by simpa using h)]; exact .inr ⟨fun g => h (g hj), rfl⟩
  · obtain ⟨j, hj, rfl⟩ := List.getElem_of_mem hx
    exact ⟨j, hj, fun _ => rfl⟩
theorem Hp {l : List Int} (hl : l.length ≤ 1048576) (x : Int) : Dec (mE l x) (x ∈ l) := by
  unfold mE
  have h := tM (Lp := fun k j => cU l x k (j : Int)) (n := l.length) (Q := fun j => ∀ h : j < l.length, l[j] ≠ x) (fin := some false) (bad := some true) (fun k _ => by
    show cU l x (k + 1) _ = _
    rw [cU, if_neg (by simp)]) (fun k j hj _ => by
    show (_ ∧ cU l x (k + 1) _ = cU l x k _) ∨ (_ ∧ cU l x (k + 1) _ = _)
    rw [cU, if_pos (by simp; omega), bf hj, aD (by omega)]
    simp only [bS]
    by_cases h : l[j] = x
    · rw [if_pos (by simpa using h)]; exact .inr ⟨fun g => g hj h, rfl⟩
    · rw [if_neg (by simpa using h)]; exact .inl ⟨fun _ => h, rfl⟩) (by omega)
  rcases h with ⟨h1, h2⟩ | ⟨h1, h2⟩
  · have h2 : cU l x aK 0 = some false := h2
    rw [h2]
    exact bF fun hx => by
      obtain ⟨j, hj, e⟩ := List.getElem_of_mem hx
      exact h1 j hj hj e
  · have h2 : cU l x aK 0 = some true := h2
    rw [h2]
    refine lC (Classical.byContradiction fun hx => h1 fun j hj _ e => hx ?_)
    rw [← e]; exact List.getElem_mem hj
theorem Ji {s : am} {t : ap} (hs : cB s) (ht : kR t) : Dec (pM s t) (yl s t) := by
  unfold pM
  have hl := ht.1.1
  rcases (pp (qp hs)).cases with ⟨e, hS⟩ | ⟨e, hS⟩
  · rw [e]
    simp only [Option.bind_some, Bool.not_true, Bool.false_eq_true, if_false]
    rcases (fE (x := (t.b_.length : Int)) (a := 1) (b := 31)).cases with ⟨e, hn⟩ | ⟨e, hn⟩
    · rw [e]
      simp only [Option.bind_some, Bool.not_true, Bool.false_eq_true, if_false]
      rcases (fE (x := t.A_) (a := 0) (b := 99999)).cases with ⟨e, hq⟩ | ⟨e, hq⟩
      · rw [e]
        simp only [Option.bind_some, Bool.not_true, Bool.false_eq_true, if_false]
        refine (qw (Lp := fun k i => dT t s k (i : Int)) (n := t.b_.length) (Q := Iv s t) (F := True) (fun k _ => ?_) (fun k i hi hQ => ?_) (by omega)).of_iff ⟨fun g => ⟨hS, hn, hq, g.1⟩, fun g => ⟨g.2.2.2, trivial⟩⟩
        · show Dec (dT t s (k + 1) _) _
          rw [dT, if_neg (by simp)]
          exact lC trivial
        · show (_ ∧ dT t s (k + 1) _ = dT t s k _) ∨ (_ ∧ dT t s (k + 1) _ = _)
          rw [dT, if_pos (by simp; omega), bf hi, aD (by omega)]
          simp only [bS]
          rcases (Jr hs ht hi).cases with ⟨e, hN⟩ | ⟨e, hN⟩
          · rw [e]
            simp only [Option.bind_some, Bool.not_true, Bool.false_eq_true, if_false]
            by_cases h0 : i = 0
            · rw [if_pos (by simp only [beq_iff_eq]; omega)]
              by_cases hL : t.b_[i].x_ = -1 ∧ t.b_[i].f_ = 0 ∧ t.b_[i].B_ = 0
              · rw [if_neg (by simp only [Bool.or_eq_true, bne_iff_ne, ne_eq]; omega)]
                exact .inl ⟨fun _ => ⟨hN, fun _ => hL, fun g => by omega⟩, rfl⟩
              · rw [if_pos (by simp only [Bool.or_eq_true, bne_iff_ne, ne_eq]; omega)]
                exact .inr ⟨fun g => hL ((g hi).2.1 h0), rfl⟩
            · rw [if_neg (by simp only [beq_iff_eq]; omega), cd (n := (i : Int) - 1) (by omega) (by omega)]
              rcases (fE (x := t.b_[i].x_) (a := 0) (b := (i : Int) - 1)).cases with ⟨e, hr⟩ | ⟨e, hr⟩
              · rw [e]
                simp only [Option.bind_some, Bool.not_true, Bool.false_eq_true, if_false]
                obtain ⟨u, hu⟩ : ∃ u : Nat, t.b_[i].x_ = u := ⟨t.b_[i].x_.toNat, by omega⟩
                have hui : u < i := by omega
                have hul : u < t.b_.length := by omega
                rw [hu, bf hul]
                simp only [bS]
                have hNu := hQ u hui hul
                have hd := hN.1
                have hdu := hNu.1.1
                rw [cd (n := t.b_[i].f_ - 1) (by omega) (by omega)]
                by_cases hlf : t.b_[u].y_ = true
                · rw [if_pos hlf]
                  exact .inr ⟨fun g => by
                    obtain ⟨u', _, hu', h1, h2, _⟩ := (g hi).2.2 (by omega)
                    obtain rfl : u = u' := by omega
                    exact (nomatch h2.symm.trans hlf), rfl⟩
                · rw [if_neg hlf]
                  have hlf' : t.b_[u].y_ = false := by simpa using hlf
                  rcases (Dt (l := t.b_[u].r_) (ht.1.2 _ (List.getElem_mem hul)).2.2.1.1 (i : Int)).cases with ⟨e, hc⟩ | ⟨e, hc⟩
                  · rw [e]
                    simp only [Option.bind_some, Bool.not_true, Bool.false_or]
                    by_cases hd2 : t.b_[u].f_ + 1 = t.b_[i].f_ ∧ t.b_[u].B_ ≤ t.b_[i].B_
                    · rw [if_neg (by simp only [Bool.or_eq_true, bne_iff_ne, decide_eq_true_eq, ne_eq]; omega)]
                      exact .inl ⟨fun _ => ⟨hN, fun g => absurd g h0, fun _ => ⟨u, hui, hul, hu, hlf', hc, hd2.1, hd2.2⟩⟩, rfl⟩
                    · rw [if_pos (by simp only [Bool.or_eq_true, bne_iff_ne, decide_eq_true_eq, ne_eq]; omega)]
                      exact .inr ⟨fun g => by
                        obtain ⟨u', _, hu', h1, h2, h3, h4, h5⟩ := (g hi).2.2 (by omega)
                        obtain rfl : u = u' := by omega
                        exact hd2 ⟨h4, h5⟩, rfl⟩
                  · rw [e]
                    exact .inr ⟨fun g => by
                      obtain ⟨u', _, hu', h1, h2, h3, h4, h5⟩ := (g hi).2.2 (by omega)
                      obtain rfl : u = u' := by omega
                      exact hc h3, rfl⟩
              · rw [e]
                exact .inr ⟨fun g => by
                  obtain ⟨u', _, hu', h1, _⟩ := (g hi).2.2 (by omega)
                  exact hr ⟨by omega, by omega⟩, rfl⟩
          · rw [e]
            exact .inr ⟨fun g => hN (g hi).1, rfl⟩
      · rw [e]
        exact bF fun g => hq g.2.2.1
    · rw [e]
      exact bF fun g => hn g.2.1
  · rw [e]
    exact bF fun g => hS g.1
theorem Jg {s : am} {t : ap} (hs : cB s) (ht : kR t) : Dec (pS s t) (yl s t) := by
  unfold pS
  have hl := ht.1.1
  rcases (pb (qp hs)).cases with ⟨e, hS⟩ | ⟨e, hS⟩
  · rw [e]
    simp only [Option.bind_some, Bool.not_true, Bool.false_eq_true, if_false]
    rcases (iP (x := (t.b_.length : Int)) (a := 1) (b := 31)).cases with ⟨e, hn⟩ | ⟨e, hn⟩
    · rw [e]
      simp only [Option.bind_some, Bool.not_true, Bool.false_eq_true, if_false]
      rcases (iP (x := t.A_) (a := 0) (b := 99999)).cases with ⟨e, hq⟩ | ⟨e, hq⟩
      · rw [e]
        simp only [Option.bind_some, Bool.not_true, Bool.false_eq_true, if_false]
        refine (qw (Lp := fun k i => dU t s k (i : Int)) (n := t.b_.length) (Q := Iv s t) (F := True) (fun k _ => ?_) (fun k i hi hQ => ?_) (by omega)).of_iff ⟨fun g => ⟨hS, hn, hq, g.1⟩, fun g => ⟨g.2.2.2, trivial⟩⟩
        · show Dec (dU t s (k + 1) _) _
          rw [dU, if_neg (by simp)]
          exact lC trivial
        · show (_ ∧ dU t s (k + 1) _ = dU t s k _) ∨ (_ ∧ dU t s (k + 1) _ = _)
          rw [dU, if_pos (by simp; omega), bf hi, aD (by omega)]
          simp only [bS]
          have hnd := ht.1.2 _ (List.getElem_mem hi)
          rcases (iP (x := t.b_[i].f_) (a := 0) (b := 6)).cases with ⟨e, hdp⟩ | ⟨e, hdp⟩
          · rw [e]
            simp only [Option.bind_some, Bool.not_true, Bool.false_eq_true, if_false]
            rcases (iP (x := t.b_[i].B_) (a := 0) (b := t.A_)).cases with ⟨e, hbn⟩ | ⟨e, hbn⟩
            · rw [e]
              simp only [Option.bind_some, Bool.not_true, Bool.false_eq_true, if_false]
              have hself : ∀ b : Bool, t.b_[i].y_ = b → ∀ K : Bool → Option Bool, (DS s t i t.b_[i] ∧ (((if t.b_[i].y_ = true then (km s ({ t.b_[i] with y_ := true })).bind fun c => some (!c) else some false).bind fun d => (if d = true then some true else (if (!t.b_[i].y_) = true then (jH s t (i : Int)).bind fun f => some (!f) else some false).bind fun j => some j).bind K) = K false)) ∨
                  (¬ DS s t i t.b_[i] ∧ (((if t.b_[i].y_ = true then (km s ({ t.b_[i] with y_ := true })).bind fun c => some (!c) else some false).bind fun d => (if d = true then some true else (if (!t.b_[i].y_) = true then (jH s t (i : Int)).bind fun f => some (!f) else some false).bind fun j => some j).bind K) = K true)) := fun b hb K => by
                cases b
                · rw [hb]
                  simp only [Option.bind_some, Bool.not_false, Bool.false_eq_true, if_true, if_false]
                  rcases (HA hs ht hi).cases with ⟨e, h⟩ | ⟨e, h⟩
                  · rw [e]
                    exact .inl ⟨⟨hdp, hbn, h.2.1, h.2.2, fun g => (nomatch hb.symm.trans g), fun _ => h.1⟩, rfl⟩
                  · rw [e]
                    exact .inr ⟨fun g => h ⟨g.2.2.2.2.2 hb, g.2.2.1, g.2.2.2.1⟩, rfl⟩
                · have hE : ({ t.b_[i] with y_ := true } : au) = t.b_[i] := by rw [← hb]
                  rw [hE, hb]
                  simp only [Option.bind_some, Bool.not_true, Bool.false_eq_true, if_true, if_false]
                  rcases (Jb hs hnd).cases with ⟨e, h⟩ | ⟨e, h⟩
                  · rw [e]
                    exact .inl ⟨⟨hdp, hbn, h.2.1, h.2.2, fun _ => h.1, fun g => (nomatch hb.symm.trans g)⟩, rfl⟩
                  · rw [e]
                    exact .inr ⟨fun g => h ⟨g.2.2.2.2.1 hb, g.2.2.1, g.2.2.2.1⟩, rfl⟩
              rcases hself _ rfl _ with ⟨hN, e⟩ | ⟨hN, e⟩
              · rw [e]
                simp only [Bool.false_eq_true, if_false]
                by_cases h0 : i = 0
                · rw [if_pos (by simp only [beq_iff_eq]; omega)]
                  by_cases hL : t.b_[i].x_ = -1 ∧ t.b_[i].f_ = 0 ∧ t.b_[i].B_ = 0
                  · rw [if_neg (by simp only [Bool.or_eq_true, bne_iff_ne, ne_eq]; omega)]
                    exact .inl ⟨fun _ => ⟨hN, fun _ => hL, fun g => by omega⟩, rfl⟩
                  · rw [if_pos (by simp only [Bool.or_eq_true, bne_iff_ne, ne_eq]; omega)]
                    exact .inr ⟨fun g => hL ((g hi).2.1 h0), rfl⟩
                · rw [if_neg (by simp only [beq_iff_eq]; omega), cd (n := (i : Int) - 1) (by omega) (by omega)]
                  rcases (iP (x := t.b_[i].x_) (a := 0) (b := (i : Int) - 1)).cases with ⟨e, hr⟩ | ⟨e, hr⟩
                  · rw [e]
                    simp only [Option.bind_some, Bool.not_true, Bool.false_eq_true, if_false]
                    obtain ⟨u, hu⟩ : ∃ u : Nat, t.b_[i].x_ = u := ⟨t.b_[i].x_.toNat, by omega⟩
                    have hui : u < i := by omega
                    have hul : u < t.b_.length := by omega
                    rw [hu, bf hul]
                    simp only [bS]
                    have hNu := hQ u hui hul
                    have hdu := hNu.1.1
                    rw [cd (n := t.b_[u].f_ + 1) (by omega) (by omega)]
                    by_cases hlf : t.b_[u].y_ = true
                    · rw [if_pos hlf]
                      exact .inr ⟨fun g => by
                        obtain ⟨u', _, hu', h1, h2, _⟩ := (g hi).2.2 (by omega)
                        obtain rfl : u = u' := by omega
                        exact (nomatch h2.symm.trans hlf), rfl⟩
                    · rw [if_neg hlf]
                      have hlf' : t.b_[u].y_ = false := by simpa using hlf
                      rcases (Hp (l := t.b_[u].r_) (ht.1.2 _ (List.getElem_mem hul)).2.2.1.1 (i : Int)).cases with ⟨e, hc⟩ | ⟨e, hc⟩
                      · rw [e]
                        simp only [Option.bind_some, Bool.not_true, Bool.false_or]
                        by_cases hd2 : t.b_[u].f_ + 1 = t.b_[i].f_ ∧ t.b_[u].B_ ≤ t.b_[i].B_
                        · rw [if_neg (by simp only [Bool.or_eq_true, bne_iff_ne, decide_eq_true_eq, ne_eq]; omega)]
                          exact .inl ⟨fun _ => ⟨hN, fun g => absurd g h0, fun _ => ⟨u, hui, hul, hu, hlf', hc, hd2.1, hd2.2⟩⟩, rfl⟩
                        · rw [if_pos (by simp only [Bool.or_eq_true, bne_iff_ne, decide_eq_true_eq, ne_eq]; omega)]
                          exact .inr ⟨fun g => by
                            obtain ⟨u', _, hu', h1, h2, h3, h4, h5⟩ := (g hi).2.2 (by omega)
                            obtain rfl : u = u' := by omega
                            exact hd2 ⟨h4, h5⟩, rfl⟩
                      · rw [e]
                        exact .inr ⟨fun g => by
                          obtain ⟨u', _, hu', h1, h2, h3, h4, h5⟩ := (g hi).2.2 (by omega)
                          obtain rfl : u = u' := by omega
                          exact hc h3, rfl⟩
                  · rw [e]
                    exact .inr ⟨fun g => by
                      obtain ⟨u', _, hu', h1, _⟩ := (g hi).2.2 (by omega)
                      exact hr ⟨by omega, by omega⟩, rfl⟩
              · rw [e]
                exact .inr ⟨fun g => hN (g hi).1, rfl⟩
            · rw [e]
              exact .inr ⟨fun g => hbn (g hi).1.2.1, rfl⟩
          · rw [e]
            exact .inr ⟨fun g => hdp (g hi).1.1, rfl⟩
      · rw [e]
        exact bF fun g => hq g.2.2.1
    · rw [e]
      exact bF fun g => hn g.2.1
  · rw [e]
    exact bF fun g => hS g.1
end Go.Vk
/- A window in words: alike. -/
namespace Go.Vk
theorem Kj {n : Nat} (hn : n ≤ 40) : mz (n : Int) = some ((2 ^ n : Nat) : Int) := by
  unfold mz
  have key : ∀ (d k i : Nat), i + d = n → d < k → fP (n : Int) k ((2 ^ i : Nat) : Int) (i : Int) = some ((2 ^ n : Nat) : Int) := by
    intro d
    induction d with
    | zero =>
      intro k i hd hk
      obtain ⟨k, rfl⟩ : ∃ q, k = q + 1 := ⟨k - 1, by omega⟩
      rw [fP]
      rw [if_neg (by simp; omega), show i = n by omega]
    | succ d ih =>
      intro k i hd hk
      obtain ⟨k, rfl⟩ : ∃ q, k = q + 1 := ⟨k - 1, by omega⟩
      rw [fP]
      have hp : (2 : Nat) ^ i ≤ 2 ^ 40 := Nat.pow_le_pow_right (by omega) (by omega)
      have e : IntKind.i64.wrap (((2 ^ i : Nat) : Int) * 2) = ((2 ^ (i + 1) : Nat) : Int) := by
        rw [Nat.pow_succ]
        generalize (2 : Nat) ^ i = q at hp
        rw [cd (by omega) (by omega)]; omega
      rw [if_pos (decide_eq_true (by omega)), e, aD (by omega)]
      exact ih k (i + 1) (by omega) (by omega)
  exact key n aK 0 (by omega) (fe (by omega))
theorem La : ∀ n : Nat, n < 8 → shl .i64 1 (n : Int) = some ((2 ^ n : Nat) : Int) := by decide
def Mn (p : aA) (i : Nat) : Prop := ∀ h : i < p.o_.length, (1 ≤ p.o_[i].length ∧ p.o_[i].length ≤ 3) ∧ ∀ x ∈ p.o_[i], 0 ≤ x ∧ x ≤ ((2 ^ i : Nat) : Int)
def FL (p : aA) : Prop := p.o_.length ≤ 8 ∧ ∀ i, i < p.o_.length → Mn p i
theorem GX (p : aA) : Dec (kY p) (FL p) := by
  unfold kY FL
  by_cases h8 : p.o_.length ≤ 8
  · rw [if_neg (by simp; omega)]
    rcases tM (Lp := fun k i => cJ p k (i : Int)) (n := p.o_.length) (Q := Mn p) (fin := some true) (bad := some false) (fun k _ => by
      show cJ p (k + 1) _ = _
      rw [cJ, if_neg (by simp)]) (fun k i hi _ => by
      show (_ ∧ cJ p (k + 1) _ = cJ p k _) ∨ (_ ∧ cJ p (k + 1) _ = _)
      rw [cJ, if_pos (by simp; omega), bf hi]
      unfold bn
      simp only [bS]
      by_cases hr : 1 ≤ p.o_[i].length ∧ p.o_[i].length ≤ 3
      · rw [if_neg (by simp; omega), BR (p := p.o_[i]) (P := fun x => 0 ≤ x ∧ x ≤ ((2 ^ i : Nat) : Int)) (fin := cJ p k ((i + 1 : Nat) : Int)) (bad := some false) (fM p i (cJ p k)) (fun k2 => by
          rw [fM, bf hi]
          simp only [bS]
          rw [if_neg (by simp), aD (by omega)]) (fun k2 j hj => by
          rw [fM, bf hi]
          simp only [bS]
          rw [if_pos (by simp; omega), bf hj, Kj (by omega), aD (by omega)]
          unfold bn
          simp only [bS]
          generalize ((2 ^ i : Nat) : Int) = q
          by_cases hx : 0 ≤ p.o_[i][j] ∧ p.o_[i][j] ≤ q
          · rw [if_pos hx, if_neg (by simp; omega)]
          · rw [if_neg hx, if_pos (by simp; omega)]) (by omega)]
        by_cases hx : ∀ x ∈ p.o_[i], 0 ≤ x ∧ x ≤ ((2 ^ i : Nat) : Int)
        · rw [if_pos hx]; exact .inl ⟨fun _ => ⟨hr, hx⟩, rfl⟩
        · rw [if_neg hx]; exact .inr ⟨fun g => hx (g hi).2, rfl⟩
      · rw [if_pos (by simp; omega)]
        exact .inr ⟨fun g => hr (g hi).1, rfl⟩) (by omega) with ⟨h1, h2⟩ | ⟨h1, h2⟩
    · exact ⟨true, h2, by simp; exact ⟨h8, h1⟩⟩
    · exact ⟨false, h2, by simp only [Bool.false_eq_true, false_iff]; exact fun g => h1 g.2⟩
  · rw [if_pos (by simp; omega)]
    exact ⟨false, rfl, by simp; omega⟩
theorem LV {r : List Int} (hl : r.length ≤ 1048576) {i : Nat} (hi : i < 8) : Dec (bX r i) (∃ x ∈ r, ¬ (0 ≤ x ∧ x ≤ ((2 ^ i : Nat) : Int))) := by
  unfold bX cC
  refine (pO (Lp := bq r i) (n := r.length) (Q := fun j => ∀ hj : j < r.length, ¬ (0 ≤ r[j] ∧ r[j] ≤ ((2 ^ i : Nat) : Int))) (fun k j hj => by
    show (if _ then _ else _) = _
    rw [if_neg (by simp; omega)]) (fun k j hj => by
    rw [bq]
    rw [if_pos (by simp; omega), bf hj, aD (by omega)]
    unfold mQ aZ
    rw [La i hi]
    simp only [bS]
    by_cases hc : 0 ≤ r[j] ∧ r[j] ≤ ((2 ^ i : Nat) : Int)
    · rw [pq hc]
      exact .inr ⟨fun g => g hj hc, rfl⟩
    · rw [pP hc]
      exact .inl ⟨fun _ => hc, rfl⟩) (by omega)).of_iff ⟨fun ⟨i, hi, h⟩ => ⟨r[i], List.getElem_mem hi, h hi⟩, fun ⟨x, hx, h⟩ => ?_⟩
  obtain ⟨i, hi, rfl⟩ := List.mem_iff_getElem.1 hx
  exact ⟨i, hi, fun _ => h⟩
theorem Hj {p : aA} (_ : rj p) : Dec (kU p) (FL p) := by
  unfold kU FL
  by_cases h8 : p.o_.length ≤ 8
  · rw [if_neg (by simp; omega)]
    rcases tM (Lp := fun k i => dw p k (i : Int)) (n := p.o_.length) (Q := Mn p) (fin := some true) (bad := some false) (fun k _ => by
      show dw p (k + 1) _ = _
      rw [dw, if_neg (by simp)]) (fun k i hi _ => by
      show (_ ∧ dw p (k + 1) _ = dw p k _) ∨ (_ ∧ dw p (k + 1) _ = _)
      rw [dw, if_pos (by simp; omega), bf hi]
      unfold aZ
      simp only [bS]
      by_cases hr : 1 ≤ p.o_[i].length ∧ p.o_[i].length ≤ 3
      · rw [if_neg (by simp; omega)]
        rcases (LV (r := p.o_[i]) (by omega) (i := i) (by omega)).cases with ⟨e, h⟩ | ⟨e, h⟩
        · rw [e]
          exact .inr ⟨fun g => by obtain ⟨x, hx, hq⟩ := h; exact hq ((g hi).2 x hx), rfl⟩
        · rw [e]
          refine .inl ⟨fun _ => ⟨hr, fun x hx => ?_⟩, by simp only [bS]; rw [if_neg (by simp), aD (by omega)]⟩
          exact Decidable.by_contra fun hq => h ⟨x, hx, hq⟩
      · rw [if_pos (by simp; omega)]
        exact .inr ⟨fun g => hr (g hi).1, rfl⟩) (by omega) with ⟨h1, h2⟩ | ⟨h1, h2⟩
    · exact ⟨true, h2, by simp; exact ⟨h8, h1⟩⟩
    · exact ⟨false, h2, by simp only [Bool.false_eq_true, false_iff]; exact fun g => h1 g.2⟩
  · rw [if_pos (by simp; omega)]
    exact ⟨false, rfl, by simp; omega⟩
end Go.Vk
/- Scores: tested alike. -/
namespace Go.Vk
theorem IM {p : List Int} (hb : ∀ x ∈ p, 0 ≤ x ∧ x ≤ 1000000000) (hl : p.length ≤ 1000000000) : kC p = some p.sum := by
  unfold kC
  have := wL (p := p) id (fun k s i => eV p k s i) some (fun k s => by
    show eV p (k + 1) s _ = _
    rw [eV, if_neg (by simp)]) (fun k s i h => by
    show eV p (k + 1) s _ = _
    rw [eV, if_pos (by simp; omega), bf h, aD (by omega)]
    rfl) hb hl
  rwa [List.map_id] at this
def GF (t : List (List Int)) : Prop := ∀ r ∈ t, r.length ≤ 3 ∧ ∀ x ∈ r, 0 ≤ x ∧ x ≤ 9999
theorem BV {r : List Int} (h : r.length ≤ 3 ∧ ∀ x ∈ r, 0 ≤ x ∧ x ≤ 9999) : 0 ≤ r.sum ∧ r.sum ≤ 30000 := by
  have := ph h.2
  omega
theorem EU {t : List (List Int)} (hr : GF t) (hl : t.length ≤ 1000000000) : mN t = some (t.map List.sum).sum := by
  unfold mN
  exact wL (p := t) List.sum (fun k s i => ew t k s i) some (fun k s => by
    show ew t (k + 1) s _ = _
    rw [ew, if_neg (by simp)]) (fun k s i h => by
    show ew t (k + 1) s _ = _
    have hg := hr _ (List.getElem_mem h)
    rw [ew, if_pos (by simp; omega), bf h, aD (by omega)]
    simp only [bS]
    rw [IM (fun x hx => by have := hg.2 x hx; omega) (by omega)]
    rfl) (fun r h => by have := BV (hr r h); omega) hl
def ent (t : List (List Int)) (i j : Nat) : Int := ((t[i]?.getD [])[j]?).getD 0
theorem vV {t : List (List Int)} {i j : Nat} (hi : i < t.length) (hj : j < t[i].length) : ent t i j = t[i][j] := by
  unfold ent
  rw [List.getElem?_eq_getElem hi, Option.getD_some, List.getElem?_eq_getElem hj, Option.getD_some]
theorem Jv {l : List aM} (hl : l.length ≤ 1000000000) (a b : Int) : mK l a b = some (l.count ⟨a, b⟩ : Int) := by
  unfold mK
  have := uV (Lp := fun k i => du l a b k (((l.take i).count ⟨a, b⟩ : Nat) : Int) (i : Int)) (n := l.length) (fin := some (l.count ⟨a, b⟩ : Int)) (fun k => by
    show du l a b (k + 1) _ _ = _
    rw [du, if_neg (by simp), List.take_length]) (fun k i hi => by
    show du l a b (k + 1) _ _ = du l a b k _ _
    have hc : (l.take i).count (⟨a, b⟩ : aM) ≤ i := Nat.le_trans List.count_le_length (by simp; omega)
    rw [du, if_pos (by simp; omega), bf hi, aD (by omega), aD (by omega), List.take_succ_eq_append_getElem hi, List.count_append]
    simp only [bS]
    generalize l[i] = e
    obtain ⟨c, d⟩ := e
    by_cases h1 : c = a
    · by_cases h2 : d = b
      · subst h1; subst h2
        simp
      · have : ¬ ((⟨c, d⟩ : aM) = ⟨a, b⟩) := fun h => h2 (by injection h)
        simp [h1, h2]
    · have : ¬ ((⟨c, d⟩ : aM) = ⟨a, b⟩) := fun h => h1 (by injection h)
      simp [h1]) (by omega)
  simpa using this
def na (t : List (List Int)) : Int := (t.map List.sum).sum
def IL (n : Int) (s : bo) (i : Nat) : Prop := ∀ h : i < s.n_.length, (s.n_[i].length : Int) = n ∧ ∀ j, j < s.n_[i].length → (0 ≤ ent s.n_ i j ∧ ent s.n_ i j ≤ 9999) ∧ (s.l_.count ⟨i, j⟩ : Int) ≤ ent s.n_ i j
def GE (n : Int) (p : aM) : Prop := (0 ≤ p.Q_ ∧ p.Q_ ≤ n - 1) ∧ (0 ≤ p.R_ ∧ p.R_ ≤ n - 1)
def Kl (n : Int) (s : bo) : Prop := na s.n_ ≤ 9999 ∧ (s.l_.length : Int) = (if 20 < na s.n_ then 20 else na s.n_) ∧ ∀ p ∈ s.l_, GE n p
def AI (n : Int) (s : bo) : Prop := (2 ≤ n ∧ n ≤ 3) ∧ (s.n_.length : Int) = n ∧ (∀ i, i < s.n_.length → IL n s i) ∧ Kl n s
theorem CM {n : Int} {s : bo} {i : Nat} (hi : i < s.n_.length) (h : IL n s i) (hn : n ≤ 3) : s.n_[i].length ≤ 3 ∧ ∀ x ∈ s.n_[i], 0 ≤ x ∧ x ≤ 9999 := by
  obtain ⟨h1, h2⟩ := h hi
  refine ⟨by omega, fun x hx => ?_⟩
  obtain ⟨j, hj, rfl⟩ := List.mem_iff_getElem.1 hx
  have := (h2 j hj).1
  rw [vV hi hj] at this
  exact this
theorem GV {n : Int} {s : bo} {k : Nat} (h : ∀ i, i < k → IL n s i) (hk : k ≤ s.n_.length) (hn : n ≤ 3) : GF (s.n_.take k) := by
  intro r hr
  obtain ⟨i, hi, rfl⟩ := List.mem_iff_getElem.1 hr
  rw [List.getElem_take]
  rw [List.length_take] at hi
  exact CM (by omega) (h i (by omega)) hn
theorem AR {t : List (List Int)} (h : GF t) : 0 ≤ na t ∧ na t ≤ 30000 * t.length := by
  have := ph (p := t.map List.sum) (b := 30000) (fun x hx => by
    obtain ⟨r, hr, rfl⟩ := List.mem_map.1 hx
    exact BV (h r hr))
  simpa [na] using this
theorem Ib {t : List (List Int)} {i : Nat} (h : i < t.length) : na (t.take (i + 1)) = na (t.take i) + t[i].sum := by
  unfold na
  rw [List.take_succ_eq_append_getElem h, List.map_append, List.sum_append]
  simp
theorem Iu {n : Int} {s : bo} (hn : 2 ≤ n ∧ n ≤ 3) (hl : s.l_.length ≤ 1048576) : Dec (dq s n aK 0) (∀ p ∈ s.l_, GE n p) := by
  refine (qw (Lp := fun k i => dq s n k (i : Int)) (n := s.l_.length) (Q := fun i => ∀ h : i < s.l_.length, GE n s.l_[i]) (F := True) (fun k _ => ?_) (fun k i hi _ => ?_) (by omega)).of_iff ⟨fun h p hp => ?_, fun h => ⟨fun i hi _ => h _ (List.getElem_mem hi), trivial⟩⟩
  · show Dec (dq s n (k + 1) _) _
    rw [dq, if_neg (by simp)]
    exact lC trivial
  · show (_ ∧ dq s n (k + 1) _ = dq s n k _) ∨ (_ ∧ dq s n (k + 1) _ = _)
    rw [dq, if_pos (by simp; omega), bf hi, aD (by omega), cd (n := n - 1) (by omega) (by omega)]
    unfold bn
    simp only [bS]
    by_cases h1 : 0 ≤ s.l_[i].Q_ ∧ s.l_[i].Q_ ≤ n - 1
    · rw [pq h1]
      simp only [Bool.not_true, Bool.false_eq_true, if_false, Option.bind_some]
      by_cases h2 : 0 ≤ s.l_[i].R_ ∧ s.l_[i].R_ ≤ n - 1
      · rw [pq h2]
        exact .inl ⟨fun _ => ⟨h1, h2⟩, rfl⟩
      · rw [pP h2]
        exact .inr ⟨fun g => h2 (g hi).2, rfl⟩
    · rw [pP h1]
      exact .inr ⟨fun g => h1 (g hi).1, rfl⟩
  · obtain ⟨i, hi, rfl⟩ := List.mem_iff_getElem.1 hp
    exact h.1 i hi hi
theorem HE {n : Int} {s : bo} (hs : sI s) : Dec (oc n s) (AI n s) := by
  have hl := hs.2.1
  unfold oc AI bn
  simp only [bS]
  by_cases hn : 2 ≤ n ∧ n ≤ 3
  · rw [pq hn]
    by_cases hT : (s.n_.length : Int) = n
    · rw [if_neg (by simp [hT])]
      refine Dec.of_iff (P := (∀ i, i < s.n_.length → IL n s i) ∧ Kl n s) ?_ ⟨fun h => ⟨hn, hT, h⟩, fun h => h.2.2⟩
      refine qw (Lp := fun k i => cX n s k (na (s.n_.take i)) (i : Int)) (n := s.n_.length) (Q := IL n s) (F := Kl n s) (fun k hq => ?_) (fun k i hi hq => ?_) (by omega)
      · show Dec (cX n s (k + 1) _ _) _
        rw [cX, if_neg (by simp; omega), List.take_length]
        have hb := AR (GV (k := s.n_.length) hq (Nat.le_refl _) hn.2)
        rw [List.take_length] at hb
        unfold Kl
        by_cases h1 : na s.n_ > 9999
        · rw [if_pos (by simpa using h1)]
          exact bF fun g => by have := g.1; omega
        · rw [if_neg (by simpa using h1)]
          unfold sZ
          have hm : (if decide (na s.n_ < 20) then some (na s.n_) else some 20 : Option Int) = some (if 20 < na s.n_ then 20 else na s.n_) := by
            by_cases c1 : na s.n_ < 20
            · rw [if_pos (by simpa using c1), if_neg (by omega)]
            · rw [if_neg (by simpa using c1)]
              by_cases c2 : 20 < na s.n_
              · rw [if_pos c2]
              · rw [if_neg c2]; congr 1; omega
          rw [hm]
          simp only [bS]
          by_cases h2 : (s.l_.length : Int) = (if 20 < na s.n_ then 20 else na s.n_)
          · rw [if_neg (by simp [h2])]
            exact (Iu hn (by omega)).of_iff ⟨fun g => ⟨by omega, h2, g⟩, fun g => g.2.2⟩
          · rw [if_pos (by simp [h2])]
            exact bF fun g => h2 g.2.1
      · show (_ ∧ cX n s (k + 1) _ _ = cX n s k _ _) ∨ (_ ∧ cX n s (k + 1) _ _ = _)
        have hb := AR (GV (k := i) hq (by omega) hn.2)
        rw [List.length_take] at hb
        rw [cX, if_pos (by simp; omega), bf hi]
        simp only [bS]
        by_cases hr : (s.n_[i].length : Int) = n
        · rw [if_neg (by simp [hr])]
          have hin := tM (Lp := fun k2 j => dO n s i (cX n s k) k2 (na (s.n_.take i) + (s.n_[i].take j).sum) (j : Int)) (n := s.n_[i].length)
            (Q := fun j => (0 ≤ ent s.n_ i j ∧ ent s.n_ i j ≤ 9999) ∧ (s.l_.count ⟨i, j⟩ : Int) ≤ ent s.n_ i j) (fin := cX n s k (na (s.n_.take (i + 1))) ((i + 1 : Nat) : Int)) (bad := some false) (fun k2 _ => by
              show dO n s i _ (k2 + 1) _ _ = _
              rw [dO, if_neg (by simp; omega), List.take_length, Ib hi, aD (by omega)]) (fun k2 j hj hqj => by
              show (_ ∧ dO n s i _ (k2 + 1) _ _ = dO n s i _ k2 _ _) ∨ (_ ∧ dO n s i _ (k2 + 1) _ _ = _)
              have hpre := ph (p := s.n_[i].take j) (b := 9999) (fun x hx => by
                obtain ⟨q, hq2, rfl⟩ := List.mem_iff_getElem.1 hx
                rw [List.length_take] at hq2
                have := (hqj q (by omega)).1
                rw [vV hi (by omega)] at this
                rw [List.getElem_take]; exact this)
              rw [List.length_take] at hpre
              rw [vV hi hj]
              rw [dO, if_pos (by simp; omega), bf hi]
              simp only [bS]
              rw [bf hj, aD (by omega), wA hj]
              unfold bn
              simp only [bS]
              by_cases h1 : 0 ≤ s.n_[i][j] ∧ s.n_[i][j] ≤ 9999
              · rw [pq h1]
                simp only [Bool.not_true, Bool.false_eq_true, if_false]
                rw [Jv (by omega)]
                simp only [bS]
                by_cases h2 : (s.l_.count ⟨i, j⟩ : Int) ≤ s.n_[i][j]
                · rw [if_neg (by simp; omega), cd (by omega) (by omega), Int.add_assoc]
                  exact .inl ⟨⟨h1, h2⟩, rfl⟩
                · rw [if_pos (by simp; omega)]
                  exact .inr ⟨fun g => h2 g.2, rfl⟩
              · rw [pP h1]
                exact .inr ⟨fun g => h1 g.1, rfl⟩) (by omega)
          simp only [List.take_zero, List.sum_nil, Int.add_zero] at hin
          rcases hin with ⟨g1, g2⟩ | ⟨g1, g2⟩
          · exact .inl ⟨fun _ => ⟨hr, g1⟩, g2⟩
          · exact .inr ⟨fun g => g1 (g hi).2, g2⟩
        · rw [if_pos (by simp [hr])]
          exact .inr ⟨fun g => hr (g hi).1, rfl⟩
    · rw [if_pos (by simp [hT])]
      exact bF fun g => hT g.2.1
  · rw [pP hn]
    exact bF fun g => hn g.1
end Go.Vk
/- Scores: tested alike by the program. -/
namespace Go.Vk
def cm (l : List aM) : List (aM × Int) := l.foldl (fun m p => vy m p (IntKind.i64.wrap (gr m p + 1))) []
theorem KE (l : List aM) : ∀ m : List (aM × Int), (∀ q, 0 ≤ gr m q ∧ gr m q + l.length ≤ 1000000000) → ∀ q, gr (l.foldl (fun m p => vy m p (IntKind.i64.wrap (gr m p + 1))) m) q = gr m q + l.count q := by
  induction l with
  | nil => intro m _ q; simp
  | cons p l ih =>
    intro m hm q
    rw [List.foldl_cons]
    have hp := hm p
    simp only [List.length_cons] at hm hp
    have hw : IntKind.i64.wrap (gr m p + 1) = gr m p + 1 := cd (by omega) (by omega)
    rw [ih _ (fun q => by
      rw [EQ, hw]
      have := hm q
      split <;> omega) q, EQ, hw, List.count_cons]
    by_cases h : q = p
    · subst h
      simp
      omega
    · have : ¬ (p = q) := fun e => h e.symm
      simp [h, this]
theorem MN {l : List aM} (hl : l.length ≤ 1000000000) (q : aM) : gr (cm l) q = (l.count q : Int) := by
  unfold cm
  rw [KE l [] (fun q => by simp [gr]; omega) q]
  simp [gr]
theorem GD {l : List aM} {i : Nat} (h : i < l.length) : cm (l.take (i + 1)) = vy (cm (l.take i)) l[i] (IntKind.i64.wrap (gr (cm (l.take i)) l[i] + 1)) := by
  unfold cm
  rw [List.take_succ_eq_append_getElem h, List.foldl_append]
  rfl
theorem Ed {r : List Int} (hl : r.length ≤ 1048576) : Dec (bY r) (∃ x ∈ r, ¬ (0 ≤ x ∧ x ≤ 9999)) := by
  unfold bY cF
  refine (pO (Lp := bw r) (n := r.length) (Q := fun j => ∀ hj : j < r.length, ¬ (0 ≤ r[j] ∧ r[j] ≤ 9999)) (fun k j hj => by
    show (if _ then _ else _) = _
    rw [if_neg (by simp; omega)]) (fun k j hj => by
    rw [bw]
    rw [if_pos (by simp; omega), bf hj, aD (by omega)]
    unfold ox aZ
    simp only [bS]
    by_cases hc : 0 ≤ r[j] ∧ r[j] ≤ 9999
    · rw [pq hc]
      exact .inr ⟨fun g => g hj hc, rfl⟩
    · rw [pP hc]
      exact .inl ⟨fun _ => hc, rfl⟩) (by omega)).of_iff ⟨fun ⟨i, hi, h⟩ => ⟨r[i], List.getElem_mem hi, h hi⟩, fun ⟨x, hx, h⟩ => ?_⟩
  obtain ⟨i, hi, rfl⟩ := List.mem_iff_getElem.1 hx
  exact ⟨i, hi, fun _ => h⟩
def Lg (n : Int) (s : bo) (i : Nat) : Prop := ∀ h : i < s.n_.length, (s.n_[i].length : Int) = n ∧ ∀ x ∈ s.n_[i], 0 ≤ x ∧ x ≤ 9999
def He (n : Int) (s : bo) (i : Nat) : Prop := ∀ h : i < s.l_.length, GE n s.l_[i] ∧ ((s.l_.take (i + 1)).count s.l_[i] : Int) ≤ ent s.n_ s.l_[i].Q_.toNat s.l_[i].R_.toNat
theorem Fw {n : Int} {s : bo} : AI n s ↔ ((2 ≤ n ∧ n ≤ 3) ∧ (s.n_.length : Int) = n ∧ (∀ i, i < s.n_.length → Lg n s i) ∧ na s.n_ ≤ 9999 ∧ (s.l_.length : Int) = (if 20 < na s.n_ then 20 else na s.n_) ∧ ∀ i, i < s.l_.length → He n s i) := by
  constructor
  · rintro ⟨hn, hT, hR, h1, h2, h3⟩
    refine ⟨hn, hT, fun i hi h => ⟨(hR i hi h).1, (CM h (hR i hi) hn.2).2⟩, h1, h2, fun i hi h => ⟨h3 _ (List.getElem_mem h), ?_⟩⟩
    have hp := h3 _ (List.getElem_mem h)
    have ht : s.l_[i].Q_.toNat < s.n_.length := by have := hp.1; omega
    obtain ⟨hr, hc⟩ := hR _ ht ht
    have hsd : s.l_[i].R_.toNat < s.n_[s.l_[i].Q_.toNat].length := by have := hp.2; omega
    have hcc := (hc _ hsd).2
    have he : (⟨(s.l_[i].Q_.toNat : Int), (s.l_[i].R_.toNat : Int)⟩ : aM) = s.l_[i] := by
      rw [Int.toNat_of_nonneg hp.1.1, Int.toNat_of_nonneg hp.2.1]
    rw [he] at hcc
    have hle : (s.l_.take (i + 1)).count s.l_[i] ≤ s.l_.count s.l_[i] := (List.take_sublist _ _).count_le _
    omega
  · rintro ⟨hn, hT, hR, h1, h2, h3⟩
    refine ⟨hn, hT, fun i hi h => ⟨(hR i hi h).1, fun j hj => ?_⟩, h1, h2, fun p hp => ?_⟩
    · have hr := (hR i hi h).2 _ (List.getElem_mem hj)
      rw [vV h hj]
      refine ⟨hr, ?_⟩
      by_cases hm : (⟨(i : Int), (j : Int)⟩ : aM) ∈ s.l_
      · obtain ⟨q, hq, e1, e2⟩ := Fv hm
        obtain ⟨_, hc⟩ := h3 q hq hq
        rw [e1, e2] at hc
        have : ent s.n_ (Int.toNat i) (Int.toNat j) = s.n_[i][j] := by
          rw [Int.toNat_natCast, Int.toNat_natCast, vV h hj]
        simp only at hc
        omega
      · rw [List.count_eq_zero.2 hm]
        omega
    · obtain ⟨i, hi, rfl⟩ := List.mem_iff_getElem.1 hp
      exact (h3 i hi hi).1
theorem JR {n : Int} {s : bo} (hn : 2 ≤ n ∧ n ≤ 3) (hl : s.l_.length ≤ 1048576) (hT : (s.n_.length : Int) = n) (hR : ∀ i, i < s.n_.length → Lg n s i) : Dec (dt s n aK 0 []) (∀ i, i < s.l_.length → He n s i) := by
  refine (qw (Lp := fun k i => dt s n k (i : Int) (cm (s.l_.take i))) (n := s.l_.length) (Q := He n s) (F := True) (fun k _ => ?_) (fun k i hi _ => ?_) (by omega)).of_iff ⟨fun h => h.1, fun h => ⟨h, trivial⟩⟩
  · show Dec (dt s n (k + 1) _ _) _
    rw [dt, if_neg (by simp)]
    exact lC trivial
  · show (_ ∧ dt s n (k + 1) _ _ = dt s n k _ _) ∨ (_ ∧ dt s n (k + 1) _ _ = _)
    have hct := MN (l := s.l_.take (i + 1)) (by simp; omega) s.l_[i]
    rw [dt, if_pos (by simp; omega), bf hi, aD (by omega), cd (n := n - 1) (by omega) (by omega), GD hi]
    rw [GD hi] at hct
    unfold aZ
    simp only [bS]
    by_cases h1 : 0 ≤ s.l_[i].Q_ ∧ s.l_[i].Q_ ≤ n - 1
    · rw [pq h1]
      simp only [Bool.not_true, Bool.false_eq_true, if_false, Option.bind_some]
      by_cases h2 : 0 ≤ s.l_[i].R_ ∧ s.l_[i].R_ ≤ n - 1
      · rw [pq h2]
        simp only [Bool.not_true, Bool.false_eq_true, if_false]
        have ht : s.l_[i].Q_.toNat < s.n_.length := by omega
        have hsd : s.l_[i].R_.toNat < s.n_[s.l_[i].Q_.toNat].length := by have := (hR _ ht ht).1; omega
        have e1 : idx s.n_ s.l_[i].Q_ = some s.n_[s.l_[i].Q_.toNat] := by
          have := bf ht
          rwa [Int.toNat_of_nonneg h1.1] at this
        have e2 : idx s.n_[s.l_[i].Q_.toNat] s.l_[i].R_ = some s.n_[s.l_[i].Q_.toNat][s.l_[i].R_.toNat] := by
          have := bf hsd
          rwa [Int.toNat_of_nonneg h2.1] at this
        rw [e1]
        simp only [bS]
        rw [e2]
        simp only [bS]
        rw [hct]
        by_cases h3 : ((s.l_.take (i + 1)).count s.l_[i] : Int) ≤ s.n_[s.l_[i].Q_.toNat][s.l_[i].R_.toNat]
        · rw [if_neg (by simp; omega)]
          exact .inl ⟨fun _ => ⟨⟨h1, h2⟩, by rw [vV ht hsd]; exact h3⟩, rfl⟩
        · rw [if_pos (by simp; omega)]
          exact .inr ⟨fun g => h3 (by have := (g hi).2; rwa [vV ht hsd] at this), rfl⟩
      · rw [pP h2]
        exact .inr ⟨fun g => h2 (g hi).1.2, rfl⟩
    · rw [pP h1]
      exact .inr ⟨fun g => h1 (g hi).1.1, rfl⟩
theorem HT {n : Int} {s : bo} (hs : sI s) : Dec (om n s) (AI n s) := by
  have hl := hs.2.1
  refine Dec.of_iff ?_ Fw.symm
  unfold om aZ
  simp only [bS]
  by_cases hn : 2 ≤ n ∧ n ≤ 3
  · rw [pq hn]
    by_cases hT : (s.n_.length : Int) = n
    · rw [if_neg (by simp [hT])]
      refine Dec.of_iff (P := (∀ i, i < s.n_.length → Lg n s i) ∧ na s.n_ ≤ 9999 ∧ (s.l_.length : Int) = (if 20 < na s.n_ then 20 else na s.n_) ∧ ∀ i, i < s.l_.length → He n s i) ?_ ⟨fun h => ⟨hn, hT, h⟩, fun h => h.2.2⟩
      refine qw (Lp := fun k i => dP s n k (i : Int)) (n := s.n_.length) (Q := Lg n s) (fun k hq => ?_) (fun k i hi hq => ?_) (by omega)
      · show Dec (dP s n (k + 1) _) _
        have hrows : GF s.n_ := fun r hr => by
          obtain ⟨i, hi, rfl⟩ := List.mem_iff_getElem.1 hr
          obtain ⟨g1, g2⟩ := hq i hi hi
          exact ⟨by omega, g2⟩
        rw [dP, if_neg (by simp), EU hrows (by omega)]
        simp only [bS]
        show Dec (if (decide (na s.n_ > 9999) || _) then _ else _) _
        by_cases h1 : na s.n_ > 9999
        · rw [if_pos (by simp [h1])]
          exact bF fun g => by have := g.1; omega
        · by_cases h2 : (s.l_.length : Int) = (if 20 < na s.n_ then 20 else na s.n_)
          · rw [if_neg (by simp only [h1, decide_false, Bool.false_or, bne_iff_ne, ne_eq, Decidable.not_not]; exact h2)]
            exact (JR hn (by omega) hT hq).of_iff ⟨fun g => ⟨by omega, h2, g⟩, fun g => g.2.2⟩
          · rw [if_pos (by simp only [h1, decide_false, Bool.false_or, bne_iff_ne, ne_eq]; exact h2)]
            exact bF fun g => h2 g.2.1
      · show (_ ∧ dP s n (k + 1) _ = dP s n k _) ∨ (_ ∧ dP s n (k + 1) _ = _)
        rw [dP, if_pos (by simp; omega), bf hi, aD (by omega)]
        simp only [bS]
        by_cases hr : (s.n_[i].length : Int) = n
        · rw [if_neg (by simp [hr])]
          rcases (Ed (r := s.n_[i]) (by omega)).cases with ⟨e, x, hx, hc⟩ | ⟨e, hc⟩
          · rw [e]
            exact .inr ⟨fun g => hc ((g hi).2 x hx), rfl⟩
          · rw [e]
            exact .inl ⟨fun _ => ⟨hr, fun x hx => Classical.byContradiction fun c => hc ⟨x, hx, c⟩⟩, rfl⟩
        · rw [if_pos (by simp [hr])]
          exact .inr ⟨fun g => hr (g hi).1, rfl⟩
    · rw [if_pos (by simp [hT])]
      exact bF fun g => hT g.2.1
  · rw [pP hn]
    exact bF fun g => hn g.1
end Go.Vk
