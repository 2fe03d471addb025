/- WayOk answers alike. -/
import Derived.Test.YtdckhcfbccnjiaaGreatDoorRX
import Derived.Test.YtdckhcfbccnjiaaGreatDoorVkQ
import Derived.Lib.ItoaLen
import Derived.Test.YtdckhcfbccnjiaaGreatDoorPMe
namespace Go.Vk
theorem qE {x : bc} (hx : OkM x) : ∃ F : Nat, F ≤ 31 ∧ fP x = some (F : Int) ∧ gC x = some (F : Int) := by
  unfold fP gC
  rcases (pl hx).cases with ⟨e, h⟩ | ⟨e, h⟩
  · rcases (qr hx).cases with ⟨e2, _⟩ | ⟨_, g⟩
    · obtain ⟨n, b1, b2, b3, b4⟩ := qL hx h
      rw [e, e2]
      simp only [Option.bind_some, Bool.not_true, Bool.false_eq_true, if_false]
      rw [b1, b2]
      simp only [bS]
      rw [rz (by omega)]
      have hn : n = 2 ∨ n = 3 ∨ n = 4 := by omega
      rcases hn with rfl | rfl | rfl
      · exact ⟨19, by omega, by decide, by decide⟩
      · exact ⟨23, by omega, by decide, by decide⟩
      · exact ⟨31, by omega, by decide, by decide⟩
    · exact absurd h g
  · rcases (qr hx).cases with ⟨_, g⟩ | ⟨e2, _⟩
    · exact absurd g h
    · rw [e, e2]; exact ⟨0, by omega, rfl, rfl⟩
def CR (l : List Int) : Prop := ∀ e ∈ l, -9223372036854775808 ≤ e ∧ e ≤ 9223372036854775807
def yg (s : ab) (m : List Int) : Prop := ∀ i, 0 ≤ i → i < m.length → ∃ F : Int, ∃ h : i < s.b_.length, fP s.b_[i] = some F ∧ ∀ hm : i < m.length, 0 ≤ m[i] ∧ bi .and .i64 m[i] F = m[i]
def za (s : ab) (w : bf) : Prop := dv s ∧ (0 ≤ w.q_ ∧ w.q_ ≤ 30) ∧ w.y_.length = s.b_.length ∧ yg s w.y_
theorem zh {s : ab} {w : bf} (hs : OkS s) (hl : w.y_.length = s.b_.length) : Dec (lq w s be 0) (yg s w.y_) := by
  refine kv (Lp := lq w s) (n := w.y_.length) (Q := fun i => ∃ F : Int, ∃ h : i < s.b_.length, fP s.b_[i] = some F ∧ ∀ hm : i < w.y_.length, 0 ≤ w.y_[i] ∧ bi .and .i64 w.y_[i] F = w.y_[i]) 0 (fun k i hi => ?_) (fun k i _ hi => ?_) (by have := hs.1; omega)
  · show (if _ then _ else _) = _
    rw [if_neg (by simp; omega)]
  · have ha : i < s.b_.length := by omega
    obtain ⟨F, hF, e1, _⟩ := qE (hs.2.1 _ (List.getElem_mem ha))
    rw [lq]
    rw [if_pos (by simp; omega), aV hi, aV ha, aG (by have := hs.1; omega)]
    simp only [bS]
    rw [e1]
    simp only [bS]
    by_cases h0 : w.y_[i] < 0
    · rw [if_pos (by simpa using h0)]
      exact .inr ⟨fun ⟨G, _, _, g⟩ => by have := (g hi).1; omega, rfl⟩
    · rw [if_neg (by simpa using h0)]
      simp only [bS]
      by_cases h1 : bi .and .i64 w.y_[i] F = w.y_[i]
      · rw [if_neg (by simp [h1])]
        exact .inl ⟨⟨F, ha, e1, fun _ => ⟨by omega, h1⟩⟩, rfl⟩
      · rw [if_pos (by simp [h1])]
        exact .inr ⟨fun ⟨G, _, g1, g⟩ => h1 (by rw [e1] at g1; obtain rfl := Option.some.inj g1; exact (g hi).2), rfl⟩
theorem zS {s : ab} {w : bf} (hs : OkS s) (hw : CR w.y_) (hl : w.y_.length = s.b_.length) : Dec (ix w s be 0) (yg s w.y_) := by
  refine kv (Lp := ix w s) (n := w.y_.length) (Q := fun i => ∃ F : Int, ∃ h : i < s.b_.length, fP s.b_[i] = some F ∧ ∀ hm : i < w.y_.length, 0 ≤ w.y_[i] ∧ bi .and .i64 w.y_[i] F = w.y_[i]) 0 (fun k i hi => ?_) (fun k i _ hi => ?_) (by have := hs.1; omega)
  · show (if _ then _ else _) = _
    rw [if_neg (by simp; omega)]
  · have ha : i < s.b_.length := by omega
    obtain ⟨F, hF, e1, e2⟩ := qE (hs.2.1 _ (List.getElem_mem ha))
    rw [ix]
    rw [if_pos (by simp; omega), aV hi, aV ha, aG (by have := hs.1; omega)]
    simp only [bS]
    rw [e2]
    simp only [bS]
    have hm := zd (F := F) (hw _ (List.getElem_mem hi)) hF
    by_cases h1 : bi .andNot .i64 w.y_[i] F = 0
    · rw [if_neg (by simp [h1])]
      exact .inl ⟨⟨F, ha, e1, fun _ => hm.1 h1⟩, rfl⟩
    · rw [if_pos (by simp [h1])]
      exact .inr ⟨fun ⟨G, _, g1, g⟩ => h1 (by rw [e1] at g1; obtain rfl := Option.some.inj g1; exact hm.2 (g hi)), rfl⟩
theorem CO {s : ab} {w : bf} (hs : OkS s) : Dec (rg s w) (za s w) := by
  unfold rg za
  rcases (ka hs).cases with ⟨e, h⟩ | ⟨e, h⟩
  · rw [e]
    unfold bm
    simp only [Option.bind_some, Bool.not_true, Bool.false_eq_true, if_false]
    by_cases hl : 0 ≤ w.q_ ∧ w.q_ ≤ 30
    · rw [oO hl]
      simp only [Bool.not_true, Bool.false_or]
      by_cases hn : w.y_.length = s.b_.length
      · rw [if_neg (by simp [hn])]
        exact (zh hs hn).of_iff ⟨fun g => ⟨h, hl, hn, g⟩, fun g => g.2.2.2⟩
      · rw [if_pos (by simp; omega)]
        exact cw fun g => hn g.2.2.1
    · rw [oU hl]
      exact cw fun g => hl g.2.1
  · rw [e]
    exact cw fun g => h g.1
theorem yx {s : ab} {w : bf} (hs : OkS s) (hw : CR w.y_) : Dec (kb s w) (za s w) := by
  unfold kb za
  rcases (lG hs).cases with ⟨e, h⟩ | ⟨e, h⟩
  · rw [e]
    unfold bN
    simp only [Option.bind_some, Bool.not_true, Bool.false_eq_true, if_false]
    by_cases hl : 0 ≤ w.q_ ∧ w.q_ ≤ 30
    · rw [oO hl]
      simp only [Bool.not_true, Bool.false_or]
      by_cases hn : w.y_.length = s.b_.length
      · rw [if_neg (by simp [hn])]
        exact (zS hs hw hn).of_iff ⟨fun g => ⟨h, hl, hn, g⟩, fun g => g.2.2.2⟩
      · rw [if_pos (by simp; omega)]
        exact cw fun g => hn g.2.2.1
    · rw [oU hl]
      exact cw fun g => hl g.2.1
  · rw [e]
    exact cw fun g => h g.1
end Go.Vk
/- Numbers in decimal, texts joined: alike. -/
namespace Go.Vk
open Go.Proofs
def I64 (x : Int) : Prop := -9223372036854775808 ≤ x ∧ x ≤ 9223372036854775807
theorem wK {d : Nat} (h : d < 10) : wC ([IntKind.u8.wrap (IntKind.i64.wrap (48 + (d : Int)))] : List Int) = [UInt8.ofNat (48 + d)] := by
  rw [bp (by omega) (by omega), IntWalk.u8_in _ (by omega)]
  have : ((48 : Int) + (d : Int)).toNat = 48 + d := by omega
  simp [wC, this]
theorem xl {u : Nat} (hu : 0 < u) (s : List UInt8) : (if u / 10 = 0 then UInt8.ofNat (48 + u % 10) :: s else Lib.decDigits (u / 10) ++ (UInt8.ofNat (48 + u % 10) :: s)) = Lib.decDigits u ++ s := by
  by_cases h : u < 10
  · rw [if_pos (by omega), Lib.decDigits_one h, Nat.mod_eq_of_lt h]; rfl
  · rw [if_neg (by omega), Lib.decDigits.eq_def u, dif_neg h]; simp
def xX (p : Int) (s : List UInt8) : Option (List UInt8) := if p < 0 then some (45 :: s) else some s
theorem tT {p : Int} {k : Nat} {s : List UInt8} (hs : s.length ≤ 1000) : ft p (k + 1) 0 s = xX p s := by
  rw [ft, if_neg (by simp)]
  unfold xX qP
  by_cases h : p < 0
  · rw [if_pos (by simpa using h), if_pos h, if_pos (by simp; omega)]; rfl
  · rw [if_neg (by simpa using h), if_neg h]
theorem Dd (p : Int) : ∀ (d u k : Nat) (s : List UInt8), u < 10 ^ d → u ≤ 9223372036854775808 → d < k → s.length + d ≤ 1000 → ft p k (u : Int) s = xX p (if u = 0 then s else Lib.decDigits u ++ s) := by
  intro d
  induction d with
  | zero =>
    intro u k s hu _ hk hs
    obtain ⟨k, rfl⟩ : ∃ q, k = q + 1 := ⟨k - 1, by omega⟩
    have : u = 0 := by simpa using hu
    subst this
    rw [if_pos rfl]
    exact tT (by omega)
  | succ d ih =>
    intro u k s hu hb hk hs
    obtain ⟨k, rfl⟩ : ∃ q, k = q + 1 := ⟨k - 1, by omega⟩
    by_cases h0 : u = 0
    · subst h0
      rw [if_pos rfl]
      exact tT (by omega)
    · have hr := um u 10
      have hd := uq u 10
      simp only [Int.cast_ofNat_Int] at hr hd
      rw [ft, if_pos (by simp; omega), if_neg (by rw [hr]; simp; omega), hr]
      unfold kK
      rw [wK (Nat.mod_lt _ (by omega)), hd, bp (by omega) (by omega)]
      unfold qP
      rw [if_pos (by simp; omega)]
      simp only [Option.bind_some, List.cons_append, List.nil_append]
      rw [ih (u / 10) k _ (by rw [Nat.pow_succ] at hu; omega) (by omega) (by omega) (by simp; omega), if_neg h0, xl (by omega)]
theorem CD (p : Int) : ∀ (d u k : Nat) (s : List UInt8), u < 10 ^ d → u ≤ 9223372036854775808 → d < k → s.length + d ≤ 1000 → ft p k (-(u : Int)) s = xX p (if u = 0 then s else Lib.decDigits u ++ s) := by
  intro d
  induction d with
  | zero =>
    intro u k s hu _ hk hs
    obtain ⟨k, rfl⟩ : ∃ q, k = q + 1 := ⟨k - 1, by omega⟩
    have : u = 0 := by simpa using hu
    subst this
    rw [if_pos rfl]
    exact tT (by omega)
  | succ d ih =>
    intro u k s hu hb hk hs
    obtain ⟨k, rfl⟩ : ∃ q, k = q + 1 := ⟨k - 1, by omega⟩
    by_cases h0 : u = 0
    · subst h0
      rw [if_pos rfl]
      exact tT (by omega)
    · have hr := um u 10
      have hd := uq u 10
      simp only [Int.cast_ofNat_Int] at hr hd
      have hr' : Int.tmod (-(u : Int)) 10 = -((u % 10 : Nat) : Int) := by rw [Int.neg_tmod, hr]
      have hd' : Int.tdiv (-(u : Int)) 10 = -((u / 10 : Nat) : Int) := by rw [Int.neg_tdiv, hd]
      have hj : kK s (ft p k) (-(u : Int)) ((u % 10 : Nat) : Int) = xX p (Lib.decDigits u ++ s) := by
        unfold kK
        rw [wK (Nat.mod_lt _ (by omega)), hd', bp (by omega) (by omega)]
        unfold qP
        rw [if_pos (by simp; omega)]
        simp only [Option.bind_some, List.cons_append, List.nil_append]
        rw [ih (u / 10) k _ (by rw [Nat.pow_succ] at hu; omega) (by omega) (by omega) (by simp; omega), xl (by omega)]
      rw [ft, if_pos (by simp; omega), hr', if_neg h0]
      by_cases hz : u % 10 = 0
      · rw [if_neg (by rw [hz]; simp), hz]
        rw [hz] at hj
        exact hj
      · rw [if_pos (by simp; omega), bp (by omega) (by omega), show (0 : Int) - -((u % 10 : Nat) : Int) = ((u % 10 : Nat) : Int) by omega]
        exact hj
theorem uS {n : Int} (h : I64 n) : oD n = some (Lib.itoa n) := by
  obtain ⟨h0, h1⟩ := h
  unfold oD
  by_cases hz : n = 0
  · subst hz
    rw [if_pos (by simp)]
    unfold Lib.itoa
    rw [if_neg (by omega), show (0 : Int).toNat = 0 from rfl, Lib.decDigits_one (by omega)]
    rfl
  · rw [if_neg (by simpa using hz)]
    by_cases hn : n < 0
    · obtain ⟨u, rfl⟩ : ∃ u : Nat, n = -(u : Int) := ⟨n.natAbs, by omega⟩
      rw [CD _ 20 u be [] (by have : (10 : Nat) ^ 20 = 100000000000000000000 := (by decide); omega) (by omega) (dE (by omega)) (by simp), if_neg (by omega)]
      unfold xX Lib.itoa
      rw [if_pos hn, if_pos hn, show (-(u : Int)).natAbs = u by omega, List.append_nil]
    · obtain ⟨u, rfl⟩ : ∃ u : Nat, n = (u : Int) := ⟨n.toNat, by omega⟩
      rw [Dd _ 20 u be [] (by have : (10 : Nat) ^ 20 = 100000000000000000000 := (by decide); omega) (by omega) (dE (by omega)) (by simp), if_neg (by omega)]
      unfold xX Lib.itoa
      rw [if_neg hn, if_neg hn, Int.toNat_natCast, List.append_nil]
theorem uz {n : Int} (h : I64 n) : lU n = some (Lib.itoa n) := by
  unfold lU yz
  rw [if_pos ⟨h.1, h.2⟩]
  rfl
theorem wO {n : Int} (h : I64 n) : (Lib.itoa n).length ≤ 21 := Lib.itoa_length_le n h.1 h.2
theorem qJ {a b : List UInt8} (h : a.length + b.length ≤ 68719476736) : qP a b = some (a ++ b) := if_pos h
theorem zB (xs : List (List UInt8)) (x sep : List UInt8) : Lib.join (xs ++ [x]) sep = if xs = [] then x else Lib.join xs sep ++ sep ++ x := by
  cases xs with
  | nil => simp [Lib.join_one]
  | cons y r =>
    rw [List.cons_append, Lib.join_cons, Lib.join_cons, if_neg (by simp)]
    simp [Lib.joinTail]
theorem wo (xs : List (List UInt8)) (sep : List UInt8) : ∀ n, (Lib.join (xs.take n) sep).length ≤ (Lib.join xs sep).length := by
  intro n
  cases xs with
  | nil => simp
  | cons x r =>
    cases n with
    | zero => simp [Lib.join_nil]
    | succ n =>
      rw [List.take_succ_cons, Lib.join_cons, Lib.join_cons]
      simp only [List.length_append, Lib.joinTail]
      have : ((r.take n).map (sep ++ ·)).flatten.length ≤ (r.map (sep ++ ·)).flatten.length := by
        rw [List.map_take]
        conv => rhs; rw [← List.take_append_drop n (r.map (sep ++ ·)), List.flatten_append, List.length_append]
        omega
      omega
theorem wM {xs : List (List UInt8)} {sep : List UInt8} (hx : xs.length ≤ 1000000000) (hl : (Lib.join xs sep).length ≤ 1000000000) (_ : sep.length ≤ 1000) : oL xs sep = some (Lib.join xs sep) := by
  unfold oL
  refine jT (Lp := fun k i => fv xs sep k (Lib.join (xs.take i) sep) (i : Int)) (n := xs.length) (fun k => ?_) (fun k i hi => ?_) (by omega)
  · show fv xs sep (k + 1) _ _ = _
    rw [fv, if_neg (by simp), List.take_length]
  · show fv xs sep (k + 1) _ _ = fv xs sep k _ _
    have ht : xs.take (i + 1) = xs.take i ++ [xs[i]] := List.take_succ_eq_append_getElem hi
    have h1 := wo xs sep (i + 1)
    have hj := zB (xs.take i) xs[i] sep
    rw [← ht] at hj
    by_cases h0 : i = 0
    · subst h0
      rw [if_pos (by simp)] at hj
      rw [hj] at h1 ⊢
      rw [fv, if_pos (by simp; omega), if_neg (by simp)]
      unfold mo
      rw [aV hi, aG (by omega)]
      simp only [Option.bind_some, List.take_zero, Lib.join_nil]
      rw [qJ (by simp; omega)]
      rfl
    · have hne : ¬ xs.take i = [] := by
        intro e
        have h9 : (xs.take i).length = i := by rw [List.length_take]; omega
        rw [e] at h9
        exact h0 h9.symm
      rw [if_neg hne] at hj
      rw [hj] at h1 ⊢
      simp only [List.length_append] at h1
      rw [fv, if_pos (by simp; omega), if_pos (by simp; omega), qJ (by omega)]
      unfold mo
      simp only [bS]
      rw [aV hi, aG (by omega)]
      simp only [bS]
      rw [qJ (by simp only [List.length_append]; omega)]
      rfl
theorem wQ {xs : List (List UInt8)} {sep : List UInt8} (hx : xs.length ≤ 1000000000) (hl : (Lib.join xs sep).length ≤ 1000000000) : vG xs sep = some (Lib.join xs sep) := by
  unfold vG
  rw [if_pos ⟨by omega, by omega⟩]
theorem Be {xs : List (List UInt8)} {sep : List UInt8} {b : Nat} (h : ∀ x ∈ xs, x.length ≤ b) : (Lib.join xs sep).length ≤ (sep.length + b) * xs.length := by
  cases xs with
  | nil => simp [Lib.join_nil]
  | cons x r =>
    rw [Lib.join_cons, List.length_append]
    have hx := h x (by simp)
    have : (Lib.joinTail sep r).length ≤ (sep.length + b) * r.length := by
      unfold Lib.joinTail
      have hr : ∀ y ∈ r, y.length ≤ b := fun y hy => h y (by simp [hy])
      clear h hx
      induction r with
      | nil => simp
      | cons y r ih =>
        have h1 := hr y (by simp)
        have h2 := ih (fun z hz => hr z (by simp [hz]))
        simp only [List.map_cons, List.flatten_cons, List.length_append, List.length_cons, Nat.mul_succ]
        omega
    simp only [List.length_cons, Nat.mul_succ]
    omega
end Go.Vk
/- The ways of a tree part all combinations. -/
namespace Go.Vk
def oN (s : ab) (t : ah) : Nat → Nat → List Nat → List Nat
  | 0, _, m => m
  | k + 1, i, m => if i = 0 then m else oN s t k (gP t i) (m.set (dT t (gP t i)).g_.j_.toNat (m.getD (dT t (gP t i)).g_.j_.toNat 0 &&& jU s (dT t (gP t i)) (iq (i : Int) (dT t (gP t i)).r_)))
def pM (s : ab) : List Nat := s.b_.map fm
theorem zJ (m : List Nat) (a : Nat) : (eg m).getD a 0 = ((m.getD a 0 : Nat) : Int) := by
  unfold eg
  rw [List.getD_eq_getElem?_getD, List.getD_eq_getElem?_getD, List.getElem?_map]
  cases m[a]? <;> rfl
theorem CE {m : List Nat} (h : ∀ x ∈ m, x < 32) (a : Nat) : m.getD a 0 < 32 := by
  rw [List.getD_eq_getElem?_getD]
  by_cases ha : a < m.length
  · rw [List.getElem?_eq_getElem ha]
    exact h _ (List.getElem_mem ha)
  · rw [List.getElem?_eq_none (by omega)]
    decide
theorem Ab {s : ab} {n : aT} (h : kG s n.g_) (b : Int) : jU s n b < 32 := by
  have h1 := lP (atr s n.g_) n.g_ b (nb (atr s n.g_))
  have h2 := oZ (nG (om h.1 h.2.1)).2
  unfold jU
  split <;> omega
theorem yc {s : ab} {t : ah} (hT : ip s t) : ∀ (k i : Nat) (m : List Nat), i < t.a_.length → (∀ x ∈ m, x < 32) → uY s t k i (eg m) = eg (oN s t k i m) ∧ ∀ x ∈ oN s t k i m, x < 32 := by
  intro k
  induction k with
  | zero => intro i m _ h; exact ⟨rfl, h⟩
  | succ k ih =>
    intro i m hi h
    unfold uY oN
    by_cases h0 : i = 0
    · rw [if_pos h0, if_pos h0]
      exact ⟨rfl, h⟩
    · rw [if_neg h0, if_neg h0]
      obtain ⟨hul, _, _, _, _, hsp⟩ := wL hT hi (by omega)
      have hF : kG s (dT t (gP t i)).g_ := by rw [gz hul]; exact hsp.1
      have hg := CE h (dT t (gP t i)).g_.j_.toNat
      have hm := Ab hF (iq (i : Int) (dT t (gP t i)).r_)
      have e : sV s t i (eg m) = eg (m.set (dT t (gP t i)).g_.j_.toNat (m.getD (dT t (gP t i)).g_.j_.toNat 0 &&& jU s (dT t (gP t i)) (iq (i : Int) (dT t (gP t i)).r_))) := by
        unfold sV
        simp only
        rw [zJ, yt _ _ (by omega) (by omega)]
        unfold eg
        rw [List.map_set]
      rw [e]
      refine ih _ _ hul (fun x hx => ?_)
      rcases List.mem_or_eq_of_mem_set hx with hx | rfl
      · exact h x hx
      · have := Nat.and_le_left (n := m.getD (dT t (gP t i)).g_.j_.toNat 0) (m := jU s (dT t (gP t i)) (iq (i : Int) (dT t (gP t i)).r_))
        omega
def gy : List Nat → List Nat → Bool
  | [], [] => true
  | x :: m, b :: c => x.testBit b && gy m c
  | _, _ => false
theorem zY : ∀ (m c : List Nat) (a B : Nat), a < m.length → m.length = c.length → gy (m.set a (m.getD a 0 &&& B)) c = (gy m c && B.testBit (c.getD a 0)) := by
  intro m
  induction m with
  | nil => intro c a B h; exact absurd h (by simp)
  | cons x m ih =>
    intro c a B h hl
    cases c with
    | nil => simp at hl
    | cons b c =>
      cases a with
      | zero =>
        simp only [List.set_cons_zero, List.getD_cons_zero, gy, Nat.testBit_and]
        cases x.testBit b <;> cases B.testBit b <;> simp
      | succ a =>
        simp only [List.set_cons_succ, List.getD_cons_succ, gy]
        rw [ih c a B (by simpa using h) (by simpa using hl), Bool.and_assoc]
def onN (s : ab) (t : ah) (c : List Nat) : Nat → Nat → Bool
  | 0, _ => true
  | k + 1, i => if i = 0 then true else (jU s (dT t (gP t i)) (iq (i : Int) (dT t (gP t i)).r_)).testBit (c.getD (dT t (gP t i)).g_.j_.toNat 0) && onN s t c k (gP t i)
theorem xc {s : ab} {t : ah} (hT : ip s t) (c : List Nat) : ∀ (k i : Nat) (m : List Nat), i < t.a_.length → m.length = s.b_.length → c.length = s.b_.length → gy (oN s t k i m) c = (gy m c && onN s t c k i) := by
  intro k
  induction k with
  | zero => intro i m _ _ _; simp [oN, onN]
  | succ k ih =>
    intro i m hi hm hc
    unfold oN onN
    by_cases h0 : i = 0
    · rw [if_pos h0, if_pos h0, Bool.and_true]
    · rw [if_neg h0, if_neg h0]
      obtain ⟨hul, _, _, _, _, hsp⟩ := wL hT hi (by omega)
      have ha : (dT t (gP t i)).g_.j_.toNat < m.length := by
        rw [gz hul]
        have := hsp.1.2.1
        omega
      rw [ih _ _ hul (by rw [List.length_set]; exact hm) hc, zY m c _ _ ha (by omega), Bool.and_assoc]
theorem xF (a : bc) (f : aq) (p : Int) : ∀ n b : Nat, (ks a f p n).testBit b = decide (b < n ∧ rh a f (b : Int) = p) := by
  intro n
  induction n with
  | zero => intro b; simp [ks]
  | succ n ih =>
    intro b
    have hlt := lP a f p n
    unfold ks
    by_cases hp : rh a f (n : Int) = p
    · rw [if_pos hp, Nat.add_comm]
      rcases Nat.lt_trichotomy b n with h | h | h
      · rw [Nat.testBit_two_pow_add_gt h, ih]
        simp only [decide_eq_decide]
        exact ⟨fun g => ⟨by omega, g.2⟩, fun g => ⟨h, g.2⟩⟩
      · subst h
        rw [Nat.testBit_two_pow_add_eq, Nat.testBit_lt_two_pow hlt]
        simp [hp]
      · have : 2 ^ n + ks a f p n < 2 ^ b := by
          have h2 : (2 : Nat) ^ (n + 1) ≤ 2 ^ b := Nat.pow_le_pow_right (by omega) h
          rw [Nat.pow_succ] at h2
          omega
        rw [Nat.testBit_lt_two_pow this]
        symm
        rw [decide_eq_false_iff_not]
        omega
    · rw [if_neg hp, Nat.add_zero, ih]
      simp only [decide_eq_decide]
      constructor
      · intro g; exact ⟨by omega, g.2⟩
      · intro g
        refine ⟨?_, g.2⟩
        rcases Nat.lt_or_ge b n with h | h
        · exact h
        · have : b = n := by omega
          subst this
          exact absurd g.2 hp
def pL (b : Int) : Nat := if 0 ≤ b then b.toNat else 4
def ig (e : aY) : List Nat := e.o_.map pL
theorem zD {s : ab} {n : aT} {e : aY} (hs : aU s) (hE : ExP s e) (h : kG s n.g_) (p : Nat) : (jU s n (p : Int)).testBit ((ig e).getD n.g_.j_.toNat 0) = decide (rN s n e = (p : Int)) := by
  obtain ⟨b, hb1, hb, h1, h2⟩ := xT hs hE h
  obtain ⟨a, ha, ea, _⟩ := po h.2.1
  have hal : a < e.o_.length := by have := hE.2.1; omega
  have hget : (ig e).getD n.g_.j_.toNat 0 = pL b := by
    rw [ea] at hb ⊢
    rw [Int.toNat_natCast] at hb ⊢
    rw [lY hal] at hb
    unfold ig
    rw [List.getD_eq_getElem?_getD, List.getElem?_map, List.getElem?_eq_getElem hal, hb]
    rfl
  have hnb := nG (om h.1 h.2.1)
  have hlt := lP (atr s n.g_) n.g_ (p : Int) (nb (atr s n.g_))
  have c := oZ hnb.2
  rw [hget]
  unfold jU rN pL
  rw [← hb]
  simp only
  by_cases h0 : 0 ≤ b
  · rw [if_pos h0, if_pos h0]
    have hb4 : b.toNat < nb (atr s n.g_) := by omega
    have key : (ks (atr s n.g_) n.g_ (p : Int) (nb (atr s n.g_)) + if n.w_ = (p : Int) then 16 else 0).testBit b.toNat = (ks (atr s n.g_) n.g_ (p : Int) (nb (atr s n.g_))).testBit b.toNat := by
      split
      · rw [Nat.add_comm, show (16 : Nat) = 2 ^ 4 from rfl, Nat.testBit_two_pow_add_gt (by omega)]
      · rfl
    rw [key, xF]
    simp only [decide_eq_decide]
    rw [show ((b.toNat : Nat) : Int) = b by omega]
    exact ⟨fun g => g.2, fun g => ⟨hb4, g⟩⟩
  · rw [if_neg h0, if_neg h0]
    have hf : (ks (atr s n.g_) n.g_ (p : Int) (nb (atr s n.g_))).testBit 4 = false := Nat.testBit_lt_two_pow (by omega)
    by_cases hm : n.w_ = (p : Int)
    · rw [if_pos hm, Nat.add_comm, show (16 : Nat) = 2 ^ 4 from rfl, Nat.testBit_two_pow_add_eq, hf]
      simp [hm]
    · rw [if_neg hm, Nat.add_zero, hf]
      simp [hm]
theorem Ce {l : List Int} (h : Asc l) {p q : Nat} (hp : p < l.length) (hq : q < l.length) (e : l[p] = l[q]) : p = q := by
  rcases Nat.lt_trichotomy p q with c | c | c
  · have h1 := h q (by omega) hq hq
    have h2 := h.le (j := q - 1) p (by omega) (by omega)
    omega
  · exact c
  · have h1 := h p (by omega) hp hp
    have h2 := h.le (j := p - 1) q (by omega) (by omega)
    omega
def On (s : ab) (t : ah) (e : aY) : Nat → Nat → Prop
  | 0, _ => True
  | k + 1, i => i = 0 ∨ (nxt s t e (gP t i) = i ∧ On s t e k (gP t i))
theorem Eo {s : ab} {t : ah} {e : aY} (hs : aU s) (hT : ip s t) (hE : ExP s e) : ∀ (k i : Nat), i < t.a_.length → (onN s t (ig e) k i = true ↔ On s t e k i) := by
  intro k
  induction k with
  | zero => intro i _; simp [onN, On]
  | succ k ih =>
    intro i hi
    unfold onN On
    by_cases h0 : i = 0
    · rw [if_pos h0]
      exact ⟨fun _ => .inl h0, fun _ => rfl⟩
    · rw [if_neg h0]
      obtain ⟨hul, _, _, hL, hmem, hsp⟩ := wL hT hi (by omega)
      have hF : kG s (dT t (gP t i)).g_ := by rw [gz hul]; exact hsp.1
      rw [zD hs hE hF, Bool.and_eq_true, ih _ hul, decide_eq_true_eq]
      obtain ⟨k2, hk2, hn2, ht2, hkid, _, _⟩ := sA hs hT hE hul hL
      obtain ⟨hp, hv⟩ := rT hmem
      rw [gz hul]
      have hA := hsp.2.2.2.2.2.1
      have key : rN s t.a_[gP t i] e = ((iq (i : Int) t.a_[gP t i].r_ : Nat) : Int) ↔ nxt s t e (gP t i) = i := by
        rw [ht2]
        constructor
        · intro g
          have g : k2 = iq (i : Int) t.a_[gP t i].r_ := by omega
          have h3 : t.a_[gP t i].r_[k2] = (i : Int) := by
            have : t.a_[gP t i].r_[k2] = t.a_[gP t i].r_[iq (i : Int) t.a_[gP t i].r_] := by congr 1
            rw [this, hv]
          rw [h3] at hkid
          omega
        · intro g
          have : k2 = iq (i : Int) t.a_[gP t i].r_ := Ce hA hk2 hp (by rw [hkid, hv, g])
          omega
      rw [key]
      exact ⟨fun g => .inr g, fun g => g.resolve_left h0⟩
def mL (s : ab) (t : ah) (e : aY) : Nat → Nat → Nat
  | 0, i => i
  | d + 1, i => if (dT t i).q_ = true then i else mL s t e d (nxt s t e i)
theorem rv {s : ab} {t : ah} {e : aY} (hs : aU s) (hT : ip s t) (hE : ExP s e) : ∀ (d d' i : Nat), i < t.a_.length → t.a_.length ≤ d + i → t.a_.length ≤ d' + i → mL s t e d i = mL s t e d' i ∧ mL s t e d i < t.a_.length ∧ (dT t (mL s t e d i)).q_ = true := by
  intro d
  induction d with
  | zero => intro d' i hi h; omega
  | succ d ih =>
    intro d' i hi h h'
    obtain ⟨d', rfl⟩ : ∃ q, d' = q + 1 := ⟨d' - 1, by omega⟩
    unfold mL
    by_cases hl : (dT t i).q_ = true
    · rw [if_pos hl, if_pos hl]
      exact ⟨rfl, hi, hl⟩
    · rw [if_neg hl, if_neg hl]
      have hL : t.a_[i].q_ = false := by rw [gz hi] at hl; simpa using hl
      obtain ⟨_, _, hn, _, _, hlt, _⟩ := sA hs hT hE hi hL
      exact ih d' _ hn (by omega) (by omega)
theorem Bl {s : ab} {t : ah} {e : aY} (hs : aU s) (hT : ip s t) (hE : ExP s e) {i : Nat} (hi : i < t.a_.length) (hL : t.a_[i].q_ = false) : mL s t e 32 i = mL s t e 32 (nxt s t e i) := by
  have hlen := hT.2.1
  obtain ⟨_, _, hn, _, _, hlt, _⟩ := sA hs hT hE hi hL
  have : mL s t e 32 i = mL s t e 31 (nxt s t e i) := by
    show (if _ then _ else _) = _
    rw [gz hi, if_neg (by rw [hL]; simp)]
  rw [this]
  exact (rv hs hT hE 31 32 _ hn (by omega) (by omega)).1
theorem Ed {s : ab} {t : ah} {e : aY} (hs : aU s) (hT : ip s t) (hE : ExP s e) : ∀ (k i : Nat), i < t.a_.length → i < k → On s t e k i → mL s t e 32 0 = mL s t e 32 i := by
  intro k
  induction k with
  | zero => intro i _ h; omega
  | succ k ih =>
    intro i hi hk h
    rcases h with rfl | ⟨h1, h2⟩
    · rfl
    · by_cases h0 : i = 0
      · rw [h0]
      · obtain ⟨hul, hui, _, hL, _, _⟩ := wL hT hi (by omega)
        rw [ih _ hul (by omega) h2, Bl hs hT hE hul hL, h1]
theorem Ej {s : ab} {t : ah} {e : aY} (hs : aU s) (hT : ip s t) (hE : ExP s e) : ∀ (d i : Nat), i < t.a_.length → (∀ k, i < k → On s t e k i) → ∀ k, mL s t e d i < k → On s t e k (mL s t e d i) := by
  intro d
  induction d with
  | zero => intro i _ h; exact h
  | succ d ih =>
    intro i hi h
    unfold mL
    by_cases hl : (dT t i).q_ = true
    · rw [if_pos hl]
      exact h
    · rw [if_neg hl]
      have hL : t.a_[i].q_ = false := by rw [gz hi] at hl; simpa using hl
      obtain ⟨_, _, hn, _, _, hlt, hup⟩ := sA hs hT hE hi hL
      have hu : gP t (nxt s t e i) = i := by unfold gP; rw [gz hn, hup]; simp
      refine ih _ hn (fun k hk => ?_)
      obtain ⟨k, rfl⟩ : ∃ q, k = q + 1 := ⟨k - 1, by omega⟩
      exact .inr ⟨by rw [hu], by rw [hu]; exact h k (by omega)⟩
theorem Ct {s : ab} {t : ah} {e : aY} (hs : aU s) (hT : ip s t) (hE : ExP s e) {i : Nat} (hi : i < t.a_.length) (hl : (dT t i).q_ = true) : On s t e 32 i ↔ i = mL s t e 32 0 := by
  have hlen := hT.2.1
  constructor
  · intro h
    rw [Ed hs hT hE 32 i hi (by omega) h]
    show i = (if _ then _ else _)
    rw [if_pos hl]
  · intro h
    have hz : 0 < t.a_.length := by omega
    have := Ej hs hT hE 32 0 hz (fun k hk => by
      obtain ⟨k, rfl⟩ : ∃ q, k = q + 1 := ⟨k - 1, by omega⟩
      exact .inl rfl) 32 (by have := (rv hs hT hE 32 32 0 hz (by omega) (by omega)).2.1; omega)
    rw [← h] at this
    exact this
def mG : List (List Nat) → List (List Nat)
  | [] => [[]]
  | C :: Cs => C.flatMap fun b => (mG Cs).map (b :: ·)
def sB : List Nat → List (List Nat) → Nat
  | x :: m, C :: Cs => C.countP (fun b => x.testBit b) * sB m Cs
  | _, _ => 1
theorem yo {α : Type} (q : Nat → Bool) (p : List Nat → Bool) (f : α → Nat) (l : List (List Nat)) (g : Nat → List Nat → Bool) (hg : ∀ b c, g b c = (q b && p c)) : ∀ C : List Nat, (C.flatMap fun b => l.map (b :: ·)).countP (fun x => match x with | [] => false | b :: c => g b c) = C.countP q * l.countP p := by
  intro C
  induction C with
  | nil => simp
  | cons b C ih =>
    rw [List.flatMap_cons, List.countP_append, ih, List.countP_cons]
    have h1 : (l.map (b :: ·)).countP (fun x => match x with | [] => false | b :: c => g b c) = if q b then l.countP p else 0 := by
      rw [List.countP_map]
      by_cases hb : q b = true
      · rw [if_pos hb]
        congr 1
        funext c
        show g b c = p c
        rw [hg, hb, Bool.true_and]
      · rw [if_neg hb, List.countP_eq_zero]
        intro c _
        show ¬ g b c = true
        rw [hg]
        simp [hb]
    rw [h1, Nat.add_mul]
    split <;> simp [Nat.add_comm]
theorem wT : ∀ (m : List Nat) (Cs : List (List Nat)), m.length = Cs.length → (mG Cs).countP (gy m) = sB m Cs := by
  intro m
  induction m with
  | nil =>
    intro Cs h
    cases Cs with
    | nil => simp [mG, sB, gy]
    | cons C Cs => simp at h
  | cons x m ih =>
    intro Cs h
    cases Cs with
    | nil => simp at h
    | cons C Cs =>
      have := yo (α := Unit) (fun b => x.testBit b) (gy m) (fun _ => 0) (mG Cs) (fun b c => x.testBit b && gy m c) (fun _ _ => rfl) C
      show ((C.flatMap fun b => (mG Cs).map (b :: ·))).countP (gy (x :: m)) = _
      have e : gy (x :: m) = fun y => match y with | [] => false | b :: c => (x.testBit b && gy m c) := by
        funext y
        cases y <;> rfl
      rw [e, this, ih Cs (by simpa using h)]
      rfl
theorem yl : ∀ (Cs : List (List Nat)) (c : List Nat), c ∈ mG Cs → c.length = Cs.length ∧ ∀ i (h : i < c.length) (h2 : i < Cs.length), c[i] ∈ Cs[i] := by
  intro Cs
  induction Cs with
  | nil =>
    intro c h
    have : c = [] := by simpa [mG] using h
    subst this
    exact ⟨rfl, fun i h => absurd h (by simp)⟩
  | cons C Cs ih =>
    intro c h
    obtain ⟨b, hb, h⟩ := List.mem_flatMap.1 h
    obtain ⟨d, hd, rfl⟩ := List.mem_map.1 h
    obtain ⟨h1, h2⟩ := ih d hd
    refine ⟨by simp [h1], fun i hi hi2 => ?_⟩
    cases i with
    | zero => exact hb
    | succ i => exact h2 i (by simpa using hi) (by simpa using hi2)
theorem yf : ∀ Cs : List (List Nat), (mG Cs).length = (Cs.map List.length).foldr (· * ·) 1 := by
  intro Cs
  induction Cs with
  | nil => rfl
  | cons C Cs ih =>
    have : ∀ C : List Nat, (C.flatMap fun b => (mG Cs).map (b :: ·)).length = C.length * (mG Cs).length := by
      intro C
      induction C with
      | nil => simp
      | cons b C ih2 => rw [List.flatMap_cons, List.length_append, ih2, List.length_map, List.length_cons, Nat.add_mul, Nat.one_mul, Nat.add_comm]
    show (C.flatMap fun b => (mG Cs).map (b :: ·)).length = _
    rw [this, ih]
    rfl
theorem zg {α β : Type} (p : α → β → Bool) (L : List α) : ∀ cs : List β, (L.map fun x => cs.countP (p x)).sum = (cs.map fun c => L.countP (fun x => p x c)).sum := by
  intro cs
  induction cs with
  | nil => induction L with
    | nil => rfl
    | cons x L ih => simpa using ih
  | cons c cs ih =>
    rw [List.map_cons, List.sum_cons, ← ih]
    clear ih
    induction L with
    | nil => rfl
    | cons x L ih =>
      simp only [List.map_cons, List.sum_cons, List.countP_cons] at ih ⊢
      omega
end Go.Vk
/- A cell in words, a way in words: alike. -/
namespace Go.Vk
theorem wF {a : bc} (h : ln a) : OkM a := by
  obtain ⟨h1, h2, h3⟩ := h
  exact ⟨by omega, by have := h2.1; omega, by have := h3.1; omega, fun y hy => by have := h3.2 y hy; omega⟩
theorem BY {s : ab} (h : aU s) : OkS s := by
  obtain ⟨h1, h2⟩ := h
  exact ⟨by have := h1.1; omega, fun a ha => wF (h1.2 a ha), by have := h2.1; omega, fun y hy => by have := h2.2 y hy; omega⟩
theorem zk {a : bc} (hs : ln a) (h : lB a) {n : Nat} (hn : dV a = some (n : Int)) (hn' : el a = some (n : Int)) (c : Int) : kN (oV a c) (ll a c) (fun t => t.length ≤ 21) := by
  have hx := wF hs
  obtain ⟨n', b1, b2, b3, b4⟩ := qL hx h
  obtain rfl : n' = n := by have := b1.symm.trans hn; simp at this; omega
  unfold oV ll
  refine rM (pl hx) (qr hx) (fun _ => ?_) (fun g => absurd h g)
  simp only [Bool.not_true, Bool.false_eq_true, if_false]
  rw [hn, hn']
  unfold bm bN
  simp only [bS]
  have hb : (n' : Int) = if 0 < a.u_.length then ((a.u_.length : Int) + 1) else (a.A_.length : Int) := by
    have hc := h.2
    unfold el at hn'
    by_cases h0 : 0 < a.u_.length
    · rw [if_pos (by simpa using h0), aG (by omega)] at hn'
      rw [if_pos h0]
      simp at hn'
      omega
    · rw [if_neg (by simpa using h0)] at hn'
      rw [if_neg h0]
      simp at hn'
      omega
  rw [bp (by omega) (by omega)]
  refine mZ Iff.rfl (fun _ => jc (by simp)) (fun hr => ?_)
  have hr' : -1 ≤ c ∧ c ≤ n' - 1 := by simp at hr; omega
  refine mZ Iff.rfl (fun _ => jc (by simp)) (fun h1 => ?_)
  have h1' : c ≠ -1 := by simpa using h1
  obtain ⟨j, rfl⟩ : ∃ j : Nat, c = j := ⟨c.toNat, by omega⟩
  rcases h.2 with ⟨c0, c1, c2⟩ | ⟨c0, c1, c2⟩
  · rw [if_neg (by omega)] at hb
    have hj : j < a.A_.length := by omega
    rw [if_pos (by simp; omega), if_pos (by simp; omega), aV hj]
    exact jc (by have := (c2 j (by omega) hj hj).1.1; omega)
  · rw [if_pos (by omega)] at hb
    have hv : ¬ (decide ((a.A_.length : Int) > 0) = true) := by rw [c0]; simp
    rw [if_neg hv, if_neg hv]
    refine mZ Iff.rfl (fun g => ?_) (fun g => ?_)
    · have hj : j < a.u_.length := by simpa using g
      have hi := hs.2.1.2 _ (List.getElem_mem hj)
      rw [aV hj]
      simp only [bS]
      rw [uS hi, uz hi]
      exact jc (wO hi)
    · have hj : ¬ j < a.u_.length := by simpa using g
      have e : j = a.u_.length := by omega
      have hk : a.u_.length - 1 < a.u_.length := by omega
      have e2 : IntKind.i64.wrap ((a.u_.length : Int) - 1) = ((a.u_.length - 1 : Nat) : Int) := by rw [bp (by omega) (by omega)]; omega
      subst e
      have hi := hs.2.1.2 _ (List.getElem_mem hk)
      rw [e2, aV hk]
      simp only [bS]
      have hw : I64 (IntKind.i64.wrap (a.u_[a.u_.length - 1] + 1)) := by
        unfold I64
        rw [IntKind.wrap_i64]
        omega
      rw [uS hw, uz hw]
      exact jc (wO hw)
theorem AS : ∀ m : Nat, m < 32 → ∀ j : Nat, j < 4 → ((shr .i64 (m : Int) (j : Int)).map fun v => bi .and .i64 v 1 == 1) = some (bi .and .i64 (m : Int) ((2 ^ j : Nat) : Int) != 0) := by decide
def Few (b n : Nat) (l : List (List UInt8)) : Prop := l.length ≤ n ∧ ∀ x ∈ l, x.length ≤ b
theorem Few.snoc {b n : Nat} {l : List (List UInt8)} {x : List UInt8} (h : Few b n l) (hx : x.length ≤ b) : Few b (n + 1) (l ++ [x]) := ⟨by have := h.1; simp; omega, fun y hy => by
  rcases List.mem_append.1 hy with hy | hy
  · exact h.2 y hy
  · rw [List.mem_singleton.1 hy]; exact hx⟩
theorem Few.join {b n k : Nat} {l : List (List UInt8)} {sep : List UInt8} (h : Few b n l) (hk : (sep.length + b) * n ≤ k) : (Lib.join l sep).length ≤ k := by
  have h1 := Be (sep := sep) h.2
  have h2 : (sep.length + b) * l.length ≤ (sep.length + b) * n := Nat.mul_le_mul_left _ h.1
  omega
theorem uD {α ρ : Type} {l : List α} {x : α} {f g : List α → Option ρ} {Q : ρ → Prop} (hl : l.length ≤ 1000000) (h : kN (f (l ++ [x])) (g (l ++ [x])) Q) : kN ((app l [x]).bind f) ((app l [x]).bind g) Q := by
  unfold app
  rw [if_pos (by simp; omega)]
  exact h
theorem zp {s : ab} {i : Nat} (hi : i < s.b_.length) (hA : lB s.b_[i]) {l l2 : List (List UInt8)} (h2 : Few 21 5 l2) (hl : l.length ≤ 100) (h5 : i ≤ 100)
    {R : List (List UInt8) → Int → Option (List UInt8)} {R' : Int → List (List UInt8) → Option (List UInt8)} {Q : List UInt8 → Prop}
    (h : ∀ x : List UInt8, x.length ≤ 200 → 1 ≤ x.length → kN (R (l ++ [x]) ((i + 1 : Nat) : Int)) (R' ((i + 1 : Nat) : Int) (l ++ [x])) Q) : kN (kf s i l R l2) (ie s.b_[i] l R' i l2) Q := by
  unfold kf ie
  have hn := hA.1.1
  have hj := h2.join (sep := [44]) (k := 110) (by simp)
  rw [aV hi, aG (by omega)]
  simp only [bS]
  rw [qJ (by simp; omega), wM (by have := h2.1; omega) (by omega) (by simp), wQ (by have := h2.1; omega) (by omega)]
  generalize Lib.join l2 [44] = t at hj
  simp only [bS]
  rw [qJ (by simp; omega)]
  simp only [bS]
  rw [qJ (by simp; omega)]
  simp only [bS]
  exact uD (by omega) (h _ (by simp; omega) (by simp; omega))
theorem DM {x : Int} {F : Nat} (hF : F ≤ 31) (h : 0 ≤ x ∧ bi .and .i64 x F = x) : ∃ m : Nat, x = m ∧ m < 32 := by
  obtain ⟨h1, h2⟩ := xo (e := x) hF
  rw [h.2] at h1
  exact ⟨_, h1, by omega⟩
theorem Dc {l : List (List UInt8)} {sep : List UInt8} (h : l.length ≠ 0) (hne : ∀ x ∈ l, 1 ≤ x.length) : Lib.join l sep ≠ [] := by
  cases l with
  | nil => exact absurd rfl h
  | cons x l =>
    have hx := hne x (List.mem_cons_self ..)
    cases x with
    | nil => simp at hx
    | cons a x => cases l <;> simp [Lib.join]
theorem xV {s : ab} {w : bf} (hs : aU s) (hv : CR w.y_) (hWP : za s w) : kN (rI s w) (kM s w) (fun t => t ≠ []) := by
  have hS := BY hs
  unfold rI kM
  refine rM (CO hS) (yx hS hv) (fun hW => ?_) (fun g => absurd hWP g)
  simp only [Bool.not_true, Bool.false_eq_true, if_false]
  obtain ⟨⟨⟨a1, a5⟩, _, _, hN⟩, _, hlen, hM⟩ := hW
  refine tY (fun k l i => eV w s k l i) (fun k l i => cZ w s k i l) w.y_.length (fun i l l' => l' = l ∧ Few 200 i l ∧ ∀ x ∈ l, 1 ≤ x.length) (fun k l l' h => ?_) (fun k l l' i hi h ih => ?_) (by omega) ⟨rfl, ⟨by simp, by simp⟩, by simp⟩
  · obtain ⟨rfl, h, hne⟩ := h
    show kN (eV w s (k + 1) _ _) (cZ w s (k + 1) _ _) _
    have hc : ¬ (decide ((w.y_.length : Int) < (w.y_.length : Int)) = true) := by simp
    rw [eV, cZ, if_neg hc, if_neg hc]
    refine mZ Iff.rfl (fun _ => jc (by simp)) (fun g0 => ?_)
    have g0 : l'.length ≠ 0 := by simpa using g0
    have hl := h.1
    have hj : (Lib.join l' [38]).length ≤ 2000 := h.join (by simp; omega)
    rw [wM (by omega) (by omega) (by simp), wQ (by omega) (by omega)]
    exact jc (Dc g0 hne)
  · obtain ⟨rfl, h, hne⟩ := h
    show kN (eV w s (k + 1) _ _) (cZ w s (k + 1) _ _) _
    have hl := h.1
    have ha : i < s.b_.length := by omega
    have hA := hN i (by omega) ha ha
    have hsa := hs.1.2 _ (List.getElem_mem ha)
    obtain ⟨F, hF, e1, e2⟩ := qE (hS.2.1 _ (List.getElem_mem ha))
    obtain ⟨F', _, f1, f2⟩ := hM i (by omega) hi
    obtain rfl : F' = F := by have := f1.symm.trans e1; simpa using this
    obtain ⟨m, hm, hm'⟩ := DM hF (f2 hi)
    rw [eV, cZ, if_pos (by simp; omega), if_pos (by simp; omega), aV hi, aV ha]
    simp only [bS]
    rw [e1, e2]
    simp only [bS]
    refine mZ Iff.rfl (fun _ => ?_) (fun _ => ?_)
    · rw [aG (by omega)]
      exact ih l' l' ⟨rfl, ⟨by omega, h.2⟩, hne⟩
    · obtain ⟨n, b1, b2, b3, b4⟩ := qL (wF hsa) hA.1
      rw [b2, hm]
      simp only [bS]
      have fin : ∀ l2, Few 21 5 l2 → kN (kf s i l' (eV w s k) l2) (ie s.b_[i] l' (cZ w s k) i l2) (fun t => t ≠ []) := fun l2 h2 =>
        zp ha hA.1 h2 (by omega) (by omega) (fun x hx hx1 => ih _ _ ⟨rfl, h.snoc hx, fun y hy => by
          rcases List.mem_append.1 hy with hy | hy
          · exact hne y hy
          · rw [List.mem_singleton.1 hy]; exact hx1⟩)
      refine tY (fun k2 l2 j => gh s i w l' (eV w s k) k2 l2 j) (fun k2 l2 j => ec n m s.b_[i] l' (cZ w s k) i k2 j l2) n (fun j l2 l2' => l2' = l2 ∧ Few 21 j l2) (fun k2 l2 l2' g => ?_) (fun k2 l2 l2' j hj g ih2 => ?_) (by omega) ⟨rfl, by simp, by simp⟩
      · obtain ⟨rfl, g⟩ := g
        show kN (gh s i w l' _ (k2 + 1) _ _) (ec _ _ _ _ _ _ (k2 + 1) _ _) _
        have gl := g.1
        rw [gh, ec, aV ha]
        simp only [bS]
        rw [b1, aV hi, hm]
        simp only [bS]
        have hc : ¬ (decide ((n : Int) < (n : Int)) = true) := by simp
        rw [if_neg hc, if_neg hc]
        refine mZ Iff.rfl (fun _ => ?_) (fun _ => fin _ ⟨by omega, g.2⟩)
        have g2 := g.snoc (x := [63]) (by simp)
        exact uD (by omega) (fin _ ⟨by have := g2.1; omega, g2.2⟩)
      · obtain ⟨rfl, g⟩ := g
        show kN (gh s i w l' _ (k2 + 1) _ _) (ec _ _ _ _ _ _ (k2 + 1) _ _) _
        have gl := g.1
        rw [gh, ec, aV ha]
        simp only [bS]
        rw [b1, aV hi, hm]
        simp only [bS]
        have hc : decide ((j : Int) < (n : Int)) = true := by simp; omega
        rw [if_pos hc, if_pos hc, rz (by omega)]
        have hbit := AS m hm' j (by omega)
        cases hv : shr .i64 (m : Int) (j : Int) with
        | none => rw [hv] at hbit; simp at hbit
        | some v =>
          rw [hv] at hbit
          have hbit : (bi .and .i64 v 1 == 1) = (bi .and .i64 (m : Int) ((2 ^ j : Nat) : Int) != 0) := by simpa using hbit
          simp only [bS]
          rw [hbit, aG (by omega)]
          refine mZ Iff.rfl (fun _ => ?_) (fun _ => ih2 _ _ ⟨rfl, by omega, g.2⟩)
          refine (zk hsa hA.1 b1 b2 j).bind fun t ht => ?_
          exact uD (by omega) (ih2 _ _ ⟨rfl, g.snoc ht⟩)
end Go.Vk
/- Every example meets just one way, and the rooms of the ways make up all room. -/
namespace Go.Vk
def chs (s : ab) : List (List Nat) := s.b_.map fun a => List.range (nb a) ++ [4]
def V0 (s : ab) (t : ah) (i : Nat) : List Nat := oN s t 32 i (pM s)
theorem Dk {a : bc} (h : lB a) : fm a < 32 := by
  have h2 := oZ (nG h).2
  unfold fm
  omega
theorem uN {s : ab} (hS : dv s) {a : bc} (ha : a ∈ s.b_) : lB a := by
  obtain ⟨i, hi, rfl⟩ := List.getElem_of_mem ha
  exact hS.attr hi
theorem CK {s : ab} (hS : dv s) : ∀ x ∈ pM s, x < 32 := fun x hx => by
  obtain ⟨a, ha, rfl⟩ := List.mem_map.1 hx
  exact Dk (uN hS ha)
theorem sK {s : ab} {t : ah} (hT : ip s t) {i : Nat} (hi : i < t.a_.length) : (gR s t i).y_ = eg (V0 s t i) ∧ ∀ x ∈ V0 s t i, x < 32 := by
  have e : rE s = eg (pM s) := by
    unfold rE eg pM
    rw [List.map_map]
    rfl
  have := yc hT 32 i (pM s) hi (CK hT.1)
  unfold gR V0
  rw [e]
  exact this
def Sb (s : ab) (m : List Nat) : Prop := m.length = s.b_.length ∧ ∀ a (h : a < m.length) (h2 : a < s.b_.length), m[a] &&& fm s.b_[a] = m[a]
theorem Bj {m : List Nat} {a : Nat} (h : a < m.length) : m.getD a 0 = m[a] := by simp [h]
theorem BM {s : ab} {t : ah} : ∀ (k i : Nat) (m : List Nat), Sb s m → Sb s (oN s t k i m) := by
  intro k
  induction k with
  | zero => intro i m h; exact h
  | succ k ih =>
    intro i m h
    unfold oN
    split
    · exact h
    · refine ih _ _ ⟨by rw [List.length_set]; exact h.1, fun a ha h2 => ?_⟩
      rw [List.length_set] at ha
      rw [List.getElem_set]
      split
      · rename_i he
        rw [he, Bj ha, Nat.and_assoc, Nat.and_comm (jU s _ _), ← Nat.and_assoc, h.2 a ha h2]
      · exact h.2 a ha h2
theorem CG {s : ab} (t : ah) (i : Nat) : Sb s (V0 s t i) := by
  refine BM 32 i (pM s) ⟨by simp [pM], fun a h h2 => ?_⟩
  have : (pM s)[a] = fm s.b_[a] := by simp [pM]
  rw [this, Nat.and_self]
theorem ux {m : List Nat} {i : Nat} (h : i < m.length) : (eg m)[i]'(by simpa [eg] using h) = (m[i] : Int) := by simp [eg]
theorem AQ {s : ab} {t : ah} (hs : aU s) (hT : ip s t) {i : Nat} (hi : i < t.a_.length) : za s (gR s t i) ∧ CR (gR s t i).y_ := by
  obtain ⟨e, hlt⟩ := sK hT hi
  have hb := CG (s := s) t i
  have hn := hT.2.1
  have hl : (eg (V0 s t i)).length = (V0 s t i).length := by simp [eg]
  refine ⟨⟨hT.1, ?_, by rw [e, hl, hb.1], ?_⟩, ?_⟩
  · show 0 ≤ (i : Int) ∧ (i : Int) ≤ 30
    omega
  · rw [e]
    intro j _ hj
    have hj' : j < (V0 s t i).length := by rw [← hl]; exact hj
    have hja : j < s.b_.length := by rw [← hb.1]; exact hj'
    have hA := hT.1.attr hja
    refine ⟨(fm s.b_[j] : Int), hja, (wc (hs.1.2 _ (List.getElem_mem hja)) hA).1, fun _ => ?_⟩
    have h1 := hlt _ (List.getElem_mem hj')
    have h2 := Dk hA
    rw [ux hj', yt _ _ (by omega) (by omega), hb.2 j hj' hja]
    exact ⟨by omega, rfl⟩
  · rw [e]
    intro x hx
    obtain ⟨y, hy, rfl⟩ := List.mem_map.1 hx
    have := hlt y hy
    omega
theorem tW {s : ab} {t : ah} (hs : aU s) (hT : ip s t) {i : Nat} (hi : i < t.a_.length) : kb s (gR s t i) = some true := by
  obtain ⟨h1, h2⟩ := AQ hs hT hi
  rcases (yx (iO hs) h2).cases with ⟨e, _⟩ | ⟨_, g⟩
  · exact e
  · exact absurd h1 g
theorem FN : ∀ m : Fin 32, m.val &&& 19 = m.val → fE (IntKind.u64.wrap ((m.val : Nat) : Int)) = some (((List.range 2 ++ [4]).countP (fun b => m.val.testBit b) : Nat) : Int) := by decide
theorem Fw : ∀ m : Fin 32, m.val &&& 23 = m.val → fE (IntKind.u64.wrap ((m.val : Nat) : Int)) = some (((List.range 3 ++ [4]).countP (fun b => m.val.testBit b) : Nat) : Int) := by decide
theorem FQ : ∀ m : Fin 32, m.val &&& 31 = m.val → fE (IntKind.u64.wrap ((m.val : Nat) : Int)) = some (((List.range 4 ++ [4]).countP (fun b => m.val.testBit b) : Nat) : Int) := by decide
theorem Df {a : bc} (h : lB a) {x : Nat} (hx : x < 32) (hf : x &&& fm a = x) : fE (IntKind.u64.wrap (x : Int)) = some (((List.range (nb a) ++ [4]).countP (fun b => x.testBit b) : Nat) : Int) := by
  have hb := nG h
  unfold fm at hf
  rcases (show nb a = 2 ∨ nb a = 3 ∨ nb a = 4 by omega) with e | e | e
  · rw [e] at hf ⊢; exact FN ⟨x, hx⟩ hf
  · rw [e] at hf ⊢; exact Fw ⟨x, hx⟩ hf
  · rw [e] at hf ⊢; exact FQ ⟨x, hx⟩ hf
theorem Ey {a : bc} (h : lB a) (q : Nat → Bool) : (List.range (nb a) ++ [4]).countP q ≤ 5 := by
  have h1 := List.countP_le_length (p := q) (l := List.range (nb a) ++ [4])
  have h2 := (nG h).2
  simp only [List.length_append, List.length_range, List.length_singleton] at h1
  omega
theorem BL {s : ab} {t : ah} (hs : aU s) (hT : ip s t) {i : Nat} (hi : i < t.a_.length) : mi s (gR s t i) = some ((sB (V0 s t i) (chs s) : Nat) : Int) := by
  obtain ⟨e, hlt⟩ := sK hT hi
  have hb := CG (s := s) t i
  have hna := hT.1.1
  have hcl : (chs s).length = s.b_.length := by simp [chs]
  have hb1 := hb.1
  unfold mi
  rw [tW hs hT hi]
  simp only [sS]
  have key : ∀ (d k j v : Nat), (V0 s t i).length - j = d → d < k → v * 5 ^ d ≤ 1000000 → gf (gR s t i) k (j : Int) (v : Int) = some ((v * sB ((V0 s t i).drop j) ((chs s).drop j) : Nat) : Int) := by
    intro d
    induction d with
    | zero =>
      intro k j v hd hk _
      obtain ⟨k, rfl⟩ : ∃ q, k = q + 1 := ⟨k - 1, by omega⟩
      rw [gf, e, if_neg (by simp [eg]; omega), List.drop_eq_nil_of_le (by omega)]
      simp [sB]
    | succ d ih =>
      intro k j v hd hk hv
      obtain ⟨k, rfl⟩ : ∃ q, k = q + 1 := ⟨k - 1, by omega⟩
      have hj : j < (V0 s t i).length := by omega
      have hja : j < s.b_.length := by omega
      have hA := hT.1.attr hja
      have hc5 := Ey hA (fun b => (V0 s t i)[j].testBit b)
      have hpow : 1 ≤ 5 ^ d := by have := Nat.pow_le_pow_right (n := 5) (by omega) (Nat.zero_le d); simpa using this
      have hv2 : v * (List.range (nb s.b_[j]) ++ [4]).countP (fun b => (V0 s t i)[j].testBit b) * 5 ^ d ≤ 1000000 := by
        have : v * (List.range (nb s.b_[j]) ++ [4]).countP (fun b => (V0 s t i)[j].testBit b) * 5 ^ d ≤ v * 5 * 5 ^ d := Nat.mul_le_mul_right _ (Nat.mul_le_mul_left _ hc5)
        rw [Nat.pow_succ, Nat.mul_comm (5 ^ d) 5, ← Nat.mul_assoc] at hv
        omega
      have hv3 : v * (List.range (nb s.b_[j]) ++ [4]).countP (fun b => (V0 s t i)[j].testBit b) ≤ 1000000 := by
        have := Nat.le_mul_of_pos_right (v * (List.range (nb s.b_[j]) ++ [4]).countP (fun b => (V0 s t i)[j].testBit b)) hpow
        omega
      rw [gf, e, if_pos (by simp [eg]; omega), aV (by simpa [eg] using hj), ux hj]
      simp only [bS]
      rw [Df hA (hlt _ (List.getElem_mem hj)) (hb.2 j hj hja)]
      simp only [bS]
      rw [aG (by omega), ← Int.natCast_mul, gM (by omega), ih k (j + 1) _ (by omega) (by omega) hv2, List.drop_eq_getElem_cons hj, List.drop_eq_getElem_cons (l := chs s) (by omega : j < (chs s).length)]
      have hcj : (chs s)[j]'(by omega) = List.range (nb s.b_[j]) ++ [4] := by simp [chs]
      rw [hcj]
      simp only [sB]
      rw [Nat.mul_assoc]
  have h5 : (V0 s t i).length ≤ 5 := by rw [hb.1]; omega
  have := key (V0 s t i).length be 0 1 rfl (dE (by omega)) (by
    have : (5 : Nat) ^ (V0 s t i).length ≤ 5 ^ 5 := Nat.pow_le_pow_right (by omega) h5
    omega)
  simpa using this
def xn (s : ab) : Nat := ((chs s).map List.length).foldr (· * ·) 1
theorem yG {s : ab} (hS : dv s) (Lp : Nat → Int → Int → Option Int)
    (hz : ∀ k v, Lp (k + 1) v (s.b_.length : Int) = some v)
    (hst : ∀ k (v : Int) (j : Nat) (h : j < s.b_.length), Lp (k + 1) v (j : Int) = Lp k (IntKind.i64.wrap (v * (IntKind.i64.wrap ((nb s.b_[j] : Int) + 1)))) ((j + 1 : Nat) : Int)) : Lp be 1 0 = some (xn s : Int) := by
  have hna := hS.1
  have hcl : (chs s).length = s.b_.length := by simp [chs]
  have key : ∀ (d k j v : Nat), s.b_.length - j = d → d < k → j ≤ s.b_.length → v * 5 ^ d ≤ 1000000 → Lp k (v : Int) (j : Int) = some ((v * (((chs s).drop j).map List.length).foldr (· * ·) 1 : Nat) : Int) := by
    intro d
    induction d with
    | zero =>
      intro k j v hd hk hj _
      obtain ⟨k, rfl⟩ : ∃ q, k = q + 1 := ⟨k - 1, by omega⟩
      have : j = s.b_.length := by omega
      subst this
      rw [hz, List.drop_eq_nil_of_le (by omega)]
      simp
    | succ d ih =>
      intro k j v hd hk _ hv
      obtain ⟨k, rfl⟩ : ∃ q, k = q + 1 := ⟨k - 1, by omega⟩
      have hja : j < s.b_.length := by omega
      have hb := nG (hS.attr hja)
      have hpow : 1 ≤ 5 ^ d := by have := Nat.pow_le_pow_right (n := 5) (by omega) (Nat.zero_le d); simpa using this
      have hv2 : v * (nb s.b_[j] + 1) * 5 ^ d ≤ 1000000 := by
        have : v * (nb s.b_[j] + 1) * 5 ^ d ≤ v * 5 * 5 ^ d := Nat.mul_le_mul_right _ (Nat.mul_le_mul_left _ (by omega))
        rw [Nat.pow_succ, Nat.mul_comm (5 ^ d) 5, ← Nat.mul_assoc] at hv
        omega
      have hv3 : v * (nb s.b_[j] + 1) ≤ 1000000 := by
        have := Nat.le_mul_of_pos_right (v * (nb s.b_[j] + 1)) hpow
        omega
      rw [hst k v j hja, aG (by omega), ← Int.natCast_mul, gM (by omega), ih k (j + 1) _ (by omega) (by omega) (by omega) hv2, List.drop_eq_getElem_cons (l := chs s) (by omega : j < (chs s).length)]
      have hcj : ((chs s)[j]'(by omega)).length = nb s.b_[j] + 1 := by simp [chs]
      simp only [List.map_cons, List.foldr_cons]
      rw [hcj, Nat.mul_assoc]
  have := key s.b_.length be 0 1 rfl (dE (by omega)) (Nat.zero_le _) (by
    have : (5 : Nat) ^ s.b_.length ≤ 5 ^ 5 := Nat.pow_le_pow_right (by omega) (by omega)
    omega)
  simpa [xn] using this
theorem Cm {s : ab} (hs : aU s) (hS : dv s) : mw s = some (xn s : Int) := by
  have hna := hS.1
  unfold mw
  rcases (ka (iO hs)).cases with ⟨e, _⟩ | ⟨_, g⟩
  · rw [e]
    simp only [sS]
    refine yG hS (gb s) (fun k v => ?_) (fun k v j h => ?_)
    · rw [gb, if_neg (by simp)]
    · rw [gb, if_pos (by simp; omega), aV h, aG (i := j) (by omega)]
      simp only [bS]
      rw [kB (hs.1.2 _ (List.getElem_mem h)) (hS.attr h)]
      rfl
  · exact absurd hS g
theorem CQ {s : ab} (hs : aU s) (hS : dv s) : me s = some (xn s : Int) := by
  have hna := hS.1
  unfold me
  rcases (lG (iO hs)).cases with ⟨e, _⟩ | ⟨_, g⟩
  · rw [e]
    simp only [sS]
    refine yG hS (fun k v j => ei s k j v) (fun k v => ?_) (fun k v j h => ?_)
    · show ei s (k + 1) _ _ = _
      rw [ei, if_neg (by simp)]
    · show ei s (k + 1) _ _ = ei s k _ _
      rw [ei, if_pos (by simp; omega), aV h, aG (i := j) (by omega)]
      simp only [bS]
      rw [kj (hs.1.2 _ (List.getElem_mem h))]
      rfl
  · exact absurd hS g
theorem Ar : ∀ x : Fin 32, ∀ b : Fin 5, (bi .and .i64 ((x.val : Nat) : Int) ((2 ^ b.val : Nat) : Int) == 0) = !x.val.testBit b.val := by decide
theorem BV {s : ab} {e : aY} (hs : aU s) (hE : ExP s e) {i : Nat} (hi : i < e.o_.length) : ∃ h : i < s.b_.length, -1 ≤ e.o_[i] ∧ e.o_[i] ≤ (nb s.b_[i] : Int) - 1 ∧ nb s.b_[i] ≤ 4 := by
  obtain ⟨n, h, h1, h2, h3⟩ := hE.2.2.2 i (Nat.zero_le _) hi
  have hn : nb s.b_[i] = n := by
    have := kj (hs.1.2 _ (List.getElem_mem h))
    rw [h1] at this
    have := Option.some.inj this
    omega
  have := h3 hi
  exact ⟨h, this.1, by omega, by omega⟩
theorem zz {s : ab} {t : ah} {e : aY} (hs : aU s) (hT : ip s t) (hE : ExP s e) {i : Nat} (hi : i < t.a_.length) : iy s (gR s t i) e = some (gy (V0 s t i) (ig e)) := by
  obtain ⟨em, hlt⟩ := sK hT hi
  have hb := CG (s := s) t i
  have hna := hT.1.1
  have hel := hE.2.1
  have hbl : (ig e).length = e.o_.length := by simp [ig]
  unfold iy
  rw [tW hs hT hi]
  rcases (vW (e := e) (iO hs)).cases with ⟨ee, _⟩ | ⟨_, g⟩
  · rw [ee]
    simp only [sS]
    have key : ∀ (d k j : Nat), e.o_.length - j = d → d < k → dP e (gR s t i) k (j : Int) = some (gy ((V0 s t i).drop j) ((ig e).drop j)) := by
      intro d
      induction d with
      | zero =>
        intro k j hd hk
        obtain ⟨k, rfl⟩ : ∃ q, k = q + 1 := ⟨k - 1, by omega⟩
        rw [dP, if_neg (by simp; omega), List.drop_eq_nil_of_le (by rw [hb.1]; omega), List.drop_eq_nil_of_le (by omega)]
        rfl
      | succ d ih =>
        intro k j hd hk
        obtain ⟨k, rfl⟩ : ∃ q, k = q + 1 := ⟨k - 1, by omega⟩
        have hj : j < e.o_.length := by omega
        have hjv : j < (V0 s t i).length := by rw [hb.1]; omega
        obtain ⟨hja, b1, b2, b3⟩ := BV hs hE hj
        have hx := hlt _ (List.getElem_mem hjv)
        have hJ : ∀ b : Nat, b < 5 → pL e.o_[j] = b → iH (gR s t i) (j : Int) (dP e (gR s t i) k) ((2 ^ b : Nat) : Int) = some (gy ((V0 s t i).drop j) ((ig e).drop j)) := by
          intro b hb5 eb
          unfold iH
          rw [em, aV (by simpa [eg] using hjv), ux hjv]
          simp only [bS]
          have hm := Ar ⟨_, hx⟩ ⟨b, hb5⟩
          rw [hm, aG (by omega), List.drop_eq_getElem_cons hjv, List.drop_eq_getElem_cons (l := ig e) (by omega : j < (ig e).length)]
          have ebj : (ig e)[j]'(by omega) = b := by simp [ig, eb]
          rw [ebj]
          simp only [gy]
          cases (V0 s t i)[j].testBit b with
          | false => rfl
          | true =>
            simp only [sS]
            exact ih k (j + 1) (by omega) (by omega)
        rw [dP, if_pos (by simp; omega), aV hj]
        simp only [bS]
        by_cases h0 : 0 ≤ e.o_[j]
        · rw [if_pos (by simpa using h0)]
          obtain ⟨b, hbb⟩ : ∃ b : Nat, e.o_[j] = b := ⟨e.o_[j].toNat, by omega⟩
          rw [hbb, yr b (by omega)]
          exact hJ b (by omega) (by rw [hbb]; unfold pL; rw [if_pos (by omega), Int.toNat_natCast])
        · rw [if_neg (by simpa using h0)]
          exact hJ 4 (by omega) (by unfold pL; rw [if_neg h0])
    have := key e.o_.length be 0 rfl (dE (by omega))
    simpa using this
  · exact absurd hE g
theorem BT {s : ab} {t : ah} {e : aY} (hs : aU s) (hT : ip s t) (hE : ¬ ExP s e) {i : Nat} (hi : i < t.a_.length) : iy s (gR s t i) e = some false := by
  unfold iy
  rw [tW hs hT hi]
  rcases (vW (e := e) (iO hs)).cases with ⟨_, g⟩ | ⟨ee, _⟩
  · exact absurd g hE
  · rw [ee]
    simp only [sS]
def Cmb (s : ab) (c : List Nat) : Prop := c.length = s.b_.length ∧ ∀ i (h : i < c.length) (h2 : i < s.b_.length), c[i] < nb s.b_[i] ∨ c[i] = 4
theorem BE : ∀ n : Fin 3, ∀ b : Fin 5, (b.val < n.val + 2 ∨ b.val = 4) → (2 ^ (n.val + 2) + 15).testBit b.val = true := by decide
theorem yk {s : ab} (hS : dv s) {c : List Nat} (h : Cmb s c) : gy (pM s) c = true := by
  have key : ∀ (l : List bc) (c : List Nat), (∀ a ∈ l, lB a) → c.length = l.length → (∀ i (h : i < c.length) (h2 : i < l.length), c[i] < nb l[i] ∨ c[i] = 4) → gy (l.map fm) c = true := by
    intro l
    induction l with
    | nil => intro c _ hc _; have : c = [] := List.length_eq_zero_iff.1 hc; subst this; rfl
    | cons a l ih =>
      intro c ha hc hb
      cases c with
      | nil => simp at hc
      | cons b c =>
        have h1 := nG (ha a (List.mem_cons_self ..))
        have h2 : b < nb a ∨ b = 4 := hb 0 (by simp) (by simp)
        have h3 := BE ⟨nb a - 2, by omega⟩ ⟨b, by omega⟩ (by show b < nb a - 2 + 2 ∨ b = 4; omega)
        simp only [List.map_cons, gy]
        have e : fm a = 2 ^ (nb a - 2 + 2) + 15 := by unfold fm; rw [show nb a - 2 + 2 = nb a by omega]
        rw [e, h3, Bool.true_and]
        exact ih c (fun x hx => ha x (List.mem_cons_of_mem _ hx)) (by simpa using hc) (fun i h h2 => hb (i + 1) (by simpa using h) (by simpa using h2))
  exact key s.b_ c (fun a ha => uN hS ha) h.1 h.2
theorem Ak {s : ab} {e : aY} (hs : aU s) (hE : ExP s e) : Cmb s (ig e) := by
  refine ⟨by simp [ig]; exact hE.2.1, fun i h h2 => ?_⟩
  have hi : i < e.o_.length := by simpa [ig] using h
  obtain ⟨_, b1, b2, _⟩ := BV hs hE hi
  have : (ig e)[i] = pL e.o_[i] := by simp [ig]
  rw [this]
  unfold pL
  split <;> omega
theorem ud {s : ab} {t : ah} {e : aY} (hs : aU s) (hT : ip s t) (hE : ExP s e) {i : Nat} (hi : i < t.a_.length) (hl : (dT t i).q_ = true) : gy (V0 s t i) (ig e) = decide (i = mL s t e 32 0) := by
  have hc := Ak hs hE
  unfold V0
  rw [xc hT (ig e) 32 i (pM s) hi (by simp [pM]) hc.1, yk hT.1 hc, Bool.true_and]
  have := (Eo hs hT hE 32 i hi).trans (Ct hs hT hE hi hl)
  cases hh : onN s t (ig e) 32 i with
  | true => rw [hh] at this; symm; rw [decide_eq_true_eq]; exact this.1 rfl
  | false => rw [hh] at this; symm; rw [decide_eq_false_iff_not]; intro g; have := this.2 g; cases this
theorem xv {t : ah} (r : Nat) : ∀ n : Nat, (lvN t n).countP (fun j => decide (j = r)) = if r < n ∧ (dT t r).q_ = true then 1 else 0 := by
  intro n
  induction n with
  | zero => simp [lvN]
  | succ n ih =>
    unfold lvN
    rw [List.countP_append, ih]
    by_cases hl : (dT t n).q_ = true
    · rw [if_pos hl]
      by_cases hr : n = r
      · subst hr
        rw [if_neg (by omega), if_pos ⟨by omega, hl⟩]
        simp
      · by_cases h : r < n ∧ (dT t r).q_ = true
        · rw [if_pos h, if_pos ⟨by omega, h.2⟩]
          simp [hr]
        · rw [if_neg h, if_neg (fun g => h ⟨by omega, g.2⟩)]
          simp [hr]
    · rw [if_neg hl]
      by_cases h : r < n ∧ (dT t r).q_ = true
      · rw [if_pos h, if_pos ⟨by omega, h.2⟩]
        simp
      · rw [if_neg h, if_neg (fun g => h ⟨by
          rcases Nat.lt_or_ge r n with c | c
          · exact c
          · have : r = n := by omega
            subst this
            exact absurd g.2 hl, g.2⟩)]
        simp
theorem we {t : ah} {j : Nat} (h : j ∈ lv t) : j < t.a_.length ∧ (dT t j).q_ = true := wn h
theorem zM {s : ab} {t : ah} {e : aY} (hs : aU s) (hT : ip s t) (hE : ExP s e) : (lv t).countP (fun j => gy (V0 s t j) (ig e)) = 1 := by
  have hlen := hT.2.1
  have hz : 0 < t.a_.length := by omega
  obtain ⟨_, h1, h2⟩ := rv hs hT hE 32 32 0 hz (by omega) (by omega)
  have : (lv t).countP (fun j => gy (V0 s t j) (ig e)) = (lv t).countP (fun j => decide (j = mL s t e 32 0)) := by
    refine List.countP_congr fun j hj => ?_
    obtain ⟨a, b⟩ := we hj
    rw [ud hs hT hE a b]
  rw [this]
  unfold lv
  rw [xv, if_pos ⟨h1, h2⟩]
theorem Fh {s : ab} (hs : aU s) (hS : dv s) {c : List Nat} (h : Cmb s c) : ∃ e : aY, ExP s e ∧ ig e = c := by
  have hget : ∀ i (h : i < c.length), (c.map fun (b : Nat) => if b = 4 then (-1 : Int) else (b : Int))[i]'(by simpa using h) = if c[i] = 4 then (-1 : Int) else (c[i] : Int) := fun i h => by simp
  refine ⟨⟨c.map fun (b : Nat) => if b = 4 then (-1 : Int) else (b : Int), 0⟩, ⟨hS, by show (c.map _).length = _; rw [List.length_map]; exact h.1, ?_, ?_⟩, ?_⟩
  · show -1 ≤ (0 : Int) ∧ (0 : Int) ≤ _
    have := hS.2.1
    omega
  · intro i _ hi
    have hi' : i < c.length := by simpa using hi
    have hia : i < s.b_.length := by rw [← h.1]; exact hi'
    have hb := nG (hS.attr hia)
    refine ⟨nb s.b_[i], hia, kj (hs.1.2 _ (List.getElem_mem hia)), hb.2, fun _ => ?_⟩
    show -1 ≤ (c.map fun (b : Nat) => if b = 4 then (-1 : Int) else (b : Int))[i]'_ ∧ (c.map fun (b : Nat) => if b = 4 then (-1 : Int) else (b : Int))[i]'_ ≤ _
    rw [hget i hi']
    have := h.2 i hi' hia
    split <;> omega
  · unfold ig
    show (c.map fun (b : Nat) => if b = 4 then (-1 : Int) else (b : Int)).map pL = c
    rw [List.map_map]
    have : ∀ b ∈ c, (pL ∘ fun (b : Nat) => if b = 4 then (-1 : Int) else (b : Int)) b = b := fun b hb => by
      show pL (if b = 4 then (-1 : Int) else (b : Int)) = b
      by_cases h4 : b = 4
      · rw [if_pos h4, h4]; rfl
      · rw [if_neg h4]
        unfold pL
        rw [if_pos (by omega), Int.toNat_natCast]
    exact (List.map_congr_left this).trans (List.map_id' c)
theorem vx {s : ab} {t : ah} (hs : aU s) (hT : ip s t) : ((lv t).map fun j => sB (V0 s t j) (chs s)).sum = xn s := by
  have hcl : (chs s).length = s.b_.length := by simp [chs]
  have h1 : ((lv t).map fun j => sB (V0 s t j) (chs s)) = (lv t).map fun j => (mG (chs s)).countP (gy (V0 s t j)) := by
    refine List.map_congr_left fun j _ => ?_
    rw [wT _ _ (by rw [(CG t j).1, hcl])]
  rw [h1, zg (fun j c => gy (V0 s t j) c)]
  have h2 : ((mG (chs s)).map fun c => (lv t).countP (fun j => gy (V0 s t j) c)) = (mG (chs s)).map fun _ => 1 := by
    refine List.map_congr_left fun c hc => ?_
    obtain ⟨g1, g2⟩ := yl _ c hc
    have hC : Cmb s c := ⟨by rw [g1, hcl], fun i h h2 => by
      have := g2 i h (by omega)
      have e : (chs s)[i]'(by omega) = List.range (nb s.b_[i]) ++ [4] := by simp [chs]
      rw [e] at this
      rcases List.mem_append.1 this with m | m
      · exact .inl (List.mem_range.1 m)
      · exact .inr (List.mem_singleton.1 m)⟩
    obtain ⟨e, hE, he⟩ := Fh hs hT.1 hC
    rw [← he, zM hs hT hE]
  have h3 : ∀ l : List (List Nat), (l.map fun _ => 1).sum = l.length := by
    intro l
    induction l with
    | nil => rfl
    | cons x l ih => simp [ih]; omega
  rw [h2, h3, yf]
  rfl
theorem zP {s : ab} {t : ah} {e : aY} : ∀ (d i : Nat), ∃ l, lu s t e d i = l ++ [mL s t e d i] := by
  intro d
  induction d with
  | zero => intro i; exact ⟨[], rfl⟩
  | succ d ih =>
    intro i
    unfold lu mL
    split
    · exact ⟨[], rfl⟩
    · obtain ⟨l, hl⟩ := ih (nxt s t e i)
      exact ⟨i :: l, by rw [hl]; rfl⟩
theorem zy {s : ab} {t : ah} {e : aY} (hs : aU s) (ht : gp t) (hT : ip s t) (hE : ExP s e) : kX s t e = some (mL s t e 32 0 : Int) := by
  unfold kX oK
  rcases (uP hs ht).cases with ⟨e1, _⟩ | ⟨_, g⟩
  · rcases (vW (e := e) (iO hs)).cases with ⟨e2, _⟩ | ⟨_, g⟩
    · rw [e1, e2, (Dp hs hT hE).2]
      obtain ⟨l, hl⟩ := zP (s := s) (t := t) (e := e) 32 0
      have hp := us (s := s) (t := t) (e := e) 32 0
      rw [hl] at hp ⊢
      simp only [sS]
      have hlen : (eg (l ++ [mL s t e 32 0])).length = l.length + 1 := by simp [eg]
      have hll : l.length ≤ 32 := by simpa using hp
      rw [if_neg (by rw [hlen, beq_iff_eq]; omega), hlen, bp (by omega) (by omega), show ((l.length + 1 : Nat) : Int) - 1 = (l.length : Int) by omega, aV (by rw [hlen]; omega)]
      simp [eg]
    · exact absurd hE g
  · exact absurd hT g
end Go.Vk
/- FnWays answers true. -/
namespace Go.Vk
theorem CU {s : ab} {t : ah} (hs : aU s) (hT : ip s t) {i : Nat} (hi : i < t.a_.length) : Tot (kM s (gR s t i)) (fun x => x ≠ []) := by
  obtain ⟨h1, h2⟩ := AQ hs hT hi
  obtain ⟨v, _, e, g⟩ := xV hs h2 h1
  exact ⟨v, e, g⟩
def qu (p : Nat → Bool) (l : List Nat) : Int := l.foldl (fun acc j => if p j then (j : Int) else acc) (-1)
theorem xh (p : Nat → Bool) (l : List Nat) (j : Nat) : qu p (l ++ [j]) = if p j then (j : Int) else qu p l := by
  unfold qu
  rw [List.foldl_append]
  rfl
def pC (s : ab) (t : ah) (i : Nat) : Nat := (((lv t).take i).map fun j => sB (V0 s t j) (chs s)).sum
theorem DQ {s : ab} (hS : dv s) : xn s ≤ 3125 := by
  have key : ∀ l : List Nat, (∀ x ∈ l, x ≤ 5) → l.foldr (· * ·) 1 ≤ 5 ^ l.length := by
    intro l
    induction l with
    | nil => intro _; simp
    | cons x l ih =>
      intro h
      have h1 := h x (List.mem_cons_self ..)
      have h2 := ih (fun y hy => h y (List.mem_cons_of_mem _ hy))
      rw [List.foldr_cons, List.length_cons, Nat.pow_succ, Nat.mul_comm (5 ^ _) 5]
      exact Nat.mul_le_mul h1 h2
  have h5 := key ((chs s).map List.length) (fun x hx => by
    obtain ⟨C, hC, rfl⟩ := List.mem_map.1 hx
    obtain ⟨a, ha, rfl⟩ := List.mem_map.1 hC
    have := (nG (uN hS ha)).2
    simp
    omega)
  have hl : ((chs s).map List.length).length ≤ 5 := by
    have := hS.1
    simp [chs]
    omega
  have : (5 : Nat) ^ ((chs s).map List.length).length ≤ 5 ^ 5 := Nat.pow_le_pow_right (by omega) hl
  unfold xn
  omega
theorem zm {s : ab} {t : ah} (hs : aU s) (hT : ip s t) (i : Nat) : pC s t i ≤ 3125 := by
  have h1 := vx hs hT
  have h2 := DQ hT.1
  have h3 : ((lv t).map fun j => sB (V0 s t j) (chs s)).sum = pC s t i + (((lv t).drop i).map fun j => sB (V0 s t j) (chs s)).sum := by
    unfold pC
    rw [← List.sum_append, ← List.map_append, List.take_append_drop]
  omega
theorem vK {s : ab} {t : ah} {e : aY} (hs : aU s) (ht : gp t) (hT : ip s t) (p : Nat → Bool) (hp : ∀ j ∈ lv t, iy s (gR s t j) e = some (p j)) :
    dL ((lv t).map (gR s t)) (s, t, e) be 0 ((lv t).map (gR s t)) 0 0 (-1) =
      (kY s e).bind fun a => if (!a) then some ((((lv t).countP p : Nat) : Int) == 0) else (if ((((lv t).countP p : Nat) : Int) == 1) then (kX s t e).bind fun c => some (qu p (lv t) == c) else some false).bind fun d => some d := by
  have hlen := rP t t.a_.length
  have hn := hT.2.1
  have hlv : (lv t).length ≤ 31 := by unfold lv; omega
  refine jT (Lp := fun k i => dL ((lv t).map (gR s t)) (s, t, e) k (i : Int) ((lv t).map (gR s t)) ((pC s t i : Nat) : Int) ((((lv t).take i).countP p : Nat) : Int) (qu p ((lv t).take i))) (n := (lv t).length) (fun k => ?_) (fun k i hi => ?_) (by omega)
  · show dL _ _ (k + 1) _ _ _ _ _ = _
    have hr : pC s t (lv t).length = xn s := by
      unfold pC
      rw [List.take_length]
      exact vx hs hT
    rw [dL, if_neg (by simp), hr, List.take_length]
    simp only
    rw [Cm hs hT.1, CQ hs hT.1, uG ht.1.1]
    simp only [Option.bind_some, bne_self_eq_false, Bool.false_eq_true, if_false]
    have hi : (eg (lv t)).length = (lv t).length := by simp [eg]
    rw [hi, List.length_map]
    simp only [Option.bind_some, bne_self_eq_false, Bool.false_eq_true, if_false]
  · show dL _ _ (k + 1) _ _ _ _ _ = dL _ _ k _ _ _ _ _
    have hm : (lv t)[i] ∈ lv t := List.getElem_mem hi
    obtain ⟨hj, _⟩ := we hm
    have hi2 : i < ((lv t).map (gR s t)).length := by simpa using hi
    have hg : ((lv t).map (gR s t))[i] = gR s t (lv t)[i] := by simp
    have hset : ((lv t).map (gR s t)).set (i : Int).toNat (gR s t (lv t)[i]) = (lv t).map (gR s t) := by
      rw [Int.toNat_natCast, ← hg]
      exact List.set_getElem_self hi2
    have hr1 := zm hs hT (i + 1)
    have hr : pC s t (i + 1) = pC s t i + sB (V0 s t (lv t)[i]) (chs s) := by
      unfold pC
      rw [List.take_succ_eq_append_getElem hi, List.map_append, List.sum_append]
      simp
    have hc : ((lv t).take (i + 1)).countP p = ((lv t).take i).countP p + if p (lv t)[i] then 1 else 0 := by
      rw [List.take_succ_eq_append_getElem hi, List.countP_append]
      simp [List.countP_cons]
    have hcl := List.countP_le_length (p := p) (l := (lv t).take i)
    rw [List.length_take] at hcl
    have hlf : qu p ((lv t).take (i + 1)) = if p (lv t)[i] then ((lv t)[i] : Int) else qu p ((lv t).take i) := by
      rw [List.take_succ_eq_append_getElem hi, xh]
    obtain ⟨x, ex, hx⟩ := CU hs hT hj
    rw [dL, if_pos (by simp; omega), aV hi2, hg]
    simp only [bS]
    rw [BL hs hT hj, tW hs hT hj, ex, hp _ hm]
    simp only [sS]
    rw [show (x == ([] : List UInt8)) = false by simpa using hx]
    simp only [sS]
    rw [hset, aG (by omega), ← Int.natCast_add, gM (by omega), ← hr, hc, hlf]
    cases p (lv t)[i] with
    | true =>
      simp only [if_true]
      rw [aG (by omega)]
      rfl
    | false =>
      simp only [Bool.false_eq_true, if_false, Nat.add_zero]
theorem zT {r : Nat} : ∀ l : List Nat, r ∈ l → qu (fun j => decide (j = r)) l = (r : Int) := by
  have key : ∀ (l : List Nat) (a : Int), (r ∈ l ∨ a = r) → l.foldl (fun acc j => if decide (j = r) = true then (j : Int) else acc) a = (r : Int) := by
    intro l
    induction l with
    | nil =>
      intro a h
      rcases h with h | h
      · cases h
      · exact h
    | cons x l ih =>
      intro a h
      rw [List.foldl_cons]
      refine ih _ ?_
      by_cases hx : x = r
      · right
        simp [hx]
      · rcases h with h | h
        · rcases List.mem_cons.1 h with h | h
          · exact absurd h.symm hx
          · exact .inl h
        · right
          simp [hx, h]
  exact fun l h => key l (-1) (.inl h)
theorem yj {p : List Int} : oy p = some true := by
  unfold oy ry
  simp only [bS]
  by_cases hp : p.length ≤ 1048576
  · rw [if_neg (by simp; omega)]
    have hd : Tot (kh p) (fun y => aU y.1 ∧ gp y.2.1) := by
      unfold kh
      exact (FU hp).bind fun c hc => (Bd hp hc).bind fun s hs => (Au hp hs.1 hs.2.1).bind fun t ht => (Dg hp ht.1 hs.2.1).bind fun e he => aE ⟨hs.2.1.1, ht.2.sml (by omega)⟩
    obtain ⟨⟨s, t, e⟩, ed, hs, ht⟩ := hd
    have hs : aU s := hs
    have ht : gp t := ht
    rw [ed]
    simp only [bS]
    rcases (od hs ht).cases with ⟨eT, hT⟩ | ⟨eT, hT⟩
    · rw [(zG hs ht hT).2, eT]
      simp only [sS]
      by_cases hE : ExP s e
      · have hlen := hT.2.1
        obtain ⟨_, h1, h2⟩ := rv hs hT hE 32 32 0 (by omega) (by omega) (by omega)
        have hcnt := xv (t := t) (mL s t e 32 0) t.a_.length
        rw [if_pos ⟨h1, h2⟩] at hcnt
        have hmem : mL s t e 32 0 ∈ lv t := by
          obtain ⟨x, hx, hx2⟩ := List.countP_pos_iff.1 (show 0 < (lvN t t.a_.length).countP (fun j => decide (j = mL s t e 32 0)) by omega)
          rw [decide_eq_true_eq] at hx2
          rw [← hx2]
          exact hx
        rw [vK hs ht hT (fun j => decide (j = mL s t e 32 0)) (fun j hj => by
          obtain ⟨a, b⟩ := we hj
          rw [zz hs hT hE a, ud hs hT hE a b])]
        rcases (sv (e := e) (iO hs)).cases with ⟨ee, _⟩ | ⟨_, g⟩
        · have hcnt : (lv t).countP (fun j => decide (j = mL s t e 32 0)) = 1 := hcnt
          rw [ee, hcnt, zT _ hmem, zy hs ht hT hE]
          simp
        · exact absurd hE g
      · rw [vK hs ht hT (fun _ => false) (fun j hj => BT hs hT hE (we hj).1)]
        rcases (sv (e := e) (iO hs)).cases with ⟨_, g⟩ | ⟨ee, _⟩
        · exact absurd g hE
        · rw [ee]
          simp
    · have : kx s t = some [] := by
        unfold kx
        rcases (uP hs ht).cases with ⟨_, g⟩ | ⟨e2, _⟩
        · exact absurd g hT
        · rw [e2]; rfl
      rw [this, eT]
      simp
  · rw [if_pos (by simp; omega)]
end Go.Vk
