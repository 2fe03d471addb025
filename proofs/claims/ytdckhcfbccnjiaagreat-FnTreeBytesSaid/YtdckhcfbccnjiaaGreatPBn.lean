/- Where a bin goes; the mask of a branch; the mask of all: alike. -/
import Derived.Test.YtdckhcfbccnjiaaGreatRX
import Derived.Test.YtdckhcfbccnjiaaGreatVkQ
namespace Go.Vk
def vL (a : bz) (f : au) (b : Int) : Int := if f.c_ = -1 then b else if 0 < a.A_.length then (if f.c_ < b then 1 else 0) else (if b = f.c_ then 0 else 1)
theorem rX {s : ae} {f : au} (hs : bK s) (h : pe s f) {b : Int} (hb : 0 ≤ b ∧ b ≤ (nb (atr s f) : Int) - 1) : kq s f b = some (vL (atr s f) f b) := by
  unfold kq vL
  have hm := hs.1.2 _ (sc h.2.1)
  have hA := rL h.1 h.2.1
  have hnb := tX hA
  rcases (kw (f := f) hs).cases with ⟨e, _⟩ | ⟨_, g⟩
  · rw [e]
    simp only [Option.bind_some, Bool.not_true, Bool.false_eq_true, if_false]
    rw [si h.2.1]
    simp only [bS]
    rw [nh hm hA]
    simp only [bS]
    rw [bg (by omega) (by omega)]
    rcases (cR (x := b) (a := 0) (b := (nb (atr s f) : Int) - 1)).cases with ⟨e, _⟩ | ⟨_, g⟩
    · rw [e]
      simp only [Option.bind_some, Bool.not_true, Bool.false_eq_true, if_false]
      by_cases h1 : f.c_ = -1
      · rw [if_pos (by simpa using h1), if_pos h1]
      · rw [if_neg (by simpa using h1), if_neg h1]
        unfold io
        by_cases h2 : 0 < (atr s f).A_.length
        · rw [if_pos (by simpa using h2), if_pos h2]
          by_cases h3 : f.c_ < b
          · rw [if_pos h3, if_pos (by simpa using h3)]; rfl
          · rw [if_neg h3, if_neg (by simpa using h3)]; rfl
        · rw [if_neg (by simpa using h2), if_neg h2]
          by_cases h3 : b = f.c_
          · rw [if_pos h3, if_neg (by simpa using h3)]; rfl
          · rw [if_neg h3, if_pos (by simpa using h3)]; rfl
    · exact absurd hb g
  · exact absurd h g
theorem wO {s : ae} {f : au} (hs : bK s) (h : pe s f) {b : Int} (hb : 0 ≤ b ∧ b ≤ (nb (atr s f) : Int) - 1) : oY s f b = some (vL (atr s f) f b) := by
  unfold oY vL
  have hm := hs.1.2 _ (sc h.2.1)
  have hA := rL h.1 h.2.1
  have hnb := tX hA
  rcases (AF (f := f) hs).cases with ⟨e, _⟩ | ⟨_, g⟩
  · rw [e]
    simp only [Option.bind_some, Bool.not_true, Bool.false_eq_true, if_false]
    rw [si h.2.1]
    simp only [bS]
    rw [pr hm]
    simp only [bS]
    rw [bg (by omega) (by omega)]
    rcases (kF (x := b) (a := 0) (b := (nb (atr s f) : Int) - 1)).cases with ⟨e, _⟩ | ⟨_, g⟩
    · rw [e]
      simp only [Option.bind_some, Bool.not_true, Bool.false_eq_true, if_false]
      by_cases h1 : f.c_ = -1
      · rw [if_pos (by simpa using h1), if_pos h1]
      · rw [if_neg (by simpa using h1), if_neg h1]
        by_cases h3 : b = f.c_
        · rw [if_pos (by simpa using h3)]
          simp only [Option.bind_some, if_true]
          have h4 : ¬ f.c_ < b := by omega
          rw [if_pos h3, if_neg h4, ite_self]
        · rw [if_neg (by simpa using h3), if_neg h3]
          simp only [bS]
          by_cases h2 : 0 < (atr s f).A_.length
          · rw [if_pos h2]
            by_cases h4 : f.c_ < b
            · rw [if_neg (by simp only [Bool.and_eq_true, decide_eq_true_eq]; omega), if_pos h4]
            · rw [if_pos (by simp only [Bool.and_eq_true, decide_eq_true_eq]; omega), if_neg h4]
          · rw [if_neg (by simp only [Bool.and_eq_true, decide_eq_true_eq]; omega), if_neg h2]
    · exact absurd hb g
  · exact absurd h g
end Go.Vk
/- A window in words: alike. -/
namespace Go.Vk
theorem zm {n : Nat} (hn : n ≤ 40) : jG (n : Int) = some ((2 ^ n : Nat) : Int) := by
  unfold jG
  have key : ∀ (d k i : Nat), i + d = n → d < k → fG (n : Int) k ((2 ^ i : Nat) : Int) (i : Int) = some ((2 ^ n : Nat) : Int) := by
    intro d
    induction d with
    | zero =>
      intro k i hd hk
      obtain ⟨k, rfl⟩ : ∃ q, k = q + 1 := ⟨k - 1, by omega⟩
      rw [fG]
      rw [if_neg (by simp; omega), show i = n by omega]
    | succ d ih =>
      intro k i hd hk
      obtain ⟨k, rfl⟩ : ∃ q, k = q + 1 := ⟨k - 1, by omega⟩
      rw [fG]
      have hp : (2 : Nat) ^ i ≤ 2 ^ 40 := Nat.pow_le_pow_right (by omega) (by omega)
      have e : IntKind.i64.wrap (((2 ^ i : Nat) : Int) * 2) = ((2 ^ (i + 1) : Nat) : Int) := by
        rw [Nat.pow_succ]
        generalize (2 : Nat) ^ i = q at hp
        rw [bg (by omega) (by omega)]; omega
      rw [if_pos (decide_eq_true (by omega)), e, aI (by omega)]
      exact ih k (i + 1) (by omega) (by omega)
  exact key n aY 0 (by omega) (dl (by omega))
def FB (p : aE) (i : Nat) : Prop := ∀ h : i < p.o_.length, (1 ≤ p.o_[i].length ∧ p.o_[i].length ≤ 3) ∧ ∀ x ∈ p.o_[i], 0 ≤ x ∧ x ≤ ((2 ^ i : Nat) : Int)
def EO (p : aE) : Prop := p.o_.length ≤ 8 ∧ ∀ i, i < p.o_.length → FB p i
theorem CE (p : aE) : Dec (lm p) (EO p) := by
  unfold lm EO
  by_cases h8 : p.o_.length ≤ 8
  · rw [if_neg (by simp; omega)]
    rcases th (Lp := fun k i => cy p k (i : Int)) (n := p.o_.length) (Q := FB p) (fin := some true) (bad := some false) (fun k _ => by
      show cy p (k + 1) _ = _
      rw [cy, if_neg (by simp)]) (fun k i hi _ => by
      show (_ ∧ cy p (k + 1) _ = cy p k _) ∨ (_ ∧ cy p (k + 1) _ = _)
      rw [cy, if_pos (by simp; omega), bc hi]
      unfold bd
      simp only [bS]
      by_cases hr : 1 ≤ p.o_[i].length ∧ p.o_[i].length ≤ 3
      · rw [if_neg (by simp; omega), vW (p := p.o_[i]) (P := fun x => 0 ≤ x ∧ x ≤ ((2 ^ i : Nat) : Int)) (fin := cy p k ((i + 1 : Nat) : Int)) (bad := some false) (fI p i (cy p k)) (fun k2 => by
          rw [fI, bc hi]
          simp only [bS]
          rw [if_neg (by simp), aI (by omega)]) (fun k2 j hj => by
          rw [fI, bc hi]
          simp only [bS]
          rw [if_pos (by simp; omega), bc hj, zm (by omega), aI (by omega)]
          unfold bd
          simp only [bS]
          generalize ((2 ^ i : Nat) : Int) = q
          by_cases hx : 0 ≤ p.o_[i][j] ∧ p.o_[i][j] ≤ q
          · rw [if_pos hx, if_neg (by simp; omega)]
          · rw [if_neg hx, if_pos (by simp; omega)]) (by omega)]
        by_cases hx : ∀ x ∈ p.o_[i], 0 ≤ x ∧ x ≤ ((2 ^ i : Nat) : Int)
        · rw [if_pos hx]; exact .inl ⟨fun _ => ⟨hr, hx⟩, rfl⟩
        · rw [if_neg hx]; exact .inr ⟨fun g => hx (g hi).2, rfl⟩
      · rw [if_pos (by simp; omega)]
        exact .inr ⟨fun g => hr (g hi).1, rfl⟩) (by omega) with ⟨h1, h2⟩ | ⟨h1, h2⟩
    · exact ⟨true, h2, by simp; exact ⟨h8, h1⟩⟩
    · exact ⟨false, h2, by simp only [Bool.false_eq_true, false_iff]; exact fun g => h1 g.2⟩
  · rw [if_pos (by simp; omega)]
    exact ⟨false, rfl, by simp; omega⟩
end Go.Vk
/- Scores: tested alike. -/
namespace Go.Vk
end Go.Vk
/- Scores: tested alike by the program. -/
namespace Go.Vk
end Go.Vk
/- Rules, members, forests, states: tested alike. -/
namespace Go.Vk
theorem AM (c y : Bool) : (if c = true then some y else some false : Option Bool) = some (c && y) := by cases c <;> rfl
theorem zw (o : Option Bool) : (o.bind fun y => some y) = o := by cases o <;> rfl
theorem CU {o k : Option Bool} {P Q : Prop} (h : Dec o P) (h' : P → Dec k Q) : Dec (o.bind fun y => if y = true then k else some false) (P ∧ Q) := h.and h'
def DN (r : cq) : Prop := (1 ≤ r.J_ ∧ r.J_ ≤ 9) ∧ (0 ≤ r.I_ ∧ r.I_ ≤ 999) ∧ (1 ≤ r.K_ ∧ r.K_ ≤ 200) ∧ (0 ≤ r.l_ ∧ r.l_ ≤ 6) ∧ (1 ≤ r.a_ ∧ r.a_ ≤ 31) ∧ (62 ≤ r.F_ ∧ r.F_ ≤ 2000)
theorem vw (r : cq) : Dec (kG r) (DN r) := by
  unfold kG bd DN
  simp only [Option.bind_some, AM]
  exact ⟨_, rfl, by simp [and_assoc]⟩
end Go.Vk
/- Subsets by their rank: alike. -/
namespace Go.Vk
def ch : Nat → Nat → Nat
  | _, 0 => 1
  | 0, _ + 1 => 0
  | n + 1, k + 1 => ch n k + ch n (k + 1)
theorem ux (n : Nat) : ch n 0 = 1 := by cases n <;> rfl
theorem xQ : ∀ {n k : Nat}, n < k → ch n k = 0
  | 0, k + 1, _ => rfl
  | n + 1, k + 1, h => by
    show ch n k + ch n (k + 1) = 0
    rw [xQ (by omega), xQ (by omega)]
theorem zl : ∀ n : Nat, ch n n = 1
  | 0 => rfl
  | n + 1 => by
    show ch n n + ch n (n + 1) = 1
    rw [zl n, xQ (by omega)]
theorem sk : ∀ n k : Nat, ch n k ≤ 2 ^ n
  | n, 0 => by rw [ux]; exact Nat.one_le_two_pow
  | 0, k + 1 => by simp [ch]
  | n + 1, k + 1 => by
    show ch n k + ch n (k + 1) ≤ 2 ^ (n + 1)
    have h1 := sk n k
    have h2 := sk n (k + 1)
    rw [Nat.pow_succ]; omega
theorem uu : ∀ n k : Nat, ch (n + 1) (k + 1) * (k + 1) = (n + 1) * ch n k
  | 0, 0 => rfl
  | 0, k + 1 => by
    show (ch 0 (k + 1) + ch 0 (k + 2)) * _ = _
    simp [ch]
  | n + 1, 0 => by
    have h := uu n 0
    show (ch (n + 1) 0 + ch (n + 1) 1) * 1 = _
    have h : ch (n + 1) 1 * 1 = (n + 1) * ch n 0 := h
    rw [ux] at h ⊢
    omega
  | n + 1, j + 1 => by
    have h1 := uu n j
    have h2 := uu n (j + 1)
    have hp : ch (n + 1) (j + 1) = ch n j + ch n (j + 1) := rfl
    show (ch (n + 1) (j + 1) + ch (n + 1) (j + 2)) * (j + 2) = (n + 2) * ch (n + 1) (j + 1)
    generalize ch (n + 1) (j + 2) = c at *
    generalize ch n j = a at *
    generalize ch n (j + 1) = b at *
    generalize ch (n + 1) (j + 1) = d at *
    subst hp
    rw [Nat.add_mul _ _ (j + 2)]
    have h3 : (a + b) * (j + 2) = (a + b) * (j + 1) + (a + b) := Nat.mul_succ _ _
    have h4 : c * (j + 2) = (n + 1) * b := h2
    have h5 : (n + 2) * (a + b) = (n + 1) * (a + b) + (a + b) := Nat.succ_mul _ _
    have h6 : (n + 1) * (a + b) = (n + 1) * a + (n + 1) * b := Nat.mul_add _ _ _
    omega
theorem CN {n k : Nat} (h : k ≤ n) : ch n (k + 1) * (k + 1) = ch n k * (n - k) := by
  have h1 := uu n k
  have h2 : ch (n + 1) (k + 1) = ch n k + ch n (k + 1) := rfl
  rw [h2, Nat.add_mul] at h1
  have h3 : ch n k * (n - k) + ch n k * (k + 1) = ch n k * (n + 1) := by rw [← Nat.mul_add]; congr 1; omega
  rw [Nat.mul_comm (n + 1)] at h1
  omega
def sr (n k : Int) : Nat := if (0 ≤ n ∧ n ≤ 20) ∧ 0 ≤ k ∧ k ≤ n then ch n.toNat k.toNat else 0
theorem uQ {n : Nat} (h : n ≤ 20) : 2 ^ n ≤ 1048576 := by
  have : (2 : Nat) ^ n ≤ 2 ^ 20 := Nat.pow_le_pow_right (by omega) h
  omega
theorem zf (n k : Int) : sr n k ≤ 1048576 := by
  unfold sr
  split
  · exact Nat.le_trans (sk _ _) (uQ (by omega))
  · omega
theorem zi (n k : Int) : mX n k = some (sr n k : Int) := by
  unfold mX sr
  rcases (kF (x := n) (a := 0) (b := 20)).cases with ⟨e, hn⟩ | ⟨e, hn⟩
  · rw [e]
    simp only [Option.bind_some, Bool.not_true, Bool.false_eq_true, if_false]
    rcases (kF (x := k) (a := 0) (b := n)).cases with ⟨e, hk⟩ | ⟨e, hk⟩
    · rw [e, if_pos ⟨hn, hk⟩]
      simp only [Option.bind_some, Bool.not_true, Bool.false_eq_true, if_false]
      obtain ⟨m, rfl⟩ : ∃ m : Nat, n = m := ⟨n.toNat, by omega⟩
      obtain ⟨j, rfl⟩ : ∃ j : Nat, k = j := ⟨k.toNat, by omega⟩
      simp only [Int.toNat_natCast]
      have h := xl (Lp := fun q i => fN (j : Int) (m : Int) q (i : Int) ((ch m i : Nat) : Int)) (n := j) (fin := some ((ch m j : Nat) : Int)) (fun q => by
        show fN (j : Int) (m : Int) (q + 1) _ _ = _
        rw [fN, if_neg (by simp)]) (fun q i hi => by
        show fN (j : Int) (m : Int) (q + 1) _ _ = fN (j : Int) (m : Int) q _ _
        have h1 := Nat.le_trans (sk m i) (uQ (by omega))
        have h2 := CN (n := m) (k := i) (by omega)
        have h3 : ch m i * (m - i) ≤ 1048576 * 20 := Nat.mul_le_mul h1 (by omega)
        have e1 : IntKind.i64.wrap ((m : Int) - (i : Int)) = ((m - i : Nat) : Int) := by rw [bg (by omega) (by omega)]; omega
        have e2 : IntKind.i64.wrap (((ch m i : Nat) : Int) * ((m - i : Nat) : Int)) = ((ch m i * (m - i) : Nat) : Int) := by rw [← Int.natCast_mul, fJ (by omega)]
        rw [fN, if_pos (by simp; omega), e1, e2, aI (by omega)]
        unfold quo
        rw [if_neg (by omega), vt, ← h2, Nat.mul_div_cancel _ (by omega)]
        have h4 := Nat.le_trans (sk m (i + 1)) (uQ (by omega))
        rw [fJ (by omega)]
        rfl) (by omega)
      rw [ux] at h
      exact h
    · rw [e, if_neg (fun g => hk g.2)]; rfl
  · rw [e, if_neg (fun g => hn g.1)]; rfl
theorem uw (n k : Int) : jF n k = some (sr n k : Int) := by
  unfold jF sr
  rcases (cR (x := n) (a := 0) (b := 20)).cases with ⟨e, hn⟩ | ⟨e, hn⟩
  · rw [e]
    simp only [Option.bind_some, Bool.not_true, Bool.false_eq_true, if_false]
    rcases (cR (x := k) (a := 0) (b := n)).cases with ⟨e, hk⟩ | ⟨e, hk⟩
    · rw [e, if_pos ⟨hn, hk⟩]
      simp only [Option.bind_some, Bool.not_true, Bool.false_eq_true, if_false]
      obtain ⟨m, rfl⟩ : ∃ m : Nat, n = m := ⟨n.toNat, by omega⟩
      obtain ⟨j, rfl⟩ : ∃ j : Nat, k = j := ⟨k.toNat, by omega⟩
      simp only [Int.toNat_natCast]
      refine xl (Lp := fun q i => cQ (m : Int) (j : Int) q ((List.range (i + 1)).map fun x => ((ch i x : Nat) : Int)) (i : Int)) (n := m) (fun q => ?_) (fun q i hi => ?_) (by omega)
      · show cQ (m : Int) (j : Int) (q + 1) _ _ = _
        rw [cQ, if_neg (by simp), bc (by simp; omega)]
        simp
      · show cQ (m : Int) (j : Int) (q + 1) _ _ = cQ (m : Int) (j : Int) q _ _
        rw [cQ, if_pos (by simp; omega)]
        generalize hrow : ((List.range (i + 1)).map fun x => ((ch i x : Nat) : Int)) = row
        have hlen : row.length = i + 1 := by rw [← hrow]; simp
        have hget : ∀ x (h : x < row.length), row[x] = ((ch i x : Nat) : Int) := fun x h => by
          have h' : x < i + 1 := by omega
          subst hrow; simp
        have key : ∀ (d q2 x : Nat), i + 1 - x = d → d < q2 → 1 ≤ x → x ≤ i + 1 → fM row (cQ (m : Int) (j : Int) q) (i : Int) q2 ((List.range x).map fun y => ((ch (i + 1) y : Nat) : Int)) (x : Int) = cQ (m : Int) (j : Int) q ((List.range (i + 2)).map fun x => ((ch (i + 1) x : Nat) : Int)) ((i + 1 : Nat) : Int) := by
          intro d
          induction d with
          | zero =>
            intro q2 x hd hq h1 hx
            obtain ⟨q2, rfl⟩ : ∃ y, q2 = y + 1 := ⟨q2 - 1, by omega⟩
            obtain rfl : x = i + 1 := by omega
            rw [fM, if_neg (by simp; omega), bL (by simp; omega), aI (by omega)]
            simp only [bS]
            rw [List.range_succ (n := i + 1), List.map_append]
            simp [zl]
          | succ d ih =>
            intro q2 x hd hq h1 hx
            obtain ⟨q2, rfl⟩ : ∃ y, q2 = y + 1 := ⟨q2 - 1, by omega⟩
            obtain ⟨z, rfl⟩ : ∃ z, x = z + 1 := ⟨x - 1, by omega⟩
            have hb1 := Nat.le_trans (sk i z) (uQ (by omega))
            have hb2 := Nat.le_trans (sk i (z + 1)) (uQ (by omega))
            have e1 : IntKind.i64.wrap (((z + 1 : Nat) : Int) - 1) = (z : Int) := by rw [bg (by omega) (by omega)]; omega
            rw [fM, if_pos (by simp; omega), e1, bc (by omega : z < row.length), bc (by omega : z + 1 < row.length), hget, hget]
            simp only [bS]
            rw [bL (by simp; omega), aI (by omega), bg (by omega) (by omega)]
            simp only [bS]
            have := ih q2 (z + 2) (by omega) (by omega) (by omega) (by omega)
            rw [← this, List.range_succ (n := z + 1), List.map_append]
            rfl
        have := key i aY 1 (by omega) (dl (by omega)) (Nat.le_refl _) (by omega)
        rw [← this]
        simp [List.range_succ, ux]
    · rw [e, if_neg (fun g => hk g.2)]; rfl
  · rw [e, if_neg (fun g => hn g.1)]; rfl
def qg (l : List Int) : Prop := l.length ≤ 20 ∧ ∀ x ∈ l, 0 ≤ x ∧ x ≤ 20
theorem xM {n k : Nat} {r : Int} (hn : n ≤ 20) (hk : k ≤ 20) (hr : 0 ≤ r ∧ r ≤ 1048576) : ox (jD n k r) (rj n k r) qg := by
  unfold jD rj
  have hb := zf n k
  rw [uw, zi]
  simp only [bS]
  rw [bg (by omega) (by omega)]
  refine yi cR kF (fun hin => ?_) (fun _ => pd ⟨by simp, fun x hx => by cases hx⟩)
  simp only [Bool.not_true, Bool.false_eq_true, if_false]
  have hkn : k ≤ n := by
    unfold sr at hin
    by_cases h : (0 ≤ (n : Int) ∧ (n : Int) ≤ 20) ∧ 0 ≤ (k : Int) ∧ (k : Int) ≤ n
    · omega
    · rw [if_neg h] at hin; omega
  have hin' : r < (ch n k : Nat) := by
    unfold sr at hin
    rw [if_pos ⟨by omega, by omega⟩] at hin
    simp only [Int.toNat_natCast] at hin
    omega
  have key : ∀ (d q q' x : Nat) (r : Int) (l : List Int), n - x = d → d < q → d < q' → x ≤ n → l.length ≤ k → 0 ≤ r → r < (ch (n - x) (k - l.length) : Nat) → (∀ y ∈ l, 0 ≤ y ∧ y ≤ 20) → ox (eX k n q r l x) (iM k n q' r l x) qg := by
    intro d
    induction d with
    | zero =>
      intro q q' x r l hd hq hq' hx hl h0 hr hy
      obtain ⟨q, rfl⟩ : ∃ y, q = y + 1 := ⟨q - 1, by omega⟩
      obtain ⟨q', rfl⟩ : ∃ y, q' = y + 1 := ⟨q' - 1, by omega⟩
      have hlk : l.length = k := by
        by_cases h : l.length < k
        · rw [hd, xQ (by omega)] at hr; omega
        · omega
      rw [eX, iM, if_neg (by simp; omega), if_neg (by simp; omega)]
      exact pd ⟨by omega, hy⟩
    | succ d ih =>
      intro q q' x r l hd hq hq' hx hl h0 hr hy
      obtain ⟨q, rfl⟩ : ∃ y, q = y + 1 := ⟨q - 1, by omega⟩
      obtain ⟨q', rfl⟩ : ∃ y, q' = y + 1 := ⟨q' - 1, by omega⟩
      rw [eX, iM]
      by_cases hlk : l.length < k
      · rw [if_pos (by simp; omega), if_pos (by simp; omega), uw, zi]
        simp only [bS]
        have e1 : IntKind.i64.wrap (IntKind.i64.wrap ((n : Int) - (x : Int)) - 1) = ((n - x - 1 : Nat) : Int) := by
          rw [bg (n := (n : Int) - (x : Int)) (by omega) (by omega), bg (by omega) (by omega)]; omega
        have e2 : IntKind.i64.wrap (IntKind.i64.wrap ((k : Int) - (l.length : Int)) - 1) = ((k - l.length - 1 : Nat) : Int) := by
          rw [bg (n := (k : Int) - (l.length : Int)) (by omega) (by omega), bg (by omega) (by omega)]; omega
        rw [e1, e2]
        obtain ⟨a, ha⟩ : ∃ a, n - x = a + 1 := ⟨n - x - 1, by omega⟩
        obtain ⟨b, hb2⟩ : ∃ b, k - l.length = b + 1 := ⟨k - l.length - 1, by omega⟩
        have ha' : n - x - 1 = a := by omega
        have hb' : k - l.length - 1 = b := by omega
        have hp : ch (n - x) (k - l.length) = ch a b + ch a (b + 1) := by rw [ha, hb2]; rfl
        have hz : sr (a : Int) (b : Int) = ch a b := by
          unfold sr
          by_cases hab : b ≤ a
          · rw [if_pos ⟨by omega, by omega⟩]; simp
          · rw [if_neg (by omega), xQ (by omega)]
        rw [ha', hb', hz]
        rw [hp] at hr
        have hle := Nat.le_trans (sk a b) (uQ (by omega))
        have hle2 := Nat.le_trans (sk a (b + 1)) (uQ (by omega))
        refine wv Iff.rfl (fun g => ?_) (fun g => ?_)
        · have g : r < (ch a b : Nat) := by simpa using g
          rw [bL (by simp; omega), aI (by omega)]
          simp only [bS]
          refine ih q q' (x + 1) r _ (by omega) (by omega) (by omega) (by omega) (by simp; omega) h0 ?_ (fun y hy2 => ?_)
          · rw [show n - (x + 1) = a by omega, show k - (l ++ [(x : Int)]).length = b by simp; omega]; exact g
          · rcases List.mem_append.1 hy2 with h | h
            · exact hy y h
            · rw [List.mem_singleton.1 h]; omega
        · have g : ¬ r < (ch a b : Nat) := by simpa using g
          rw [aI (by omega), bg (by omega) (by omega)]
          refine ih q q' (x + 1) _ l (by omega) (by omega) (by omega) (by omega) hl (by omega) ?_ hy
          rw [show n - (x + 1) = a by omega, hb2]; omega
      · rw [if_neg (by simp; omega), if_neg (by simp; omega)]
        exact pd ⟨by omega, hy⟩
  exact key n aY aY 0 r [] (by omega) (dl (by omega)) (dl (by omega)) (by omega) (by simp) hin.1 (by simpa using hin') (fun y hy => by cases hy)
end Go.Vk
/- A new state: alike. -/
namespace Go.Vk
def wL (s : ae) : ar := ⟨List.replicate s.n_.length 0, s.f_.map fun a => List.replicate (nb a * s.n_.length) 0⟩
theorem wS {s : ae} (hs : bK s) (hS : fj s) : gK s = some (wL s) := by
  unfold gK
  have hc := hS.2.1
  rcases (lG (mL hs)).cases with ⟨e, _⟩ | ⟨_, g⟩
  · rw [e]
    simp only [Option.bind_some, Bool.not_true, Bool.false_eq_true, if_false]
    rw [BN _ (by omega)]
    simp only [bS]
    refine qp (p := s.f_) (fun a => List.replicate (nb a * s.n_.length) (0 : Int)) (fL s (List.replicate s.n_.length 0)) (fun l => some ⟨List.replicate s.n_.length 0, l⟩) (fun k l => ?_) (fun k l i h hi => ?_) (by have := hS.1; omega)
    · rw [fL, if_neg (by simp)]
    · have hA := hs.1.2 _ (List.getElem_mem h)
      have hnb := tX (hS.attr h)
      have hm : nb s.f_[i] * s.n_.length ≤ 4 * 3 := Nat.mul_le_mul (by omega) (by omega)
      have hsl := hS.1
      rw [fL, if_pos (by simp; omega), bc h, aI (by omega)]
      simp only [bS]
      rw [nh hA (hS.attr h)]
      simp only [bS]
      rw [← Int.natCast_mul, fJ (by omega), BN _ (by omega)]
      simp only [bS]
      rw [bL (by simp; omega)]
      rfl
  · exact absurd hS g
theorem rr {α : Type} {f : α → Nat} {b : Nat} {l : List α} (h : ∀ x ∈ l, f x ≤ b) : (l.map f).sum ≤ b * l.length := by
  induction l with
  | nil => simp
  | cons x l ih =>
    have h1 := h x (by simp)
    have h2 := ih (fun y hy => h y (by simp [hy]))
    simp only [List.map_cons, List.sum_cons, List.length_cons, Nat.mul_succ]
    omega
end Go.Vk
/- Examples: tested alike. -/
namespace Go.Vk
def ExP (s : ae) (e : bB) : Prop := fj s ∧ e.w_.length = s.f_.length ∧ (-1 ≤ e.y_ ∧ e.y_ ≤ (s.n_.length : Int) - 1) ∧
  ∀ i, 0 ≤ i → i < e.w_.length → ∃ n : Nat, ∃ h : i < s.f_.length, jL s.f_[i] = some (n : Int) ∧ n ≤ 4 ∧ ∀ hb : i < e.w_.length, -1 ≤ e.w_[i] ∧ e.w_[i] ≤ (n : Int) - 1
theorem yo {s : ae} {e : bB} (hs : OkS s) (hS : fj s) (hl : e.w_.length = s.f_.length) : Dec (jr e s aY 0) (∀ i, 0 ≤ i → i < e.w_.length → ∃ n : Nat, ∃ h : i < s.f_.length, jL s.f_[i] = some (n : Int) ∧ n ≤ 4 ∧ ∀ hb : i < e.w_.length, -1 ≤ e.w_[i] ∧ e.w_[i] ≤ (n : Int) - 1) := by
  refine mB (Lp := jr e s) (n := e.w_.length) 0 (fun k i hi => ?_) (fun k i _ hi => ?_) (by have := hs.1; omega)
  · show (if _ then _ else _) = _
    rw [if_neg (by simp; omega)]
  · have ha : i < s.f_.length := by omega
    obtain ⟨n, b1, b2, _, b3⟩ := ww (hs.2.1 _ (List.getElem_mem ha)) (hS.2.2.2 i (Nat.zero_le _) ha ha).1
    rw [jr]
    rw [if_pos (by simp; omega), bc hi, bc ha, aI (by have := hs.1; omega)]
    simp only [bS]
    rw [b1]
    simp only [bS]
    rw [bg (by omega) (by omega)]
    unfold bd
    simp only [bS]
    by_cases hc : -1 ≤ e.w_[i] ∧ e.w_[i] ≤ (n : Int) - 1
    · rw [nA hc]
      exact .inl ⟨⟨n, ha, b2, b3, fun _ => hc⟩, rfl⟩
    · rw [oH hc]
      exact .inr ⟨fun ⟨n', _, b4, _, g⟩ => hc (by rw [b2] at b4; have := Option.some.inj b4; rw [this]; exact g hi), rfl⟩
theorem yv {s : ae} {e : bB} (hs : OkS s) (hS : fj s) (hl : e.w_.length = s.f_.length) : Dec (mG e s aY 0) (∀ i, 0 ≤ i → i < e.w_.length → ∃ n : Nat, ∃ h : i < s.f_.length, jL s.f_[i] = some (n : Int) ∧ n ≤ 4 ∧ ∀ hb : i < e.w_.length, -1 ≤ e.w_[i] ∧ e.w_[i] ≤ (n : Int) - 1) := by
  refine mB (Lp := mG e s) (n := e.w_.length) 0 (fun k i hi => ?_) (fun k i _ hi => ?_) (by have := hs.1; omega)
  · show (if _ then _ else _) = _
    rw [if_neg (by simp; omega)]
  · have ha : i < s.f_.length := by omega
    obtain ⟨n, b1, b2, _, b3⟩ := ww (hs.2.1 _ (List.getElem_mem ha)) (hS.2.2.2 i (Nat.zero_le _) ha ha).1
    rw [mG]
    rw [if_pos (by simp; omega), bc hi, bc ha, aI (by have := hs.1; omega)]
    simp only [bS]
    rw [b2]
    simp only [bS]
    rw [bg (by omega) (by omega)]
    unfold bQ
    simp only [bS]
    by_cases hc : -1 ≤ e.w_[i] ∧ e.w_[i] ≤ (n : Int) - 1
    · rw [nA hc]
      exact .inl ⟨⟨n, ha, b2, b3, fun _ => hc⟩, rfl⟩
    · rw [oH hc]
      exact .inr ⟨fun ⟨n', _, b4, _, g⟩ => hc (by rw [b2] at b4; have := Option.some.inj b4; rw [this]; exact g hi), rfl⟩
theorem wT {s : ae} {e : bB} (hs : OkS s) : Dec (mN s e) (ExP s e) := by
  unfold mN ExP
  rcases (lG hs).cases with ⟨e1, h⟩ | ⟨e1, h⟩
  · rw [e1]
    unfold bd
    simp only [Option.bind_some, Bool.not_true, Bool.false_or]
    by_cases hn : e.w_.length = s.f_.length
    · rw [if_neg (by simp [hn])]
      simp only [bS]
      rw [bg (by omega) (by have := hs.2.2.1; omega)]
      by_cases hc : -1 ≤ e.y_ ∧ e.y_ ≤ (s.n_.length : Int) - 1
      · rw [nA hc]
        simp only [Bool.not_true, Bool.false_eq_true, if_false]
        exact (yo hs h hn).of_iff ⟨fun g => ⟨h, hn, hc, g⟩, fun g => g.2.2.2⟩
      · rw [oH hc]
        exact dg fun g => hc g.2.2.1
    · rw [if_pos (by simp; omega)]
      exact dg fun g => hn g.2.1
  · rw [e1]
    exact dg fun g => h g.1
theorem Eg {s : ae} {e : bB} (hs : OkS s) : Dec (sB s e) (ExP s e) := by
  unfold sB ExP
  rcases (rK hs).cases with ⟨e1, h⟩ | ⟨e1, h⟩
  · rw [e1]
    unfold bQ
    simp only [Option.bind_some, Bool.not_true, Bool.false_or]
    by_cases hn : e.w_.length = s.f_.length
    · rw [if_neg (by simp [hn])]
      simp only [bS]
      rw [bg (by omega) (by have := hs.2.2.1; omega)]
      by_cases hc : -1 ≤ e.y_ ∧ e.y_ ≤ (s.n_.length : Int) - 1
      · rw [nA hc]
        simp only [Bool.not_true, Bool.false_eq_true, if_false]
        exact (yv hs h hn).of_iff ⟨fun g => ⟨h, hn, hc, g⟩, fun g => g.2.2.2⟩
      · rw [oH hc]
        exact dg fun g => hc g.2.2.1
    · rw [if_pos (by simp; omega)]
      exact dg fun g => hn g.2.1
  · rw [e1]
    exact dg fun g => h g.1
end Go.Vk
/- Entries: what the tests say. -/
namespace Go.Vk
theorem Cm {p q : List Int} (hp : p.length ≤ 1048576) : Dec (fx p q) (p = q) :=
  Ec (eF p q) rfl (fun k => by rw [eF, if_neg (by simp)]) (fun k i h1 h2 => by
    rw [eF, if_pos (by simp; omega), bc h1, bc h2, aI (by omega)]
    simp only [bS]
    by_cases h : p[i] = q[i]
    · rw [if_neg (by simp [h])]; exact .inl ⟨h, rfl⟩
    · rw [if_pos (by simpa using h)]; exact .inr ⟨h, rfl⟩) (by omega)
end Go.Vk
/- The path of an example: alike. -/
namespace Go.Vk
def vc (t : ai) (i : Nat) : aG := t.a_.getD i default
theorem ta {t : ai} {i : Nat} (h : i < t.a_.length) : vc t i = t.a_[i] := by unfold vc; simp [h]
def vM (l : List Nat) : List Int := l.map (fun (i : Nat) => (i : Int))
def vV (s : ae) (n : aG) (e : bB) : Int :=
  let b := e.w_.getD n.k_.j_.toNat 0
  if 0 ≤ b then vL (atr s n.k_) n.k_ b else n.x_
def nxt (s : ae) (t : ai) (e : bB) (i : Nat) : Nat := ((vc t i).t_.getD (vV s (vc t i) e).toNat 0).toNat
def mx (s : ae) (t : ai) (e : bB) : Nat → Nat → List Nat
  | 0, i => [i]
  | d + 1, i => if (vc t i).s_ = true then [i] else i :: mx s t e d (nxt s t e i)
theorem Eu {s : ae} {f : au} (_ : pe s f) {b : Int} (hb : 0 ≤ b ∧ b ≤ (nb (atr s f) : Int) - 1) : 0 ≤ vL (atr s f) f b ∧ vL (atr s f) f b ≤ (brN s f : Int) - 1 := by
  unfold vL brN
  split
  · omega
  · split <;> split <;> omega
theorem AO {s : ae} {f : au} {e : bB} (hs : bK s) (hE : ExP s e) (h : pe s f) : ∃ b, idx e.w_ f.j_ = some b ∧ b = e.w_.getD f.j_.toNat 0 ∧ -1 ≤ b ∧ b ≤ (nb (atr s f) : Int) - 1 := by
  obtain ⟨a, ha, ea, et⟩ := sG h.2.1
  have hl : a < e.w_.length := by have := hE.2.1; omega
  obtain ⟨n, h1, h2, _, h3⟩ := hE.2.2.2 a (Nat.zero_le _) hl
  have hn : nb s.f_[a] = n := by
    have := pr (hs.1.2 _ (List.getElem_mem ha))
    rw [h2] at this
    have := Option.some.inj this
    omega
  have h3 := h3 hl
  rw [ea, et, hn, bc hl, Int.toNat_natCast, oS hl]
  exact ⟨_, rfl, rfl, h3.1, h3.2⟩
theorem Dv {s : ae} {t : ai} {n : aG} {i : Nat} {e : bB} (hs : bK s) (hE : ExP s e) (h : yu s t i n) : ∃ k : Nat, vV s n e = k ∧ k < n.t_.length := by
  obtain ⟨b, _, hb, h1, h2⟩ := AO hs hE h.1
  unfold vV
  rw [← hb]
  have hk := h.2.1
  have hm := h.2.2.1
  by_cases h0 : 0 ≤ b
  · have := Eu h.1 ⟨h0, h2⟩
    show ∃ k : Nat, (if 0 ≤ b then _ else _) = (k : Int) ∧ _
    rw [if_pos h0]
    exact ⟨(vL (atr s n.k_) n.k_ b).toNat, by omega, by omega⟩
  · show ∃ k : Nat, (if 0 ≤ b then _ else _) = (k : Int) ∧ _
    rw [if_neg h0]
    exact ⟨n.x_.toNat, by omega, by omega⟩
theorem BF {s : ae} {t : ai} {e : bB} (hs : bK s) (hT : vf s t) (hE : ExP s e) {i : Nat} (hi : i < t.a_.length) (hL : t.a_[i].s_ = false) : ∃ (k : Nat) (hk : k < t.a_[i].t_.length) (hn : nxt s t e i < t.a_.length), vV s t.a_[i] e = k ∧ t.a_[i].t_[k] = (nxt s t e i : Int) ∧ i < nxt s t e i ∧ t.a_[nxt s t e i].p_ = i := by
  have hS := (hT.2.2.2 i hi hi).1.2.2.2.2.2 hL
  obtain ⟨k, hk, hkl⟩ := Dv hs hE hS
  obtain ⟨m, hm, h1, h2, h3⟩ := hS.2.2.2.2.2.2 _ (List.getElem_mem hkl)
  have hx : nxt s t e i = m := by
    unfold nxt
    rw [ta hi, hk, Int.toNat_natCast, oS hkl, h1, Int.toNat_natCast]
  rw [hx]
  exact ⟨k, hkl, hm, hk, h1, h2, h3⟩
theorem zJ {s : ae} {t : ai} {e : bB} (hs : bK s) (hT : vf s t) (hE : ExP s e) : ∀ (d k k' i : Nat) (pre : List Int), t.a_.length - i ≤ d → d < k → d < k' → i < t.a_.length → pre.length ≤ i →
    gv t e s k pre (i : Int) = some (pre ++ vM (mx s t e d i)) ∧ jQ t e s k' (pre ++ [(i : Int)]) = some (pre ++ vM (mx s t e d i), false) := by
  intro d
  have hlen := hT.2.1
  induction d with
  | zero => intro k k' i pre h1 h2 h3 h4; omega
  | succ d ih =>
    intro k k' i pre h1 h2 h3 hi hp
    obtain ⟨k, rfl⟩ : ∃ q, k = q + 1 := ⟨k - 1, by omega⟩
    obtain ⟨k', rfl⟩ : ∃ q, k' = q + 1 := ⟨k' - 1, by omega⟩
    have hlast : idx (pre ++ [(i : Int)]) (IntKind.i64.wrap (((pre ++ [(i : Int)]).length : Int) - 1)) = some (i : Int) := by
      rw [show ((pre ++ [(i : Int)]).length : Int) - 1 = (pre.length : Int) by simp, bg (by omega) (by omega), bc (by simp)]
      simp
    rw [gv, jQ, hlast]
    simp only [bS]
    rw [bc hi]
    simp only [Option.bind_some, mx]
    rw [ta hi]
    cases hL : t.a_[i].s_
    · simp only [Bool.not_false, Bool.false_eq_true, if_true, if_false]
      obtain ⟨j, hj, hn, ht, hk, hlt, _⟩ := BF hs hT hE hi hL
      have hS := (hT.2.2.2 i hi hi).1.2.2.2.2.2 hL
      obtain ⟨b, hb, hb2, hb3, hb4⟩ := AO hs hE hS.1
      rw [bL (by simp; omega), hb]
      simp only [bS]
      have htk : vV s t.a_[i] e = if 0 ≤ b then vL (atr s t.a_[i].k_) t.a_[i].k_ b else t.a_[i].x_ := by rw [hb2]; rfl
      obtain ⟨i1, i2⟩ := ih k k' (nxt s t e i) (pre ++ [(i : Int)]) (by omega) (by omega) (by omega) hn (by simp; omega)
      have hcons : pre ++ [(i : Int)] ++ vM (mx s t e d (nxt s t e i)) = pre ++ vM (i :: mx s t e d (nxt s t e i)) := by simp [vM]
      rw [hcons] at i1 i2
      have hJ : ∀ q : Int, q = vV s t.a_[i] e → mg t.a_[i] (pre ++ [(i : Int)]) (jQ t e s k') q = some (pre ++ vM (i :: mx s t e d (nxt s t e i)), false) := fun q hq => by
        unfold mg
        rw [hq, ht, bc hj, hk]
        simp only [bS]
        rw [bL (by simp; omega)]
        exact i2
      by_cases h0 : 0 ≤ b
      · rw [if_pos (by simpa using h0), if_pos (by simpa using h0), rX hs hS.1 ⟨h0, hb4⟩, wO hs hS.1 ⟨h0, hb4⟩]
        rw [if_pos h0] at htk
        simp only [bS]
        rw [← htk, ht, bc hj, hk]
        simp only [bS]
        exact ⟨i1, by rw [← ht]; exact hJ _ rfl⟩
      · rw [if_neg (by simpa using h0), if_neg (by simpa using h0)]
        rw [if_neg h0] at htk
        rw [← htk, ht, bc hj, hk]
        simp only [bS]
        exact ⟨i1, by rw [← ht]; exact hJ _ rfl⟩
    · simp only [Bool.not_true, Bool.false_eq_true, if_true, if_false]
      rw [bL (by simp; omega)]
      exact ⟨rfl, rfl⟩
theorem Fc {s : ae} {t : ai} {e : bB} (hs : bK s) (hT : vf s t) (hE : ExP s e) : nU s t e = some (vM (mx s t e 32 0)) ∧ ya s t e = some (vM (mx s t e 32 0), false) := by
  have hlen := hT.2.1
  obtain ⟨h1, h2⟩ := zJ hs hT hE 32 aY aY 0 [] (by omega) (dl (by omega)) (dl (by omega)) (by omega) (Nat.le_refl _)
  exact ⟨h1, h2⟩
theorem ye {s : ae} {t : ai} {e : bB} : ∀ d i, (mx s t e d i).length ≤ d + 1
  | 0, i => by simp [mx]
  | d + 1, i => by
    have := ye (s := s) (t := t) (e := e) d (nxt s t e i)
    simp only [mx]
    split
    · simp
    · simp only [List.length_cons]; omega
end Go.Vk
/- An example added: alike. -/
namespace Go.Vk
theorem tm {t : ar} (h : fo t) : lR t = some t ∧ ny t = some t := by
  have h1 := h.1.1
  have h2 := h.2.1
  unfold lR ny fO pX
  rw [bL (by simp; omega)]
  simp only [Option.bind_some, List.nil_append]
  constructor
  · have g := qp (p := t.b_) (fun x => x) (gY t t.d_) (fun l => some (ar.mk t.d_ l)) (fun k l => by rw [gY, if_neg (by simp)]) (fun k l i hi hl => by
      have := (h.2.2 _ (List.getElem_mem hi)).1
      rw [gY, if_pos (by simp; omega), bc hi, aI (by omega)]
      simp only [bS]
      rw [bL (by simp; omega)]
      simp only [bS]
      rw [bL (by simp; omega)]
      rfl) (by omega)
    simpa using g
  · have g := qp (p := t.b_) (fun x => x) (iW t.b_) some (fun k l => by rw [iW, if_neg (by simp)]) (fun k l i hi hl => by
      have := (h.2.2 _ (List.getElem_mem hi)).1
      rw [iW, if_pos (by simp; omega), bc hi, aI (by omega)]
      unfold fO
      simp only [bS]
      rw [bL (by simp; omega)]
      simp only [bS]
      rw [bL (by simp; omega)]
      rfl) (by omega)
    rw [g]
    simp
def oO (l : List Int) (n : Nat) : Prop := l.length = n ∧ ∀ x ∈ l, 0 ≤ x ∧ x ≤ 2000
theorem tI {l : List Int} {n i : Nat} {v : Int} (h : oO l n) (hv : 0 ≤ v ∧ v ≤ 2000) : oO (l.set i v) n := by
  refine ⟨by simp [h.1], fun x hx => ?_⟩
  rcases List.mem_or_eq_of_mem_set hx with hx | rfl
  · exact h.2 x hx
  · exact hv
theorem tJ {l : List Int} {n : Nat} (h : oO l n) (hn : n ≤ 1000) : oA l := ⟨by rw [h.1]; omega, fun x hx => by have := h.2 x hx; omega⟩
def BY (s : ae) (l : List (List Int)) : Prop := (l.length = 0 ∨ l.length = s.f_.length) ∧ ∀ i (h : i < l.length) (h2 : i < s.f_.length), oO l[i] (nb s.f_[i] * s.n_.length)
def uA (s : ae) (t : ar) : Prop := oO t.d_ s.n_.length ∧ BY s t.b_
theorem nbc {s : ae} (hS : fj s) {i : Nat} (h : i < s.f_.length) : nb s.f_[i] * s.n_.length ≤ 12 := by
  have h1 := (tX (hS.attr h)).2
  have h2 : s.n_.length ≤ 3 := by have := hS.2.1; omega
  calc _ ≤ 4 * 3 := Nat.mul_le_mul h1 h2
    _ = 12 := rfl
theorem BU {s : ae} {t : ar} (hs : bK s) (hS : fj s) (h : uA s t) : fo t := by
  have h2 : s.n_.length ≤ 3 := by have := hS.2.1; omega
  have h3 := hs.1.1
  refine ⟨tJ h.1 (by omega), by rcases h.2.1 with g | g <;> omega, fun x hx => ?_⟩
  obtain ⟨i, hi, rfl⟩ := List.getElem_of_mem hx
  have hi2 : i < s.f_.length := by rcases h.2.1 with g | g <;> omega
  exact tJ (h.2.2 i hi hi2) (by have := nbc hS hi2; omega)
theorem Bg {s : ae} : uA s (wL s) := by
  have hw : ∀ n, oO (List.replicate n 0) n := fun n => ⟨by simp, fun x hx => by rw [List.eq_of_mem_replicate hx]; omega⟩
  refine ⟨hw _, .inr (by simp [wL]), fun i h h2 => ?_⟩
  simp only [wL, List.getElem_map]
  exact hw _
theorem za {b n c k : Nat} (hb : b < n) (hk : k < c) : b * c + k < n * c := by
  calc b * c + k < b * c + c := by omega
    _ = (b + 1) * c := by rw [Nat.add_mul, Nat.one_mul]
    _ ≤ n * c := Nat.mul_le_mul_right c hb
theorem BG {s : ae} {t : ar} {e : bB} {w : Int} (hs : bK s) (hS : fj s) (ht : uA s t) : ox (iF s t e w) (rg s t e w) (fun y => uA s y.1) := by
  have hm := BU hs hS ht
  obtain ⟨c1, c2⟩ := tm hm
  unfold iF rg
  rw [c1, c2]
  simp only [bS]
  have bad : ox (some (t, false)) (some (t, false)) (fun y : ar × Bool => uA s y.1) := pd ht
  refine yi (jY hs hm) (Ar hs hm) (fun hP => ?_) (fun _ => by simp only [Option.bind_some, Bool.not_false, Bool.true_or, if_true]; exact bad)
  simp only [Bool.not_true, Bool.false_eq_true, if_false]
  rw [← ((wT (e := e) (mL hs)).eq (Eg (mL hs)))]
  rcases (wT (e := e) (mL hs)).cases with ⟨e1, hE⟩ | ⟨e1, _⟩
  · rw [e1]
    simp only [Option.bind_some, Bool.not_true, Bool.false_or]
    obtain ⟨hcl1, hcl2⟩ := hE.2.2.1
    by_cases hc : e.y_ < 0
    · rw [show (decide (e.y_ < 0)) = true by simpa using hc, show (e.y_ == -1) = true by simp; omega]
      simp only [Option.bind_some, if_true]
      exact bad
    · rw [show (decide (e.y_ < 0)) = false by simpa using hc, show (e.y_ == -1) = false by simp; omega]
      simp only [Bool.false_eq_true, if_false]
      rw [← ((cR (x := w) (a := 1) (b := 7)).eq kF)]
      rcases (cR (x := w) (a := 1) (b := 7)).cases with ⟨e2, hw⟩ | ⟨e2, _⟩
      · rw [e2]
        simp only [Option.bind_some, Bool.not_true, Bool.false_eq_true, if_false]
        have hsum := wC hS hP.2.1 hP.2.2.1
        rw [sW hs hm hP, xY (fun x hx => by have := hP.2.2.1 x hx; omega) hm.1.1]
        simp only [bS]
        obtain ⟨c, hcc⟩ : ∃ c : Nat, e.y_ = c := ⟨e.y_.toNat, by omega⟩
        have hcn : c < s.n_.length := by omega
        have hct : c < t.d_.length := by rw [ht.1.1]; exact hcn
        refine wv Iff.rfl (fun _ => bad) (fun _ => ?_)
        rw [hcc, bc hct]
        simp only [bS]
        have hx : 0 ≤ t.d_[c] ∧ t.d_[c] ≤ 999 := hP.2.2.1 _ (List.getElem_mem hct)
        have hT : oO (t.d_.set c (IntKind.i64.wrap (t.d_[c] + w))) s.n_.length := tI ht.1 (by rw [bg (by omega) (by omega)]; omega)
        have hlen := hm.2.1
        refine Bs (fun k l i => eR t e s w t.d_[c] k l i) (fun k l i => iL t e s w t.d_[c] k l i) t.b_.length
          (fun i a b => b = a ∧ a.length = t.b_.length ∧ BY s a ∧ ∀ j (h : j < a.length) (h2 : j < t.b_.length), i ≤ j → a[j] = t.b_[j]) (fun k a b h => ?_) (fun k a b i hi h hk => ?_) (by omega) ⟨rfl, rfl, ht.2, fun j h h2 _ => rfl⟩
        · obtain ⟨rfl, h1, h2, _⟩ := h
          rw [eR, iL, if_neg (by simp), if_neg (by simp), hcc]
          exact pd ⟨hT, h2⟩
        · obtain ⟨rfl, h1, h2, h3⟩ := h
          have hib : i < b.length := by omega
          have hia : i < s.f_.length := by have := ht.2.1; omega
          have hie : i < e.w_.length := by rw [hE.2.1]; exact hia
          have hcell := h2.2 i hib hia
          rw [eR, iL, if_pos (by simp; omega), if_pos (by simp; omega), bc hie, bc hib, aI (by omega)]
          simp only [bS]
          refine wv Iff.rfl (fun hb0 => ?_) (fun _ => hk _ _ ⟨rfl, h1, h2, fun j h h' hj => h3 j h h' (by omega)⟩)
          have hb0 : 0 ≤ e.w_[i] := by simpa using hb0
          obtain ⟨n, hia2, hn1, hn2, hn3⟩ := hE.2.2.2 i (Nat.zero_le _) hie
          have hn : nb s.f_[i] = n := by
            have := pr (hs.1.2 _ (List.getElem_mem hia))
            rw [hn1] at this
            have := Option.some.inj this
            omega
          have hn3 := (hn3 hie).2
          obtain ⟨q, hq⟩ : ∃ q : Nat, e.w_[i] = q := ⟨e.w_[i].toNat, by omega⟩
          have hqc : q * s.n_.length + c < b[i].length := by rw [hcell.1, hn]; exact za (by omega) hcn
          have d := nbc hS hia
          have hcl := hcell.1
          have hqn : q * s.n_.length ≤ 12 := by omega
          have hcx : b[i] = t.b_[i] := h3 i hib hi (Nat.le_refl _)
          have hcb : ∀ x ∈ b[i], 0 ≤ x ∧ x ≤ 999 := by
            rw [hcx]
            rcases hP.2.2.2.2 with g | ⟨_, g⟩
            · omega
            · exact (g i hi hia).2.1
          rw [hq, hcc, ← Int.natCast_mul, fJ (by omega), ← Int.natCast_add, fJ (by omega), bc hqc]
          simp only [bS]
          have hv := hcb _ (List.getElem_mem hqc)
          refine hk _ _ ⟨rfl, by simpa using h1, ⟨?_, fun j h h' => ?_⟩, fun j h h' hj => ?_⟩
          · simpa using h2.1
          · simp only [List.getElem_set, Int.toNat_natCast]
            split
            · rename_i hj
              subst hj
              exact tI hcell (by rw [bg (by omega) (by omega)]; omega)
            · exact h2.2 j (by simpa using h) h'
          · simp only [List.getElem_set, Int.toNat_natCast]
            rw [if_neg (by omega)]
            exact h3 j (by simpa using h) h' (by omega)
      · rw [e2]
        simp only [Option.bind_some, Bool.not_false, if_true]
        exact bad
  · rw [e1]
    simp only [Option.bind_some, Bool.not_false, Bool.true_or, if_true]
    exact bad
end Go.Vk
/- Natural numbers, fractions: they always answer. -/
namespace Go.Vk
abbrev T {α : Type} (o : Option α) : Prop := Tot o (fun _ => True)
theorem bw {α : Type} (v : α) : T (some v) := aD trivial
theorem Dec.t {o : Option Bool} {P : Prop} (h : Dec o P) : Tot o (fun b => b = true → P) := by
  obtain ⟨b, h1, h2⟩ := h
  exact ⟨b, h1, h2.1⟩
theorem jz {ρ : Type} {o : Option Bool} {P : Prop} (h : Tot o (fun b => b = true → P)) {g : Bool → Option ρ} {Q : ρ → Prop} (hf : Tot (g false) Q) (ht : P → Tot (g true) Q) : Tot (o.bind g) Q := by
  obtain ⟨b, rfl, hb⟩ := h
  cases b
  · exact hf
  · exact ht (hb rfl)
theorem jT {ρ : Type} {o : Option Bool} {P : Prop} (h : Tot o (fun b => b = true → P)) {f : Bool → Option ρ} {Q : ρ → Prop} (ht : Tot (f true) Q) (hf : P → Tot (f false) Q) : Tot ((o.bind fun y => some (!y)).bind f) Q := by
  obtain ⟨b, rfl, hb⟩ := h
  cases b
  · exact ht
  · exact hf (hb rfl)
theorem qT (p : List Int) : Tot (jE p) (fun b => b = true → p.length ≤ 16) := by
  unfold jE
  refine bl (fun _ => aD (by simp)) (fun h => ?_)
  have h : p.length ≤ 16 := by simp at h; omega
  refine cD (fun k (_ : Unit) i => fU p k i) p.length (fun _ _ => True) (fun k _ _ => ?_) (fun k _ i hi _ hk => ?_) (by omega) (s := ()) trivial
  · show Tot (fU p (k + 1) _) _
    rw [fU, if_neg (by simp)]
    refine Tot.bind (P := fun _ => True) (bl (fun _ => aD trivial) (fun h0 => ?_)) (fun _ _ => aD (fun _ => h))
    have h0 : p.length ≠ 0 := by simpa using h0
    rw [bg (by omega) (by omega)]
    exact (iz ⟨by omega, by omega⟩).bind fun _ _ => aD trivial
  · show Tot (fU p (k + 1) _) _
    rw [fU, if_pos (by simp; omega), bc hi, aI (by omega)]
    simp only [bS]
    refine jz cR.t (by simp only [sS]; exact aD (by simp)) (fun _ => ?_)
    simp only [sS]
    exact hk () trivial
theorem Ba {p : List Int} (hp : p.length ≤ 1000) : Tot (lL p) (fun l => l.length ≤ p.length) := by
  unfold lL
  have key : ∀ (n k : Nat), n ≤ p.length → n < k → Tot (gZ p k (n : Int)) (fun l => l.length ≤ p.length) := by
    intro n
    induction n with
    | zero =>
      intro k hn hk
      obtain ⟨k, rfl⟩ : ∃ q, k = q + 1 := ⟨k - 1, by omega⟩
      rw [gZ, if_neg (by simp)]
      simp only [sS]
      refine (pQ ⟨by omega, by omega, by omega⟩).bind fun l hl => ?_
      subst hl
      refine (lf (by simp)).bind fun l hl => aD ?_
      subst hl
      simp
    | succ n ih =>
      intro k hn hk
      obtain ⟨k, rfl⟩ : ∃ q, k = q + 1 := ⟨k - 1, by omega⟩
      rw [gZ, if_pos (by simp), bg (by omega) (by omega), show ((n + 1 : Nat) : Int) - 1 = (n : Int) by omega, bc (show n < p.length by omega)]
      simp only [sS]
      refine bl (fun _ => ih k (by omega) (by omega)) (fun _ => ?_)
      refine (pQ ⟨by omega, by omega, by omega⟩).bind fun l hl => ?_
      subst hl
      refine (lf (by simp; omega)).bind fun l hl => aD ?_
      subst hl
      simp; omega
  exact key p.length aY (Nat.le_refl _) (dl (by omega))
theorem qz (a b : List Int) : Tot (jq a b) (fun y => y.1.length ≤ 16) := by
  unfold jq
  have bad : Tot (some (([] : List Int), false)) (fun y => y.1.length ≤ 16) := aD (by simp)
  refine jz (qT a) (by simp only [sS]; exact bad) (fun ha => ?_)
  simp only [sS]
  refine jT (qT b) (by simp only [sS]; exact bad) (fun hb => ?_)
  simp only [sS]
  rw [bg (n := (a.length : Int) + b.length) (by omega) (by omega), bg (by omega) (by omega)]
  refine (yt ⟨by omega, by omega⟩).bind fun l hl => ?_
  subst hl
  refine cD (ft a b) a.length (fun _ l => l.length = a.length + b.length + 1) (fun k l hl => ?_) (fun k l i hi hl hk => ?_) (by omega) (by simp; omega)
  · rw [ft, if_neg (by simp)]
    refine (Ba (by omega)).bind fun l2 hl2 => bl (fun _ => bad) (fun h => aD ?_)
    simp at h
    show l2.length ≤ 16
    omega
  · rw [ft, if_pos (by simp; omega)]
    refine cD (fun k2 (σ : List Int × Int) j => fq b i a (ft a b k) k2 σ.1 σ.2 j) b.length (fun _ σ => σ.1.length = a.length + b.length + 1) (fun k2 σ hσ => ?_) (fun k2 σ j hj hσ hk2 => ?_) (by omega) (s := (l, 0)) hl
    · show Tot (fq _ _ _ _ (k2 + 1) _ _ _) _
      rw [fq, if_neg (by simp), bg (n := (i : Int) + b.length) (by omega) (by omega), show (i : Int) + (b.length : Int) = ((i + b.length : Nat) : Int) by omega, bc (show i + b.length < σ.1.length by omega), aI (by omega)]
      simp only [bS]
      exact hk _ (by simpa using hσ)
    · show Tot (fq _ _ _ _ (k2 + 1) _ _ _) _
      rw [fq, if_pos (by simp; omega), bg (n := (i : Int) + j) (by omega) (by omega), show (i : Int) + (j : Int) = ((i + j : Nat) : Int) by omega, bc (show i + j < σ.1.length by omega), bc hi, bc hj, aI (i := j) (by omega)]
      simp only [bS]
      exact hk2 (_, _) (by simpa using hσ)
theorem yp (p : List Int) {i : Int} (h : 0 ≤ i) : T (kQ p i) := by
  unfold kQ
  exact bl (fun g => (iz ⟨h, by simpa using g⟩).bind fun _ _ => bw _) (fun _ => bw _)
theorem vb (a b : List Int) : T (kO a b) := by
  unfold kO
  refine jz (qT a) (by simp only [sS]; exact bw _) (fun ha => ?_)
  simp only [sS]
  refine jT (qT b) (by simp only [sS]; exact bw _) (fun hb => ?_)
  simp only [sS]
  have hm : Tot (oo (a.length : Int) b.length) (fun m => ∃ n : Nat, m = n ∧ n ≤ 16) := by
    unfold oo
    exact bl (fun _ => aD ⟨_, rfl, by omega⟩) (fun _ => aD ⟨_, rfl, by omega⟩)
  refine hm.bind fun m hm => ?_
  obtain ⟨n, rfl, hn⟩ := hm
  rw [bg (by omega) (by omega)]
  have key : ∀ (n k : Nat), n ≤ 16 → n < k → T (hH a b k ((n : Int) - 1)) := by
    intro n
    induction n with
    | zero =>
      intro k _ hk
      obtain ⟨k, rfl⟩ : ∃ q, k = q + 1 := ⟨k - 1, by omega⟩
      rw [hH, if_neg (by simp)]
      exact bw _
    | succ n ih =>
      intro k hn hk
      obtain ⟨k, rfl⟩ : ∃ q, k = q + 1 := ⟨k - 1, by omega⟩
      rw [show ((n + 1 : Nat) : Int) - 1 = (n : Int) by omega, hH, if_pos (by simp), bg (by omega) (by omega)]
      refine (yp a (by omega)).bind fun _ _ => (yp b (by omega)).bind fun _ _ => ?_
      exact bl (fun _ => bw _) (fun _ => bl (fun _ => bw _) (fun _ => ih k (by omega) (by omega)))
  exact key n aY hn (dl (by omega))
theorem AT (a b : List Int) : T (nm a b) := by
  unfold nm
  refine jz (qT a) (by simp only [sS]; exact bw _) (fun ha => ?_)
  simp only [sS]
  refine jT (qT b) (by simp only [sS]; exact bw _) (fun hb => ?_)
  simp only [sS]
  refine Tot.bind (P := fun _ => True) ((vb a b).bind fun _ _ => bw _) (fun u _ => bl (fun _ => bw _) (fun _ => ?_))
  refine cD (fun k (σ : List Int × Int) i => dY a b k σ.1 σ.2 i) a.length (fun i σ => σ.1.length = i) (fun k σ h => ?_) (fun k σ i hi h hk => ?_) (by omega) (s := ([], 0)) rfl
  · show Tot (dY _ _ (k + 1) _ _ _) _
    rw [dY, if_neg (by simp)]
    exact (Ba (by omega)).bind fun _ _ => bw _
  · show Tot (dY _ _ (k + 1) _ _ _) _
    rw [dY, if_pos (by simp; omega), bc hi]
    simp only [bS]
    refine (yp b (by omega)).bind fun _ _ => ?_
    unfold kN
    rw [aI (by omega)]
    refine bl (fun _ => ?_) (fun _ => ?_)
    · exact (lf (by simp; omega)).bind fun l hl => hk (_, _) (by subst hl; simp; omega)
    · exact (lf (by simp; omega)).bind fun l hl => hk (_, _) (by subst hl; simp; omega)
theorem zA {n : Int} (h : n ≤ 9223372036854775807) : T (mJ n) := by
  unfold mJ
  refine bl (fun _ => bw _) (fun h0 => ?_)
  have h0 : 0 ≤ n := by simpa using h0
  have key : ∀ (d k : Nat) (n : Int) (l : List Int), 0 ≤ n → n < (16777216 : Int) ^ d → d ≤ 3 → d < k → l.length + d ≤ 100 → T (iD k n l) := by
    intro d
    induction d with
    | zero =>
      intro k n l h0 h1 _ hk hl
      obtain ⟨k, rfl⟩ : ∃ q, k = q + 1 := ⟨k - 1, by omega⟩
      rw [Int.pow_zero] at h1
      rw [iD, if_neg (by simp; omega)]
      exact bw _
    | succ d ih =>
      intro k n l h0 h1 hd hk hl
      obtain ⟨k, rfl⟩ : ∃ q, k = q + 1 := ⟨k - 1, by omega⟩
      rw [Int.pow_succ] at h1
      rw [iD]
      refine bl (fun _ => (lf (by simp; omega)).bind fun l2 hl2 => ?_) (fun _ => bw _)
      subst hl2
      have hb : (16777216 : Int) ^ d ≤ 16777216 ^ 2 := by
        rcases (show d = 0 ∨ d = 1 ∨ d = 2 by omega) with rfl | rfl | rfl <;> decide
      have hb2 : (16777216 : Int) ^ 2 = 281474976710656 := by decide
      rw [hb2] at hb
      have hq : Int.tdiv n 16777216 = n / 16777216 := Int.tdiv_eq_ediv_of_nonneg h0
      have hq1 : 0 ≤ n / 16777216 := by omega
      have hq2 : n / 16777216 < 16777216 ^ d := by
        generalize (16777216 : Int) ^ d = z at h1 hb
        omega
      rw [hq, bg (by omega) (by omega)]
      exact ih k _ _ hq1 hq2 (by omega) (by omega) (by simp; omega)
  exact key 3 aY n [] h0 (by have : (16777216 : Int) ^ 3 = 4722366482869645213696 := (by decide); omega) (by omega) (dl (by omega)) (by simp)
theorem pO {a b : Int} (ha : a ≤ 9223372036854775807) (hb : b ≤ 9223372036854775807) : T (fY a b) := by
  unfold fY
  exact (zA ha).bind fun _ _ => (zA hb).bind fun _ _ => (qz _ _).bind fun _ _ => bw _
def BB (f : aZ) : Prop := (0 ≤ f.u_ ∧ f.u_ ≤ 4000000000000000) ∧ 1 ≤ f.B_ ∧ f.B_ ≤ 4000000000000000
theorem ph (f : aZ) : Dec (iC f) (BB f) := by
  unfold iC BB
  simp only [zw]
  exact CU cR fun _ => cR
theorem pc (a b : aZ) : T (iv a b) := by
  unfold iv
  refine jz (ph a).t (by simp only [sS]; exact bw _) (fun ha => ?_)
  simp only [sS]
  refine jT (ph b).t (by simp only [sS]; exact bw _) (fun hb => ?_)
  simp only [sS]
  have := ha.1; have := ha.2; have := hb.1; have := hb.2
  exact (pO (by omega) (by omega)).bind fun _ _ => (pO (by omega) (by omega)).bind fun _ _ => (vb _ _).bind fun _ _ => bw _
theorem zO (a b : aZ) : T (mv a b) := by
  unfold mv
  refine jz (ph a).t (by simp only [sS]; exact bw _) (fun ha => ?_)
  simp only [sS]
  refine jT (ph b).t (by simp only [sS]; exact bw _) (fun hb => ?_)
  simp only [sS]
  have := ha.1; have := ha.2; have := hb.1; have := hb.2
  refine Tot.bind (P := fun _ => True) ((pc a b).bind fun _ _ => bw _) (fun u _ => bl (fun _ => bw _) (fun _ => ?_))
  exact (pO (by omega) (by omega)).bind fun _ _ => (pO (by omega) (by omega)).bind fun _ _ => (AT _ _).bind fun _ _ => (pO (by omega) (by omega)).bind fun _ _ => bw _
theorem EW {a b : Int} (ha : 0 ≤ a) (hb : 1 ≤ b) (hb2 : b ≤ 4000000000000000) : Tot (qq a b) (fun g => 1 ≤ g) := by
  unfold qq
  rw [if_neg (by simp; omega)]
  have key : ∀ (d k a b : Nat), 1 ≤ a + b → b < 2 ^ d → 2 * d + 1 < k → Tot (jt k (a : Int) (b : Int)) (fun g => 1 ≤ g) := by
    intro d
    induction d with
    | zero =>
      intro k a b h1 h2 hk
      obtain ⟨k, rfl⟩ : ∃ q, k = q + 1 := ⟨k - 1, by omega⟩
      rw [jt, if_neg (by simp; omega)]
      exact aD (by omega)
    | succ d ih =>
      intro k a b h1 h2 hk
      obtain ⟨k, rfl⟩ : ∃ q, k = q + 2 := ⟨k - 2, by omega⟩
      rw [jt]
      refine bl (fun h0 => ?_) (fun h0 => aD (by simp at h0; omega))
      have h0 : 0 < b := by simp at h0; omega
      have e1 : rem (a : Int) (b : Int) = some ((a % b : Nat) : Int) := by
        unfold rem
        rw [if_neg (by omega), Int.tmod_eq_emod_of_nonneg (by omega)]
        rfl
      rw [e1]
      simp only [bS]
      have hr := Nat.mod_lt a h0
      generalize a % b = r at hr
      rw [jt]
      refine bl (fun h3 => ?_) (fun _ => aD (by omega))
      have h3 : 0 < r := by simp at h3; omega
      have e2 : rem (b : Int) (r : Int) = some ((b % r : Nat) : Int) := by
        unfold rem
        rw [if_neg (by omega), Int.tmod_eq_emod_of_nonneg (by omega)]
        rfl
      rw [e2]
      simp only [bS]
      have hr2 := Nat.mod_lt b h3
      have hq : 1 ≤ b / r := Nat.div_pos (by omega) h3
      have hm := Nat.div_add_mod b r
      have hle : r ≤ r * (b / r) := Nat.le_mul_of_pos_right _ hq
      refine ih k r (b % r) (by omega) ?_ (by omega)
      rw [Nat.pow_succ] at h2
      omega
  have := key 60 aY a.toNat b.toNat (by omega) (by have : (2 : Nat) ^ 60 = 1152921504606846976 := (by decide); omega) (dl (by omega))
  rw [show ((a.toNat : Nat) : Int) = a by omega, show ((b.toNat : Nat) : Int) = b by omega] at this
  exact this
theorem Bm {k : IntKind} {x y : Int} (h : y ≠ 0) : T (quo k x y) := by
  unfold quo
  rw [if_neg h]
  exact bw _
theorem Ah (f : aZ) : T (mt f) := by
  unfold mt
  refine jz (ph f).t (by simp only [sS]; exact bw _) (fun h => ?_)
  simp only [sS]
  have := h.1; have := h.2
  exact (EW (by omega) (by omega) (by omega)).bind fun g hg => (Bm (by omega)).bind fun _ _ => (Bm (by omega)).bind fun _ _ => bw _
theorem BP {l : List Int} (h : l.length ≤ 1048576) : T (ka l) := by
  unfold ka
  refine cD (gX l) l.length (fun _ _ => True) (fun k s _ => ?_) (fun k s i hi _ hk => ?_) (by omega) trivial
  · rw [gX, if_neg (by simp)]
    exact bw _
  · rw [gX, if_pos (by simp; omega), bc hi, aI (by omega)]
    exact hk _ trivial
theorem wi (l : List Int) : T (lg l) := by
  unfold lg
  refine bl (fun _ => bw _) (fun h => ?_)
  have h : l.length ≤ 3 := by simp at h; omega
  refine cD (gn l) l.length (fun _ _ => True) (fun k s _ => ?_) (fun k s i hi _ hk => ?_) (by omega) trivial
  · rw [gn, if_neg (by simp)]
    exact bw _
  · rw [gn, if_pos (by simp; omega), bc hi, aI (by omega)]
    simp only [bS]
    refine jz cR.t (by simp only [sS]; exact bw _) (fun _ => ?_)
    simp only [sS]
    exact hk _ trivial
end Go.Vk
/- Merits of forks: they always answer. -/
namespace Go.Vk
theorem vZ {s : ae} {t : ar} {f : au} (hs : bK s) (ht : fo t) (i : Int) : Tot (ic s t f i) (fun l => l.length = 0 ∨ l.length = s.n_.length ∧ fj s) := by
  unfold ic
  have bad : Tot (some ([] : List Int)) (fun l => l.length = 0 ∨ l.length = s.n_.length ∧ fj s) := aD (.inl rfl)
  refine jz (jY hs ht).t (by simp only [sS]; exact bad) (fun hP => ?_)
  simp only [sS]
  by_cases hc : t.b_.length = 0
  · rw [show ((t.b_.length : Int) == 0) = true by simpa using hc]
    simp only [sS]
    exact bad
  rw [show ((t.b_.length : Int) == 0) = false by simpa using hc]
  simp only [sS]
  refine jT (kw hs).t (by simp only [sS]; exact bad) (fun hF => ?_)
  simp only [sS]
  rw [la hs hF]
  simp only [bS]
  refine jT cR.t (by simp only [sS]; exact bad) (fun _ => ?_)
  simp only [sS]
  have hS := hP.1
  have hcl := hS.2.1
  refine (yt ⟨by omega, by omega⟩).bind fun l0 hl0 => ?_
  have hl0 : l0.length = s.n_.length := by rw [hl0]; simp
  obtain ⟨a, ha, ea, et⟩ := sG hF.2.1
  have hA := hs.1.2 _ (List.getElem_mem ha)
  have hn := tX (hS.attr ha)
  have hC : t.b_.length = s.f_.length := by rcases hP.2.2.2.2 with g | g; omega; exact g.1
  have hcell : ve s.n_.length (nb s.f_[a]) t.d_ t.b_[a] := by
    rcases hP.2.2.2.2 with g | g
    · omega
    · exact g.2 a (by omega) ha
  refine cD (fun k (l : List Int) b => cl s f i l0 t k b l) (nb s.f_[a]) (fun _ l => l.length = s.n_.length) (fun k l hl => ?_) (fun k l b hb hl hk => ?_) (by omega) hl0
  · show Tot (cl _ _ _ _ _ (k + 1) _ _) _
    rw [cl, ea, bc ha]
    simp only [bS]
    rw [nh hA (hS.attr ha)]
    simp only [bS]
    rw [if_neg (by simp)]
    exact aD (.inr ⟨hl, hS⟩)
  · show Tot (cl _ _ _ _ _ (k + 1) _ _) _
    rw [cl, ea, bc ha]
    simp only [bS]
    rw [nh hA (hS.attr ha)]
    simp only [bS]
    rw [if_pos (by simp; omega), rX hs hF (b := (b : Int)) ⟨by omega, by rw [et]; omega⟩, aI (by omega)]
    simp only [bS]
    refine bl (fun _ => ?_) (fun _ => hk _ hl)
    refine cD (fun k2 (l2 : List Int) j => cX l0 t f b s (cl s f i l0 t k) k2 j l2) s.n_.length (fun _ l2 => l2.length = s.n_.length) (fun k2 l2 h2 => ?_) (fun k2 l2 j hj h2 hk2 => ?_) (by omega) hl
    · show Tot (cX _ _ _ _ _ _ (k2 + 1) _ _) _
      rw [cX, hl0, if_neg (by simp), aI (by omega)]
      exact hk _ h2
    · show Tot (cX _ _ _ _ _ _ (k2 + 1) _ _) _
      have hm : b * s.n_.length ≤ 12 := by
        calc b * s.n_.length ≤ 4 * 3 := Nat.mul_le_mul (by omega) (by omega)
          _ = 12 := rfl
      have hat : b * s.n_.length + j < t.b_[a].length := by rw [hcell.1]; exact za hb hj
      rw [cX, hl0, if_pos (by simp; omega), bc (show j < l2.length by omega), ea, bc (show a < t.b_.length by omega)]
      simp only [bS]
      rw [← Int.natCast_mul, fJ (by omega), ← Int.natCast_add, fJ (by omega), bc hat, aI (by omega)]
      simp only [bS]
      exact hk2 _ (by simpa using h2)
theorem zj {s : ae} {t : ar} {f : au} (hs : bK s) (ht : fo t) : T (mQ s t f) := by
  unfold mQ
  refine jz (jY hs ht).t (by simp only [sS]; exact bw _) (fun hP => ?_)
  simp only [sS]
  by_cases hc : t.b_.length = 0
  · rw [show ((t.b_.length : Int) == 0) = true by simpa using hc]
    simp only [sS]
    exact bw _
  rw [show ((t.b_.length : Int) == 0) = false by simpa using hc]
  simp only [sS]
  refine jT (kw hs).t (by simp only [sS]; exact bw _) (fun hF => ?_)
  simp only [sS]
  have hcl := hP.1.2.1
  refine (yt ⟨by omega, by omega⟩).bind fun l0 hl0 => ?_
  have hl0 : l0.length = s.n_.length := by rw [hl0]; simp
  have hbr := AU hF
  refine cD (fun k (σ : List Int × List Int × List Int) i => eL s f t k i σ.1 σ.2.1 σ.2.2) (brN s f) (fun i σ => σ.1.length = s.n_.length ∧ σ.2.2.length = σ.2.1.length ∧ σ.2.1.length ≤ i ∧ ∀ x ∈ σ.2.1, 0 < x) (fun k σ h => ?_) (fun k σ i hi h hk => ?_) (by omega) (s := (l0, [], [])) ⟨hl0, rfl, by simp, fun x hx => by cases hx⟩
  · obtain ⟨h1, h2, h3, h4⟩ := h
    show T (eL s f t (k + 1) _ _ _ _)
    rw [eL, la hs hF]
    simp only [bS]
    rw [if_neg (by simp)]
    refine (BP (by omega)).bind fun y _ => bl (fun _ => bw _) (fun _ => ?_)
    refine cD (iG σ.2.1 σ.2.2 y σ.1) σ.2.1.length (fun _ _ => True) (fun k3 z _ => ?_) (fun k3 z j hj _ hk3 => ?_) (by omega) trivial
    · rw [iG, if_neg (by simp)]
      refine cD (iB σ.2.1 σ.2.2 z y σ.1) σ.2.1.length (fun _ _ => True) (fun k4 v _ => ?_) (fun k4 v j hj _ hk4 => ?_) (by omega) trivial
      · rw [iB, if_neg (by simp)]
        exact (wi _).bind fun _ _ => (Ah _).bind fun _ _ => bw _
      · rw [iB, if_pos (by simp; omega), bc (show j < σ.2.2.length by omega), bc hj, aI (by omega)]
        simp only [bS]
        have := h4 _ (List.getElem_mem hj)
        exact (Bm (by omega)).bind fun _ _ => hk4 _ trivial
    · rw [iG, if_pos (by simp; omega), bc hj, aI (by omega)]
      exact hk3 _ trivial
  · obtain ⟨h1, h2, h3, h4⟩ := h
    show T (eL s f t (k + 1) _ _ _ _)
    rw [eL, la hs hF]
    simp only [bS]
    rw [if_pos (by simp; omega)]
    refine (vZ hs ht _).bind fun y hy => ?_
    have hyl : y.length ≤ s.n_.length := by rcases hy with g | g <;> omega
    refine cD (fun k2 (l2 : List Int) j => fS y σ.2.1 σ.2.2 (eL s f t k) i k2 j l2) y.length (fun _ l2 => l2.length = s.n_.length) (fun k2 l2 hl2 => ?_) (fun k2 l2 j hj hl2 hk2 => ?_) (by omega) h1
    · show T (fS _ _ _ _ _ (k2 + 1) _ _)
      rw [fS, if_neg (by simp), aI (by omega)]
      obtain ⟨v, hv, _⟩ := BP (l := y) (by omega)
      rw [hv]
      simp only [bS]
      refine bl (fun h0 => ?_) (fun _ => hk (_, _, _) ⟨hl2, h2, Nat.le_succ_of_le h3, h4⟩)
      refine (lf (by simp; omega)).bind fun l3 hl3 => (wi _).bind fun q _ => (lf (by simp; omega)).bind fun l4 hl4 => ?_
      subst hl3 hl4
      refine hk (_, _, _) ⟨hl2, by simp; omega, by simp; omega, fun x hx => ?_⟩
      rcases List.mem_append.1 hx with hx | hx
      · exact h4 x hx
      · rw [List.mem_singleton.1 hx]; simpa using h0
    · show T (fS _ _ _ _ _ (k2 + 1) _ _)
      rw [fS, if_pos (by simp; omega), bc (show j < l2.length by omega), bc hj, aI (by omega)]
      simp only [bS]
      exact hk2 _ (by simpa using hl2)
theorem Ap {s : ae} (hS : fj s) {a : Int} (ha : 0 ≤ a ∧ a ≤ (s.f_.length : Int) - 1) : sI s [a] := by
  refine ⟨hS, by simp, fun i _ hi h => ?_⟩
  have : i = 0 := by simp at hi; omega
  subst this
  exact ⟨ha, fun g => absurd g (by omega)⟩
theorem Dr {s : ae} {a : Int} {two : Bool} (hs : bK s) (hS : fj s) (ha : 0 ≤ a ∧ a ≤ (s.f_.length : Int) - 1) : Tot (kl s [a] two) (fun l => 1 ≤ l.length ∧ l.length ≤ 10) := by
  unfold kl
  rcases (nW (l := [a]) hs (by simp)).cases with ⟨e, _⟩ | ⟨_, g⟩
  · rw [e]
    simp only [sS]
    obtain ⟨j, rfl⟩ : ∃ j : Nat, a = j := ⟨a.toNat, by omega⟩
    have hjl : j < s.f_.length := by omega
    refine cD (da [(j : Int)] s two) 1 (fun i l => i ≤ l.length ∧ l.length ≤ 5 * i) (fun k l h => ?_) (fun k l i hi h hk => ?_) (by omega) ⟨by simp, by simp⟩
    · rw [da, if_neg (by simp)]
      exact aD (by omega)
    · have : i = 0 := by omega
      subst this
      have hl : l = [] := List.length_eq_zero_iff.1 (by omega)
      subst hl
      have e0 : idx [(j : Int)] ((0 : Nat) : Int) = some (j : Int) := by rw [bc (by simp)]; rfl
      rw [da, if_pos (by simp), e0]
      simp only [bS]
      rw [bc hjl]
      simp only [bS]
      refine bl (fun _ => ?_) (fun _ => ?_)
      · rw [bL (by simp), aI (by omega)]
        simp only [bS]
        refine hk _ ?_
        simp
      · have hF0 : pe s ⟨(j : Int), 0⟩ := by
          have hb := tX (hS.attr hjl)
          refine ⟨hS, by show 0 ≤ (j : Int) ∧ (j : Int) ≤ _; omega, ?_⟩
          have hat : atr s ⟨(j : Int), 0⟩ = s.f_[j] := by
            obtain ⟨i, hi, h1, h2⟩ := sG (s := s) (f := ⟨(j : Int), 0⟩) (by show 0 ≤ (j : Int) ∧ (j : Int) ≤ _; omega)
            have : j = i := by have h1 : (j : Int) = i := h1; omega
            subst this
            exact h2
          show -1 ≤ (0 : Int) ∧ (0 : Int) ≤ rD (atr s ⟨(j : Int), 0⟩)
          rw [hat]
          unfold rD
          split <;> omega
        refine cD (fun k2 l2 i2 => dc [(j : Int)] (0 : Nat) s (da [(j : Int)] s two k) k2 l2 i2) 4 (fun i2 l2 => l2.length ≤ i2 ∧ (1 ≤ i2 → 1 ≤ l2.length)) (fun k2 l2 h2 => ?_) (fun k2 l2 i2 hi2 h2 hk2 => ?_) (by omega) (s := []) ⟨by simp, fun h => absurd h (by omega)⟩
        · show Tot (dc _ _ _ _ (k2 + 1) _ _) _
          rw [dc, if_neg (by simp), aI (by omega)]
          have := h2.2 (by omega)
          exact hk _ ⟨by omega, by omega⟩
        · show Tot (dc _ _ _ _ (k2 + 1) _ _) _
          have e1 : idx [(j : Int)] ((0 : Nat) : Int) = some (j : Int) := by rw [bc (by simp)]; rfl
          rw [dc, if_pos (by simp; omega), e1, aI (by omega)]
          simp only [bS]
          by_cases h0 : i2 = 0
          · subst h0
            rcases (kw (f := ⟨(j : Int), 0⟩) hs).cases with ⟨e, _⟩ | ⟨_, g⟩
            · have c := h2.1
              rw [show ((0 : Nat) : Int) = (0 : Int) from rfl, e]
              simp only [bS]
              have hl2 : l2 = [] := List.length_eq_zero_iff.1 (by omega)
              subst hl2
              rw [if_pos trivial, bL (by simp)]
              simp only [bS]
              exact hk2 _ ⟨by simp, fun _ => by simp⟩
            · exact absurd hF0 g
          · have h1 := h2.2 (by omega)
            have c := h2.1
            refine (Dec.t (kw (f := ⟨(j : Int), (i2 : Int)⟩) hs)).bind fun b _ => bl (fun _ => ?_) (fun _ => hk2 _ ⟨by omega, fun _ => h1⟩)
            rw [bL (by simp; omega)]
            simp only [bS]
            exact hk2 _ ⟨by simp; omega, fun _ => by simp⟩
  · exact absurd (Ap hS ha) g
theorem BV {s : ae} {t : ar} {a : Int} {two : Bool} (hs : bK s) (ht : fo t) : T (nf s t a two) := by
  unfold nf
  refine jz (jY hs ht).t (by simp only [sS]; exact bw _) (fun hP => ?_)
  simp only [sS]
  by_cases hc : t.b_.length = 0
  · rw [show ((t.b_.length : Int) == 0) = true by simpa using hc]
    simp only [sS]
    exact bw _
  rw [show ((t.b_.length : Int) == 0) = false by simpa using hc]
  simp only [sS]
  refine jT cR.t (by simp only [sS]; exact bw _) (fun ha => ?_)
  simp only [sS]
  have hn := hP.1.1
  rw [bg (by omega) (by omega)] at ha
  refine (Dr hs hP.1 ha).bind fun l hl => ?_
  have h0 : 0 < l.length := by omega
  have e0 : idx l 0 = some l[0] := bc h0
  rw [e0]
  simp only [bS]
  refine (zj hs ht).bind fun m _ => ?_
  have key : ∀ (d k i : Nat) (a b c e : Int), l.length - i = d → d < k → T (ga l s t k a b c e (i : Int)) := by
    intro d
    induction d with
    | zero =>
      intro k i a b c e hd hk
      obtain ⟨k, rfl⟩ : ∃ q, k = q + 1 := ⟨k - 1, by omega⟩
      rw [ga, if_neg (by simp; omega)]
      exact bw _
    | succ d ih =>
      intro k i a b c e hd hk
      obtain ⟨k, rfl⟩ : ∃ q, k = q + 1 := ⟨k - 1, by omega⟩
      have hi : i < l.length := by omega
      rw [ga, if_pos (by simp; omega), bc hi]
      simp only [bS]
      refine (zj hs ht).bind fun m _ => ?_
      unfold mj
      rw [aI (by omega), bc hi]
      exact (pc _ _).bind fun _ _ => bl (fun _ => ih _ _ _ _ _ _ (by omega) (by omega)) (fun _ => ih _ _ _ _ _ _ (by omega) (by omega))
  exact key (l.length - 1) aY 1 _ _ _ _ rfl (dl (by omega))
theorem DV {s : ae} {t : ar} {l : List Int} {two : Bool} (hs : bK s) (ht : fo t) (hl : l.length ≤ 1048576) : T (pn s t l two) := by
  unfold pn
  refine jz (jY hs ht).t (by simp only [sS]; exact bw _) (fun hP => ?_)
  simp only [sS]
  by_cases hc : t.b_.length = 0
  · rw [show ((t.b_.length : Int) == 0) = true by simpa using hc]
    simp only [sS]
    exact bw _
  rw [show ((t.b_.length : Int) == 0) = false by simpa using hc]
  simp only [sS]
  refine jT (nW hs hl).t (by simp only [sS]; exact bw _) (fun ha => ?_)
  simp only [sS]
  refine cD (fun k (r : List bv) i => ex l s t two k i r) l.length (fun i r => r.length = i) (fun k r h => ?_) (fun k r i hi h hk => ?_) (by omega) rfl
  · show T (ex _ _ _ _ (k + 1) _ _)
    rw [ex, if_neg (by simp)]
    exact bw _
  · show T (ex _ _ _ _ (k + 1) _ _)
    rw [ex, if_pos (by simp; omega), bc hi]
    simp only [bS]
    refine (BV hs ht).bind fun b _ => ?_
    unfold nM
    have key : ∀ (j k2 : Nat), j ≤ r.length → j < k2 → T (jw r b.1.j_ b.1.c_ b.2.u_ b.2.B_ (ex l s t two k) i k2 (j : Int)) := by
      have fin : ∀ j : Nat, j ≤ r.length → T ((sub r 0 (j : Int)).bind fun a => (app ([] : List bv) a).bind fun c => (app c ([(bv.mk (au.mk b.1.j_ b.1.c_) (aZ.mk b.2.u_ b.2.B_))] : List bv)).bind fun d => (sub r (j : Int) (r.length : Int)).bind fun e => (app d e).bind fun f => (ex l s t two k) (IntKind.i64.wrap ((i : Int) + 1)) f) := by
        intro j hj
        refine (pQ ⟨by omega, by omega, by omega⟩).bind fun l1 h1 => ?_
        have h1 : l1.length = j := by rw [h1]; simp; omega
        refine (lf (by simp; omega)).bind fun l2 h2 => ?_
        have h2 : l2.length = j := by rw [h2]; simp [h1]
        refine (lf (by simp; omega)).bind fun l3 h3 => ?_
        have h3 : l3.length = j + 1 := by rw [h3]; simp [h2]
        refine (pQ ⟨by omega, by omega, by omega⟩).bind fun l4 h4 => ?_
        have h4 : l4.length = r.length - j := by rw [h4]; simp
        refine (lf (by omega)).bind fun l5 h5 => ?_
        rw [aI (by omega)]
        exact hk _ (by rw [h5]; simp; omega)
      intro j
      induction j with
      | zero =>
        intro k2 _ hk2
        obtain ⟨k2, rfl⟩ : ∃ q, k2 = q + 1 := ⟨k2 - 1, by omega⟩
        rw [jw, if_neg (by simp)]
        simp only [sS]
        exact fin 0 (by omega)
      | succ j ih =>
        intro k2 hj hk2
        obtain ⟨k2, rfl⟩ : ∃ q, k2 = q + 1 := ⟨k2 - 1, by omega⟩
        rw [jw, if_pos (by simp), bg (by omega) (by omega), show ((j + 1 : Nat) : Int) - 1 = (j : Int) by omega, bc (show j < r.length by omega)]
        simp only [bS]
        unfold pM
        refine Tot.bind (P := fun _ => True) (((pc _ _).bind fun _ _ => bw _).bind fun _ _ => bw _) (fun u _ => bl (fun _ => ih k2 (by omega) (by omega)) (fun _ => fin (j + 1) hj))
    exact key r.length aY (Nat.le_refl _) (dl (by omega))
theorem yL {s : ae} {t : ar} {l : List Int} {two : Bool} (hs : bK s) (ht : fo t) (hl : l.length ≤ 1048576) : T (lz s t l two) := by
  unfold lz
  refine (DV hs ht hl).bind fun r _ => bl (fun _ => bw _) (fun h => ?_)
  have h : r.length ≠ 0 := by simpa using h
  unfold jJ
  refine bl (fun h1 => ?_) (fun _ => (iz ⟨by omega, by omega⟩).bind fun _ _ => bw _)
  have h1 : (r.length : Int) > 1 := by simpa using h1
  exact (iz ⟨by omega, by omega⟩).bind fun _ _ => (iz ⟨by omega, by omega⟩).bind fun _ _ => bw _
end Go.Vk
/- Verdicts, places, copies: they always answer. -/
namespace Go.Vk
def V (x : Int) : Prop := -9223372036854775808 ≤ x ∧ x ≤ 9223372036854775807
theorem rJ (n : Int) : V (IntKind.i64.wrap n) := by
  unfold V
  rw [IntKind.wrap_i64]
  omega
theorem ed {x : Int} (h : -1000000000000 ≤ x ∧ x ≤ 1000000000000) : V x := ⟨by omega, by omega⟩
theorem us (a : aZ) : Tot (iE a) (fun b => b = true → BB a) := by
  unfold iE
  exact (ph a).t.bind fun b hb => aD fun h => hb (by simp at h; exact h.1)
theorem BA (p : Int) : Tot (nV p) (fun v => v ≤ 9223372036854775807) := by
  unfold nV
  exact cR.t.bind fun b _ => bl (fun _ => aD (by omega)) (fun _ => aD (rJ _).2)
theorem Cd (a b : aZ) (n k : Int) : T (nr a b n k) := by
  unfold nr
  refine jz (us a) (by simp only [sS]; exact bw _) (fun _ => ?_)
  simp only [sS]
  refine jT (us b) (by simp only [sS]; exact bw _) (fun _ => ?_)
  simp only [sS]
  refine Tot.bind (P := fun _ => True) ((pc a b).bind fun _ _ => bw _) (fun u _ => ?_)
  cases u
  · simp only [sS]
    refine jT cR.t (by simp only [sS]; exact bw _) (fun hn => ?_)
    simp only [sS]
    refine jT cR.t (by simp only [sS]; exact bw _) (fun _ => ?_)
    simp only [sS]
    exact (zO a b).bind fun _ _ => (qz _ _).bind fun _ _ => (pO (by omega) (by omega)).bind fun _ _ => (qz _ _).bind fun _ _ => (qz _ _).bind fun _ _ => (BA k).bind fun v hv => (pO hv (by omega)).bind fun _ _ => (qz _ _).bind fun _ _ => (vb _ _).bind fun _ _ => bw _
  · simp only [sS]
    exact bw _
theorem El (r : cq) (n : Int) : T (pk r n) := by
  unfold pk
  refine (vw r).t.bind fun a _ => ?_
  refine Tot.bind (P := fun _ => True) (bl (fun _ => cR.t.bind fun _ _ => bw _) (fun _ => bw _)) (fun b _ => ?_)
  exact Tot.bind (P := fun _ => True) (bl (fun _ => (BA _).bind fun _ _ => bw _) (fun _ => bw _)) (fun _ _ => bw _)
theorem Af (r : cq) (a b : aZ) (n : Int) : T (mb r a b n) := by
  unfold mb
  refine jz (vw r).t (by simp only [sS]; exact bw _) (fun _ => ?_)
  simp only [sS]
  refine jT cR.t (by simp only [sS]; exact bw _) (fun _ => ?_)
  simp only [sS]
  refine jT (us a) (by simp only [sS]; exact bw _) (fun _ => ?_)
  simp only [sS]
  refine jT (us b) (by simp only [sS]; exact bw _) (fun _ => ?_)
  simp only [sS]
  refine Tot.bind (P := fun _ => True) ((pc a b).bind fun _ _ => bw _) (fun u _ => ?_)
  exact bl (fun _ => bw _) (fun _ => bl (fun _ => bw _) (fun _ => (Cd ..).bind fun _ _ => bl (fun _ => bw _) (fun _ => (El ..).bind fun _ _ => bl (fun _ => bw _) (fun _ => bw _))))
theorem zo {l : List Int} (h : l.length ≤ 1048576) : Tot (mO l) (fun v => -1 ≤ v ∧ v < l.length ∧ (0 < l.length → 0 ≤ v)) := by
  unfold mO
  refine cD (gP l) l.length (fun i s => -1 ≤ s ∧ s < i ∧ (0 < i → 0 ≤ s)) (fun k s h1 => ?_) (fun k s i hi h1 hk => ?_) (by omega) ⟨by omega, by omega, fun g => absurd g (by omega)⟩
  · rw [gP, if_neg (by simp)]
    exact aD h1
  · obtain ⟨h1, h2, h3⟩ := h1
    rw [gP, if_pos (by simp; omega), bc hi, aI (by omega)]
    simp only [bS]
    refine Tot.bind (P := fun u => u = false → 0 ≤ s) (bl (fun _ => aD (fun h => by cases h)) (fun g => ?_)) (fun u hu => bl (fun _ => hk _ ⟨by omega, by omega, fun _ => by omega⟩) (fun g => ?_))
    · have g : 0 ≤ s := by simpa using g
      exact (iz ⟨g, by omega⟩).bind fun _ _ => aD fun _ => g
    · have := hu (by simpa using g)
      exact hk _ ⟨by omega, by omega, fun _ => by omega⟩
theorem xh {s : ae} {t : ar} (hs : bK s) (ht : fo t) : T (dZ s t) := by
  rcases (jY hs ht).cases with ⟨e, h⟩ | ⟨e, h⟩
  · rw [sW hs ht h]
    exact bw _
  · unfold dZ
    rw [e]
    simp only [sS]
    exact bw _
theorem wn {s : ae} {t : ar} (hs : bK s) (ht : fo t) : T (kW s t) := by
  unfold kW
  rcases (jY hs ht).cases with ⟨e, h⟩ | ⟨e, h⟩
  · rw [e]
    simp only [sS]
    have h1 := h.1.2.1
    have h2 := h.2.1
    exact (xh hs ht).bind fun _ _ => (zo (by omega)).bind fun v hv => (iz ⟨hv.2.2 (by omega), hv.2.1⟩).bind fun _ _ => bw _
  · rw [e]
    simp only [sS]
    exact bw _
theorem Bu {s : ae} (hs : bK s) (f : au) : ∃ n : Nat, dO s f = some (n : Int) ∧ n ≤ 4 := by
  rcases (kw (f := f) hs).cases with ⟨_, h⟩ | ⟨_, h⟩
  · exact ⟨_, la hs h, (AU h).2⟩
  · exact ⟨0, vD hs h, by omega⟩
theorem yH {s : ae} {t : ar} {f : au} (hs : bK s) (ht : fo t) : Tot (lx s t f) V := by
  unfold lx
  obtain ⟨n, eB, hn⟩ := Bu hs f
  refine cD (fun k (l : List Int) i => ef s f t k l i) n (fun i l => l.length = i) (fun k l h => ?_) (fun k l i hi h hk => ?_) (by omega) (s := []) rfl
  · show Tot (ef s f t (k + 1) _ _) _
    rw [ef, eB]
    simp only [bS]
    rw [if_neg (by simp)]
    exact (zo (by omega)).bind fun v hv => aD (ed ⟨by omega, by omega⟩)
  · show Tot (ef s f t (k + 1) _ _) _
    rw [ef, eB]
    simp only [bS]
    rw [if_pos (by simp; omega)]
    have hcl := hs.2.1
    refine (vZ hs ht _).bind fun y hy => bl (fun _ => aD (ed ⟨by omega, by omega⟩)) (fun _ => (BP (by rcases hy with g | g <;> omega)).bind fun v _ => (lf (by simp; omega)).bind fun l2 hl2 => ?_)
    subst hl2
    rw [aI (by omega)]
    exact hk _ (by simp; omega)
theorem wN {t : ar} (h : t.d_.length ≤ 1048576) : mR t = some ⟨t.d_, []⟩ := by
  unfold mR
  rw [bL (by simp; omega)]
  rfl
theorem CL {s : ae} {r : cq} {n : aG} (hs : bK s) (hn : ot n) : T (od s r n) := by
  unfold od
  have ht := hn.2.2.2.2.1
  have ha := hn.2.2.2.2.2.2.1.1
  exact (yL hs ht ha).bind fun _ _ => bl (fun _ => bw _) (fun _ => (xh hs ht).bind fun _ _ => (Af ..).bind fun _ _ => bl (fun _ => bw _) (fun _ => bw _))
theorem tE {n : aG} (h : ot n) : iK n = some n := by
  have h1 := h.2.2.1.1
  have h2 := h.2.2.2.2.2.2.1.1
  unfold iK
  rw [bL (by simp; omega), bL (by simp; omega), (tm h.2.2.2.2.1).1]
  rfl
theorem oL {t : ai} (h : kv t) : gM t = some t := by
  have h0 := h.1.1
  unfold gM
  rw [qp (p := t.a_) id (gx t) (fun l => some ⟨l, t.g_⟩) (fun k l => by rw [gx, if_neg (by simp)]) (fun k l i hi hl => by
    rw [gx, if_pos (by simp; omega), bc hi, aI (by omega)]
    simp only [bS]
    rw [tE (h.1.2 _ (List.getElem_mem hi))]
    simp only [bS]
    rw [bL (by simp; omega)]
    rfl) (by omega), List.map_id]
theorem lM {t : bf} (h : t.r_.length ≤ 1048576) : eU t = some t := by
  unfold eU
  rw [bL (by simp; omega)]
  rfl
theorem yc (t : bf) : Dec (lQ t) (t.r_.length ≤ 600 ∧ 0 ≤ t.c_ ∧ t.c_ ≤ t.r_.length) := by
  unfold lQ
  by_cases h : t.r_.length ≤ 600
  · rw [if_pos (by simp; omega)]
    refine Dec.of_iff ?_ (show ((0 : Int) ≤ t.c_ ∧ t.c_ ≤ (t.r_.length : Int)) ↔ _ from ⟨fun g => ⟨h, g⟩, fun g => g.2⟩)
    simp only [zw]
    exact cR
  · rw [if_neg (by simp; omega)]
    exact dg fun g => h g.1
theorem Ev {t : bf} (h : t.r_.length ≤ 1048576) : Tot (pj t) (fun y => y.1.r_.length ≤ 1048576) := by
  unfold pj mW
  rw [lM h]
  simp only [bS]
  rcases (yc t).cases with ⟨e, g⟩ | ⟨e, _⟩
  · rw [e]
    simp only [sS]
    refine bl (fun _ => aD h) (fun g2 => ?_)
    have g2 : ¬ IntKind.i64.wrap ((t.r_.length : Int) - t.c_) < 2 := by simpa using g2
    rw [bg (by omega) (by omega)] at g2
    rw [bg (n := t.c_ + 1) (by omega) (by omega)]
    exact (iz ⟨by omega, by omega⟩).bind fun _ _ => (iz ⟨by omega, by omega⟩).bind fun _ _ => aD h
  · rw [e]
    simp only [sS]
    rw [if_pos (by simp)]
    exact aD h
theorem BL {n k : Nat} (hn : n ≤ 20) (hk : k ≤ 20) (r : Int) : Tot (jD n k r) qg := by
  by_cases h : 0 ≤ r ∧ r ≤ 1048576
  · obtain ⟨v, e, _, g⟩ := xM hn hk h
    exact ⟨v, e, g⟩
  · unfold jD
    have hb := zf n k
    rw [uw]
    simp only [bS]
    rw [bg (by omega) (by omega)]
    have : bd r 0 ((sr n k : Int) - 1) = some false := by
      unfold bd
      have : ¬ (r ≥ 0 ∧ r ≤ (sr n k : Int) - 1) := by omega
      simp
      omega
    rw [this]
    simp only [sS]
    exact aD ⟨by simp, fun x hx => by cases hx⟩
theorem Ag {t : bf} {n k : Nat} (h : t.r_.length ≤ 1048576) (hn : n ≤ 20) (hk : k ≤ 20) : Tot (kn t n k) (fun y => y.1.r_.length ≤ 1048576 ∧ qg y.2.1) := by
  have bad : qg [] := ⟨by simp, fun x hx => by cases hx⟩
  unfold kn lY
  rw [uw]
  simp only [bS]
  obtain ⟨⟨y1, y2, y3⟩, e, hy⟩ := Ev h
  rw [e, lM h]
  simp only [bS]
  have key : Tot (if (!y3) = true then some true else (bd (sr n k : Int) 1 65536).bind fun y => some (!y)) (fun u => u = false → (sr n k : Int) ≠ 0) := by
    refine bl (fun _ => aD (fun h => by cases h)) (fun _ => cR.t.bind fun b hb => aD fun g => ?_)
    have : b = true := by simpa using g
    have := hb this
    omega
  obtain ⟨u, eu, hu⟩ := key
  rw [eu]
  simp only [bS]
  cases u
  · simp only [sS]
    have h0 := hu rfl
    unfold rem
    rw [if_neg h0]
    simp only [bS]
    unfold iU
    simp only [sS]
    exact (BL hn hk _).bind fun l hl => aD ⟨hy, hl⟩
  · simp only [sS]
    unfold iU
    simp only [sS]
    rw [lM h]
    exact aD ⟨h, bad⟩
end Go.Vk
/- Splits, memory, learning: they always answer, and trees stay yZ. -/
namespace Go.Vk
def smI (n : Nat) (l : List Int) : Prop := l.length ≤ n ∧ ∀ y ∈ l, V y
def mu (d : Nat) (t : ar) : Prop := smI (8 + d) t.d_ ∧ t.b_.length ≤ 8 + d ∧ ∀ c ∈ t.b_, smI (16 + d) c
def oQ (d : Nat) (n : aG) : Prop := (V n.k_.j_ ∧ V n.k_.c_) ∧ smI (8 + d) n.t_ ∧ V n.x_ ∧ mu d n.m_ ∧ V n.v_ ∧ smI (24 + d) n.f_ ∧ V n.l_ ∧ V n.p_ ∧ V n.q_
def fP (d : Nat) (t : ai) : Prop := (t.a_.length ≤ 40 ∧ ∀ n ∈ t.a_, oQ d n) ∧ V t.g_
theorem smI.mono {n m : Nat} (h : n ≤ m) {l : List Int} (g : smI n l) : smI m l := ⟨Nat.le_trans g.1 h, g.2⟩
theorem smI.sml {n : Nat} {l : List Int} (g : smI n l) (h : n ≤ 1000) : oA l := ⟨by have := g.1; omega, g.2⟩
theorem smI.app {n m : Nat} {l : List Int} {x : Int} (g : smI n l) (hx : V x) (h : n + 1 ≤ m) : smI m (l ++ [x]) := ⟨by have := g.1; simp; omega, fun y hy => by
  rcases List.mem_append.1 hy with hy | hy
  · exact g.2 y hy
  · rw [List.mem_singleton.1 hy]; exact hx⟩
theorem smI.set {n : Nat} {l : List Int} {x : Int} (g : smI n l) (hx : V x) (i : Nat) : smI n (l.set i x) := ⟨by rw [List.length_set]; exact g.1, fun y hy => by
  rcases List.mem_or_eq_of_mem_set hy with hy | rfl
  · exact g.2 y hy
  · exact hx⟩
theorem smI.nil (n : Nat) : smI n [] := ⟨by simp, fun x hx => by cases hx⟩
theorem smI.small {n : Nat} {l : List Int} (h : qg l) (hn : 20 ≤ n) : smI n l := ⟨Nat.le_trans h.1 hn, fun y hy => by have := h.2 y hy; exact ed ⟨by omega, by omega⟩⟩
theorem mu.mono {d d' : Nat} (h : d ≤ d') {t : ar} (g : mu d t) : mu d' t := ⟨g.1.mono (by omega), by have := g.2.1; omega, fun c hc => (g.2.2 c hc).mono (by omega)⟩
theorem oQ.mono {d d' : Nat} (h : d ≤ d') {t : aG} (g : oQ d t) : oQ d' t := by
  obtain ⟨g1, g2, g3, g4, g5, g6, g7, g8, g9⟩ := g
  exact ⟨g1, g2.mono (by omega), g3, g4.mono h, g5, g6.mono (by omega), g7, g8, g9⟩
theorem mu.sml {d : Nat} (hd : d ≤ 10) {t : ar} (g : mu d t) : fo t := ⟨g.1.sml (by omega), by have := g.2.1; omega, fun c hc => (g.2.2 c hc).sml (by omega)⟩
theorem oQ.sml {d : Nat} (hd : d ≤ 10) {t : aG} (g : oQ d t) : ot t := by
  obtain ⟨g1, g2, g3, g4, g5, g6, g7, g8, g9⟩ := g
  exact ⟨trivial, g1, g2.sml (by omega), g3, g4.sml hd, g5, g6.sml (by omega), g7, g8, g9⟩
theorem fP.sml {d : Nat} (hd : d ≤ 10) {t : ai} (g : fP d t) : kv t := ⟨⟨by have := g.1.1; omega, fun n hn => (g.1.2 n hn).sml hd⟩, g.2⟩
theorem fP.mono {d d' : Nat} (h : d ≤ d') {t : ai} (g : fP d t) : fP d' t := ⟨⟨g.1.1, fun n hn => (g.1.2 n hn).mono h⟩, g.2⟩
theorem fP.setN {d : Nat} {l : List aG} {x : Int} {n : aG} (g : l.length ≤ 40 ∧ ∀ n ∈ l, oQ d n) (hn : oQ d n) (hx : V x) (i : Nat) : fP d ⟨l.set i n, x⟩ := ⟨⟨by rw [List.length_set]; exact g.1, fun y hy => by
  rcases List.mem_or_eq_of_mem_set hy with hy | rfl
  · exact g.2 y hy
  · exact hn⟩, hx⟩
theorem tC {l : List Int} {n m : Nat} (h : oO l n) (hn : n ≤ m) : smI m l := ⟨by rw [h.1]; exact hn, fun y hy => by have := h.2 y hy; exact ed ⟨by omega, by omega⟩⟩
theorem Bl {s : ae} {t : ar} (hS : fj s) (h : uA s t) : mu 0 t := by
  obtain ⟨h1, h2, h3⟩ := h
  have ha := hS.1
  have hc := hS.2.1
  refine ⟨tC h1 (by omega), by omega, fun c hc => ?_⟩
  obtain ⟨i, hi, rfl⟩ := List.getElem_of_mem hc
  have hi2 : i < s.f_.length := by omega
  exact tC (h3 i hi hi2) (by have := nbc hS hi2; omega)
theorem Er {s : ae} {t : ar} (h : pI s t) : uA s t := by
  obtain ⟨_, h2, h3, _, h5⟩ := h
  refine ⟨⟨h2, fun x hx => by have := h3 x hx; omega⟩, by rcases h5 with g | g; exact .inl g; exact .inr g.1, fun i hi hi2 => ?_⟩
  rcases h5 with g | g
  · omega
  · obtain ⟨c1, c2, _⟩ := g.2 i hi hi2
    exact ⟨c1, fun x hx => by have := c2 x hx; omega⟩
theorem ru {s : ae} (hs : bK s) : Tot (gK s) (mu 0) := by
  rcases (lG (mL hs)).cases with ⟨_, h⟩ | ⟨e, _⟩
  · rw [wS hs h]
    exact aD (Bl h Bg)
  · unfold gK
    rw [e]
    simp only [sS]
    exact aD ⟨.nil _, by simp, fun x hx => by cases hx⟩
theorem uR {s : ae} {t : ar} {e : bB} {w : Int} (hs : bK s) (ht : mu 0 t) : Tot (iF s t e w) (fun y => mu 0 y.1) := by
  have hm := ht.sml (by omega)
  rcases (jY hs hm).cases with ⟨_, h⟩ | ⟨eP, _⟩
  · obtain ⟨v, h1, _, h2⟩ := BG (e := e) (w := w) hs h.1 (Er h)
    exact ⟨v, h1, Bl h.1 h2⟩
  · unfold iF
    rw [(tm hm).1, eP]
    simp only [sS]
    exact aD ht
theorem Cx {s : ae} {t : ai} {i : Int} {f : au} {sets : List (List Int)} (hs : bK s) (ht : fP 0 t) (hl : sets.length ≤ 4) (hset : ∀ x ∈ sets, qg x) : Tot (mC s t i f sets) (fun y => fP 0 y.1) := by
  have hm := ht.sml (by omega)
  unfold mC
  rw [oL hm]
  simp only [bS]
  refine jz (qK hs hm).t (by simp only [sS]; exact aD ht) (fun hT => ?_)
  simp only [sS]
  refine jT cR.t (by simp only [sS]; exact aD ht) (fun hi => ?_)
  simp only [sS]
  have hlen := hT.2.1
  rw [bg (by omega) (by omega)] at hi
  obtain ⟨j, rfl⟩ : ∃ j : Nat, i = j := ⟨i.toNat, by omega⟩
  have hj : j < t.a_.length := by omega
  have hn := ht.1.2 _ (List.getElem_mem hj)
  rw [bc hj]
  simp only [bS]
  cases t.a_[j].s_ with
  | false => simp only [sS]; exact aD ht
  | true =>
  simp only [sS]
  cases ((t.a_[j].m_.b_.length : Int) == 0) with
  | true => simp only [sS]; exact aD ht
  | false =>
  simp only [sS]
  refine jT (kw hs).t (by simp only [sS]; exact aD ht) (fun hF => ?_)
  simp only [sS]
  rw [la hs hF]
  simp only [bS]
  refine bl (fun _ => aD ht) (fun _ => ?_)
  refine cD (fun k (_ : Unit) x => eH sets s t t (j : Int) f k x) sets.length (fun _ _ => True) (fun k _ _ => ?_) (fun k _ x hx _ hk => ?_) (by omega) (s := ()) trivial
  · show Tot (eH _ _ _ _ _ _ (k + 1) _) _
    rw [eH, if_neg (by simp), bc hj]
    simp only [bS]
    refine bl (fun _ => aD ht) (fun g => ?_)
    have g : ¬ (IntKind.i64.wrap ((t.a_.length : Int) + (sets.length : Int)) > 31) := by simp at g; omega
    rw [bg (by omega) (by omega)] at g
    obtain ⟨g1, g2, g3, g4, g5, g6, g7, g8, g9⟩ := hn
    refine (yH hs (g4.sml (by omega))).bind fun m hmiss => ?_
    rw [wN (by have := g4.1.1; omega)]
    simp only [bS]
    rw [bL (by have := g6.1; simp; omega)]
    simp only [Option.bind_some, List.nil_append]
    unfold lB
    refine cD (fun k2 (σ : List aG × List Int) x => eJ sets s t.a_[j].l_ (j : Int) t f m t.a_[j].m_.d_ [] t.a_[j].f_ t.a_[j].p_ t.a_[j].q_ t k2 σ.1 σ.2 x) sets.length (fun x σ => σ.1.length = t.a_.length + x ∧ σ.2.length = x ∧ (∀ n ∈ σ.1, oQ 0 n) ∧ ∀ y ∈ σ.2, V y) (fun k2 σ h => ?_) (fun k2 σ x hx h hk2 => ?_) (by omega) (s := (t.a_, [])) ⟨rfl, rfl, ht.1.2, fun x hx => by cases hx⟩
    · obtain ⟨h1, h2, h3, h4⟩ := h
      show Tot (eJ _ _ _ _ _ _ _ _ _ _ _ _ _ (k2 + 1) _ _ _) _
      rw [eJ, if_neg (by simp), bc (show j < σ.1.length by omega)]
      simp only [bS]
      have hF2 := hF.2
      have hlast : rD (atr s f) ≤ 4 := by
        have := tX (rL hF.1 hF.2.1)
        unfold rD
        split <;> omega
      have ha := hF.1.1
      have vA : V f.j_ := ed ⟨by omega, by omega⟩
      have vB : V f.c_ := ed ⟨by omega, by omega⟩
      have z : V 0 := ed ⟨by omega, by omega⟩
      have hN : oQ 0 ⟨false, f, σ.2, m, ⟨t.a_[j].m_.d_, []⟩, 0, t.a_[j].f_, t.a_[j].l_, t.a_[j].p_, t.a_[j].q_⟩ :=
        ⟨⟨vA, vB⟩, ⟨by show σ.2.length ≤ _; omega, h4⟩, hmiss, ⟨g4.1, by simp, fun x hx => by cases hx⟩, z, g6, g7, g8, g9⟩
      exact aD (fP.setN ⟨by omega, h3⟩ hN ht.2 _)
    · obtain ⟨h1, h2, h3, h4⟩ := h
      show Tot (eJ _ _ _ _ _ _ _ _ _ _ _ _ _ (k2 + 1) _ _ _) _
      rw [eJ, if_pos (by simp; omega), bL (by simp; omega)]
      simp only [bS]
      rw [bc hx]
      simp only [bS]
      obtain ⟨y, ey, hy⟩ := ru hs
      rw [ey]
      simp only [bS]
      have hx2 := hset _ (List.getElem_mem hx)
      rw [bL (by have := hx2.1; simp; omega)]
      simp only [Option.bind_some, List.nil_append]
      rw [bL (by simp; omega), aI (by omega)]
      simp only [bS]
      refine hk2 (_, _) ⟨by simp; omega, by simp; omega, fun n hn => ?_, fun y hy => ?_⟩
      · rcases List.mem_append.1 hn with hn | hn
        · exact h3 n hn
        · rw [List.mem_singleton.1 hn]
          have z : V 0 := ed ⟨by omega, by omega⟩
          have vj : V (j : Int) := ed ⟨by omega, by omega⟩
          exact ⟨⟨z, z⟩, .nil _, z, hy, z, .small hx2 (by omega), rJ _, vj, ht.2⟩
      · rcases List.mem_append.1 hy with hy | hy
        · exact h4 y hy
        · rw [List.mem_singleton.1 hy]
          exact ed ⟨by omega, by omega⟩
  · show Tot (eH _ _ _ _ _ _ (k + 1) _) _
    rw [eH, if_pos (by simp; omega), bc hx, aI (by omega)]
    simp only [bS]
    have hx2 := hset _ (List.getElem_mem hx)
    refine (nW hs (by have := hx2.1; omega)).t.bind fun b _ => bl (fun _ => aD ht) (fun _ => hk () trivial)
end Go.Vk
