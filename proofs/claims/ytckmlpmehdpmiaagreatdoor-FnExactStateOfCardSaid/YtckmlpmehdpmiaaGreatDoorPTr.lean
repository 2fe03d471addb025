/- Attributes' places, branches, nodes, trees: tested alike. -/
import Derived.Test.YtckmlpmehdpmiaaGreatDoorPT
import Derived.Test.YtckmlpmehdpmiaaGreatDoorVkBr
import Derived.Test.YtckmlpmehdpmiaaGreatDoorRF
namespace Go.Vk
def Asc (l : List Int) : Prop := ∀ i, 1 ≤ i → i < l.length → ∀ h : i < l.length, l[i - 1] < l[i]
theorem LB {l : List Int} (d : l.length ≤ 1048576) : Dec (gF l) (Asc l) := by
  unfold gF
  refine pk (Lp := fI l) (n := l.length) (Q := fun i => ∀ h : i < l.length, l[i - 1] < l[i]) 1 (fun k i a => ?_) (fun k i h1 a => ?_) (by omega)
  · show (if _ then _ else _) = _
    rw [if_neg (by simp; omega)]
  · rw [fI]
    rw [if_pos (by simp; omega), aX a, aG (by omega), bi (by omega) (by omega), show (i : Int) - 1 = ((i - 1 : Nat) : Int) by omega, aX (show i - 1 < l.length by omega)]
    simp only [bS]
    by_cases c : l[i] ≤ l[i - 1]
    · rw [if_pos (by simpa using c)]
      exact .inr ⟨fun g => by have := g a; omega, rfl⟩
    · rw [if_neg (by simpa using c)]
      exact .inl ⟨fun _ => by omega, rfl⟩
theorem Asc.le {l : List Int} (h : Asc l) : ∀ {j : Nat} (i : Nat) (c : i ≤ j) (a : j < l.length), l[i] ≤ l[j]
  | 0, i, c, a => by
    have : i = 0 := by omega
    subst this; exact Int.le_refl _
  | j + 1, i, c, a => by
    by_cases e : i = j + 1
    · subst e; exact Int.le_refl _
    · have h1 := h.le (j := j) i (by omega) (by omega)
      have d := h (j + 1) (by omega) a a
      simp only [Nat.add_sub_cancel] at d
      omega
def wA (s : aj) (l : List Int) : Prop := jV s ∧ l.length ≠ 0 ∧ ∀ i, 0 ≤ i → i < l.length → ∀ h : i < l.length, (0 ≤ l[i] ∧ l[i] ≤ (s.d_.length : Int) - 1) ∧ (0 < i → l[i - 1] < l[i])
theorem Ea {s : aj} {l : List Int} (f : bV s) (o : l.length ≤ 1048576) : Dec (nD s l) (wA s l) := by
  unfold nD wA
  refine tF (mE (nM f)) (fun m => ?_) (fun g => bG fun h => g h.1)
  have p := f.1.1
  by_cases c : l.length = 0
  · rw [if_pos (by simp; exact List.length_eq_zero_iff.1 c)]
    exact bG fun g => g.2.1 c
  · rw [if_neg (by simp; exact fun e => c (by rw [e]; rfl))]
    refine (pk (Lp := jU l s) (n := l.length) (Q := fun i => ∀ h : i < l.length, (0 ≤ l[i] ∧ l[i] ≤ (s.d_.length : Int) - 1) ∧ (0 < i → l[i - 1] < l[i])) 0 (fun k i d => ?_) (fun k i _ d => ?_) (by omega)).of_iff ⟨fun g => ⟨m, c, g⟩, fun g => g.2.2⟩
    · show (if _ then _ else _) = _
      rw [if_neg (by simp; omega)]
    · rw [jU, if_pos (by simp; omega), aX d, aG (by omega), bi (n := (s.d_.length : Int) - 1) (by omega) (by omega)]
      unfold ba
      simp only [bS]
      by_cases a : 0 ≤ l[i] ∧ l[i] ≤ (s.d_.length : Int) - 1
      · rw [oI a]
        simp only [Bool.not_true, Bool.false_eq_true, if_false]
        by_cases h1 : 0 < i
        · rw [if_pos (by simp; omega), bi (n := (i : Int) - 1) (by omega) (by omega), show (i : Int) - 1 = ((i - 1 : Nat) : Int) by omega, aX (show i - 1 < l.length by omega)]
          simp only [bS]
          by_cases j : l[i] ≤ l[i - 1]
          · rw [if_pos (by simpa using j)]
            exact .inr ⟨fun g => by have := (g d).2 h1; omega, rfl⟩
          · rw [if_neg (by simpa using j)]
            exact .inl ⟨fun _ => ⟨a, fun _ => by omega⟩, rfl⟩
        · rw [if_neg (by simp; omega)]
          exact .inl ⟨fun _ => ⟨a, fun g => absurd g h1⟩, rfl⟩
      · rw [pU a]
        exact .inr ⟨fun g => a (g d).1, rfl⟩
theorem Kd {s : aj} {l : List Int} (f : bV s) (k : l.length ≤ 1048576) : Dec (po s l) (wA s l) := by
  unfold po wA
  refine tF (mG (nM f)) (fun m => ?_) (fun g => bG fun h => g h.1)
  have p := f.1.1
  by_cases d : l.length = 0
  · rw [if_neg (by simp; exact List.length_eq_zero_iff.1 d)]
    exact bG fun g => g.2.1 d
  · rw [if_pos (by simp only [Bool.and_eq_true, decide_eq_true_eq, eq_self, true_and]; omega)]
    rcases (LB k).cases with ⟨e, c⟩ | ⟨e, c⟩
    · rw [e]
      simp only [Option.bind_some, if_true]
      rw [show (0 : Int) = ((0 : Nat) : Int) from rfl, aX (show 0 < l.length by omega), bi (by omega) (by omega), show (l.length : Int) - 1 = ((l.length - 1 : Nat) : Int) by omega, aX (show l.length - 1 < l.length by omega)]
      simp only [bS]
      by_cases h1 : 0 ≤ l[0]
      · rw [if_pos (by simpa using h1)]
        refine ⟨_, rfl, ?_⟩
        rw [decide_eq_true_iff]
        refine ⟨fun g => ⟨m, d, fun i _ a _ => ⟨⟨?_, ?_⟩, fun o => c i o a a⟩⟩, fun g => ?_⟩
        · exact Int.le_trans h1 (c.le 0 (Nat.zero_le _) a)
        · have := c.le (j := l.length - 1) i (by omega) (by omega); omega
        · have := (g.2.2 (l.length - 1) (Nat.zero_le _) (by omega) (by omega)).1; omega
      · rw [if_neg (by simpa using h1)]
        exact bG fun g => h1 (g.2.2 0 (Nat.zero_le _) (by omega) (by omega)).1.1
    · rw [e]
      exact bG fun g => c fun i h1 a _ => (g.2.2 i (Nat.zero_le _) a a).2 h1
theorem Jv {s : aj} {t : bl} (c : bV s) (a : oO t) (h : ud s t) : lN s t = some t.q_.sum := by
  unfold lN
  rcases (ze c a).cases with ⟨e, _⟩ | ⟨_, g⟩
  · rw [e]
    simp only [cS]
    have h1 := yo (p := t.q_) (fun x => x) (ib t) some (fun k s => by
      show (if _ then _ else _) = _
      rw [if_neg (by simp)]) (fun k s i d => by
      have := a.1.1
      rw [ib, if_pos (by simp; omega), aX d, aG (by omega)]
      rfl) (fun x f => by have := h.2.2.1 x f; omega) (by have := a.1.1; omega)
    simpa using h1
  · exact absurd h g
def brN (s : aj) (f : bD) : Nat := if f.u_ = -1 then nb (atr s f) else 2
theorem KS {s : aj} {f : bD} (h : vw s f) : 2 ≤ brN s f ∧ brN s f ≤ 4 := by
  have := Ir (EI h.1 h.2.1)
  unfold brN
  split <;> omega
theorem EQ {s : aj} {f : bD} (a : bV s) (h : vw s f) : oe s f = some (brN s f : Int) := by
  unfold oe brN
  rcases (Hj (f := f) a).cases with ⟨e, _⟩ | ⟨_, g⟩
  · rw [e]
    simp only [cS]
    rw [Bf h.2.1]
    simp only [bS]
    rw [CH (a.1.2 _ (yc h.2.1)) (EI h.1 h.2.1)]
    by_cases h1 : f.u_ = -1
    · rw [if_pos (by simpa using h1), if_pos h1]; rfl
    · rw [if_neg (by simpa using h1), if_neg h1]; rfl
  · exact absurd h g
theorem EO {s : aj} {f : bD} (a : bV s) (h : vw s f) : km s f = some (brN s f : Int) := by
  unfold km brN
  rcases (Gz (f := f) a).cases with ⟨e, _⟩ | ⟨_, g⟩
  · rw [e]
    simp only [cS]
    rw [Bf h.2.1]
    simp only [bS]
    rw [xN (a.1.2 _ (yc h.2.1))]
    by_cases h1 : f.u_ = -1
    · rw [if_pos (by simpa using h1), if_pos h1]; rfl
    · rw [if_neg (by simpa using h1), if_neg h1]; rfl
  · exact absurd h g
theorem Da {s : aj} {f : bD} (a : bV s) (h : ¬ vw s f) : km s f = some 0 := by
  unfold km
  rcases (Gz (f := f) a).cases with ⟨_, g⟩ | ⟨e, _⟩
  · exact absurd g h
  · rw [e]; rfl
def JD (t : ax) (i : Nat) (x : Int) : Prop := ∃ m : Nat, ∃ a : m < t.e_.length, x = m ∧ i < m ∧ t.e_[m].A_ = i
def Oj (n : az) : Prop := (n.i_.t_ = 0 ∧ n.i_.u_ = 0) ∧ n.v_.length = 0 ∧ n.I_ = 0 ∧ (0 ≤ n.J_ ∧ n.J_ ≤ if n.k_.l_.length = 0 then 0 else n.k_.q_.sum)
def QG (t : ax) (i : Nat) (l : List Int) : Prop := Asc l ∧ ∀ x ∈ l, JD t i x
def LL (s : aj) (t : ax) (i : Nat) (n : az) : Prop := vw s n.i_ ∧ n.v_.length = brN s n.i_ ∧ (0 ≤ n.I_ ∧ n.I_ ≤ (n.v_.length : Int) - 1) ∧ n.k_.l_.length = 0 ∧ n.J_ = 0 ∧ QG t i n.v_
def Hc (s : aj) (t : ax) (i : Nat) (n : az) : Prop := (0 ≤ n.h_ ∧ n.h_ ≤ 6) ∧ (0 ≤ n.G_ ∧ n.G_ ≤ t.y_) ∧ ud s n.k_ ∧ wA s n.d_ ∧ (n.B_ = true → Oj n) ∧ (n.B_ = false → LL s t i n)
def QE (t : ax) (i : Nat) (n : az) : Prop := (i = 0 → n.A_ = -1 ∧ n.h_ = 0 ∧ n.G_ = 0) ∧
  (0 < i → ∃ u, ∃ _ : u < i, ∃ a : u < t.e_.length, n.A_ = u ∧ t.e_[u].B_ = false ∧ (i : Int) ∈ t.e_[u].v_ ∧ t.e_[u].h_ + 1 = n.h_ ∧ t.e_[u].G_ ≤ n.G_)
def ME (s : aj) (t : ax) (i : Nat) : Prop := ∀ h : i < t.e_.length, Hc s t i t.e_[i] ∧ QE t i t.e_[i]
def zK (s : aj) (t : ax) : Prop := jV s ∧ (1 ≤ (t.e_.length : Int) ∧ (t.e_.length : Int) ≤ 31) ∧ (0 ≤ t.y_ ∧ t.y_ ≤ 99999) ∧ ∀ i, i < t.e_.length → ME s t i
theorem Na {t : ax} (j : t.e_.length ≤ 1048576) {i : Nat} (k : i < t.e_.length) (x : Int) : Dec (nS x (i : Int) t) (¬ JD t i x) := by
  unfold nS
  rw [aG (by omega), bi (n := (t.e_.length : Int) - 1) (by omega) (by omega)]
  rcases (fU (x := x) (a := ((i + 1 : Nat) : Int)) (b := (t.e_.length : Int) - 1)).cases with ⟨e, d⟩ | ⟨e, d⟩
  · rw [e]
    simp only [cS]
    obtain ⟨m, rfl⟩ : ∃ m : Nat, x = m := ⟨x.toNat, by omega⟩
    have c : m < t.e_.length := by omega
    rw [aX c]
    simp only [bS]
    refine ⟨_, rfl, ?_⟩
    rw [bne_iff_ne]
    refine ⟨fun g ⟨m', _, h1, _, f⟩ => ?_, fun g h => g ⟨m, c, rfl, by omega, h⟩⟩
    obtain rfl : m = m' := by omega
    exact g f
  · rw [e]
    exact mH fun ⟨m, c, h1, f, _⟩ => d ⟨by omega, by omega⟩
theorem JK {t : ax} (c : t.e_.length ≤ 1048576) {i : Nat} (d : i < t.e_.length) {l : List Int} (hk : l.length ≤ 1048576) : Dec (cb l (i : Int) t) (∃ x ∈ l, ¬ JD t i x) := by
  unfold cb cN
  refine (qR (Lp := bN l (i : Int) t) (n := l.length) (Q := fun j => ∀ h : j < l.length, ¬ JD t i l[j]) (fun k j a => ?_) (fun k j a => ?_) (by omega)).of_iff ⟨fun ⟨j, a, g⟩ => ⟨_, List.getElem_mem a, g a⟩, fun ⟨x, f, g⟩ => ?_⟩
  · show (if _ then _ else _) = _
    rw [if_neg (by simp; omega)]
  · rw [bN, if_pos (by simp; omega), aX a, aG (by omega)]
    simp only [bS]
    rcases (Na c d l[j]).cases with ⟨e, h⟩ | ⟨e, h⟩
    · rw [e]; exact .inl ⟨fun _ => h, rfl⟩
    · rw [e]; exact .inr ⟨fun g => h (g a), rfl⟩
  · obtain ⟨j, a, rfl⟩ := List.getElem_of_mem f
    exact ⟨j, a, fun _ => g⟩
theorem Ma {s : aj} {t : ax} (p : bV s) (F : lY t) {i : Nat} (D : i < t.e_.length) : Dec (qG s t (i : Int)) (Hc s t i t.e_[i]) := by
  unfold qG
  have M := F.1.1
  rw [aX D]
  simp only [bS]
  have h := F.1.2 _ (List.getElem_mem D)
  generalize t.e_[i] = n at *
  have w : n.v_.length ≤ 1048576 := h.2.2.1.1
  have A : oO n.k_ := h.2.2.2.2.1
  have G : n.d_.length ≤ 1048576 := h.2.2.2.2.2.2.1.1
  rcases (fU (x := n.h_) (a := 0) (b := 6)).cases with ⟨e, r⟩ | ⟨e, r⟩
  · rw [e]
    simp only [cS]
    rcases (fU (x := n.G_) (a := 0) (b := t.y_)).cases with ⟨e, u⟩ | ⟨e, u⟩
    · rw [e]
      simp only [cS]
      rcases (JR p A).cases with ⟨e, j⟩ | ⟨e, j⟩
      · rw [e]
        simp only [cS]
        rcases (Kd p G).cases with ⟨e, v⟩ | ⟨e, v⟩
        · rw [e]
          simp only [cS]
          by_cases f : n.B_ = true
          case neg =>
            have hL' : n.B_ = false := by simpa using f
            rw [if_neg f]
            by_cases k : vw s n.i_
            · have P := KS k
              rw [EO p k]
              simp only [bS]
              by_cases hk : n.v_.length = brN s n.i_
              · rw [if_neg (by simp; omega)]
                rcases (LB w).cases with ⟨e, l⟩ | ⟨e, l⟩
                · rw [e]
                  simp only [cS]
                  rw [bi (n := (brN s n.i_ : Int) - 1) (by omega) (by omega)]
                  rcases (fU (x := n.I_) (a := 0) (b := (brN s n.i_ : Int) - 1)).cases with ⟨e, H⟩ | ⟨e, H⟩
                  · rw [e]
                    simp only [Option.bind_some, Bool.not_true, Bool.false_or]
                    by_cases d : n.k_.l_.length = 0 ∧ n.J_ = 0
                    · rw [if_neg (by simp [d.1, d.2])]
                      rcases (JK M D w).cases with ⟨e, x, m, E⟩ | ⟨e, E⟩
                      · rw [e]
                        exact bG fun g => E ((g.2.2.2.2.2 hL').2.2.2.2.2.2 x m)
                      · rw [e]
                        exact mH ⟨r, u, j, v, fun g => absurd g f, fun _ => ⟨k, hk, by omega, d.1, d.2, l, fun x m => Classical.byContradiction fun c => E ⟨x, m, c⟩⟩⟩
                    · rw [if_pos (by simp only [Bool.or_eq_true, bne_iff_ne, ne_eq]; omega)]
                      exact bG fun g => d ⟨(g.2.2.2.2.2 hL').2.2.2.1, (g.2.2.2.2.2 hL').2.2.2.2.1⟩
                  · rw [e]
                    exact bG fun g => H (by have := (g.2.2.2.2.2 hL').2.2.1; omega)
                · rw [e]
                  exact bG fun g => l (g.2.2.2.2.2 hL').2.2.2.2.2.1
              · rw [if_pos (by simp; omega)]
                exact bG fun g => hk (g.2.2.2.2.2 hL').2.1
            · rw [Da p k]
              exact bG fun g => k (g.2.2.2.2.2 hL').1
          case pos =>
            rw [if_pos f, Gd (fun x m => by have := j.2.2.1 x m; omega) A.1.1]
            simp only [bS]
            have key : ∀ q : Int, q = (if n.k_.l_.length = 0 then 0 else n.k_.q_.sum) → Dec (kJ n q) (Hc s t i n) := fun q L => by
              unfold kJ
              have C : ∀ o : Option Bool, (o.bind fun y => some y) = o := fun o => by cases o <;> rfl
              by_cases d : (n.i_.t_ = 0 ∧ n.i_.u_ = 0) ∧ n.v_.length = 0 ∧ n.I_ = 0
              · rw [if_pos (by simp [d.1.1, d.1.2, d.2.1, d.2.2]), C, C]
                exact fU.of_iff ⟨fun g => ⟨r, u, j, v, fun _ => ⟨d.1, d.2.1, d.2.2, by rw [← L]; exact g⟩, fun g => by rw [f] at g; cases g⟩, fun g => by rw [L]; exact (g.2.2.2.2.1 f).2.2.2⟩
              · rw [if_neg (by simp only [Bool.and_eq_true, beq_iff_eq, Bool.and_true]; omega)]
                exact bG fun g => d ⟨(g.2.2.2.2.1 f).1, (g.2.2.2.2.1 f).2.1, (g.2.2.2.2.1 f).2.2.1⟩
            by_cases d : n.k_.l_.length = 0
            · rw [if_pos (by simp; exact List.length_eq_zero_iff.1 d)]
              exact key 0 (by rw [if_pos d])
            · rw [if_neg (by simp; exact fun e => d (by rw [e]; rfl))]
              exact key _ (by rw [if_neg d])
        · rw [e]
          exact bG fun g => v g.2.2.2.1
      · rw [e]
        exact bG fun g => j g.2.2.1
    · rw [e]
      exact bG fun g => u g.2.1
  · rw [e]
    exact bG fun g => r g.1
theorem Ld {s : aj} {n : az} (i : bV s) (j : sh n) : Dec (lC s n) (Oj n ∧ ud s n.k_ ∧ wA s n.d_) := by
  unfold lC
  have h : oO n.k_ := j.2.2.2.2.1
  have k : n.d_.length ≤ 1048576 := j.2.2.2.2.2.2.1.1
  by_cases a : (n.i_.t_ = 0 ∧ n.i_.u_ = 0) ∧ n.v_.length = 0 ∧ n.I_ = 0
  · rw [if_neg (by simp only [Bool.or_eq_true, Bool.not_eq_true', bne_iff_ne, decide_eq_true_eq, ne_eq, Bool.and_true, Bool.and_eq_false_iff, beq_eq_false_iff_ne]; omega)]
    rcases (ze i h).cases with ⟨e, c⟩ | ⟨e, c⟩
    · rw [e]
      simp only [cS]
      rcases (Ea i k).cases with ⟨e, d⟩ | ⟨e, d⟩
      · rw [e]
        simp only [cS]
        by_cases f : n.k_.l_.length = 0
        · rw [if_pos (by simp only [beq_iff_eq]; omega)]
          refine ⟨_, rfl, ?_⟩
          rw [beq_iff_eq]
          exact ⟨fun g => ⟨⟨a.1, a.2.1, a.2.2, by rw [if_pos f]; omega⟩, c, d⟩, fun g => by have := g.1.2.2.2; rw [if_pos f] at this; omega⟩
        · rw [if_neg (by simp only [beq_iff_eq]; omega), Jv i h c]
          simp only [bS]
          have l : ∀ o : Option Bool, (o.bind fun y => some y) = o := fun o => by cases o <;> rfl
          rw [l]
          exact jz.of_iff ⟨fun g => ⟨⟨a.1, a.2.1, a.2.2, by rw [if_neg f]; exact g⟩, c, d⟩, fun g => by have := g.1.2.2.2; rw [if_neg f] at this; exact this⟩
      · rw [e]
        exact bG fun g => d g.2.2
    · rw [e]
      exact bG fun g => c g.2.1
  · rw [if_pos (by simp only [Bool.or_eq_true, Bool.not_eq_true', bne_iff_ne, decide_eq_true_eq, ne_eq, Bool.and_true, Bool.and_eq_false_iff, beq_eq_false_iff_ne]; omega)]
    exact bG fun g => a ⟨g.1.1, g.1.2.1, g.1.2.2.1⟩
theorem KG {s : aj} {t : ax} (q : bV s) (C : lY t) {i : Nat} (D : i < t.e_.length) : Dec (kr s t (i : Int)) (LL s t i t.e_[i] ∧ ud s t.e_[i].k_ ∧ wA s t.e_[i].d_) := by
  unfold kr
  have T := C.1.1
  rw [aX D]
  simp only [bS]
  have o := C.1.2 _ (List.getElem_mem D)
  generalize t.e_[i] = n at *
  have P : n.v_.length ≤ 1048576 := o.2.2.1.1
  have E : oO n.k_ := o.2.2.2.2.1
  have F : n.d_.length ≤ 1048576 := o.2.2.2.2.2.2.1.1
  rcases (Hj (f := n.i_) q).cases with ⟨e, p⟩ | ⟨e, p⟩
  · rw [e]
    simp only [cS]
    have R := KS p
    rw [EQ q p]
    simp only [bS]
    by_cases hk : n.v_.length = brN s n.i_
    · rw [if_neg (by simp only [bne_iff_ne, ne_eq]; omega), bi (n := (n.v_.length : Int) - 1) (by omega) (by omega)]
      rcases (jz (x := n.I_) (a := 0) (b := (n.v_.length : Int) - 1)).cases with ⟨e, l⟩ | ⟨e, l⟩
      · rw [e]
        simp only [cS]
        rcases (ze q E).cases with ⟨e, u⟩ | ⟨e, u⟩
        · rw [e]
          simp only [Option.bind_some, Bool.not_true, Bool.false_or]
          by_cases v : n.k_.l_.length = 0 ∧ n.J_ = 0
          · rw [if_neg (by simp only [Bool.or_eq_true, bne_iff_ne, decide_eq_true_eq, ne_eq]; omega)]
            rcases (Ea q F).cases with ⟨e, w⟩ | ⟨e, w⟩
            · rw [e]
              simp only [cS]
              refine (pk (Lp := jq n (i : Int) t) (n := n.v_.length) (Q := fun j => ∀ h : j < n.v_.length, JD t i n.v_[j] ∧ (0 < j → n.v_[j - 1] < n.v_[j])) 0 (fun k j c => ?_) (fun k j _ c => ?_) (by omega)).of_iff
                ⟨fun g => ⟨⟨p, hk, l, v.1, v.2, fun j h1 c _ => (g j (Nat.zero_le _) c c).2 h1, fun x d => by
                  obtain ⟨j, c, rfl⟩ := List.getElem_of_mem d
                  exact (g j (Nat.zero_le _) c c).1⟩, u, w⟩, fun g j _ c _ => ⟨g.1.2.2.2.2.2.2 _ (List.getElem_mem c), fun h1 => g.1.2.2.2.2.2.1 j h1 c c⟩⟩
              · show (if _ then _ else _) = _
                rw [if_neg (by simp; omega)]
              · rw [jq, if_pos (by simp; omega), aX c]
                simp only [bS]
                rw [aG (i := i) (by omega), bi (n := (t.e_.length : Int) - 1) (by omega) (by omega), aG (i := j) (by omega)]
                generalize d : n.v_[j] = x
                rcases (jz (x := x) (a := ((i + 1 : Nat) : Int)) (b := (t.e_.length : Int) - 1)).cases with ⟨e, G⟩ | ⟨e, G⟩
                · rw [e]
                  simp only [cS]
                  obtain ⟨m, rfl⟩ : ∃ m : Nat, x = m := ⟨x.toNat, by omega⟩
                  have l : m < t.e_.length := by omega
                  rw [aX l]
                  simp only [bS]
                  by_cases H : t.e_[m].A_ = (i : Int)
                  · rw [if_neg (by simp only [bne_iff_ne, ne_eq]; omega)]
                    have L : JD t i n.v_[j] := by rw [d]; exact ⟨m, l, rfl, by omega, H⟩
                    by_cases h1 : 0 < j
                    · rw [if_pos (by simp; omega), bi (n := (j : Int) - 1) (by omega) (by omega), show (j : Int) - 1 = ((j - 1 : Nat) : Int) by omega, aX (show j - 1 < n.v_.length by omega)]
                      simp only [bS]
                      by_cases r : n.v_[j] ≤ n.v_[j - 1]
                      · rw [if_pos (by rw [← d]; simpa using r)]
                        exact .inr ⟨fun g => by have := (g c).2 h1; omega, rfl⟩
                      · rw [if_neg (by rw [← d]; simpa using r)]
                        exact .inl ⟨fun _ => ⟨L, fun _ => by omega⟩, rfl⟩
                    · rw [if_neg (by simp; omega)]
                      exact .inl ⟨fun _ => ⟨L, fun g => absurd g h1⟩, rfl⟩
                  · rw [if_pos (by simp only [bne_iff_ne, ne_eq]; omega)]
                    exact .inr ⟨fun g => by
                      obtain ⟨m', hm', A, _, M⟩ := (g c).1
                      rw [d] at A
                      obtain rfl : m = m' := by omega
                      exact H M, rfl⟩
                · rw [e]
                  exact .inr ⟨fun g => by
                      obtain ⟨m', hm', A, V, M⟩ := (g c).1
                      rw [d] at A
                      exact G ⟨by omega, by omega⟩, rfl⟩
            · rw [e]
              exact bG fun g => w g.2.2
          · rw [if_pos (by simp only [Bool.or_eq_true, bne_iff_ne, decide_eq_true_eq, ne_eq]; omega)]
            exact bG fun g => v ⟨g.1.2.2.2.1, g.1.2.2.2.2.1⟩
        · rw [e]
          exact bG fun g => u g.2.1
      · rw [e]
        exact bG fun g => l g.1.2.2.1
    · rw [if_pos (by simp only [bne_iff_ne, ne_eq]; omega)]
      exact bG fun g => hk g.1.2.1
  · rw [e]
    exact bG fun g => p g.1.1
theorem Fx {l : List Int} (d : l.length ≤ 1048576) (x : Int) : Dec (dO l x) (x ∈ l) := by
  unfold dO gi
  refine (qR (Lp := de l x) (n := l.length) (Q := fun j => ∀ h : j < l.length, x = l[j]) (fun k j a => ?_) (fun k j a => ?_) (by omega)).of_iff ⟨fun ⟨j, a, g⟩ => by rw [g a]; exact List.getElem_mem a, fun c => ?_⟩
  · show (if _ then _ else _) = _
    rw [if_neg (by simp; omega)]
  · rw [de, if_pos (by simp; omega), aX a, aG (by omega)]
    simp only [bS]
    by_cases h : x = l[j]
    · rw [if_pos (by simpa using h)]; exact .inl ⟨fun _ => h, rfl⟩
    · rw [if_neg (by simpa using h)]; exact .inr ⟨fun g => h (g a), rfl⟩
  · obtain ⟨j, a, rfl⟩ := List.getElem_of_mem c
    exact ⟨j, a, fun _ => rfl⟩
theorem Ke {l : List Int} (f : l.length ≤ 1048576) (x : Int) : Dec (oh l x) (x ∈ l) := by
  unfold oh
  have h := vx (Lp := fun k j => dj l x k (j : Int)) (n := l.length) (Q := fun j => ∀ h : j < l.length, l[j] ≠ x) (fin := some false) (bad := some true) (fun k _ => by
    show dj l x (k + 1) _ = _
    rw [dj, if_neg (by simp)]) (fun k j a _ => by
    show (_ ∧ dj l x (k + 1) _ = dj l x k _) ∨ (_ ∧ dj l x (k + 1) _ = _)
    rw [dj, if_pos (by simp; omega), aX a, aG (by omega)]
    simp only [bS]
    by_cases h : l[j] = x
    · rw [if_pos (by simpa using h)]; exact .inr ⟨fun g => g a h, rfl⟩
    · rw [if_neg (by simpa using h)]; exact .inl ⟨fun _ => h, rfl⟩) (by omega)
  rcases h with ⟨h1, c⟩ | ⟨h1, c⟩
  · have c : dj l x aI 0 = some false := c
    rw [c]
    exact bG fun d => by
      obtain ⟨j, a, e⟩ := List.getElem_of_mem d
      exact h1 j a a e
  · have c : dj l x aI 0 = some true := c
    rw [c]
    refine mH (Classical.byContradiction fun d => h1 fun j a _ e => d ?_)
    rw [← e]; exact List.getElem_mem a
theorem LF {s : aj} {t : ax} (A : bV s) (o : lY t) : Dec (qQ s t) (zK s t) := by
  unfold qQ
  have V := o.1.1
  rcases (mG (nM A)).cases with ⟨e, p⟩ | ⟨e, p⟩
  · rw [e]
    simp only [cS]
    rcases (fU (x := (t.e_.length : Int)) (a := 1) (b := 31)).cases with ⟨e, q⟩ | ⟨e, q⟩
    · rw [e]
      simp only [cS]
      rcases (fU (x := t.y_) (a := 0) (b := 99999)).cases with ⟨e, r⟩ | ⟨e, r⟩
      · rw [e]
        simp only [cS]
        refine (rz (Lp := fun k i => ey t s k (i : Int)) (n := t.e_.length) (Q := ME s t) (F := True) (fun k _ => ?_) (fun k i c R => ?_) (by omega)).of_iff ⟨fun g => ⟨p, q, r, g.1⟩, fun g => ⟨g.2.2.2, trivial⟩⟩
        · show Dec (ey t s (k + 1) _) _
          rw [ey, if_neg (by simp)]
          exact mH trivial
        · show (_ ∧ ey t s (k + 1) _ = ey t s k _) ∨ (_ ∧ ey t s (k + 1) _ = _)
          rw [ey, if_pos (by simp; omega), aX c, aG (by omega)]
          simp only [bS]
          rcases (Ma A o c).cases with ⟨e, h⟩ | ⟨e, h⟩
          · rw [e]
            simp only [cS]
            by_cases C : i = 0
            · rw [if_pos (by simp only [beq_iff_eq]; omega)]
              by_cases D : t.e_[i].A_ = -1 ∧ t.e_[i].h_ = 0 ∧ t.e_[i].G_ = 0
              · rw [if_neg (by simp only [Bool.or_eq_true, bne_iff_ne, ne_eq]; omega)]
                exact .inl ⟨fun _ => ⟨h, fun _ => D, fun g => by omega⟩, rfl⟩
              · rw [if_pos (by simp only [Bool.or_eq_true, bne_iff_ne, ne_eq]; omega)]
                exact .inr ⟨fun g => D ((g c).2.1 C), rfl⟩
            · rw [if_neg (by simp only [beq_iff_eq]; omega), bi (n := (i : Int) - 1) (by omega) (by omega)]
              rcases (fU (x := t.e_[i].A_) (a := 0) (b := (i : Int) - 1)).cases with ⟨e, E⟩ | ⟨e, E⟩
              · rw [e]
                simp only [cS]
                obtain ⟨u, G⟩ : ∃ u : Nat, t.e_[i].A_ = u := ⟨t.e_[i].A_.toNat, by omega⟩
                have m : u < i := by omega
                have d : u < t.e_.length := by omega
                rw [G, aX d]
                simp only [bS]
                have H := R u m d
                have X := h.1
                have T := H.1.1
                rw [bi (n := t.e_[i].h_ - 1) (by omega) (by omega)]
                by_cases f : t.e_[u].B_ = true
                · rw [if_pos f]
                  exact .inr ⟨fun g => by
                    obtain ⟨u', _, hu', h1, v, _⟩ := (g c).2.2 (by omega)
                    obtain rfl : u = u' := by omega
                    exact (nomatch v.symm.trans f), rfl⟩
                · rw [if_neg f]
                  have hlf' : t.e_[u].B_ = false := by simpa using f
                  rcases (Fx (l := t.e_[u].v_) (o.1.2 _ (List.getElem_mem d)).2.2.1.1 (i : Int)).cases with ⟨e, w⟩ | ⟨e, w⟩
                  · rw [e]
                    simp only [Option.bind_some, Bool.not_true, Bool.false_or]
                    by_cases j : t.e_[u].h_ + 1 = t.e_[i].h_ ∧ t.e_[u].G_ ≤ t.e_[i].G_
                    · rw [if_neg (by simp only [Bool.or_eq_true, bne_iff_ne, decide_eq_true_eq, ne_eq]; omega)]
                      exact .inl ⟨fun _ => ⟨h, fun g => absurd g C, fun _ => ⟨u, m, d, G, hlf', w, j.1, j.2⟩⟩, rfl⟩
                    · rw [if_pos (by simp only [Bool.or_eq_true, bne_iff_ne, decide_eq_true_eq, ne_eq]; omega)]
                      exact .inr ⟨fun g => by
                        obtain ⟨u', _, hu', h1, v, L, M, P⟩ := (g c).2.2 (by omega)
                        obtain rfl : u = u' := by omega
                        exact j ⟨M, P⟩, rfl⟩
                  · rw [e]
                    exact .inr ⟨fun g => by
                      obtain ⟨u', _, hu', h1, v, L, M, P⟩ := (g c).2.2 (by omega)
                      obtain rfl : u = u' := by omega
                      exact w L, rfl⟩
              · rw [e]
                exact .inr ⟨fun g => by
                  obtain ⟨u', _, hu', h1, _⟩ := (g c).2.2 (by omega)
                  exact E ⟨by omega, by omega⟩, rfl⟩
          · rw [e]
            exact .inr ⟨fun g => h (g c).1, rfl⟩
      · rw [e]
        exact bG fun g => r g.2.2.1
    · rw [e]
      exact bG fun g => q g.2.1
  · rw [e]
    exact bG fun g => p g.1
theorem LJ {s : aj} {t : ax} (G : bV s) (A : lY t) : Dec (qD s t) (zK s t) := by
  unfold qD
  have hl := A.1.1
  rcases (mE (nM G)).cases with ⟨e, H⟩ | ⟨e, H⟩
  · rw [e]
    simp only [cS]
    rcases (jz (x := (t.e_.length : Int)) (a := 1) (b := 31)).cases with ⟨e, L⟩ | ⟨e, L⟩
    · rw [e]
      simp only [cS]
      rcases (jz (x := t.y_) (a := 0) (b := 99999)).cases with ⟨e, M⟩ | ⟨e, M⟩
      · rw [e]
        simp only [cS]
        refine (rz (Lp := fun k i => ew t s k (i : Int)) (n := t.e_.length) (Q := ME s t) (F := True) (fun k _ => ?_) (fun k i c hQ => ?_) (by omega)).of_iff ⟨fun g => ⟨H, L, M, g.1⟩, fun g => ⟨g.2.2.2, trivial⟩⟩
        · show Dec (ew t s (k + 1) _) _
          rw [ew, if_neg (by simp)]
          exact mH trivial
        · show (_ ∧ ew t s (k + 1) _ = ew t s k _) ∨ (_ ∧ ew t s (k + 1) _ = _)
          rw [ew, if_pos (by simp; omega), aX c, aG (by omega)]
          simp only [bS]
          have T := A.1.2 _ (List.getElem_mem c)
          rcases (jz (x := t.e_[i].h_) (a := 0) (b := 6)).cases with ⟨e, p⟩ | ⟨e, p⟩
          · rw [e]
            simp only [cS]
            rcases (jz (x := t.e_[i].G_) (a := 0) (b := t.y_)).cases with ⟨e, q⟩ | ⟨e, q⟩
            · rw [e]
              simp only [cS]
              have C : ∀ b : Bool, t.e_[i].B_ = b → ∀ K : Bool → Option Bool, (Hc s t i t.e_[i] ∧ (((if t.e_[i].B_ = true then (lC s ({ t.e_[i] with B_ := true })).bind fun d => some (!d) else some false).bind fun f => (if f = true then some true else (if (!t.e_[i].B_) = true then (kr s t (i : Int)).bind fun j => some (!j) else some false).bind fun m => some m).bind K) = K false)) ∨
                  (¬ Hc s t i t.e_[i] ∧ (((if t.e_[i].B_ = true then (lC s ({ t.e_[i] with B_ := true })).bind fun d => some (!d) else some false).bind fun f => (if f = true then some true else (if (!t.e_[i].B_) = true then (kr s t (i : Int)).bind fun j => some (!j) else some false).bind fun m => some m).bind K) = K true)) := fun b o K => by
                cases b
                · rw [o]
                  simp only [Option.bind_some, Bool.not_false, Bool.false_eq_true, if_true, if_false]
                  rcases (KG G A c).cases with ⟨e, h⟩ | ⟨e, h⟩
                  · rw [e]
                    exact .inl ⟨⟨p, q, h.2.1, h.2.2, fun g => (nomatch o.symm.trans g), fun _ => h.1⟩, rfl⟩
                  · rw [e]
                    exact .inr ⟨fun g => h ⟨g.2.2.2.2.2 o, g.2.2.1, g.2.2.2.1⟩, rfl⟩
                · have hE : ({ t.e_[i] with B_ := true } : az) = t.e_[i] := by rw [← o]
                  rw [hE, o]
                  simp only [Option.bind_some, Bool.not_true, Bool.false_eq_true, if_true, if_false]
                  rcases (Ld G T).cases with ⟨e, h⟩ | ⟨e, h⟩
                  · rw [e]
                    exact .inl ⟨⟨p, q, h.2.1, h.2.2, fun _ => h.1, fun g => (nomatch o.symm.trans g)⟩, rfl⟩
                  · rw [e]
                    exact .inr ⟨fun g => h ⟨g.2.2.2.2.1 o, g.2.2.1, g.2.2.2.1⟩, rfl⟩
              rcases C _ rfl _ with ⟨D, e⟩ | ⟨D, e⟩
              · rw [e]
                simp only [Bool.false_eq_true, if_false]
                by_cases V : i = 0
                · rw [if_pos (by simp only [beq_iff_eq]; omega)]
                  by_cases X : t.e_[i].A_ = -1 ∧ t.e_[i].h_ = 0 ∧ t.e_[i].G_ = 0
                  · rw [if_neg (by simp only [Bool.or_eq_true, bne_iff_ne, ne_eq]; omega)]
                    exact .inl ⟨fun _ => ⟨D, fun _ => X, fun g => by omega⟩, rfl⟩
                  · rw [if_pos (by simp only [Bool.or_eq_true, bne_iff_ne, ne_eq]; omega)]
                    exact .inr ⟨fun g => X ((g c).2.1 V), rfl⟩
                · rw [if_neg (by simp only [beq_iff_eq]; omega), bi (n := (i : Int) - 1) (by omega) (by omega)]
                  rcases (jz (x := t.e_[i].A_) (a := 0) (b := (i : Int) - 1)).cases with ⟨e, Z⟩ | ⟨e, Z⟩
                  · rw [e]
                    simp only [cS]
                    obtain ⟨u, hu⟩ : ∃ u : Nat, t.e_[i].A_ = u := ⟨t.e_[i].A_.toNat, by omega⟩
                    have E : u < i := by omega
                    have r : u < t.e_.length := by omega
                    rw [hu, aX r]
                    simp only [bS]
                    have a1 := hQ u E r
                    have a7 := a1.1.1
                    rw [bi (n := t.e_[u].h_ + 1) (by omega) (by omega)]
                    by_cases v : t.e_[u].B_ = true
                    · rw [if_pos v]
                      exact .inr ⟨fun g => by
                        obtain ⟨u', _, hu', h1, P, _⟩ := (g c).2.2 (by omega)
                        obtain rfl : u = u' := by omega
                        exact (nomatch P.symm.trans v), rfl⟩
                    · rw [if_neg v]
                      have hlf' : t.e_[u].B_ = false := by simpa using v
                      rcases (Ke (l := t.e_[u].v_) (A.1.2 _ (List.getElem_mem r)).2.2.1.1 (i : Int)).cases with ⟨e, R⟩ | ⟨e, R⟩
                      · rw [e]
                        simp only [Option.bind_some, Bool.not_true, Bool.false_or]
                        by_cases w : t.e_[u].h_ + 1 = t.e_[i].h_ ∧ t.e_[u].G_ ≤ t.e_[i].G_
                        · rw [if_neg (by simp only [Bool.or_eq_true, bne_iff_ne, decide_eq_true_eq, ne_eq]; omega)]
                          exact .inl ⟨fun _ => ⟨D, fun g => absurd g V, fun _ => ⟨u, E, r, hu, hlf', R, w.1, w.2⟩⟩, rfl⟩
                        · rw [if_pos (by simp only [Bool.or_eq_true, bne_iff_ne, decide_eq_true_eq, ne_eq]; omega)]
                          exact .inr ⟨fun g => by
                            obtain ⟨u', _, hu', h1, P, h3, h4, h5⟩ := (g c).2.2 (by omega)
                            obtain rfl : u = u' := by omega
                            exact w ⟨h4, h5⟩, rfl⟩
                      · rw [e]
                        exact .inr ⟨fun g => by
                          obtain ⟨u', _, hu', h1, P, h3, h4, h5⟩ := (g c).2.2 (by omega)
                          obtain rfl : u = u' := by omega
                          exact R h3, rfl⟩
                  · rw [e]
                    exact .inr ⟨fun g => by
                      obtain ⟨u', _, hu', h1, _⟩ := (g c).2.2 (by omega)
                      exact Z ⟨by omega, by omega⟩, rfl⟩
              · rw [e]
                exact .inr ⟨fun g => D (g c).1, rfl⟩
            · rw [e]
              exact .inr ⟨fun g => q (g c).1.2.1, rfl⟩
          · rw [e]
            exact .inr ⟨fun g => p (g c).1.1, rfl⟩
      · rw [e]
        exact bG fun g => M g.2.2.1
    · rw [e]
      exact bG fun g => L g.2.1
  · rw [e]
    exact bG fun g => H g.1
end Go.Vk
/- A window in words: alike. -/
namespace Go.Vk
theorem MK {n : Nat} (f : n ≤ 40) : nY (n : Int) = some ((2 ^ n : Nat) : Int) := by
  unfold nY
  have key : ∀ (d k i : Nat), i + d = n → d < k → ic (n : Int) k ((2 ^ i : Nat) : Int) (i : Int) = some ((2 ^ n : Nat) : Int) := by
    intro d
    induction d with
    | zero =>
      intro k i a hk
      obtain ⟨k, rfl⟩ := kS k (by omega)
      rw [ic]
      rw [if_neg (by simp; omega), show i = n by omega]
    | succ d ih =>
      intro k i a hk
      obtain ⟨k, rfl⟩ := kS k (by omega)
      rw [ic]
      have c : (2 : Nat) ^ i ≤ 2 ^ 40 := Nat.pow_le_pow_right (by omega) (by omega)
      have e : IntKind.i64.wrap (((2 ^ i : Nat) : Int) * 2) = ((2 ^ (i + 1) : Nat) : Int) := by
        rw [Nat.pow_succ]
        generalize (2 : Nat) ^ i = q at c
        rw [bi (by omega) (by omega)]; omega
      rw [if_pos (decide_eq_true (by omega)), e, aG (by omega)]
      exact ih k (i + 1) (by omega) (by omega)
  exact key n aI 0 (by omega) (cw (by omega))
theorem Nq : ∀ n : Nat, n < 8 → shl .i64 1 (n : Int) = some ((2 ^ n : Nat) : Int) := by decide
def Pk (p : aJ) (i : Nat) : Prop := ∀ h : i < p.p_.length, (1 ≤ p.p_[i].length ∧ p.p_[i].length ≤ 3) ∧ ∀ x ∈ p.p_[i], 0 ≤ x ∧ x ≤ ((2 ^ i : Nat) : Int)
def HO (p : aJ) : Prop := p.p_.length ≤ 8 ∧ ∀ i, i < p.p_.length → Pk p i
theorem Jl (p : aJ) : Dec (mp p) (HO p) := by
  unfold mp HO
  by_cases f : p.p_.length ≤ 8
  · rw [if_neg (by simp; omega)]
    rcases vx (Lp := fun k i => cU p k (i : Int)) (n := p.p_.length) (Q := Pk p) (fin := some true) (bad := some false) (fun k _ => by
      show cU p (k + 1) _ = _
      rw [cU, if_neg (by simp)]) (fun k i c _ => by
      show (_ ∧ cU p (k + 1) _ = cU p k _) ∨ (_ ∧ cU p (k + 1) _ = _)
      rw [cU, if_pos (by simp; omega), aX c]
      unfold ba
      simp only [bS]
      by_cases e : 1 ≤ p.p_[i].length ∧ p.p_[i].length ≤ 3
      · rw [if_neg (by simp; omega), DE (p := p.p_[i]) (P := fun x => 0 ≤ x ∧ x ≤ ((2 ^ i : Nat) : Int)) (fin := cU p k ((i + 1 : Nat) : Int)) (bad := some false) (ia p i (cU p k)) (fun h => by
          rw [ia, aX c]
          simp only [bS]
          rw [if_neg (by simp), aG (by omega)]) (fun h j l => by
          rw [ia, aX c]
          simp only [bS]
          rw [if_pos (by simp; omega), aX l, MK (by omega), aG (by omega)]
          unfold ba
          simp only [bS]
          generalize ((2 ^ i : Nat) : Int) = q
          by_cases a : 0 ≤ p.p_[i][j] ∧ p.p_[i][j] ≤ q
          · rw [if_pos a, if_neg (by simp; omega)]
          · rw [if_neg a, if_pos (by simp; omega)]) (by omega)]
        by_cases a : ∀ x ∈ p.p_[i], 0 ≤ x ∧ x ≤ ((2 ^ i : Nat) : Int)
        · rw [if_pos a]; exact .inl ⟨fun _ => ⟨e, a⟩, rfl⟩
        · rw [if_neg a]; exact .inr ⟨fun g => a (g c).2, rfl⟩
      · rw [if_pos (by simp; omega)]
        exact .inr ⟨fun g => e (g c).1, rfl⟩) (by omega) with ⟨h1, d⟩ | ⟨h1, d⟩
    · exact ⟨true, d, by simp; exact ⟨f, h1⟩⟩
    · exact ⟨false, d, by simp only [Bool.false_eq_true, false_iff]; exact fun g => h1 g.2⟩
  · rw [if_pos (by simp; omega)]
    exact ⟨false, rfl, by simp; omega⟩
theorem OL {r : List Int} (f : r.length ≤ 1048576) {i : Nat} (a : i < 8) : Dec (bW r i) (∃ x ∈ r, ¬ (0 ≤ x ∧ x ≤ ((2 ^ i : Nat) : Int))) := by
  unfold bW cB
  refine (qR (Lp := bF r i) (n := r.length) (Q := fun j => ∀ c : j < r.length, ¬ (0 ≤ r[j] ∧ r[j] ≤ ((2 ^ i : Nat) : Int))) (fun k j c => by
    show (if _ then _ else _) = _
    rw [if_neg (by simp; omega)]) (fun k j c => by
    rw [bF]
    rw [if_pos (by simp; omega), aX c, aG (by omega)]
    unfold oy aW
    rw [Nq i a]
    simp only [bS]
    by_cases d : 0 ≤ r[j] ∧ r[j] ≤ ((2 ^ i : Nat) : Int)
    · rw [oI d]
      exact .inr ⟨fun g => g c d, rfl⟩
    · rw [pU d]
      exact .inl ⟨fun _ => d, rfl⟩) (by omega)).of_iff ⟨fun ⟨i, a, h⟩ => ⟨r[i], List.getElem_mem a, h a⟩, fun ⟨x, e, h⟩ => ?_⟩
  obtain ⟨i, a, rfl⟩ := List.mem_iff_getElem.1 e
  exact ⟨i, a, fun _ => h⟩
theorem Jd {p : aJ} (_ : sc p) : Dec (mo p) (HO p) := by
  unfold mo HO
  by_cases l : p.p_.length ≤ 8
  · rw [if_neg (by simp; omega)]
    rcases vx (Lp := fun k i => dU p k (i : Int)) (n := p.p_.length) (Q := Pk p) (fin := some true) (bad := some false) (fun k _ => by
      show dU p (k + 1) _ = _
      rw [dU, if_neg (by simp)]) (fun k i a _ => by
      show (_ ∧ dU p (k + 1) _ = dU p k _) ∨ (_ ∧ dU p (k + 1) _ = _)
      rw [dU, if_pos (by simp; omega), aX a]
      unfold aW
      simp only [bS]
      by_cases j : 1 ≤ p.p_[i].length ∧ p.p_[i].length ≤ 3
      · rw [if_neg (by simp; omega)]
        rcases (OL (r := p.p_[i]) (by omega) (i := i) (by omega)).cases with ⟨e, h⟩ | ⟨e, h⟩
        · rw [e]
          exact .inr ⟨fun g => by obtain ⟨x, c, d⟩ := h; exact d ((g a).2 x c), rfl⟩
        · rw [e]
          refine .inl ⟨fun _ => ⟨j, fun x c => ?_⟩, by simp only [bS]; rw [if_neg (by simp), aG (by omega)]⟩
          exact Decidable.by_contra fun d => h ⟨x, c, d⟩
      · rw [if_pos (by simp; omega)]
        exact .inr ⟨fun g => j (g a).1, rfl⟩) (by omega) with ⟨h1, f⟩ | ⟨h1, f⟩
    · exact ⟨true, f, by simp; exact ⟨l, h1⟩⟩
    · exact ⟨false, f, by simp only [Bool.false_eq_true, false_iff]; exact fun g => h1 g.2⟩
  · rw [if_pos (by simp; omega)]
    exact ⟨false, rfl, by simp; omega⟩
end Go.Vk
/- Scores: tested alike. -/
namespace Go.Vk
theorem LT {p : List Int} (a : ∀ x ∈ p, 0 ≤ x ∧ x ≤ 1000000000) (c : p.length ≤ 1000000000) : lw p = some p.sum := by
  unfold lw
  have := yo (p := p) id (fun k s i => fM p k s i) some (fun k s => by
    show fM p (k + 1) s _ = _
    rw [fM, if_neg (by simp)]) (fun k s i h => by
    show fM p (k + 1) s _ = _
    rw [fM, if_pos (by simp; omega), aX h, aG (by omega)]
    rfl) a c
  rwa [List.map_id] at this
def IZ (t : List (List Int)) : Prop := ∀ r ∈ t, r.length ≤ 3 ∧ ∀ x ∈ r, 0 ≤ x ∧ x ≤ 9999
theorem Ev {r : List Int} (h : r.length ≤ 3 ∧ ∀ x ∈ r, 0 ≤ x ∧ x ≤ 9999) : 0 ≤ r.sum ∧ r.sum ≤ 30000 := by
  have := qm h.2
  omega
theorem FQ {t : List (List Int)} (a : IZ t) (c : t.length ≤ 1000000000) : nZ t = some (t.map List.sum).sum := by
  unfold nZ
  exact yo (p := t) List.sum (fun k s i => fm t k s i) some (fun k s => by
    show fm t (k + 1) s _ = _
    rw [fm, if_neg (by simp)]) (fun k s i h => by
    show fm t (k + 1) s _ = _
    have d := a _ (List.getElem_mem h)
    rw [fm, if_pos (by simp; omega), aX h, aG (by omega)]
    simp only [bS]
    rw [LT (fun x e => by have := d.2 x e; omega) (by omega)]
    rfl) (fun r h => by have := Ev (a r h); omega) c
def ent (t : List (List Int)) (i j : Nat) : Int := ((t[i]?.getD [])[j]?).getD 0
theorem xp {t : List (List Int)} {i j : Nat} (a : i < t.length) (c : j < t[i].length) : ent t i j = t[i][j] := by
  unfold ent
  rw [List.getElem?_eq_getElem a, Option.getD_some, List.getElem?_eq_getElem c, Option.getD_some]
theorem Mg {l : List aC} (j : l.length ≤ 1000000000) (a b : Int) : oo l a b = some (l.count ⟨a, b⟩ : Int) := by
  unfold oo
  have := vM (Lp := fun k i => dR l a b k (((l.take i).count ⟨a, b⟩ : Nat) : Int) (i : Int)) (n := l.length) (fin := some (l.count ⟨a, b⟩ : Int)) (fun k => by
    show dR l a b (k + 1) _ _ = _
    rw [dR, if_neg (by simp), List.take_length]) (fun k i g => by
    show dR l a b (k + 1) _ _ = dR l a b k _ _
    have m : (l.take i).count (⟨a, b⟩ : aC) ≤ i := Nat.le_trans List.count_le_length (by simp; omega)
    rw [dR, if_pos (by simp; omega), aX g, aG (by omega), aG (by omega), List.take_succ_eq_append_getElem g, List.count_append]
    simp only [bS]
    generalize l[i] = e
    obtain ⟨c, d⟩ := e
    by_cases h1 : c = a
    · by_cases f : d = b
      · subst h1; subst f
        simp
      · have : ¬ ((⟨c, d⟩ : aC) = ⟨a, b⟩) := fun h => f (by injection h)
        simp [h1, f]
    · have : ¬ ((⟨c, d⟩ : aC) = ⟨a, b⟩) := fun h => h1 (by injection h)
      simp [h1]) (by omega)
  simpa using this
def oA (t : List (List Int)) : Int := (t.map List.sum).sum
def LX (n : Int) (s : aZ) (i : Nat) : Prop := ∀ h : i < s.o_.length, (s.o_[i].length : Int) = n ∧ ∀ j, j < s.o_[i].length → (0 ≤ ent s.o_ i j ∧ ent s.o_ i j ≤ 9999) ∧ (s.n_.count ⟨i, j⟩ : Int) ≤ ent s.o_ i j
def IB (n : Int) (p : aC) : Prop := (0 ≤ p.R_ ∧ p.R_ ≤ n - 1) ∧ (0 ≤ p.S_ ∧ p.S_ ≤ n - 1)
def Ni (n : Int) (s : aZ) : Prop := oA s.o_ ≤ 9999 ∧ (s.n_.length : Int) = (if 20 < oA s.o_ then 20 else oA s.o_) ∧ ∀ p ∈ s.n_, IB n p
def Cx (n : Int) (s : aZ) : Prop := (2 ≤ n ∧ n ≤ 3) ∧ (s.o_.length : Int) = n ∧ (∀ i, i < s.o_.length → LX n s i) ∧ Ni n s
theorem EZ {n : Int} {s : aZ} {i : Nat} (a : i < s.o_.length) (h : LX n s i) (f : n ≤ 3) : s.o_[i].length ≤ 3 ∧ ∀ x ∈ s.o_[i], 0 ≤ x ∧ x ≤ 9999 := by
  obtain ⟨h1, d⟩ := h a
  refine ⟨by omega, fun x e => ?_⟩
  obtain ⟨j, c, rfl⟩ := List.mem_iff_getElem.1 e
  have := (d j c).1
  rw [xp a c] at this
  exact this
theorem IS {n : Int} {s : aZ} {k : Nat} (h : ∀ i, i < k → LX n s i) (hk : k ≤ s.o_.length) (a : n ≤ 3) : IZ (s.o_.take k) := by
  intro r c
  obtain ⟨i, d, rfl⟩ := List.mem_iff_getElem.1 c
  rw [List.getElem_take]
  rw [List.length_take] at d
  exact EZ (by omega) (h i (by omega)) a
theorem CI {t : List (List Int)} (h : IZ t) : 0 ≤ oA t ∧ oA t ≤ 30000 * t.length := by
  have := qm (p := t.map List.sum) (b := 30000) (fun x a => by
    obtain ⟨r, c, rfl⟩ := List.mem_map.1 a
    exact Ev (h r c))
  simpa [oA] using this
theorem JJ {t : List (List Int)} {i : Nat} (h : i < t.length) : oA (t.take (i + 1)) = oA (t.take i) + t[i].sum := by
  unfold oA
  rw [List.take_succ_eq_append_getElem h, List.map_append, List.sum_append]
  simp
theorem LU {n : Int} {s : aZ} (e : 2 ≤ n ∧ n ≤ 3) (f : s.n_.length ≤ 1048576) : Dec (dL s n aI 0) (∀ p ∈ s.n_, IB n p) := by
  refine (rz (Lp := fun k i => dL s n k (i : Int)) (n := s.n_.length) (Q := fun i => ∀ h : i < s.n_.length, IB n s.n_[i]) (F := True) (fun k _ => ?_) (fun k i a _ => ?_) (by omega)).of_iff ⟨fun h p d => ?_, fun h => ⟨fun i a _ => h _ (List.getElem_mem a), trivial⟩⟩
  · show Dec (dL s n (k + 1) _) _
    rw [dL, if_neg (by simp)]
    exact mH trivial
  · show (_ ∧ dL s n (k + 1) _ = dL s n k _) ∨ (_ ∧ dL s n (k + 1) _ = _)
    rw [dL, if_pos (by simp; omega), aX a, aG (by omega), bi (n := n - 1) (by omega) (by omega)]
    unfold ba
    simp only [bS]
    by_cases h1 : 0 ≤ s.n_[i].R_ ∧ s.n_[i].R_ ≤ n - 1
    · rw [oI h1]
      simp only [cS]
      by_cases c : 0 ≤ s.n_[i].S_ ∧ s.n_[i].S_ ≤ n - 1
      · rw [oI c]
        exact .inl ⟨fun _ => ⟨h1, c⟩, rfl⟩
      · rw [pU c]
        exact .inr ⟨fun g => c (g a).2, rfl⟩
    · rw [pU h1]
      exact .inr ⟨fun g => h1 (g a).1, rfl⟩
  · obtain ⟨i, a, rfl⟩ := List.mem_iff_getElem.1 d
    exact h.1 i a a
theorem Kg {n : Int} {s : aZ} (D : vU s) : Dec (pm n s) (Cx n s) := by
  have H := D.2.1
  unfold pm Cx ba
  simp only [bS]
  by_cases a : 2 ≤ n ∧ n ≤ 3
  · rw [oI a]
    by_cases f : (s.o_.length : Int) = n
    · rw [if_neg (by simp [f])]
      refine Dec.of_iff (P := (∀ i, i < s.o_.length → LX n s i) ∧ Ni n s) ?_ ⟨fun h => ⟨a, f, h⟩, fun h => h.2.2⟩
      refine rz (Lp := fun k i => dk n s k (oA (s.o_.take i)) (i : Int)) (n := s.o_.length) (Q := LX n s) (F := Ni n s) (fun k o => ?_) (fun k i c o => ?_) (by omega)
      · show Dec (dk n s (k + 1) _ _) _
        rw [dk, if_neg (by simp; omega), List.take_length]
        have r := CI (IS (k := s.o_.length) o (Nat.le_refl _) a.2)
        rw [List.take_length] at r
        unfold Ni
        by_cases h1 : oA s.o_ > 9999
        · rw [if_pos (by simpa using h1)]
          exact bG fun g => by have := g.1; omega
        · rw [if_neg (by simpa using h1)]
          unfold ui
          have E : (if decide (oA s.o_ < 20) then some (oA s.o_) else some 20 : Option Int) = some (if 20 < oA s.o_ then 20 else oA s.o_) := by
            by_cases c1 : oA s.o_ < 20
            · rw [if_pos (by simpa using c1), if_neg (by omega)]
            · rw [if_neg (by simpa using c1)]
              by_cases c2 : 20 < oA s.o_
              · rw [if_pos c2]
              · rw [if_neg c2]; congr 1; omega
          rw [E]
          simp only [bS]
          by_cases d : (s.n_.length : Int) = (if 20 < oA s.o_ then 20 else oA s.o_)
          · rw [if_neg (by simp [d])]
            exact (LU a (by omega)).of_iff ⟨fun g => ⟨by omega, d, g⟩, fun g => g.2.2⟩
          · rw [if_pos (by simp [d])]
            exact bG fun g => d g.2.1
      · show (_ ∧ dk n s (k + 1) _ _ = dk n s k _ _) ∨ (_ ∧ dk n s (k + 1) _ _ = _)
        have r := CI (IS (k := i) o (by omega) a.2)
        rw [List.length_take] at r
        rw [dk, if_pos (by simp; omega), aX c]
        simp only [bS]
        by_cases l : (s.o_[i].length : Int) = n
        · rw [if_neg (by simp [l])]
          have m := vx (Lp := fun e j => ep n s i (dk n s k) e (oA (s.o_.take i) + (s.o_[i].take j).sum) (j : Int)) (n := s.o_[i].length)
            (Q := fun j => (0 ≤ ent s.o_ i j ∧ ent s.o_ i j ≤ 9999) ∧ (s.n_.count ⟨i, j⟩ : Int) ≤ ent s.o_ i j) (fin := dk n s k (oA (s.o_.take (i + 1))) ((i + 1 : Nat) : Int)) (bad := some false) (fun e _ => by
              show ep n s i _ (e + 1) _ _ = _
              rw [ep, if_neg (by simp; omega), List.take_length, JJ c, aG (by omega)]) (fun e j t A => by
              show (_ ∧ ep n s i _ (e + 1) _ _ = ep n s i _ e _ _) ∨ (_ ∧ ep n s i _ (e + 1) _ _ = _)
              have u := qm (p := s.o_[i].take j) (b := 9999) (fun x G => by
                obtain ⟨q, C, rfl⟩ := List.mem_iff_getElem.1 G
                rw [List.length_take] at C
                have := (A q (by omega)).1
                rw [xp c (by omega)] at this
                rw [List.getElem_take]; exact this)
              rw [List.length_take] at u
              rw [xp c t]
              rw [ep, if_pos (by simp; omega), aX c]
              simp only [bS]
              rw [aX t, aG (by omega), yh t]
              unfold ba
              simp only [bS]
              by_cases h1 : 0 ≤ s.o_[i][j] ∧ s.o_[i][j] ≤ 9999
              · rw [oI h1]
                simp only [Bool.not_true, Bool.false_eq_true, if_false]
                rw [Mg (by omega)]
                simp only [bS]
                by_cases d : (s.n_.count ⟨i, j⟩ : Int) ≤ s.o_[i][j]
                · rw [if_neg (by simp; omega), bi (by omega) (by omega), Int.add_assoc]
                  exact .inl ⟨⟨h1, d⟩, rfl⟩
                · rw [if_pos (by simp; omega)]
                  exact .inr ⟨fun g => d g.2, rfl⟩
              · rw [pU h1]
                exact .inr ⟨fun g => h1 g.1, rfl⟩) (by omega)
          simp only [List.take_zero, List.sum_nil, Int.add_zero] at m
          rcases m with ⟨v, w⟩ | ⟨v, w⟩
          · exact .inl ⟨fun _ => ⟨l, v⟩, w⟩
          · exact .inr ⟨fun g => v (g c).2, w⟩
        · rw [if_pos (by simp [l])]
          exact .inr ⟨fun g => l (g c).1, rfl⟩
    · rw [if_pos (by simp [f])]
      exact bG fun g => f g.2.1
  · rw [pU a]
    exact bG fun g => a g.1
end Go.Vk
/- Scores: tested alike by the program. -/
namespace Go.Vk
def cm (l : List aC) : List (aC × Int) := l.foldl (fun m p => wK m p (IntKind.i64.wrap (ik m p + 1))) []
theorem MQ (l : List aC) : ∀ m : List (aC × Int), (∀ q, 0 ≤ ik m q ∧ ik m q + l.length ≤ 1000000000) → ∀ q, ik (l.foldl (fun m p => wK m p (IntKind.i64.wrap (ik m p + 1))) m) q = ik m q + l.count q := by
  induction l with
  | nil => intro m _ q; simp
  | cons p l ih =>
    intro m a q
    rw [List.foldl_cons]
    have d := a p
    simp only [List.length_cons] at a d
    have c : IntKind.i64.wrap (ik m p + 1) = ik m p + 1 := bi (by omega) (by omega)
    rw [ih _ (fun q => by
      rw [GX, c]
      have := a q
      split <;> omega) q, GX, c, List.count_cons]
    by_cases h : q = p
    · subst h
      simp
      omega
    · have : ¬ (p = q) := fun e => h e.symm
      simp [h, this]
theorem OK {l : List aC} (a : l.length ≤ 1000000000) (q : aC) : ik (cm l) q = (l.count q : Int) := by
  unfold cm
  rw [MQ l [] (fun q => by simp [ik]; omega) q]
  simp [ik]
theorem IM {l : List aC} {i : Nat} (h : i < l.length) : cm (l.take (i + 1)) = wK (cm (l.take i)) l[i] (IntKind.i64.wrap (ik (cm (l.take i)) l[i] + 1)) := by
  unfold cm
  rw [List.take_succ_eq_append_getElem h, List.foldl_append]
  rfl
theorem GB {r : List Int} (f : r.length ≤ 1048576) : Dec (bY r) (∃ x ∈ r, ¬ (0 ≤ x ∧ x ≤ 9999)) := by
  unfold bY cE
  refine (qR (Lp := bK r) (n := r.length) (Q := fun j => ∀ a : j < r.length, ¬ (0 ≤ r[j] ∧ r[j] ≤ 9999)) (fun k j a => by
    show (if _ then _ else _) = _
    rw [if_neg (by simp; omega)]) (fun k j a => by
    rw [bK]
    rw [if_pos (by simp; omega), aX a, aG (by omega)]
    unfold pK aW
    simp only [bS]
    by_cases c : 0 ≤ r[j] ∧ r[j] ≤ 9999
    · rw [oI c]
      exact .inr ⟨fun g => g a c, rfl⟩
    · rw [pU c]
      exact .inl ⟨fun _ => c, rfl⟩) (by omega)).of_iff ⟨fun ⟨i, d, h⟩ => ⟨r[i], List.getElem_mem d, h d⟩, fun ⟨x, e, h⟩ => ?_⟩
  obtain ⟨i, d, rfl⟩ := List.mem_iff_getElem.1 e
  exact ⟨i, d, fun _ => h⟩
def NN (n : Int) (s : aZ) (i : Nat) : Prop := ∀ h : i < s.o_.length, (s.o_[i].length : Int) = n ∧ ∀ x ∈ s.o_[i], 0 ≤ x ∧ x ≤ 9999
def Je (n : Int) (s : aZ) (i : Nat) : Prop := ∀ h : i < s.n_.length, IB n s.n_[i] ∧ ((s.n_.take (i + 1)).count s.n_[i] : Int) ≤ ent s.o_ s.n_[i].R_.toNat s.n_[i].S_.toNat
theorem HI {n : Int} {s : aZ} : Cx n s ↔ ((2 ≤ n ∧ n ≤ 3) ∧ (s.o_.length : Int) = n ∧ (∀ i, i < s.o_.length → NN n s i) ∧ oA s.o_ ≤ 9999 ∧ (s.n_.length : Int) = (if 20 < oA s.o_ then 20 else oA s.o_) ∧ ∀ i, i < s.n_.length → Je n s i) := by
  constructor
  · rintro ⟨f, k, c, h1, l, e⟩
    refine ⟨f, k, fun i a h => ⟨(c i a h).1, (EZ h (c i a) f.2).2⟩, h1, l, fun i a h => ⟨e _ (List.getElem_mem h), ?_⟩⟩
    have d := e _ (List.getElem_mem h)
    have o : s.n_[i].R_.toNat < s.o_.length := by have := d.1; omega
    obtain ⟨r, g⟩ := c _ o o
    have t : s.n_[i].S_.toNat < s.o_[s.n_[i].R_.toNat].length := by have := d.2; omega
    have u := (g _ t).2
    have x : (⟨(s.n_[i].R_.toNat : Int), (s.n_[i].S_.toNat : Int)⟩ : aC) = s.n_[i] := by
      rw [Int.toNat_of_nonneg d.1.1, Int.toNat_of_nonneg d.2.1]
    rw [x] at u
    have D : (s.n_.take (i + 1)).count s.n_[i] ≤ s.n_.count s.n_[i] := (List.take_sublist _ _).count_le _
    omega
  · rintro ⟨f, k, c, h1, l, e⟩
    refine ⟨f, k, fun i a h => ⟨(c i a h).1, fun j m => ?_⟩, h1, l, fun p d => ?_⟩
    · have r := (c i a h).2 _ (List.getElem_mem m)
      rw [xp h m]
      refine ⟨r, ?_⟩
      by_cases v : (⟨(i : Int), (j : Int)⟩ : aC) ∈ s.n_
      · obtain ⟨q, w, A, C⟩ := Hx v
        obtain ⟨_, g⟩ := e q w w
        rw [A, C] at g
        have : ent s.o_ (Int.toNat i) (Int.toNat j) = s.o_[i][j] := by
          rw [Int.toNat_natCast, Int.toNat_natCast, xp h m]
        simp only at g
        omega
      · rw [List.count_eq_zero.2 v]
        omega
    · obtain ⟨i, a, rfl⟩ := List.mem_iff_getElem.1 d
      exact (e i a a).1
theorem Ls {n : Int} {s : aZ} (q : 2 ≤ n ∧ n ≤ 3) (r : s.n_.length ≤ 1048576) (t : (s.o_.length : Int) = n) (m : ∀ i, i < s.o_.length → NN n s i) : Dec (dN s n aI 0 []) (∀ i, i < s.n_.length → Je n s i) := by
  refine (rz (Lp := fun k i => dN s n k (i : Int) (cm (s.n_.take i))) (n := s.n_.length) (Q := Je n s) (F := True) (fun k _ => ?_) (fun k i a _ => ?_) (by omega)).of_iff ⟨fun h => h.1, fun h => ⟨h, trivial⟩⟩
  · show Dec (dN s n (k + 1) _ _) _
    rw [dN, if_neg (by simp)]
    exact mH trivial
  · show (_ ∧ dN s n (k + 1) _ _ = dN s n k _ _) ∨ (_ ∧ dN s n (k + 1) _ _ = _)
    have f := OK (l := s.n_.take (i + 1)) (by simp; omega) s.n_[i]
    rw [dN, if_pos (by simp; omega), aX a, aG (by omega), bi (n := n - 1) (by omega) (by omega), IM a]
    rw [IM a] at f
    unfold aW
    simp only [bS]
    by_cases h1 : 0 ≤ s.n_[i].R_ ∧ s.n_[i].R_ ≤ n - 1
    · rw [oI h1]
      simp only [cS]
      by_cases c : 0 ≤ s.n_[i].S_ ∧ s.n_[i].S_ ≤ n - 1
      · rw [oI c]
        simp only [Bool.not_true, Bool.false_eq_true, if_false]
        have d : s.n_[i].R_.toNat < s.o_.length := by omega
        have e : s.n_[i].S_.toNat < s.o_[s.n_[i].R_.toNat].length := by have := (m _ d d).1; omega
        have o : idx s.o_ s.n_[i].R_ = some s.o_[s.n_[i].R_.toNat] := by
          have := aX d
          rwa [Int.toNat_of_nonneg h1.1] at this
        have p : idx s.o_[s.n_[i].R_.toNat] s.n_[i].S_ = some s.o_[s.n_[i].R_.toNat][s.n_[i].S_.toNat] := by
          have := aX e
          rwa [Int.toNat_of_nonneg c.1] at this
        rw [o]
        simp only [bS]
        rw [p]
        simp only [bS]
        rw [f]
        by_cases j : ((s.n_.take (i + 1)).count s.n_[i] : Int) ≤ s.o_[s.n_[i].R_.toNat][s.n_[i].S_.toNat]
        · rw [if_neg (by simp; omega)]
          exact .inl ⟨fun _ => ⟨⟨h1, c⟩, by rw [xp d e]; exact j⟩, rfl⟩
        · rw [if_pos (by simp; omega)]
          exact .inr ⟨fun g => j (by have := (g a).2; rwa [xp d e] at this), rfl⟩
      · rw [pU c]
        exact .inr ⟨fun g => c (g a).1.2, rfl⟩
    · rw [pU h1]
      exact .inr ⟨fun g => h1 (g a).1.1, rfl⟩
theorem Kb {n : Int} {s : aZ} (t : vU s) : Dec (pO n s) (Cx n s) := by
  have v := t.2.1
  refine Dec.of_iff ?_ HI.symm
  unfold pO aW
  simp only [bS]
  by_cases f : 2 ≤ n ∧ n ≤ 3
  · rw [oI f]
    by_cases j : (s.o_.length : Int) = n
    · rw [if_neg (by simp [j])]
      refine Dec.of_iff (P := (∀ i, i < s.o_.length → NN n s i) ∧ oA s.o_ ≤ 9999 ∧ (s.n_.length : Int) = (if 20 < oA s.o_ then 20 else oA s.o_) ∧ ∀ i, i < s.n_.length → Je n s i) ?_ ⟨fun h => ⟨f, j, h⟩, fun h => h.2.2⟩
      refine rz (Lp := fun k i => eC s n k (i : Int)) (n := s.o_.length) (Q := NN n s) (fun k o => ?_) (fun k i a o => ?_) (by omega)
      · show Dec (eC s n (k + 1) _) _
        have l : IZ s.o_ := fun r d => by
          obtain ⟨i, a, rfl⟩ := List.mem_iff_getElem.1 d
          obtain ⟨w, u⟩ := o i a a
          exact ⟨by omega, u⟩
        rw [eC, if_neg (by simp), FQ l (by omega)]
        simp only [bS]
        show Dec (if (decide (oA s.o_ > 9999) || _) then _ else _) _
        by_cases h1 : oA s.o_ > 9999
        · rw [if_pos (by simp [h1])]
          exact bG fun g => by have := g.1; omega
        · by_cases m : (s.n_.length : Int) = (if 20 < oA s.o_ then 20 else oA s.o_)
          · rw [if_neg (by simp only [h1, decide_false, Bool.false_or, bne_iff_ne, ne_eq, Decidable.not_not]; exact m)]
            exact (Ls f (by omega) j o).of_iff ⟨fun g => ⟨by omega, m, g⟩, fun g => g.2.2⟩
          · rw [if_pos (by simp only [h1, decide_false, Bool.false_or, bne_iff_ne, ne_eq]; exact m)]
            exact bG fun g => m g.2.1
      · show (_ ∧ eC s n (k + 1) _ = eC s n k _) ∨ (_ ∧ eC s n (k + 1) _ = _)
        rw [eC, if_pos (by simp; omega), aX a, aG (by omega)]
        simp only [bS]
        by_cases d : (s.o_[i].length : Int) = n
        · rw [if_neg (by simp [d])]
          rcases (GB (r := s.o_[i]) (by omega)).cases with ⟨e, x, p, q⟩ | ⟨e, q⟩
          · rw [e]
            exact .inr ⟨fun g => q ((g a).2 x p), rfl⟩
          · rw [e]
            exact .inl ⟨fun _ => ⟨d, fun x p => Classical.byContradiction fun c => q ⟨x, p, c⟩⟩, rfl⟩
        · rw [if_pos (by simp [d])]
          exact .inr ⟨fun g => d (g a).1, rfl⟩
    · rw [if_pos (by simp [j])]
      exact bG fun g => j g.2.1
  · rw [pU f]
    exact bG fun g => f g.1
end Go.Vk
/- Rules, members, forests, states: tested alike. -/
namespace Go.Vk
theorem yp (c y : Bool) : (if c = true then some y else some false : Option Bool) = some (c && y) := by cases c <;> rfl
theorem sP (o : Option Bool) : (o.bind fun y => some y) = o := by cases o <;> rfl
def DV (r : bw) : Prop := (1 ≤ r.L_ ∧ r.L_ ≤ 9) ∧ (0 ≤ r.N_ ∧ r.N_ ≤ 999) ∧ (1 ≤ r.M_ ∧ r.M_ ≤ 200) ∧ (0 ≤ r.h_ ∧ r.h_ ≤ 6) ∧ (1 ≤ r.e_ ∧ r.e_ ≤ 31) ∧ (62 ≤ r.E_ ∧ r.E_ ≤ 2000)
theorem Hm (r : bw) : Dec (oV r) (DV r) := by
  unfold oV ba DV
  simp only [Option.bind_some, yp]
  exact ⟨_, rfl, by simp [and_assoc]⟩
theorem GQ (r : bw) : Dec (pb r) (DV r) := by
  unfold pb aW DV
  simp only [Option.bind_some, yp]
  exact ⟨_, rfl, by simp [and_assoc]⟩
def ra (c : aR) : Prop := jV c.g_ ∧ DV c.b_ ∧ (1 ≤ c.j_ ∧ c.j_ ≤ 4) ∧ (1 ≤ c.O_ ∧ c.O_ ≤ (c.g_.d_.length : Int)) ∧ (c.P_ = 1 ∨ c.P_ = 6) ∧ (1 ≤ c.r_ ∧ c.r_ ≤ 9) ∧ (1 ≤ c.s_ ∧ c.s_ ≤ 9) ∧ c.r_ ≤ c.s_
theorem NM (x : Int) : Dec ((mc x).bind fun y => some (decide ((y.length : Int) > 0))) (x = 1 ∨ x = 6) := by
  unfold mc
  by_cases h1 : x = 1
  · rw [if_pos (by simpa using h1)]; exact mH (.inl h1)
  · rw [if_neg (by simpa using h1)]
    by_cases a : x = 6
    · rw [if_pos (by simpa using a)]; exact mH (.inr a)
    · rw [if_neg (by simpa using a)]; exact bG (by omega)
theorem MS (x : Int) : Dec ((lW x).bind fun y => some (!y.2)) (x = 1 ∨ x = 6) := by
  unfold lW
  by_cases h1 : x = 1
  · rw [if_pos (by simpa using h1)]; exact mH (.inl h1)
  · rw [if_neg (by simpa using h1)]
    by_cases a : x = 6
    · rw [if_pos (by simpa using a)]; exact mH (.inr a)
    · rw [if_neg (by simpa using a)]; exact bG (by omega)
theorem Cb {c : aR} (l : bV c.g_) : Dec (jX c) (ra c) := by
  unfold jX ra
  rcases (mE (nM l)).cases with ⟨e, d⟩ | ⟨e, d⟩
  · rw [e]
    simp only [Option.bind_some, if_true]
    rcases (Hm c.b_).cases with ⟨e, f⟩ | ⟨e, f⟩
    · rw [e]
      simp only [Option.bind_some, if_true]
      rcases (jz (x := c.j_) (a := 1) (b := 4)).cases with ⟨e, h1⟩ | ⟨e, h1⟩
      · rw [e]
        simp only [Option.bind_some, if_true]
        rcases (jz (x := c.O_) (a := 1) (b := (c.g_.d_.length : Int))).cases with ⟨e, h⟩ | ⟨e, h⟩
        · rw [e]
          simp only [Option.bind_some, if_true]
          rcases (NM c.P_).cases with ⟨e, i⟩ | ⟨e, i⟩
          · rw [e]
            simp only [Option.bind_some, if_true]
            rcases (jz (x := c.r_) (a := 1) (b := 9)).cases with ⟨e, j⟩ | ⟨e, j⟩
            · rw [e]
              simp only [Option.bind_some, if_true]
              rcases (jz (x := c.s_) (a := 1) (b := 9)).cases with ⟨e, k⟩ | ⟨e, k⟩
              · rw [e]
                simp only [Option.bind_some, Bool.true_and]
                refine ⟨_, rfl, ?_⟩
                rw [decide_eq_true_iff]
                exact ⟨fun g => ⟨d, f, h1, h, i, j, k, g⟩, fun g => g.2.2.2.2.2.2.2⟩
              · rw [e]; exact bG fun g => k g.2.2.2.2.2.2.1
            · rw [e]; exact bG fun g => j g.2.2.2.2.2.1
          · rw [e]; exact bG fun g => i g.2.2.2.2.1
        · rw [e]; exact bG fun g => h g.2.2.2.1
      · rw [e]; exact bG fun g => h1 g.2.2.1
    · rw [e]; exact bG fun g => f g.2.1
  · rw [e]; exact bG fun g => d g.1
theorem BA {c : aR} (l : bV c.g_) : Dec (ll c) (ra c) := by
  unfold ll ra
  rcases (mG (nM l)).cases with ⟨e, d⟩ | ⟨e, d⟩
  · rw [e]
    simp only [Option.bind_some, if_true]
    rcases (GQ c.b_).cases with ⟨e, f⟩ | ⟨e, f⟩
    · rw [e]
      simp only [Option.bind_some, if_true]
      rcases (fU (x := c.j_) (a := 1) (b := 4)).cases with ⟨e, h1⟩ | ⟨e, h1⟩
      · rw [e]
        simp only [Option.bind_some, if_true]
        rcases (fU (x := c.O_) (a := 1) (b := (c.g_.d_.length : Int))).cases with ⟨e, h⟩ | ⟨e, h⟩
        · rw [e]
          simp only [Option.bind_some, if_true]
          rcases (MS c.P_).cases with ⟨e, i⟩ | ⟨e, i⟩
          · rw [e]
            simp only [Option.bind_some, if_true]
            rcases (fU (x := c.r_) (a := 1) (b := 9)).cases with ⟨e, j⟩ | ⟨e, j⟩
            · rw [e]
              simp only [Option.bind_some, if_true]
              rcases (fU (x := c.s_) (a := 1) (b := 9)).cases with ⟨e, k⟩ | ⟨e, k⟩
              · rw [e]
                simp only [Option.bind_some, Bool.true_and]
                refine ⟨_, rfl, ?_⟩
                rw [decide_eq_true_iff]
                exact ⟨fun g => ⟨d, f, h1, h, i, j, k, g⟩, fun g => g.2.2.2.2.2.2.2⟩
              · rw [e]; exact bG fun g => k g.2.2.2.2.2.2.1
            · rw [e]; exact bG fun g => j g.2.2.2.2.2.1
          · rw [e]; exact bG fun g => i g.2.2.2.2.1
        · rw [e]; exact bG fun g => h g.2.2.2.1
      · rw [e]; exact bG fun g => h1 g.2.2.1
    · rw [e]; exact bG fun g => f g.2.1
  · rw [e]; exact bG fun g => d g.1
def qW (l : List az) : Nat → Int
  | 0 => 0
  | i + 1 => if i = 0 ∨ (l.getD i default).h_ > qW l i then (l.getD i default).h_ else qW l i
theorem RS {l : List az} {i : Nat} (h : i < l.length) : l.getD i default = l[i] := by simp [h]
theorem JE {t : ax} (d : t.e_.length ≤ 1048576) : pD t = some (qW t.e_ t.e_.length) := by
  unfold pD
  refine vM (Lp := fun k i => ex t k (qW t.e_ i) (i : Int)) (n := t.e_.length) (fun k => ?_) (fun k i a => ?_) (by omega)
  · show ex t (k + 1) _ _ = _
    rw [ex, if_neg (by simp)]
  · show ex t (k + 1) _ _ = ex t k _ _
    rw [ex, if_pos (by simp; omega), aX a, aG (by omega)]
    simp only [Option.bind_some, qW]
    rw [RS a]
    by_cases c : i = 0
    · rw [if_pos (by simp only [beq_iff_eq]; omega), if_pos (.inl c)]
      simp only [Option.bind_some, if_true]
    · rw [if_neg (by simp only [beq_iff_eq]; omega)]
      simp only [bS]
      by_cases h1 : t.e_[i].h_ > qW t.e_ i
      · rw [if_pos (by simpa using h1), if_pos (.inr h1)]
      · rw [if_neg (by simpa using h1), if_neg (fun g => g.elim c h1)]
theorem Kf {t : ax} (e : t.e_.length ≤ 1048576) : pC t = some (qW t.e_ t.e_.length) := by
  unfold pC
  by_cases c : t.e_.length = 0
  · rw [if_pos (by simp only [beq_iff_eq]; omega), c]; rfl
  · rw [if_neg (by simp only [beq_iff_eq]; omega), show (0 : Int) = ((0 : Nat) : Int) from rfl, aX (show 0 < t.e_.length by omega)]
    simp only [bS]
    have h := vM (Lp := fun k i => fg t k (i : Int) (if i = 0 then (t.e_[0]'(by omega)).h_ else qW t.e_ i)) (n := t.e_.length) (fin := some (qW t.e_ t.e_.length)) (fun k => by
      show fg t (k + 1) _ _ = _
      rw [fg, if_neg (by simp), if_neg c]) (fun k i d => by
      show fg t (k + 1) _ _ = fg t k _ _
      rw [fg, if_pos (by simp; omega), aX d, aG (by omega)]
      simp only [bS]
      congr 1
      rw [if_neg (Nat.succ_ne_zero i)]
      simp only [qW]
      rw [RS d]
      by_cases a : i = 0
      · subst a
        rw [if_pos rfl, if_pos (show (0 = 0 ∨ _) from .inl rfl), if_neg (Int.lt_irrefl _)]
      · rw [if_neg a]
        by_cases h1 : t.e_[i].h_ > qW t.e_ i
        · rw [if_pos h1, if_pos (Or.inr h1)]
        · rw [if_neg h1, if_neg (fun g : i = 0 ∨ _ => g.elim a h1)]) (by omega)
    exact h
def tj (n : az) : Int := if n.B_ = true then 2 + (n.k_.l_.map fun c => (c.length : Int)).sum else 1
def BT (t : ax) : Int := (t.e_.map tj).sum
theorem xP {α ρ : Type} {p : List α} (v : α → Int) (a : Int) (Lp : Nat → Int → Int → Option ρ) (fin : Int → Option ρ) (d : ∀ k s, Lp (k + 1) s (p.length : Int) = fin s)
    (e : ∀ k s (i : Nat) (h : i < p.length), Lp (k + 1) s (i : Int) = Lp k (IntKind.i64.wrap (s + v p[i])) ((i + 1 : Nat) : Int)) (f : ∀ x ∈ p, 0 ≤ v x ∧ v x ≤ 1000000000) (l : p.length ≤ 1000000000) (m : 0 ≤ a ∧ a ≤ 1000000000) : Lp aI a 0 = fin (a + (p.map v).sum) := by
  have := vM (Lp := fun k i => Lp k (a + ((p.map v).take i).sum) (i : Int)) (n := p.length) (fin := fin (a + (p.map v).sum)) (fun k => by
    show Lp _ _ _ = _
    rw [d, List.take_of_length_le (by simp)]) (fun k i c => by
    show Lp _ _ _ = Lp _ _ _
    have h1 := qm (p := (p.map v).take (i + 1)) (b := 1000000000) (fun x g => by
      obtain ⟨y, j, rfl⟩ := List.mem_map.1 (Gc g)
      exact f y j)
    rw [e _ _ _ c]
    rw [yh (by simpa using c)] at h1 ⊢
    rw [List.getElem_map] at h1 ⊢
    have o : ((p.map v).take (i + 1)).length ≤ 1000000000 := by simp; omega
    rw [bi (by omega) (by omega), Int.add_assoc]) (by omega)
  simpa using this
theorem Jh {n : az} (a : sh n) (h : n.k_.l_.length ≤ 5) : 0 ≤ tj n ∧ tj n ≤ 10000000 := by
  unfold tj
  split
  · have d := a.2.2.2.2.1.2
    have := qm (p := n.k_.l_.map fun c => (c.length : Int)) (b := 1048576) (fun x e => by
      obtain ⟨y, f, rfl⟩ := List.mem_map.1 e
      have := (d.2 y f).1
      omega)
    simp only [List.length_map] at this
    omega
  · omega
theorem KD {n : az} (a : sh n) (h : n.k_.l_.length ≤ 5) : pn n = some (tj n) := by
  unfold pn tj
  have d := a.2.2.2.2.1.2
  cases g : n.B_
  · rfl
  · simp only [Bool.not_true, Bool.false_eq_true, if_true, if_false]
    exact xP (p := n.k_.l_) (fun c => (c.length : Int)) 2 (jS n) some (fun k s => by
      show (if _ then _ else _) = _
      rw [if_neg (by simp)]) (fun k s i e => by
      rw [jS, if_pos (by simp; omega), aX e, aG (by omega)]
      rfl) (fun x f => by have := (d.2 x f).1; omega) (by omega) (by omega)
theorem JG {n : az} (a : sh n) (h : n.k_.l_.length ≤ 5) : pH n = some (tj n) := by
  unfold pH tj
  have d := a.2.2.2.2.1.2
  cases g : n.B_
  · rfl
  · simp only [Bool.not_true, Bool.false_eq_true, if_true, if_false]
    exact xP (p := n.k_.l_) (fun c => (c.length : Int)) 2 (fun k s i => gP n k i s) some (fun k s => by
      show (if _ then _ else _) = _
      rw [if_neg (by simp)]) (fun k s i e => by
      show gP n (k + 1) _ _ = gP n k _ _
      rw [gP, if_pos (by simp; omega), aX e, aG (by omega)]
      rfl) (fun x f => by have := (d.2 x f).1; omega) (by omega) (by omega)
theorem Bd {s : aj} {t : ax} (a : zK s t) {i : Nat} (c : i < t.e_.length) : t.e_[i].k_.l_.length ≤ 5 := by
  have h := (a.2.2.2 i c c).1.2.2.1
  have := a.1.1
  rcases h.2.2.2.2 with g | g
  · omega
  · have := g.1; omega
theorem Dx {s : aj} {t : ax} (d : lY t) (c : zK s t) : nh t = some (BT t) := by
  unfold nh BT
  have f := c.2.1
  have h := xP (p := t.e_) tj 0 (iG t) some (fun k s => by
    show (if _ then _ else _) = _
    rw [if_neg (by simp)]) (fun k s i a => by
    rw [iG, if_pos (by simp; omega), aX a, aG (by omega)]
    simp only [bS]
    rw [KD (d.1.2 _ (List.getElem_mem a)) (Bd c a)]
    rfl) (fun x e => by
      obtain ⟨i, a, rfl⟩ := List.getElem_of_mem e
      have := Jh (d.1.2 _ (List.getElem_mem a)) (Bd c a)
      omega) (by omega) (by omega)
  rw [Int.zero_add] at h
  exact h
theorem CV {s : aj} {t : ax} (d : lY t) (c : zK s t) : mR t = some (BT t) := by
  unfold mR BT
  have f := c.2.1
  have h := xP (p := t.e_) tj 0 (iF t) some (fun k s => by
    show (if _ then _ else _) = _
    rw [if_neg (by simp)]) (fun k s i a => by
    rw [iF, if_pos (by simp; omega), aX a, aG (by omega)]
    simp only [bS]
    rw [JG (d.1.2 _ (List.getElem_mem a)) (Bd c a)]
    rfl) (fun x e => by
      obtain ⟨i, a, rfl⟩ := List.getElem_of_mem e
      have := Jh (d.1.2 _ (List.getElem_mem a)) (Bd c a)
      omega) (by omega) (by omega)
  rw [Int.zero_add] at h
  exact h
def Er (s : aj) (r : bw) (t : ax) : Prop := zK s t ∧ DV r ∧ (t.e_.length : Int) ≤ r.e_ ∧ qW t.e_ t.e_.length ≤ r.h_ ∧ BT t ≤ r.E_
theorem FT {s : aj} {r : bw} {t : ax} (f : bV s) (c : lY t) : Dec (rH s r t) (Er s r t) := by
  unfold rH Er
  rcases (LJ f c).cases with ⟨e, a⟩ | ⟨e, a⟩
  · rw [e]
    simp only [Option.bind_some, if_true]
    rcases (Hm r).cases with ⟨e, d⟩ | ⟨e, d⟩
    · rw [e, JE c.1.1, Dx c a]
      simp only [Option.bind_some, Bool.true_and, yp]
      refine ⟨_, rfl, ?_⟩
      simp [a, d, and_assoc]
    · rw [e]; exact bG fun g => d g.2.1
  · rw [e]; exact bG fun g => a g.1
theorem FN {s : aj} {r : bw} {t : ax} (f : bV s) (c : lY t) : Dec (rD s r t) (Er s r t) := by
  unfold rD Er
  rcases (LF f c).cases with ⟨e, a⟩ | ⟨e, a⟩
  · rw [e]
    simp only [Option.bind_some, if_true]
    rcases (GQ r).cases with ⟨e, d⟩ | ⟨e, d⟩
    · rw [e, Kf c.1.1, CV c a]
      simp only [Option.bind_some, Bool.true_and, yp]
      refine ⟨_, rfl, ?_⟩
      simp [a, d, and_assoc]
    · rw [e]; exact bG fun g => d g.2.1
  · rw [e]; exact bG fun g => a g.1
def KQ (d : dg) : Prop := HO d.r_ ∧ HO d.s_
theorem Nv (d : dg) : Dec (rS d) (KQ d) := by
  unfold rS KQ
  simp only [sP]
  exact (Jl d.r_).and fun _ => Jl d.s_
theorem MP {d : dg} (a : EP d) : Dec (rZ d) (KQ d) := by
  unfold rZ KQ
  simp only [sP]
  exact (Jd a.1).and fun _ => Jd a.2
def FE (t : ax) : Prop := t.e_.length = 0 ∧ t.y_ = 0
theorem Lc (t : ax) : Dec (nU t (ax.mk [] 0)) (FE t) := by
  unfold nU FE
  simp only [sP]
  by_cases h : t.y_ = 0
  · rw [if_pos (by simpa using h)]
    unfold bt
    by_cases a : t.e_.length = 0
    · rw [if_neg (by simp [a])]
      obtain ⟨k, hk⟩ : ∃ k, aI = k + 1 := ⟨aI - 1, by have := cw (n := 0) (by omega); omega⟩
      rw [hk, bb, if_neg (by simp [List.length_eq_zero_iff.1 a])]
      exact mH ⟨a, h⟩
    · rw [if_pos (by simp; exact fun e => a (by rw [e]; rfl))]
      exact bG fun g => a g.1
  · rw [if_neg (by simpa using h)]
    exact bG fun g => h g.2
def sW (c : aR) (m : au) : Prop := ra c ∧ Er c.g_ c.b_ m.H_ ∧ KQ m.K_ ∧ (m.T_ = true → Er c.g_ c.b_ m.w_) ∧ (m.T_ = false → FE m.w_)
theorem HT {c : aR} {m : au} (j : bV c.g_) (k : oE m) : Dec (od c m) (sW c m) := by
  unfold od sW
  rcases (Cb j).cases with ⟨e, d⟩ | ⟨e, d⟩
  · rw [e]
    simp only [cS]
    rcases (FT (r := c.b_) j k.1).cases with ⟨e, f⟩ | ⟨e, f⟩
    · rw [e]
      simp only [cS]
      rcases (Nv m.K_).cases with ⟨e, i⟩ | ⟨e, i⟩
      · rw [e]
        simp only [Option.bind_some, Bool.not_true, Bool.false_eq_true, if_false, sP]
        by_cases a : m.T_ = true
        · rw [if_pos a]
          exact (FT j k.2.2.1).of_iff ⟨fun g => ⟨d, f, i, fun _ => g, fun h => by rw [a] at h; cases h⟩, fun g => g.2.2.2.1 a⟩
        · rw [if_neg a]
          have hy' : m.T_ = false := by simpa using a
          refine ⟨_, rfl, ?_⟩
          rw [Bool.and_eq_true, beq_iff_eq, beq_iff_eq]
          exact ⟨fun g => ⟨d, f, i, fun h => absurd h a, fun _ => ⟨by omega, g.2⟩⟩, fun g => ⟨by have := (g.2.2.2.2 hy').1; omega, (g.2.2.2.2 hy').2⟩⟩
      · rw [e]; exact bG fun g => i g.2.2.1
    · rw [e]; exact bG fun g => f g.2.1
  · rw [e]; exact bG fun g => d g.1
theorem Ib {c : aR} {m : au} (j : bV c.g_) (k : oE m) : Dec (om c m) (sW c m) := by
  unfold om sW
  rcases (BA j).cases with ⟨e, d⟩ | ⟨e, d⟩
  · rw [e]
    simp only [cS]
    rcases (FN (r := c.b_) j k.1).cases with ⟨e, f⟩ | ⟨e, f⟩
    · rw [e]
      simp only [cS]
      rcases (MP k.2.2.2).cases with ⟨e, i⟩ | ⟨e, i⟩
      · rw [e]
        simp only [Option.bind_some, Bool.not_true, Bool.false_eq_true, if_false, sP]
        by_cases a : m.T_ = true
        · rw [if_pos a]
          exact (FN j k.2.2.1).of_iff ⟨fun g => ⟨d, f, i, fun _ => g, fun h => by rw [a] at h; cases h⟩, fun g => g.2.2.2.1 a⟩
        · rw [if_neg a]
          have hy' : m.T_ = false := by simpa using a
          exact (Lc m.w_).of_iff ⟨fun g => ⟨d, f, i, fun h => absurd h a, fun _ => g⟩, fun g => g.2.2.2.2 hy'⟩
      · rw [e]; exact bG fun g => i g.2.2.1
    · rw [e]; exact bG fun g => f g.2.1
  · rw [e]; exact bG fun g => d g.1
def yF (c : aR) (f : be) : Prop := ra c ∧ (f.j_.length : Int) = c.j_ ∧ ∀ m ∈ f.j_, sW c m
theorem HN {c : aR} {f : be} (l : bV c.g_) (o : tR f) : Dec (ol c f) (yF c f) := by
  unfold ol yF
  have q : f.j_.length ≤ 1048576 := o.1
  rcases (Cb l).cases with ⟨e, j⟩ | ⟨e, j⟩
  · rw [e]
    simp only [Option.bind_some, Bool.not_true, Bool.false_or]
    by_cases d : (f.j_.length : Int) = c.j_
    · rw [if_neg (by simpa using d)]
      refine (pk (Lp := jl f c) (n := f.j_.length) (Q := fun i => ∀ h : i < f.j_.length, sW c f.j_[i]) 0 (fun k i a => ?_) (fun k i _ a => ?_) (by omega)).of_iff ⟨fun g => ⟨j, d, fun m p => by
        obtain ⟨i, a, rfl⟩ := List.getElem_of_mem p
        exact g i (Nat.zero_le _) a a⟩, fun g i _ a _ => g.2.2 _ (List.getElem_mem a)⟩
      · show (if _ then _ else _) = _
        rw [if_neg (by simp; omega)]
      · rw [jl, if_pos (by simp; omega), aX a, aG (by omega)]
        simp only [bS]
        rcases (HT l (o.2 _ (List.getElem_mem a))).cases with ⟨e, h⟩ | ⟨e, h⟩
        · rw [e]; exact .inl ⟨fun _ => h, rfl⟩
        · rw [e]; exact .inr ⟨fun g => h (g a), rfl⟩
    · rw [if_pos (by simpa using d)]
      exact bG fun g => d g.2.1
  · rw [e]; exact bG fun g => j g.1
theorem HD {c : aR} {f : be} (l : bV c.g_) (o : tR f) : Dec (nV c f) (yF c f) := by
  unfold nV yF
  have r : f.j_.length ≤ 1048576 := o.1
  rcases (BA l).cases with ⟨e, j⟩ | ⟨e, j⟩
  · rw [e]
    simp only [Option.bind_some, Bool.true_and, sP]
    by_cases d : (f.j_.length : Int) = c.j_
    · rw [if_pos (by simpa using d)]
      have p : Dec (br f.j_ c) (∃ i, i < f.j_.length ∧ ∀ h : i < f.j_.length, ¬ sW c f.j_[i]) := by
        unfold br bQ
        refine qR (Lp := bd f.j_ c) (n := f.j_.length) (fun k i a => ?_) (fun k i a => ?_) (by omega)
        · show (if _ then _ else _) = _
          rw [if_neg (by simp; omega)]
        · rw [bd, if_pos (by simp; omega), aX a, aG (by omega)]
          unfold ow
          simp only [bS]
          rcases (Ib l (o.2 _ (List.getElem_mem a))).cases with ⟨e, h⟩ | ⟨e, h⟩
          · rw [e]; exact .inr ⟨fun g => g a h, rfl⟩
          · rw [e]; exact .inl ⟨fun _ => h, rfl⟩
      rcases p.cases with ⟨e, i, a, h⟩ | ⟨e, h⟩
      · rw [e]; exact bG fun g => h a (g.2.2 _ (List.getElem_mem a))
      · rw [e]; exact mH ⟨j, d, fun m q => by
          obtain ⟨i, a, rfl⟩ := List.getElem_of_mem q
          exact Classical.byContradiction fun g => h ⟨i, a, fun _ => g⟩⟩
    · rw [if_neg (by simpa using d)]
      exact bG fun g => d g.2.1
  · rw [e]; exact bG fun g => j g.1
def nJ (st : ao) : Prop := yF st.a_ st.z_ ∧ Cx (st.a_.g_.f_.length : Int) st.m_
theorem tG {st : ao} (h : iJ st) : Dec (lA st) (nJ st) := by
  unfold lA nJ
  simp only [sP]
  exact (HN h.1.1 h.2.1).and fun _ => Kg h.2.2
theorem DA {st : ao} (h : iJ st) : Dec (nw st) (nJ st) := by
  unfold nw nJ
  simp only [sP]
  exact (HD h.1.1 h.2.1).and fun _ => Kb h.2.2
end Go.Vk
/- Lists of words and of numbers: copied, compared, marked. -/
namespace Go.Vk
theorem CP {α : Type} (p : List α) : (p.map fun _ => 1).sum = p.length := by induction p with | nil => rfl | cons x p ih => simp [ih]; omega
end Go.Vk
/- Numbers and lists put into bytes. -/
namespace Go.Vk
def pV (n : Nat) : List Int := if h : n < 128 then [(n : Int)] else ((n % 128 + 128 : Nat) : Int) :: pV (n / 128)
termination_by n
decreasing_by omega
theorem xC {n : Nat} (h : n < 128) : pV n = [(n : Int)] := by unfold pV; rw [dif_pos h]
theorem Ba {n : Nat} (h : ¬ n < 128) : pV n = ((n % 128 + 128 : Nat) : Int) :: pV (n / 128) := by rw [pV, dif_neg h]
theorem MC {n : Nat} (h : n < 256) : IntKind.u8.wrap (n : Int) = n := by
  unfold IntKind.wrap
  simp [IntKind.bits, IntKind.signed]
  omega
theorem LA : ∀ (d k n : Nat) (l : List Int), n < 128 ^ (d + 1) → n < 9223372036854775808 → d < k → l.length + d ≤ 1000000 →
    jv k (n : Int) l = some (l ++ pV n) ∧ jB k (n : Int) l = some (l ++ pV n, false) ∧ (pV n).length ≤ d + 1 := by
  intro d
  induction d with
  | zero =>
    intro k n l a c hk f
    obtain ⟨k, rfl⟩ := kS k (by omega)
    unfold jv jB
    simp at a
    rw [if_neg (by simp; omega), if_neg (by simp; omega), MC (by omega), xC a, cJ (by simp; omega)]
    exact ⟨rfl, rfl, by simp⟩
  | succ d ih =>
    intro k n l a c hk f
    obtain ⟨k, rfl⟩ := kS k (by omega)
    unfold jv jB
    by_cases e : n < 128
    · rw [if_neg (by simp; omega), if_neg (by simp; omega), MC (by omega), xC e, cJ (by simp; omega)]
      exact ⟨rfl, rfl, by simp⟩
    · rw [if_pos (by simp; omega), if_pos (by simp; omega)]
      rw [KY n c, Rd _ (by omega), Tf]
      have g : IntKind.i64.wrap (Int.tdiv (n : Int) 128) = ((n / 128 : Nat) : Int) := by
        rw [show (128 : Int) = ((128 : Nat) : Int) from rfl, rU, gq (by omega)]
      have h : Int.tmod (n : Int) 128 = ((n % 128 : Nat) : Int) := mY n 128
      have i : IntKind.i64.wrap (((n % 128 : Nat) : Int) + 128) = ((n % 128 + 128 : Nat) : Int) := by rw [bi (by omega) (by omega)]; simp
      rw [g, h, i, MC (by omega), cJ (by simp; omega)]
      simp only [bS]
      obtain ⟨h1, j, m⟩ := ih k (n / 128) (l ++ [((n % 128 + 128 : Nat) : Int)]) (by
        rw [Nat.div_lt_iff_lt_mul (by omega), ← Nat.pow_succ]; exact a) (by omega) (by omega) (by simp; omega)
      rw [h1, j, Ba e]
      exact ⟨by simp, by simp, by simp; omega⟩
def zig (x : Int) : Nat := if x < 0 then (-2 * x - 1).toNat else (2 * x).toNat
def InR (x : Int) : Prop := -1000000000 ≤ x ∧ x ≤ 1000000000
instance : DecidablePred InR := fun _ => inferInstanceAs (Decidable (_ ∧ _))
theorem Mf {x : Int} (h : InR x) : zig x ≤ 2000000000 := by obtain ⟨a, h1⟩ := h; unfold zig; split <;> omega
def dh (x : Int) : List Int := if InR x then pV (zig x) else []
theorem Ej {n : Nat} (h : n ≤ 2147483647) : mF (n : Int) = some (pV n) ∧ mP (n : Int) = some (pV n, false) ∧ (pV n).length ≤ 5 := by
  unfold mF mP ba aW
  simp only [bS]
  rw [oI (by omega)]
  simp only [Bool.not_true, Bool.false_eq_true, if_false]
  obtain ⟨h1, a, c⟩ := LA 4 aI n [] (by omega) (by omega) (cw (by omega)) (by simp)
  exact ⟨by simpa using h1, by simpa using a, by simpa using c⟩
theorem eV {x : Int} : cP x = some (dh x) ∧ qM x = some (dh x, decide ¬ InR x) ∧ (dh x).length ≤ 5 := by
  unfold cP qM ba aW dh
  simp only [bS]
  by_cases a : InR x
  · obtain ⟨h1, f, g⟩ := Ej (n := zig x) (by have := Mf a; omega)
    rw [if_pos a]
    have d : (decide ¬ InR x) = false := by simp [a]
    rw [d]
    obtain ⟨c1, c2⟩ := a
    rw [oI ⟨c1, c2⟩]
    simp only [Bool.not_true, Bool.false_eq_true, if_false]
    by_cases c : x < 0
    · rw [if_pos (by simpa using c), if_pos (by simpa using c)]
      have e : IntKind.i64.wrap ((IntKind.i64.wrap (0 - (IntKind.i64.wrap (2 * x)))) - 1) = (zig x : Nat) := by
        rw [bi (n := 2 * x) (by omega) (by omega), bi (n := 0 - 2 * x) (by omega) (by omega), bi (by omega) (by omega)]
        unfold zig; rw [if_pos c]; omega
      have e' : IntKind.i64.wrap ((IntKind.i64.wrap ((-2) * x)) - 1) = (zig x : Nat) := by
        rw [bi (n := -2 * x) (by omega) (by omega), bi (by omega) (by omega)]
        unfold zig; rw [if_pos c]; omega
      rw [e, e', h1, f]
      exact ⟨rfl, rfl, g⟩
    · rw [if_neg (by simpa using c), if_neg (by simpa using c)]
      have e : IntKind.i64.wrap (2 * x) = (zig x : Nat) := by
        rw [bi (n := 2 * x) (by omega) (by omega)]
        unfold zig; rw [if_neg c]; omega
      rw [e, h1, f]
      exact ⟨rfl, rfl, g⟩
  · rw [if_neg a, pU (by exact a)]
    have d : (decide ¬ InR x) = true := by simp [a]
    rw [d]
    exact ⟨rfl, rfl, by simp⟩
def jL (xs : List Int) : List Int := xs.flatMap dh
theorem mj (xs : List Int) : (jL xs).length ≤ 5 * xs.length := by
  induction xs with
  | nil => simp [jL]
  | cons x xs ih => 
    have := (eV (x := x)).2.2
    simp only [jL, List.flatMap_cons, List.length_append, List.length_cons] at ih ⊢
    omega
theorem wN {p : List Int} (c : p.length < 1000000000000) : fp p = some (decide (∀ x ∈ p, InR x)) := by
  unfold fp
  refine FK (P := InR) (lP p) (fun k => ?_) (fun k i h => ?_) c
  · show (if _ then _ else _) = _
    rw [if_neg (by simp)]
  · show (if _ then _ else _) = _
    rw [if_pos (by simp; omega), aX h, aG (by omega)]
    unfold ba
    simp only [bS]
    by_cases a : InR p[i]
    · rw [oI a, if_pos a]; rfl
    · rw [pU a, if_neg a]; rfl
theorem CU {p : List Int} (a : p.length ≤ 1048576) (l : List Int) (c : l.length ≤ 1000000000) : jP p aI l 0 = some (l ++ jL p) := by
  rw [yd (p := p) (fun k s i => jP p k s i) (fun s x => .inr (s ++ dh x)) (fun s => some s) (fun i s => s.length ≤ l.length + 5 * i)
    (fun k s _ => by show (if _ then _ else _) = _; rw [if_neg (by simp)])
    (fun k s i h d => ⟨by
      show (if _ then _ else _) = _
      rw [if_pos (by simp; omega), aX h, aG (by omega)]
      simp only [bS]
      rw [eV.1]
      simp only [bS]
      rw [cJ (by have := (eV (x := p[i])).2.2; omega)]
      rfl, fun s' e => by
      have := (eV (x := p[i])).2.2
      obtain rfl := Sum.inr.inj e
      rw [List.length_append]; omega⟩) (by omega) l (by omega)]
  clear a c
  induction p generalizing l with
  | nil => simp [run, jL]
  | cons x p ih => show run _ _ (l ++ dh x) p = _; rw [ih]; simp [jL]
theorem gS {p : List Int} (a : p.length ≤ 1048576) (l : List Int) (q : Bool) (c : l.length ≤ 1000000000) : bO ⟨l, q⟩ p = some ⟨l ++ jL p, q || decide (¬ ∀ x ∈ p, InR x)⟩ := by
  unfold bO
  show fy p aI l q 0 = _
  rw [show fy p aI l q 0 = _ from yd (p := p) (fun k (s : List Int × Bool) i => fy p k s.1 s.2 i) (fun s x => .inr (s.1 ++ dh x, s.2 || decide ¬ InR x)) (fun s => some ⟨s.1, s.2⟩) (fun i s => s.1.length ≤ l.length + 5 * i)
    (fun k s _ => by show (if _ then _ else _) = _; rw [if_neg (by simp)])
    (fun k s i h d => ⟨by
      show (if _ then _ else _) = _
      rw [if_pos (by simp; omega), aX h, aG (by omega)]
      simp only [bS]
      rw [eV.2.1]
      simp only [bS]
      rw [cJ (by have := (eV (x := p[i])).2.2; omega)]
      rfl, fun s' e => by
      have := (eV (x := p[i])).2.2
      obtain rfl := Sum.inr.inj e
      show (s.1 ++ _).length ≤ _
      rw [List.length_append]; omega⟩) (by omega) (l, q) (Nat.le_add_right _ _)]
  clear a c
  induction p generalizing l q with
  | nil => simp [run, jL]
  | cons x p ih =>
    show run _ _ (l ++ dh x, q || decide ¬ InR x) p = _
    rw [ih]
    congr 2
    · simp [jL]
    · by_cases h : InR x <;> simp [h]
theorem GY {p : List Int} (a : p.length ≤ 1048576) (l : List Int) (q : Bool) (d : l.length ≤ 900000000) : dr ⟨l, q⟩ p = some ⟨l ++ dh p.length ++ jL p, q || decide (¬ ∀ x ∈ p, InR x)⟩ := by
  unfold dr
  rw [gS (by simp) l q (by omega)]
  have h1 : InR (p.length : Int) := ⟨by omega, by omega⟩
  have c : jL [(p.length : Int)] = dh p.length := by simp [jL]
  rw [c]
  simp only [bS]
  have := (eV (x := (p.length : Int))).2.2
  rw [gS a _ _ (by rw [List.length_append]; omega)]
  simp [h1]
theorem BL {p : List Int} (a : p.length ≤ 1048576) : im p = some (if ∀ x ∈ p, InR x then dh p.length ++ jL p else []) := by
  unfold im
  rw [wN (by omega)]
  simp only [bS]
  by_cases h : ∀ x ∈ p, InR x
  · rw [if_pos h]
    rw [decide_eq_true h]
    simp only [Bool.not_true, Bool.false_eq_true, if_false]
    rw [eV.1]
    simp only [bS]
    exact CU a _ (by have := (eV (x := (p.length : Int))).2.2; omega)
  · rw [if_neg h]
    rw [decide_eq_false h]
    rfl
end Go.Vk
/- Windows: weighed, copied, put. -/
namespace Go.Vk
def Tr (n : Nat) : Prop := n < 9223372036854775808
def uv (x : List (List Int)) : Nat := x.length + (x.map List.length).sum
def ot (p : List Int) : Prop := ∀ x ∈ p, InR x
instance : DecidablePred ot := fun p => inferInstanceAs (Decidable (∀ x ∈ p, InR x))
def iI (p : List Int) : List Int := dh p.length ++ jL p
theorem dd (x : Int) : (dh x).length ≤ 5 := eV.2.2
theorem kN (p : List Int) : (iI p).length ≤ 5 * (1 + p.length) := by
  have := dd p.length
  have := mj p
  unfold iI
  rw [List.length_append]; omega
theorem qa (p : List (List Int)) : (p.flatMap iI).length ≤ 5 * uv p := by
  unfold uv
  induction p with
  | nil => simp
  | cons x p ih =>
    have := kN x
    simp only [List.flatMap_cons, List.length_append, List.map_cons, List.sum_cons, List.length_cons]
    omega
theorem ro {p : List (List Int)} : p.length ≤ uv p := by unfold uv; omega
theorem tD {p : List (List Int)} {x : List Int} (h : x ∈ p) : x.length ≤ uv p := by
  have := vX (f := List.length) h
  unfold uv; omega
theorem qv {p : List Int} (a : p.length ≤ 1048576) (c : ot p) : im p = some (iI p) := by
  rw [BL a, if_pos (show ∀ x ∈ p, InR x from c)]; rfl
theorem vz {p : List (List Int)} (d : uv p ≤ 1048576) (c : ∀ x ∈ p, ot x) : il p = some (dh p.length ++ p.flatMap iI) := by
  unfold il
  rw [eV.1]
  simp only [bS]
  have h1 := qa p
  have e := dd p.length
  have f := @ro p
  exact Hr (p := p) (σ := Unit) (ρ := List Int) iI (fun _ _ => ()) (fun k l _ i => iN p k l i) (fun l _ => some l)
    (fun k l q => by show (if _ then _ else _) = _; rw [if_neg (by simp)])
    (fun k l q i h g => by
      show (if _ then _ else _) = _
      have a := List.getElem_mem h
      rw [if_pos (by simp; omega), aX h, aG (by omega)]
      simp only [bS]
      rw [qv (by have := tD a; omega) (c _ a)]
      simp only [bS]
      rw [cJ (by omega)]
      rfl) (by omega) _ () (by omega)
theorem ph {p : List Int} (a : p.length ≤ 1048576) (l : List Int) (q : Bool) (c : l.length ≤ 900000000) : dr ⟨l, q⟩ p = some ⟨l ++ iI p, q || decide (¬ ot p)⟩ := by
  rw [GY a l q c, List.append_assoc]; rfl
theorem yb {ρ : Type} {p : List (List Int)} (d : uv p ≤ 1048576) (Lp : Nat → List Int → Bool → Int → Option ρ) (fin : List Int → Bool → Option ρ)
    (step : ∀ k l q i, Lp (k + 1) l q i = if decide (i < (p.length : Int)) then (idx p i).bind fun e => (dr ⟨l, q⟩ e).bind fun y => Lp k y.U_ y.C_ (IntKind.i64.wrap (i + 1)) else fin l q)
    (l : List Int) (q : Bool) (a : l.length ≤ 700000000) : Lp aI l q 0 = fin (l ++ p.flatMap iI) (q || decide (¬ ∀ x ∈ p, ot x)) := by
  have h1 := qa p
  have f := @ro p
  rw [← DK]
  exact Hr (p := p) (σ := Bool) iI (fun q x => q || decide (¬ ot x)) Lp fin
    (fun k l q => by rw [step, if_neg (by simp)])
    (fun k l q i h a => by
      have c := List.getElem_mem h
      rw [step, if_pos (by simp; omega), aX h, aG (by omega)]
      simp only [bS]
      rw [ph (by have := tD c; omega) l q (by omega)]
      rfl) (by omega) _ q (by omega)
theorem CR {x : aJ} (c : uv x.p_ ≤ 1048576) : jC x = some (if ∀ r ∈ x.p_, ot r then dh x.p_.length ++ x.p_.flatMap iI else []) := by
  unfold jC
  have e := @ro x.p_
  rw [DE (p := x.p_) (P := ot) (fin := (il x.p_).bind fun y => some y) (bad := some []) (kh x) (fun k => by
    show (if _ then _ else _) = _
    rw [if_neg (by simp)]) (fun k i h => by
    have d := List.getElem_mem h
    show (if _ then _ else _) = _
    rw [if_pos (by simp; omega), aX h, aG (by omega)]
    simp only [bS]
    rw [wN (by have := tD d; omega)]
    simp only [bS]
    by_cases a : ot x.p_[i]
    · rw [if_pos a, show (decide (∀ y ∈ x.p_[i], InR y)) = true from decide_eq_true a]; rfl
    · rw [if_neg a, show (decide (∀ y ∈ x.p_[i], InR y)) = false from decide_eq_false a]; rfl) (by omega)]
  split
  · rename_i a
    rw [vz c a]; rfl
  · rfl
theorem vW {n : Nat} (h : n ≤ 1000000000) : InR (n : Int) := ⟨by omega, by omega⟩
theorem tS {x : Int} (a : InR x) (l : List Int) (q : Bool) (c : l.length ≤ 1000000000) : bO ⟨l, q⟩ [x] = some ⟨l ++ dh x, q⟩ := by
  rw [gS (by simp) l q c]
  simp [jL, a]
theorem Lt {p : List (List Int)} : (p.map fun v => 1 + v.length).sum = uv p := by
  unfold uv
  induction p with
  | nil => rfl
  | cons x p ih => simp only [List.map_cons, List.sum_cons, List.length_cons]; omega
end Go.Vk
/- Trees: weighed, copied, put, compared, marked. -/
namespace Go.Vk
def szM (x : az) : Nat := x.v_.length + (x.k_.q_.length + uv x.k_.l_) + x.d_.length
def szU (x : ax) : Nat := x.e_.length + (x.e_.map szM).sum
theorem EY {x : ax} {y : az} (a : y ∈ x.e_) : szM y ≤ szU x := by
  have := vX (f := szM) a
  unfold szU; omega
end Go.Vk
