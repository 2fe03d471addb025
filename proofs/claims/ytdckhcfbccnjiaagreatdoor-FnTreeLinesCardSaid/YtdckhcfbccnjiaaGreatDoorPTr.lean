/- Attributes' places, branches, nodes, trees: tested alike. -/
import Derived.Test.YtdckhcfbccnjiaaGreatDoorRX
import Derived.Test.YtdckhcfbccnjiaaGreatDoorVkP
namespace Go.Vk
def Asc (l : List Int) : Prop := ∀ i, 1 ≤ i → i < l.length → ∀ h : i < l.length, l[i - 1] < l[i]
theorem zz {l : List Int} (hl : l.length ≤ 1048576) : Dec (fz l) (Asc l) := by
  unfold fz
  refine ku (Lp := ec l) (n := l.length) (Q := fun i => ∀ h : i < l.length, l[i - 1] < l[i]) 1 (fun k i hi => ?_) (fun k i h1 hi => ?_) (by omega)
  · show (if _ then _ else _) = _
    rw [if_neg (by simp; omega)]
  · rw [ec]
    rw [if_pos (by simp; omega), bc hi, aK (by omega), bu (by omega) (by omega), show (i : Int) - 1 = ((i - 1 : Nat) : Int) by omega, bc (show i - 1 < l.length by omega)]
    simp only [bS]
    by_cases hc : l[i] ≤ l[i - 1]
    · rw [if_pos (by simpa using hc)]
      exact .inr ⟨fun g => by have := g hi; omega, rfl⟩
    · rw [if_neg (by simpa using hc)]
      exact .inl ⟨fun _ => by omega, rfl⟩
theorem Asc.le {l : List Int} (h : Asc l) : ∀ {j : Nat} (i : Nat) (hi : i ≤ j) (hj : j < l.length), l[i] ≤ l[j]
  | 0, i, hi, hj => by
    have : i = 0 := by omega
    subst this; exact Int.le_refl _
  | j + 1, i, hi, hj => by
    by_cases e : i = j + 1
    · subst e; exact Int.le_refl _
    · have h1 := h.le (j := j) i (by omega) (by omega)
      have h2 := h (j + 1) (by omega) hj hj
      simp only [Nat.add_sub_cancel] at h2
      omega
def pt (s : ae) (l : List Int) : Prop := eM s ∧ l.length ≠ 0 ∧ ∀ i, 0 ≤ i → i < l.length → ∀ h : i < l.length, (0 ≤ l[i] ∧ l[i] ≤ (s.b_.length : Int) - 1) ∧ (0 < i → l[i - 1] < l[i])
theorem mC {s : ae} {l : List Int} (hs : bp s) (hl : l.length ≤ 1048576) : Dec (fV s l) (pt s l) := by
  unfold fV pt
  refine nX (kz (kB hs)) (fun hS => ?_) (fun g => cy fun h => g h.1)
  have hn := hs.1.1
  by_cases h0 : l.length = 0
  · rw [if_pos (by simp; exact List.length_eq_zero_iff.1 h0)]
    exact cy fun g => g.2.1 h0
  · rw [if_neg (by simp; exact fun e => h0 (by rw [e]; rfl))]
    refine (ku (Lp := gj l s) (n := l.length) (Q := fun i => ∀ h : i < l.length, (0 ≤ l[i] ∧ l[i] ≤ (s.b_.length : Int) - 1) ∧ (0 < i → l[i - 1] < l[i])) 0 (fun k i hi => ?_) (fun k i _ hi => ?_) (by omega)).of_iff ⟨fun g => ⟨hS, h0, g⟩, fun g => g.2.2⟩
    · show (if _ then _ else _) = _
      rw [if_neg (by simp; omega)]
    · rw [gj, if_pos (by simp; omega), bc hi, aK (by omega), bu (n := (s.b_.length : Int) - 1) (by omega) (by omega)]
      unfold bj
      simp only [bS]
      by_cases hr : 0 ≤ l[i] ∧ l[i] ≤ (s.b_.length : Int) - 1
      · rw [ov hr]
        simp only [Bool.not_true, Bool.false_eq_true, if_false]
        by_cases h1 : 0 < i
        · rw [if_pos (by simp; omega), bu (n := (i : Int) - 1) (by omega) (by omega), show (i : Int) - 1 = ((i - 1 : Nat) : Int) by omega, bc (show i - 1 < l.length by omega)]
          simp only [bS]
          by_cases hc : l[i] ≤ l[i - 1]
          · rw [if_pos (by simpa using hc)]
            exact .inr ⟨fun g => by have := (g hi).2 h1; omega, rfl⟩
          · rw [if_neg (by simpa using hc)]
            exact .inl ⟨fun _ => ⟨hr, fun _ => by omega⟩, rfl⟩
        · rw [if_neg (by simp; omega)]
          exact .inl ⟨fun _ => ⟨hr, fun g => absurd g h1⟩, rfl⟩
      · rw [od hr]
        exact .inr ⟨fun g => hr (g hi).1, rfl⟩
theorem xg {s : ae} {l : List Int} (hs : bp s) (hl : l.length ≤ 1048576) : Dec (lf s l) (pt s l) := by
  unfold lf pt
  refine nX (mJ (kB hs)) (fun hS => ?_) (fun g => cy fun h => g h.1)
  have hn := hs.1.1
  by_cases h0 : l.length = 0
  · rw [if_neg (by simp; exact List.length_eq_zero_iff.1 h0)]
    exact cy fun g => g.2.1 h0
  · rw [if_pos (by simp only [Bool.and_eq_true, decide_eq_true_eq, eq_self, true_and]; omega)]
    rcases (zz hl).cases with ⟨e, hA⟩ | ⟨e, hA⟩
    · rw [e]
      simp only [Option.bind_some, if_true]
      rw [show (0 : Int) = ((0 : Nat) : Int) from rfl, bc (show 0 < l.length by omega), bu (by omega) (by omega), show (l.length : Int) - 1 = ((l.length - 1 : Nat) : Int) by omega, bc (show l.length - 1 < l.length by omega)]
      simp only [bS]
      by_cases h1 : 0 ≤ l[0]
      · rw [if_pos (by simpa using h1)]
        refine ⟨_, rfl, ?_⟩
        rw [decide_eq_true_iff]
        refine ⟨fun g => ⟨hS, h0, fun i _ hi _ => ⟨⟨?_, ?_⟩, fun hp => hA i hp hi hi⟩⟩, fun g => ?_⟩
        · exact Int.le_trans h1 (hA.le 0 (Nat.zero_le _) hi)
        · have := hA.le (j := l.length - 1) i (by omega) (by omega); omega
        · have := (g.2.2 (l.length - 1) (Nat.zero_le _) (by omega) (by omega)).1; omega
      · rw [if_neg (by simpa using h1)]
        exact cy fun g => h1 (g.2.2 0 (Nat.zero_le _) (by omega) (by omega)).1.1
    · rw [e]
      exact cy fun g => hA fun i h1 hi _ => (g.2.2 i (Nat.zero_le _) hi hi).2 h1
theorem qR {s : ae} {t : av} (hs : bp s) (ht : eO t) (h : nv s t) : dO s t = some t.e_.sum := by
  unfold dO
  rcases (iO hs ht).cases with ⟨e, _⟩ | ⟨_, g⟩
  · rw [e]
    simp only [Option.bind_some, Bool.not_true, Bool.false_eq_true, if_false]
    have h1 := vL (p := t.e_) (fun x => x) (ff t) some (fun k s => by
      show (if _ then _ else _) = _
      rw [if_neg (by simp)]) (fun k s i hi => by
      have := ht.1.1
      rw [ff, if_pos (by simp; omega), bc hi, aK (by omega)]
      rfl) (fun x hx => by have := h.2.2.1 x hx; omega) (by have := ht.1.1; omega)
    simpa using h1
  · exact absurd h g
def brN (s : ae) (f : ar) : Nat := if f.c_ = -1 then nb (atr s f) else 2
theorem vf {s : ae} {f : ar} (h : lS s f) : 2 ≤ brN s f ∧ brN s f ≤ 4 := by
  have := sd (pu h.1 h.2.1)
  unfold brN
  split <;> omega
theorem jX {s : ae} {f : ar} (hs : bp s) (h : lS s f) : dF s f = some (brN s f : Int) := by
  unfold dF brN
  rcases (jA (f := f) hs).cases with ⟨e, _⟩ | ⟨_, g⟩
  · rw [e]
    simp only [Option.bind_some, Bool.not_true, Bool.false_eq_true, if_false]
    rw [nZ h.2.1]
    simp only [bS]
    rw [me (hs.1.2 _ (ot h.2.1)) (pu h.1 h.2.1)]
    by_cases h1 : f.c_ = -1
    · rw [if_pos (by simpa using h1), if_pos h1]; rfl
    · rw [if_neg (by simpa using h1), if_neg h1]; rfl
  · exact absurd h g
theorem ui {s : ae} {f : ar} (hs : bp s) (h : lS s f) : iG s f = some (brN s f : Int) := by
  unfold iG brN
  rcases (pg (f := f) hs).cases with ⟨e, _⟩ | ⟨_, g⟩
  · rw [e]
    simp only [Option.bind_some, Bool.not_true, Bool.false_eq_true, if_false]
    rw [nZ h.2.1]
    simp only [bS]
    rw [mZ (hs.1.2 _ (ot h.2.1))]
    by_cases h1 : f.c_ = -1
    · rw [if_pos (by simpa using h1), if_pos h1]; rfl
    · rw [if_neg (by simpa using h1), if_neg h1]; rfl
  · exact absurd h g
theorem tp {s : ae} {f : ar} (hs : bp s) (h : ¬ lS s f) : dF s f = some 0 := by
  unfold dF
  rcases (jA (f := f) hs).cases with ⟨_, g⟩ | ⟨e, _⟩
  · exact absurd g h
  · rw [e]; rfl
theorem tE {s : ae} {f : ar} (hs : bp s) (h : ¬ lS s f) : iG s f = some 0 := by
  unfold iG
  rcases (pg (f := f) hs).cases with ⟨_, g⟩ | ⟨e, _⟩
  · exact absurd g h
  · rw [e]; rfl
def xn (t : aj) (i : Nat) (x : Int) : Prop := ∃ m : Nat, ∃ hm : m < t.a_.length, x = m ∧ i < m ∧ t.a_[m].o_ = i
def AK (n : aR) : Prop := (n.l_.g_ = 0 ∧ n.l_.c_ = 0) ∧ n.r_.length = 0 ∧ n.w_ = 0 ∧ (0 ≤ n.v_ ∧ n.v_ ≤ if n.n_.d_.length = 0 then 0 else n.n_.e_.sum)
def CL (t : aj) (i : Nat) (l : List Int) : Prop := Asc l ∧ ∀ x ∈ l, xn t i x
def vX (s : ae) (t : aj) (i : Nat) (n : aR) : Prop := lS s n.l_ ∧ n.r_.length = brN s n.l_ ∧ (0 ≤ n.w_ ∧ n.w_ ≤ (n.r_.length : Int) - 1) ∧ n.n_.d_.length = 0 ∧ n.v_ = 0 ∧ CL t i n.r_
def vh (s : ae) (t : aj) (i : Nat) (n : aR) : Prop := (0 ≤ n.m_ ∧ n.m_ ≤ 6) ∧ (0 ≤ n.p_ ∧ n.p_ ≤ t.j_) ∧ nv s n.n_ ∧ pt s n.b_ ∧ (n.s_ = true → AK n) ∧ (n.s_ = false → vX s t i n)
def Dp (t : aj) (i : Nat) (n : aR) : Prop := (i = 0 → n.o_ = -1 ∧ n.m_ = 0 ∧ n.p_ = 0) ∧
  (0 < i → ∃ u, ∃ _ : u < i, ∃ hu : u < t.a_.length, n.o_ = u ∧ t.a_[u].s_ = false ∧ (i : Int) ∈ t.a_[u].r_ ∧ t.a_[u].m_ + 1 = n.m_ ∧ t.a_[u].p_ ≤ n.p_)
def wI (s : ae) (t : aj) (i : Nat) : Prop := ∀ h : i < t.a_.length, vh s t i t.a_[i] ∧ Dp t i t.a_[i]
def qu (s : ae) (t : aj) : Prop := eM s ∧ (1 ≤ (t.a_.length : Int) ∧ (t.a_.length : Int) ≤ 31) ∧ (0 ≤ t.j_ ∧ t.j_ ≤ 99999) ∧ ∀ i, i < t.a_.length → wI s t i
theorem Ao {t : aj} (hl : t.a_.length ≤ 1048576) {i : Nat} (hi : i < t.a_.length) (x : Int) : Dec (ki x (i : Int) t) (¬ xn t i x) := by
  unfold ki
  rw [aK (by omega), bu (n := (t.a_.length : Int) - 1) (by omega) (by omega)]
  rcases (eL (x := x) (a := ((i + 1 : Nat) : Int)) (b := (t.a_.length : Int) - 1)).cases with ⟨e, hr⟩ | ⟨e, hr⟩
  · rw [e]
    simp only [Option.bind_some, Bool.not_true, Bool.false_eq_true, if_false]
    obtain ⟨m, rfl⟩ : ∃ m : Nat, x = m := ⟨x.toNat, by omega⟩
    have hm : m < t.a_.length := by omega
    rw [bc hm]
    simp only [bS]
    refine ⟨_, rfl, ?_⟩
    rw [bne_iff_ne]
    refine ⟨fun g ⟨m', _, h1, _, h2⟩ => ?_, fun g h => g ⟨m, hm, rfl, by omega, h⟩⟩
    obtain rfl : m = m' := by omega
    exact g h2
  · rw [e]
    exact mW fun ⟨m, hm, h1, h2, _⟩ => hr ⟨by omega, by omega⟩
theorem xo {t : aj} (hl : t.a_.length ≤ 1048576) {i : Nat} (hi : i < t.a_.length) {l : List Int} (hk : l.length ≤ 1048576) : Dec (ce l (i : Int) t) (∃ x ∈ l, ¬ xn t i x) := by
  unfold ce cM
  refine (pw (Lp := bD l (i : Int) t) (n := l.length) (Q := fun j => ∀ h : j < l.length, ¬ xn t i l[j]) (fun k j hj => ?_) (fun k j hj => ?_) (by omega)).of_iff ⟨fun ⟨j, hj, g⟩ => ⟨_, List.getElem_mem hj, g hj⟩, fun ⟨x, hx, g⟩ => ?_⟩
  · show (if _ then _ else _) = _
    rw [if_neg (by simp; omega)]
  · rw [bD, if_pos (by simp; omega), bc hj, aK (by omega)]
    simp only [bS]
    rcases (Ao hl hi l[j]).cases with ⟨e, h⟩ | ⟨e, h⟩
    · rw [e]; exact .inl ⟨fun _ => h, rfl⟩
    · rw [e]; exact .inr ⟨fun g => h (g hj), rfl⟩
  · obtain ⟨j, hj, rfl⟩ := List.getElem_of_mem hx
    exact ⟨j, hj, fun _ => g⟩
theorem yX {s : ae} {t : aj} (hs : bp s) (ht : go t) {i : Nat} (hi : i < t.a_.length) : Dec (lT s t (i : Int)) (vh s t i t.a_[i]) := by
  unfold lT
  have hl := ht.1.1
  rw [bc hi]
  simp only [bS]
  have hnd := ht.1.2 _ (List.getElem_mem hi)
  generalize t.a_[i] = n at *
  have hkl : n.r_.length ≤ 1048576 := hnd.2.2.1.1
  have hst : eO n.n_ := hnd.2.2.2.2.1
  have hal : n.b_.length ≤ 1048576 := hnd.2.2.2.2.2.2.1.1
  rcases (eL (x := n.m_) (a := 0) (b := 6)).cases with ⟨e, hd⟩ | ⟨e, hd⟩
  · rw [e]
    simp only [Option.bind_some, Bool.not_true, Bool.false_eq_true, if_false]
    rcases (eL (x := n.p_) (a := 0) (b := t.j_)).cases with ⟨e, hb⟩ | ⟨e, hb⟩
    · rw [e]
      simp only [Option.bind_some, Bool.not_true, Bool.false_eq_true, if_false]
      rcases (rp hs hst).cases with ⟨e, hS⟩ | ⟨e, hS⟩
      · rw [e]
        simp only [Option.bind_some, Bool.not_true, Bool.false_eq_true, if_false]
        rcases (xg hs hal).cases with ⟨e, hA⟩ | ⟨e, hA⟩
        · rw [e]
          simp only [Option.bind_some, Bool.not_true, Bool.false_eq_true, if_false]
          by_cases hL : n.s_ = true
          case neg =>
            have hL' : n.s_ = false := by simpa using hL
            rw [if_neg hL]
            by_cases hF : lS s n.l_
            · have hbr := vf hF
              rw [ui hs hF]
              simp only [bS]
              by_cases hk : n.r_.length = brN s n.l_
              · rw [if_neg (by simp; omega)]
                rcases (zz hkl).cases with ⟨e, hAs⟩ | ⟨e, hAs⟩
                · rw [e]
                  simp only [Option.bind_some, Bool.not_true, Bool.false_eq_true, if_false]
                  rw [bu (n := (brN s n.l_ : Int) - 1) (by omega) (by omega)]
                  rcases (eL (x := n.w_) (a := 0) (b := (brN s n.l_ : Int) - 1)).cases with ⟨e, hm⟩ | ⟨e, hm⟩
                  · rw [e]
                    simp only [Option.bind_some, Bool.not_true, Bool.false_or]
                    by_cases hc : n.n_.d_.length = 0 ∧ n.v_ = 0
                    · rw [if_neg (by simp [hc.1, hc.2])]
                      rcases (xo hl hi hkl).cases with ⟨e, x, hx, hK⟩ | ⟨e, hK⟩
                      · rw [e]
                        exact cy fun g => hK ((g.2.2.2.2.2 hL').2.2.2.2.2.2 x hx)
                      · rw [e]
                        exact mW ⟨hd, hb, hS, hA, fun g => absurd g hL, fun _ => ⟨hF, hk, by omega, hc.1, hc.2, hAs, fun x hx => Classical.byContradiction fun c => hK ⟨x, hx, c⟩⟩⟩
                    · rw [if_pos (by simp only [Bool.or_eq_true, bne_iff_ne, ne_eq]; omega)]
                      exact cy fun g => hc ⟨(g.2.2.2.2.2 hL').2.2.2.1, (g.2.2.2.2.2 hL').2.2.2.2.1⟩
                  · rw [e]
                    exact cy fun g => hm (by have := (g.2.2.2.2.2 hL').2.2.1; omega)
                · rw [e]
                  exact cy fun g => hAs (g.2.2.2.2.2 hL').2.2.2.2.2.1
              · rw [if_pos (by simp; omega)]
                exact cy fun g => hk (g.2.2.2.2.2 hL').2.1
            · rw [tE hs hF]
              exact cy fun g => hF (g.2.2.2.2.2 hL').1
          case pos =>
            rw [if_pos hL, sT (fun x hx => by have := hS.2.2.1 x hx; omega) hst.1.1]
            simp only [bS]
            have key : ∀ q : Int, q = (if n.n_.d_.length = 0 then 0 else n.n_.e_.sum) → Dec (iW n q) (vh s t i n) := fun q hq => by
              unfold iW
              have hid : ∀ o : Option Bool, (o.bind fun y => some y) = o := fun o => by cases o <;> rfl
              by_cases hc : (n.l_.g_ = 0 ∧ n.l_.c_ = 0) ∧ n.r_.length = 0 ∧ n.w_ = 0
              · rw [if_pos (by simp [hc.1.1, hc.1.2, hc.2.1, hc.2.2]), hid, hid]
                exact eL.of_iff ⟨fun g => ⟨hd, hb, hS, hA, fun _ => ⟨hc.1, hc.2.1, hc.2.2, by rw [← hq]; exact g⟩, fun g => by rw [hL] at g; cases g⟩, fun g => by rw [hq]; exact (g.2.2.2.2.1 hL).2.2.2⟩
              · rw [if_neg (by simp only [Bool.and_eq_true, beq_iff_eq, Bool.and_true]; omega)]
                exact cy fun g => hc ⟨(g.2.2.2.2.1 hL).1, (g.2.2.2.2.1 hL).2.1, (g.2.2.2.2.1 hL).2.2.1⟩
            by_cases hc : n.n_.d_.length = 0
            · rw [if_pos (by simp; exact List.length_eq_zero_iff.1 hc)]
              exact key 0 (by rw [if_pos hc])
            · rw [if_neg (by simp; exact fun e => hc (by rw [e]; rfl))]
              exact key _ (by rw [if_neg hc])
        · rw [e]
          exact cy fun g => hA g.2.2.2.1
      · rw [e]
        exact cy fun g => hS g.2.2.1
    · rw [e]
      exact cy fun g => hb g.2.1
  · rw [e]
    exact cy fun g => hd g.1
theorem yK {s : ae} {n : aR} (hs : bp s) (hn : lU n) : Dec (je s n) (AK n ∧ nv s n.n_ ∧ pt s n.b_) := by
  unfold je
  have hst : eO n.n_ := hn.2.2.2.2.1
  have hal : n.b_.length ≤ 1048576 := hn.2.2.2.2.2.2.1.1
  by_cases hc : (n.l_.g_ = 0 ∧ n.l_.c_ = 0) ∧ n.r_.length = 0 ∧ n.w_ = 0
  · rw [if_neg (by simp only [Bool.or_eq_true, Bool.not_eq_true', bne_iff_ne, decide_eq_true_eq, ne_eq, Bool.and_true, Bool.and_eq_false_iff, beq_eq_false_iff_ne]; omega)]
    rcases (iO hs hst).cases with ⟨e, hS⟩ | ⟨e, hS⟩
    · rw [e]
      simp only [Option.bind_some, Bool.not_true, Bool.false_eq_true, if_false]
      rcases (mC hs hal).cases with ⟨e, hA⟩ | ⟨e, hA⟩
      · rw [e]
        simp only [Option.bind_some, Bool.not_true, Bool.false_eq_true, if_false]
        by_cases h0 : n.n_.d_.length = 0
        · rw [if_pos (by simp only [beq_iff_eq]; omega)]
          refine ⟨_, rfl, ?_⟩
          rw [beq_iff_eq]
          exact ⟨fun g => ⟨⟨hc.1, hc.2.1, hc.2.2, by rw [if_pos h0]; omega⟩, hS, hA⟩, fun g => by have := g.1.2.2.2; rw [if_pos h0] at this; omega⟩
        · rw [if_neg (by simp only [beq_iff_eq]; omega), qR hs hst hS]
          simp only [bS]
          have hid : ∀ o : Option Bool, (o.bind fun y => some y) = o := fun o => by cases o <;> rfl
          rw [hid]
          exact cX.of_iff ⟨fun g => ⟨⟨hc.1, hc.2.1, hc.2.2, by rw [if_neg h0]; exact g⟩, hS, hA⟩, fun g => by have := g.1.2.2.2; rw [if_neg h0] at this; exact this⟩
      · rw [e]
        exact cy fun g => hA g.2.2
    · rw [e]
      exact cy fun g => hS g.2.1
  · rw [if_pos (by simp only [Bool.or_eq_true, Bool.not_eq_true', bne_iff_ne, decide_eq_true_eq, ne_eq, Bool.and_true, Bool.and_eq_false_iff, beq_eq_false_iff_ne]; omega)]
    exact cy fun g => hc ⟨g.1.1, g.1.2.1, g.1.2.2.1⟩
theorem xD {s : ae} {t : aj} (hs : bp s) (ht : go t) {i : Nat} (hi : i < t.a_.length) : Dec (iA s t (i : Int)) (vX s t i t.a_[i] ∧ nv s t.a_[i].n_ ∧ pt s t.a_[i].b_) := by
  unfold iA
  have hl := ht.1.1
  rw [bc hi]
  simp only [bS]
  have hnd := ht.1.2 _ (List.getElem_mem hi)
  generalize t.a_[i] = n at *
  have hkl : n.r_.length ≤ 1048576 := hnd.2.2.1.1
  have hst : eO n.n_ := hnd.2.2.2.2.1
  have hal : n.b_.length ≤ 1048576 := hnd.2.2.2.2.2.2.1.1
  rcases (jA (f := n.l_) hs).cases with ⟨e, hF⟩ | ⟨e, hF⟩
  · rw [e]
    simp only [Option.bind_some, Bool.not_true, Bool.false_eq_true, if_false]
    have hbr := vf hF
    rw [jX hs hF]
    simp only [bS]
    by_cases hk : n.r_.length = brN s n.l_
    · rw [if_neg (by simp only [bne_iff_ne, ne_eq]; omega), bu (n := (n.r_.length : Int) - 1) (by omega) (by omega)]
      rcases (cX (x := n.w_) (a := 0) (b := (n.r_.length : Int) - 1)).cases with ⟨e, hm⟩ | ⟨e, hm⟩
      · rw [e]
        simp only [Option.bind_some, Bool.not_true, Bool.false_eq_true, if_false]
        rcases (iO hs hst).cases with ⟨e, hS⟩ | ⟨e, hS⟩
        · rw [e]
          simp only [Option.bind_some, Bool.not_true, Bool.false_or]
          by_cases hc : n.n_.d_.length = 0 ∧ n.v_ = 0
          · rw [if_neg (by simp only [Bool.or_eq_true, bne_iff_ne, decide_eq_true_eq, ne_eq]; omega)]
            rcases (mC hs hal).cases with ⟨e, hA⟩ | ⟨e, hA⟩
            · rw [e]
              simp only [Option.bind_some, Bool.not_true, Bool.false_eq_true, if_false]
              refine (ku (Lp := fR n (i : Int) t) (n := n.r_.length) (Q := fun j => ∀ h : j < n.r_.length, xn t i n.r_[j] ∧ (0 < j → n.r_[j - 1] < n.r_[j])) 0 (fun k j hj => ?_) (fun k j _ hj => ?_) (by omega)).of_iff
                ⟨fun g => ⟨⟨hF, hk, hm, hc.1, hc.2, fun j h1 hj _ => (g j (Nat.zero_le _) hj hj).2 h1, fun x hx => by
                  obtain ⟨j, hj, rfl⟩ := List.getElem_of_mem hx
                  exact (g j (Nat.zero_le _) hj hj).1⟩, hS, hA⟩, fun g j _ hj _ => ⟨g.1.2.2.2.2.2.2 _ (List.getElem_mem hj), fun h1 => g.1.2.2.2.2.2.1 j h1 hj hj⟩⟩
              · show (if _ then _ else _) = _
                rw [if_neg (by simp; omega)]
              · rw [fR, if_pos (by simp; omega), bc hj]
                simp only [bS]
                rw [aK (i := i) (by omega), bu (n := (t.a_.length : Int) - 1) (by omega) (by omega), aK (i := j) (by omega)]
                generalize hx : n.r_[j] = x
                rcases (cX (x := x) (a := ((i + 1 : Nat) : Int)) (b := (t.a_.length : Int) - 1)).cases with ⟨e, hr⟩ | ⟨e, hr⟩
                · rw [e]
                  simp only [Option.bind_some, Bool.not_true, Bool.false_eq_true, if_false]
                  obtain ⟨m, rfl⟩ : ∃ m : Nat, x = m := ⟨x.toNat, by omega⟩
                  have hm : m < t.a_.length := by omega
                  rw [bc hm]
                  simp only [bS]
                  by_cases hu : t.a_[m].o_ = (i : Int)
                  · rw [if_neg (by simp only [bne_iff_ne, ne_eq]; omega)]
                    have hK : xn t i n.r_[j] := by rw [hx]; exact ⟨m, hm, rfl, by omega, hu⟩
                    by_cases h1 : 0 < j
                    · rw [if_pos (by simp; omega), bu (n := (j : Int) - 1) (by omega) (by omega), show (j : Int) - 1 = ((j - 1 : Nat) : Int) by omega, bc (show j - 1 < n.r_.length by omega)]
                      simp only [bS]
                      by_cases hlt : n.r_[j] ≤ n.r_[j - 1]
                      · rw [if_pos (by rw [← hx]; simpa using hlt)]
                        exact .inr ⟨fun g => by have := (g hj).2 h1; omega, rfl⟩
                      · rw [if_neg (by rw [← hx]; simpa using hlt)]
                        exact .inl ⟨fun _ => ⟨hK, fun _ => by omega⟩, rfl⟩
                    · rw [if_neg (by simp; omega)]
                      exact .inl ⟨fun _ => ⟨hK, fun g => absurd g h1⟩, rfl⟩
                  · rw [if_pos (by simp only [bne_iff_ne, ne_eq]; omega)]
                    exact .inr ⟨fun g => by
                      obtain ⟨m', hm', g1, _, g2⟩ := (g hj).1
                      rw [hx] at g1
                      obtain rfl : m = m' := by omega
                      exact hu g2, rfl⟩
                · rw [e]
                  exact .inr ⟨fun g => by
                      obtain ⟨m', hm', g1, g3, g2⟩ := (g hj).1
                      rw [hx] at g1
                      exact hr ⟨by omega, by omega⟩, rfl⟩
            · rw [e]
              exact cy fun g => hA g.2.2
          · rw [if_pos (by simp only [Bool.or_eq_true, bne_iff_ne, decide_eq_true_eq, ne_eq]; omega)]
            exact cy fun g => hc ⟨g.1.2.2.2.1, g.1.2.2.2.2.1⟩
        · rw [e]
          exact cy fun g => hS g.2.1
      · rw [e]
        exact cy fun g => hm g.1.2.2.1
    · rw [if_pos (by simp only [bne_iff_ne, ne_eq]; omega)]
      exact cy fun g => hk g.1.2.1
  · rw [e]
    exact cy fun g => hF g.1.1
theorem uE {l : List Int} (hl : l.length ≤ 1048576) (x : Int) : Dec (dx l x) (x ∈ l) := by
  unfold dx dt
  refine (pw (Lp := bR l x) (n := l.length) (Q := fun j => ∀ h : j < l.length, x = l[j]) (fun k j hj => ?_) (fun k j hj => ?_) (by omega)).of_iff ⟨fun ⟨j, hj, g⟩ => by rw [g hj]; exact List.getElem_mem hj, fun hx => ?_⟩
  · show (if _ then _ else _) = _
    rw [if_neg (by simp; omega)]
  · rw [bR, if_pos (by simp; omega), bc hj, aK (by omega)]
    simp only [bS]
    by_cases h : x = l[j]
    · rw [if_pos (by simpa using h)]; exact .inl ⟨fun _ => h, rfl⟩
    · rw [if_neg (by simpa using h)]; exact .inr ⟨fun g => h (g hj), rfl⟩
  · obtain ⟨j, hj, rfl⟩ := List.getElem_of_mem hx
    exact ⟨j, hj, fun _ => rfl⟩
theorem xG {l : List Int} (hl : l.length ≤ 1048576) (x : Int) : Dec (ko l x) (x ∈ l) := by
  unfold ko
  have h := sM (Lp := fun k j => cR l x k (j : Int)) (n := l.length) (Q := fun j => ∀ h : j < l.length, l[j] ≠ x) (fin := some false) (bad := some true) (fun k _ => by
    show cR l x (k + 1) _ = _
    rw [cR, if_neg (by simp)]) (fun k j hj _ => by
    show (_ ∧ cR l x (k + 1) _ = cR l x k _) ∨ (_ ∧ cR l x (k + 1) _ = _)
    rw [cR, if_pos (by simp; omega), bc hj, aK (by omega)]
    simp only [bS]
    by_cases h : l[j] = x
    · rw [if_pos (by simpa using h)]; exact .inr ⟨fun g => g hj h, rfl⟩
    · rw [if_neg (by simpa using h)]; exact .inl ⟨fun _ => h, rfl⟩) (by omega)
  rcases h with ⟨h1, h2⟩ | ⟨h1, h2⟩
  · have h2 : cR l x bh 0 = some false := h2
    rw [h2]
    exact cy fun hx => by
      obtain ⟨j, hj, e⟩ := List.getElem_of_mem hx
      exact h1 j hj hj e
  · have h2 : cR l x bh 0 = some true := h2
    rw [h2]
    refine mW (Classical.byContradiction fun hx => h1 fun j hj _ e => hx ?_)
    rw [← e]; exact List.getElem_mem hj
theorem vq {s : ae} {t : aj} (hs : bp s) (ht : go t) : Dec (lR s t) (qu s t) := by
  unfold lR
  have hl := ht.1.1
  rcases (mJ (kB hs)).cases with ⟨e, hS⟩ | ⟨e, hS⟩
  · rw [e]
    simp only [Option.bind_some, Bool.not_true, Bool.false_eq_true, if_false]
    rcases (eL (x := (t.a_.length : Int)) (a := 1) (b := 31)).cases with ⟨e, hn⟩ | ⟨e, hn⟩
    · rw [e]
      simp only [Option.bind_some, Bool.not_true, Bool.false_eq_true, if_false]
      rcases (eL (x := t.j_) (a := 0) (b := 99999)).cases with ⟨e, hq⟩ | ⟨e, hq⟩
      · rw [e]
        simp only [Option.bind_some, Bool.not_true, Bool.false_eq_true, if_false]
        refine (qJ (Lp := fun k i => dC t s k (i : Int)) (n := t.a_.length) (Q := wI s t) (F := True) (fun k _ => ?_) (fun k i hi hQ => ?_) (by omega)).of_iff ⟨fun g => ⟨hS, hn, hq, g.1⟩, fun g => ⟨g.2.2.2, trivial⟩⟩
        · show Dec (dC t s (k + 1) _) _
          rw [dC, if_neg (by simp)]
          exact mW trivial
        · show (_ ∧ dC t s (k + 1) _ = dC t s k _) ∨ (_ ∧ dC t s (k + 1) _ = _)
          rw [dC, if_pos (by simp; omega), bc hi, aK (by omega)]
          simp only [bS]
          rcases (yX hs ht hi).cases with ⟨e, hN⟩ | ⟨e, hN⟩
          · rw [e]
            simp only [Option.bind_some, Bool.not_true, Bool.false_eq_true, if_false]
            by_cases h0 : i = 0
            · rw [if_pos (by simp only [beq_iff_eq]; omega)]
              by_cases hL : t.a_[i].o_ = -1 ∧ t.a_[i].m_ = 0 ∧ t.a_[i].p_ = 0
              · rw [if_neg (by simp only [Bool.or_eq_true, bne_iff_ne, ne_eq]; omega)]
                exact .inl ⟨fun _ => ⟨hN, fun _ => hL, fun g => by omega⟩, rfl⟩
              · rw [if_pos (by simp only [Bool.or_eq_true, bne_iff_ne, ne_eq]; omega)]
                exact .inr ⟨fun g => hL ((g hi).2.1 h0), rfl⟩
            · rw [if_neg (by simp only [beq_iff_eq]; omega), bu (n := (i : Int) - 1) (by omega) (by omega)]
              rcases (eL (x := t.a_[i].o_) (a := 0) (b := (i : Int) - 1)).cases with ⟨e, hr⟩ | ⟨e, hr⟩
              · rw [e]
                simp only [Option.bind_some, Bool.not_true, Bool.false_eq_true, if_false]
                obtain ⟨u, hu⟩ : ∃ u : Nat, t.a_[i].o_ = u := ⟨t.a_[i].o_.toNat, by omega⟩
                have hui : u < i := by omega
                have hul : u < t.a_.length := by omega
                rw [hu, bc hul]
                simp only [bS]
                have hNu := hQ u hui hul
                have hd := hN.1
                have hdu := hNu.1.1
                rw [bu (n := t.a_[i].m_ - 1) (by omega) (by omega)]
                by_cases hlf : t.a_[u].s_ = true
                · rw [if_pos hlf]
                  exact .inr ⟨fun g => by
                    obtain ⟨u', _, hu', h1, h2, _⟩ := (g hi).2.2 (by omega)
                    obtain rfl : u = u' := by omega
                    exact (nomatch h2.symm.trans hlf), rfl⟩
                · rw [if_neg hlf]
                  have hlf' : t.a_[u].s_ = false := by simpa using hlf
                  rcases (uE (l := t.a_[u].r_) (ht.1.2 _ (List.getElem_mem hul)).2.2.1.1 (i : Int)).cases with ⟨e, hc⟩ | ⟨e, hc⟩
                  · rw [e]
                    simp only [Option.bind_some, Bool.not_true, Bool.false_or]
                    by_cases hd2 : t.a_[u].m_ + 1 = t.a_[i].m_ ∧ t.a_[u].p_ ≤ t.a_[i].p_
                    · rw [if_neg (by simp only [Bool.or_eq_true, bne_iff_ne, decide_eq_true_eq, ne_eq]; omega)]
                      exact .inl ⟨fun _ => ⟨hN, fun g => absurd g h0, fun _ => ⟨u, hui, hul, hu, hlf', hc, hd2.1, hd2.2⟩⟩, rfl⟩
                    · rw [if_pos (by simp only [Bool.or_eq_true, bne_iff_ne, decide_eq_true_eq, ne_eq]; omega)]
                      exact .inr ⟨fun g => by
                        obtain ⟨u', _, hu', h1, h2, h3, h4, h5⟩ := (g hi).2.2 (by omega)
                        obtain rfl : u = u' := by omega
                        exact hd2 ⟨h4, h5⟩, rfl⟩
                  · rw [e]
                    exact .inr ⟨fun g => by
                      obtain ⟨u', _, hu', h1, h2, h3, h4, h5⟩ := (g hi).2.2 (by omega)
                      obtain rfl : u = u' := by omega
                      exact hc h3, rfl⟩
              · rw [e]
                exact .inr ⟨fun g => by
                  obtain ⟨u', _, hu', h1, _⟩ := (g hi).2.2 (by omega)
                  exact hr ⟨by omega, by omega⟩, rfl⟩
          · rw [e]
            exact .inr ⟨fun g => hN (g hi).1, rfl⟩
      · rw [e]
        exact cy fun g => hq g.2.2.1
    · rw [e]
      exact cy fun g => hn g.2.1
  · rw [e]
    exact cy fun g => hS g.1
theorem nP {s : ae} {t : aj} (hs : bp s) (ht : go t) : Dec (gA s t) (qu s t) := by
  unfold gA
  have hl := ht.1.1
  rcases (kz (kB hs)).cases with ⟨e, hS⟩ | ⟨e, hS⟩
  · rw [e]
    simp only [Option.bind_some, Bool.not_true, Bool.false_eq_true, if_false]
    rcases (cX (x := (t.a_.length : Int)) (a := 1) (b := 31)).cases with ⟨e, hn⟩ | ⟨e, hn⟩
    · rw [e]
      simp only [Option.bind_some, Bool.not_true, Bool.false_eq_true, if_false]
      rcases (cX (x := t.j_) (a := 0) (b := 99999)).cases with ⟨e, hq⟩ | ⟨e, hq⟩
      · rw [e]
        simp only [Option.bind_some, Bool.not_true, Bool.false_eq_true, if_false]
        refine (qJ (Lp := fun k i => dA t s k (i : Int)) (n := t.a_.length) (Q := wI s t) (F := True) (fun k _ => ?_) (fun k i hi hQ => ?_) (by omega)).of_iff ⟨fun g => ⟨hS, hn, hq, g.1⟩, fun g => ⟨g.2.2.2, trivial⟩⟩
        · show Dec (dA t s (k + 1) _) _
          rw [dA, if_neg (by simp)]
          exact mW trivial
        · show (_ ∧ dA t s (k + 1) _ = dA t s k _) ∨ (_ ∧ dA t s (k + 1) _ = _)
          rw [dA, if_pos (by simp; omega), bc hi, aK (by omega)]
          simp only [bS]
          have hnd := ht.1.2 _ (List.getElem_mem hi)
          rcases (cX (x := t.a_[i].m_) (a := 0) (b := 6)).cases with ⟨e, hdp⟩ | ⟨e, hdp⟩
          · rw [e]
            simp only [Option.bind_some, Bool.not_true, Bool.false_eq_true, if_false]
            rcases (cX (x := t.a_[i].p_) (a := 0) (b := t.j_)).cases with ⟨e, hbn⟩ | ⟨e, hbn⟩
            · rw [e]
              simp only [Option.bind_some, Bool.not_true, Bool.false_eq_true, if_false]
              have hself : ∀ b : Bool, t.a_[i].s_ = b → ∀ K : Bool → Option Bool, (vh s t i t.a_[i] ∧ (((if t.a_[i].s_ = true then (je s ({ t.a_[i] with s_ := true })).bind fun c => some (!c) else some false).bind fun d => (if d = true then some true else (if (!t.a_[i].s_) = true then (iA s t (i : Int)).bind fun f => some (!f) else some false).bind fun j => some j).bind K) = K false)) ∨
                  (¬ vh s t i t.a_[i] ∧ (((if t.a_[i].s_ = true then (je s ({ t.a_[i] with s_ := true })).bind fun c => some (!c) else some false).bind fun d => (if d = true then some true else (if (!t.a_[i].s_) = true then (iA s t (i : Int)).bind fun f => some (!f) else some false).bind fun j => some j).bind K) = K true)) := fun b hb K => by
                cases b
                · rw [hb]
                  simp only [Option.bind_some, Bool.not_false, Bool.false_eq_true, if_true, if_false]
                  rcases (xD hs ht hi).cases with ⟨e, h⟩ | ⟨e, h⟩
                  · rw [e]
                    exact .inl ⟨⟨hdp, hbn, h.2.1, h.2.2, fun g => (nomatch hb.symm.trans g), fun _ => h.1⟩, rfl⟩
                  · rw [e]
                    exact .inr ⟨fun g => h ⟨g.2.2.2.2.2 hb, g.2.2.1, g.2.2.2.1⟩, rfl⟩
                · have hE : ({ t.a_[i] with s_ := true } : aR) = t.a_[i] := by rw [← hb]
                  rw [hE, hb]
                  simp only [Option.bind_some, Bool.not_true, Bool.false_eq_true, if_true, if_false]
                  rcases (yK hs hnd).cases with ⟨e, h⟩ | ⟨e, h⟩
                  · rw [e]
                    exact .inl ⟨⟨hdp, hbn, h.2.1, h.2.2, fun _ => h.1, fun g => (nomatch hb.symm.trans g)⟩, rfl⟩
                  · rw [e]
                    exact .inr ⟨fun g => h ⟨g.2.2.2.2.1 hb, g.2.2.1, g.2.2.2.1⟩, rfl⟩
              rcases hself _ rfl _ with ⟨hN, e⟩ | ⟨hN, e⟩
              · rw [e]
                simp only [Bool.false_eq_true, if_false]
                by_cases h0 : i = 0
                · rw [if_pos (by simp only [beq_iff_eq]; omega)]
                  by_cases hL : t.a_[i].o_ = -1 ∧ t.a_[i].m_ = 0 ∧ t.a_[i].p_ = 0
                  · rw [if_neg (by simp only [Bool.or_eq_true, bne_iff_ne, ne_eq]; omega)]
                    exact .inl ⟨fun _ => ⟨hN, fun _ => hL, fun g => by omega⟩, rfl⟩
                  · rw [if_pos (by simp only [Bool.or_eq_true, bne_iff_ne, ne_eq]; omega)]
                    exact .inr ⟨fun g => hL ((g hi).2.1 h0), rfl⟩
                · rw [if_neg (by simp only [beq_iff_eq]; omega), bu (n := (i : Int) - 1) (by omega) (by omega)]
                  rcases (cX (x := t.a_[i].o_) (a := 0) (b := (i : Int) - 1)).cases with ⟨e, hr⟩ | ⟨e, hr⟩
                  · rw [e]
                    simp only [Option.bind_some, Bool.not_true, Bool.false_eq_true, if_false]
                    obtain ⟨u, hu⟩ : ∃ u : Nat, t.a_[i].o_ = u := ⟨t.a_[i].o_.toNat, by omega⟩
                    have hui : u < i := by omega
                    have hul : u < t.a_.length := by omega
                    rw [hu, bc hul]
                    simp only [bS]
                    have hNu := hQ u hui hul
                    have hdu := hNu.1.1
                    rw [bu (n := t.a_[u].m_ + 1) (by omega) (by omega)]
                    by_cases hlf : t.a_[u].s_ = true
                    · rw [if_pos hlf]
                      exact .inr ⟨fun g => by
                        obtain ⟨u', _, hu', h1, h2, _⟩ := (g hi).2.2 (by omega)
                        obtain rfl : u = u' := by omega
                        exact (nomatch h2.symm.trans hlf), rfl⟩
                    · rw [if_neg hlf]
                      have hlf' : t.a_[u].s_ = false := by simpa using hlf
                      rcases (xG (l := t.a_[u].r_) (ht.1.2 _ (List.getElem_mem hul)).2.2.1.1 (i : Int)).cases with ⟨e, hc⟩ | ⟨e, hc⟩
                      · rw [e]
                        simp only [Option.bind_some, Bool.not_true, Bool.false_or]
                        by_cases hd2 : t.a_[u].m_ + 1 = t.a_[i].m_ ∧ t.a_[u].p_ ≤ t.a_[i].p_
                        · rw [if_neg (by simp only [Bool.or_eq_true, bne_iff_ne, decide_eq_true_eq, ne_eq]; omega)]
                          exact .inl ⟨fun _ => ⟨hN, fun g => absurd g h0, fun _ => ⟨u, hui, hul, hu, hlf', hc, hd2.1, hd2.2⟩⟩, rfl⟩
                        · rw [if_pos (by simp only [Bool.or_eq_true, bne_iff_ne, decide_eq_true_eq, ne_eq]; omega)]
                          exact .inr ⟨fun g => by
                            obtain ⟨u', _, hu', h1, h2, h3, h4, h5⟩ := (g hi).2.2 (by omega)
                            obtain rfl : u = u' := by omega
                            exact hd2 ⟨h4, h5⟩, rfl⟩
                      · rw [e]
                        exact .inr ⟨fun g => by
                          obtain ⟨u', _, hu', h1, h2, h3, h4, h5⟩ := (g hi).2.2 (by omega)
                          obtain rfl : u = u' := by omega
                          exact hc h3, rfl⟩
                  · rw [e]
                    exact .inr ⟨fun g => by
                      obtain ⟨u', _, hu', h1, _⟩ := (g hi).2.2 (by omega)
                      exact hr ⟨by omega, by omega⟩, rfl⟩
              · rw [e]
                exact .inr ⟨fun g => hN (g hi).1, rfl⟩
            · rw [e]
              exact .inr ⟨fun g => hbn (g hi).1.2.1, rfl⟩
          · rw [e]
            exact .inr ⟨fun g => hdp (g hi).1.1, rfl⟩
      · rw [e]
        exact cy fun g => hq g.2.2.1
    · rw [e]
      exact cy fun g => hn g.2.1
  · rw [e]
    exact cy fun g => hS g.1
end Go.Vk
/- Where a bin goes; the mask of a branch; the mask of all: alike. -/
namespace Go.Vk
def tr (a : bi) (f : ar) (b : Int) : Int := if f.c_ = -1 then b else if 0 < a.t_.length then (if f.c_ < b then 1 else 0) else (if b = f.c_ then 0 else 1)
theorem qE {s : ae} {f : ar} (hs : bp s) (h : lS s f) {b : Int} (hb : 0 ≤ b ∧ b ≤ (nb (atr s f) : Int) - 1) : js s f b = some (tr (atr s f) f b) := by
  unfold js tr
  have hm := hs.1.2 _ (ot h.2.1)
  have hA := pu h.1 h.2.1
  have hnb := sd hA
  rcases (jA (f := f) hs).cases with ⟨e, _⟩ | ⟨_, g⟩
  · rw [e]
    simp only [Option.bind_some, Bool.not_true, Bool.false_eq_true, if_false]
    rw [nZ h.2.1]
    simp only [bS]
    rw [me hm hA]
    simp only [bS]
    rw [bu (by omega) (by omega)]
    rcases (cX (x := b) (a := 0) (b := (nb (atr s f) : Int) - 1)).cases with ⟨e, _⟩ | ⟨_, g⟩
    · rw [e]
      simp only [Option.bind_some, Bool.not_true, Bool.false_eq_true, if_false]
      by_cases h1 : f.c_ = -1
      · rw [if_pos (by simpa using h1), if_pos h1]
      · rw [if_neg (by simpa using h1), if_neg h1]
        unfold nf
        by_cases h2 : 0 < (atr s f).t_.length
        · rw [if_pos (by simpa using h2), if_pos h2]
          by_cases h3 : f.c_ < b
          · rw [if_pos h3, if_pos (by simpa using h3)]; rfl
          · rw [if_neg h3, if_neg (by simpa using h3)]; rfl
        · rw [if_neg (by simpa using h2), if_neg h2]
          by_cases h3 : b = f.c_
          · rw [if_pos h3, if_neg (by simpa using h3)]; rfl
          · rw [if_neg h3, if_pos (by simpa using h3)]; rfl
    · exact absurd hb g
  · exact absurd h g
theorem us {s : ae} {f : ar} (hs : bp s) (h : lS s f) {b : Int} (hb : 0 ≤ b ∧ b ≤ (nb (atr s f) : Int) - 1) : nw s f b = some (tr (atr s f) f b) := by
  unfold nw tr
  have hm := hs.1.2 _ (ot h.2.1)
  have hA := pu h.1 h.2.1
  have hnb := sd hA
  rcases (pg (f := f) hs).cases with ⟨e, _⟩ | ⟨_, g⟩
  · rw [e]
    simp only [Option.bind_some, Bool.not_true, Bool.false_eq_true, if_false]
    rw [nZ h.2.1]
    simp only [bS]
    rw [mZ hm]
    simp only [bS]
    rw [bu (by omega) (by omega)]
    rcases (eL (x := b) (a := 0) (b := (nb (atr s f) : Int) - 1)).cases with ⟨e, _⟩ | ⟨_, g⟩
    · rw [e]
      simp only [Option.bind_some, Bool.not_true, Bool.false_eq_true, if_false]
      by_cases h1 : f.c_ = -1
      · rw [if_pos (by simpa using h1), if_pos h1]
      · rw [if_neg (by simpa using h1), if_neg h1]
        by_cases h3 : b = f.c_
        · rw [if_pos (by simpa using h3)]
          simp only [Option.bind_some, if_true]
          have h4 : ¬ f.c_ < b := by omega
          rw [if_pos h3, if_neg h4, ite_self]
        · rw [if_neg (by simpa using h3), if_neg h3]
          simp only [bS]
          by_cases h2 : 0 < (atr s f).t_.length
          · rw [if_pos h2]
            by_cases h4 : f.c_ < b
            · rw [if_neg (by simp only [Bool.and_eq_true, decide_eq_true_eq]; omega), if_pos h4]
            · rw [if_pos (by simp only [Bool.and_eq_true, decide_eq_true_eq]; omega), if_neg h4]
          · rw [if_neg (by simp only [Bool.and_eq_true, decide_eq_true_eq]; omega), if_neg h2]
    · exact absurd hb g
  · exact absurd h g
end Go.Vk
/- A window in words: alike. -/
namespace Go.Vk
end Go.Vk
/- Scores: tested alike. -/
namespace Go.Vk
end Go.Vk
/- Scores: tested alike by the program. -/
namespace Go.Vk
end Go.Vk
/- Rules, members, forests, states: tested alike. -/
namespace Go.Vk
theorem yL (c y : Bool) : (if c = true then some y else some false : Option Bool) = some (c && y) := by cases c <;> rfl
theorem xc (o : Option Bool) : (o.bind fun y => some y) = o := by cases o <;> rfl
theorem zJ {o k : Option Bool} {P Q : Prop} (h : Dec o P) (h' : P → Dec k Q) : Dec (o.bind fun y => if y = true then k else some false) (P ∧ Q) := h.and h'
def AI (r : cA) : Prop := (1 ≤ r.F_ ∧ r.F_ ≤ 9) ∧ (0 ≤ r.G_ ∧ r.G_ ≤ 999) ∧ (1 ≤ r.H_ ∧ r.H_ ≤ 200) ∧ (0 ≤ r.m_ ∧ r.m_ ≤ 6) ∧ (1 ≤ r.a_ ∧ r.a_ ≤ 31) ∧ (62 ≤ r.D_ ∧ r.D_ ≤ 2000)
theorem sE (r : cA) : Dec (jC r) (AI r) := by
  unfold jC bj AI
  simp only [Option.bind_some, yL]
  exact ⟨_, rfl, by simp [and_assoc]⟩
end Go.Vk
/- Subsets by their rank: alike. -/
namespace Go.Vk
def ch : Nat → Nat → Nat
  | _, 0 => 1
  | 0, _ + 1 => 0
  | n + 1, k + 1 => ch n k + ch n (k + 1)
theorem sj (n : Nat) : ch n 0 = 1 := by cases n <;> rfl
theorem vK : ∀ {n k : Nat}, n < k → ch n k = 0
  | 0, k + 1, _ => rfl
  | n + 1, k + 1, h => by
    show ch n k + ch n (k + 1) = 0
    rw [vK (by omega), vK (by omega)]
theorem xe : ∀ n : Nat, ch n n = 1
  | 0 => rfl
  | n + 1 => by
    show ch n n + ch n (n + 1) = 1
    rw [xe n, vK (by omega)]
theorem qH : ∀ n k : Nat, ch n k ≤ 2 ^ n
  | n, 0 => by rw [sj]; exact Nat.one_le_two_pow
  | 0, k + 1 => by simp [ch]
  | n + 1, k + 1 => by
    show ch n k + ch n (k + 1) ≤ 2 ^ (n + 1)
    have h1 := qH n k
    have h2 := qH n (k + 1)
    rw [Nat.pow_succ]; omega
theorem sl : ∀ n k : Nat, ch (n + 1) (k + 1) * (k + 1) = (n + 1) * ch n k
  | 0, 0 => rfl
  | 0, k + 1 => by
    show (ch 0 (k + 1) + ch 0 (k + 2)) * _ = _
    simp [ch]
  | n + 1, 0 => by
    have h := sl n 0
    show (ch (n + 1) 0 + ch (n + 1) 1) * 1 = _
    have h : ch (n + 1) 1 * 1 = (n + 1) * ch n 0 := h
    rw [sj] at h ⊢
    omega
  | n + 1, j + 1 => by
    have h1 := sl n j
    have h2 := sl n (j + 1)
    have hp : ch (n + 1) (j + 1) = ch n j + ch n (j + 1) := rfl
    show (ch (n + 1) (j + 1) + ch (n + 1) (j + 2)) * (j + 2) = (n + 2) * ch (n + 1) (j + 1)
    generalize ch (n + 1) (j + 2) = c at *
    generalize ch n j = a at *
    generalize ch n (j + 1) = b at *
    generalize ch (n + 1) (j + 1) = d at *
    subst hp
    rw [Nat.add_mul _ _ (j + 2)]
    have h3 : (a + b) * (j + 2) = (a + b) * (j + 1) + (a + b) := Nat.mul_succ _ _
    have h4 : c * (j + 2) = (n + 1) * b := h2
    have h5 : (n + 2) * (a + b) = (n + 1) * (a + b) + (a + b) := Nat.succ_mul _ _
    have h6 : (n + 1) * (a + b) = (n + 1) * a + (n + 1) * b := Nat.mul_add _ _ _
    omega
theorem zF {n k : Nat} (h : k ≤ n) : ch n (k + 1) * (k + 1) = ch n k * (n - k) := by
  have h1 := sl n k
  have h2 : ch (n + 1) (k + 1) = ch n k + ch n (k + 1) := rfl
  rw [h2, Nat.add_mul] at h1
  have h3 : ch n k * (n - k) + ch n k * (k + 1) = ch n k * (n + 1) := by rw [← Nat.mul_add]; congr 1; omega
  rw [Nat.mul_comm (n + 1)] at h1
  omega
def qt (n k : Int) : Nat := if (0 ≤ n ∧ n ≤ 20) ∧ 0 ≤ k ∧ k ≤ n then ch n.toNat k.toNat else 0
theorem te {n : Nat} (h : n ≤ 20) : 2 ^ n ≤ 1048576 := by
  have : (2 : Nat) ^ n ≤ 2 ^ 20 := Nat.pow_le_pow_right (by omega) h
  omega
theorem wE (n k : Int) : qt n k ≤ 1048576 := by
  unfold qt
  split
  · exact Nat.le_trans (qH _ _) (te (by omega))
  · omega
theorem wZ (n k : Int) : lN n k = some (qt n k : Int) := by
  unfold lN qt
  rcases (eL (x := n) (a := 0) (b := 20)).cases with ⟨e, hn⟩ | ⟨e, hn⟩
  · rw [e]
    simp only [Option.bind_some, Bool.not_true, Bool.false_eq_true, if_false]
    rcases (eL (x := k) (a := 0) (b := n)).cases with ⟨e, hk⟩ | ⟨e, hk⟩
    · rw [e, if_pos ⟨hn, hk⟩]
      simp only [Option.bind_some, Bool.not_true, Bool.false_eq_true, if_false]
      obtain ⟨m, rfl⟩ : ∃ m : Nat, n = m := ⟨n.toNat, by omega⟩
      obtain ⟨j, rfl⟩ : ∃ j : Nat, k = j := ⟨k.toNat, by omega⟩
      simp only [Int.toNat_natCast]
      have h := qD (Lp := fun q i => fi (j : Int) (m : Int) q (i : Int) ((ch m i : Nat) : Int)) (n := j) (fin := some ((ch m j : Nat) : Int)) (fun q => by
        show fi (j : Int) (m : Int) (q + 1) _ _ = _
        rw [fi, if_neg (by simp)]) (fun q i hi => by
        show fi (j : Int) (m : Int) (q + 1) _ _ = fi (j : Int) (m : Int) q _ _
        have h1 := Nat.le_trans (qH m i) (te (by omega))
        have h2 := zF (n := m) (k := i) (by omega)
        have h3 : ch m i * (m - i) ≤ 1048576 * 20 := Nat.mul_le_mul h1 (by omega)
        have e1 : IntKind.i64.wrap ((m : Int) - (i : Int)) = ((m - i : Nat) : Int) := by rw [bu (by omega) (by omega)]; omega
        have e2 : IntKind.i64.wrap (((ch m i : Nat) : Int) * ((m - i : Nat) : Int)) = ((ch m i * (m - i) : Nat) : Int) := by rw [← Int.natCast_mul, jq (by omega)]
        rw [fi, if_pos (by simp; omega), e1, e2, aK (by omega)]
        unfold quo
        rw [if_neg (by omega), yF, ← h2, Nat.mul_div_cancel _ (by omega)]
        have h4 := Nat.le_trans (qH m (i + 1)) (te (by omega))
        rw [jq (by omega)]
        rfl) (by omega)
      rw [sj] at h
      exact h
    · rw [e, if_neg (fun g => hk g.2)]; rfl
  · rw [e, if_neg (fun g => hn g.1)]; rfl
theorem sk (n k : Int) : iB n k = some (qt n k : Int) := by
  unfold iB qt
  rcases (cX (x := n) (a := 0) (b := 20)).cases with ⟨e, hn⟩ | ⟨e, hn⟩
  · rw [e]
    simp only [Option.bind_some, Bool.not_true, Bool.false_eq_true, if_false]
    rcases (cX (x := k) (a := 0) (b := n)).cases with ⟨e, hk⟩ | ⟨e, hk⟩
    · rw [e, if_pos ⟨hn, hk⟩]
      simp only [Option.bind_some, Bool.not_true, Bool.false_eq_true, if_false]
      obtain ⟨m, rfl⟩ : ∃ m : Nat, n = m := ⟨n.toNat, by omega⟩
      obtain ⟨j, rfl⟩ : ∃ j : Nat, k = j := ⟨k.toNat, by omega⟩
      simp only [Int.toNat_natCast]
      refine qD (Lp := fun q i => cS (m : Int) (j : Int) q ((List.range (i + 1)).map fun x => ((ch i x : Nat) : Int)) (i : Int)) (n := m) (fun q => ?_) (fun q i hi => ?_) (by omega)
      · show cS (m : Int) (j : Int) (q + 1) _ _ = _
        rw [cS, if_neg (by simp), bc (by simp; omega)]
        simp
      · show cS (m : Int) (j : Int) (q + 1) _ _ = cS (m : Int) (j : Int) q _ _
        rw [cS, if_pos (by simp; omega)]
        generalize hrow : ((List.range (i + 1)).map fun x => ((ch i x : Nat) : Int)) = row
        have hlen : row.length = i + 1 := by rw [← hrow]; simp
        have hget : ∀ x (h : x < row.length), row[x] = ((ch i x : Nat) : Int) := fun x h => by
          have h' : x < i + 1 := by omega
          subst hrow; simp
        have key : ∀ (d q2 x : Nat), i + 1 - x = d → d < q2 → 1 ≤ x → x ≤ i + 1 → fk row (cS (m : Int) (j : Int) q) (i : Int) q2 ((List.range x).map fun y => ((ch (i + 1) y : Nat) : Int)) (x : Int) = cS (m : Int) (j : Int) q ((List.range (i + 2)).map fun x => ((ch (i + 1) x : Nat) : Int)) ((i + 1 : Nat) : Int) := by
          intro d
          induction d with
          | zero =>
            intro q2 x hd hq h1 hx
            obtain ⟨q2, rfl⟩ : ∃ y, q2 = y + 1 := ⟨q2 - 1, by omega⟩
            obtain rfl : x = i + 1 := by omega
            rw [fk, if_neg (by simp; omega), cN (by simp; omega), aK (by omega)]
            simp only [bS]
            rw [List.range_succ (n := i + 1), List.map_append]
            simp [xe]
          | succ d ih =>
            intro q2 x hd hq h1 hx
            obtain ⟨q2, rfl⟩ : ∃ y, q2 = y + 1 := ⟨q2 - 1, by omega⟩
            obtain ⟨z, rfl⟩ : ∃ z, x = z + 1 := ⟨x - 1, by omega⟩
            have hb1 := Nat.le_trans (qH i z) (te (by omega))
            have hb2 := Nat.le_trans (qH i (z + 1)) (te (by omega))
            have e1 : IntKind.i64.wrap (((z + 1 : Nat) : Int) - 1) = (z : Int) := by rw [bu (by omega) (by omega)]; omega
            rw [fk, if_pos (by simp; omega), e1, bc (by omega : z < row.length), bc (by omega : z + 1 < row.length), hget, hget]
            simp only [bS]
            rw [cN (by simp; omega), aK (by omega), bu (by omega) (by omega)]
            simp only [bS]
            have := ih q2 (z + 2) (by omega) (by omega) (by omega) (by omega)
            rw [← this, List.range_succ (n := z + 1), List.map_append]
            rfl
        have := key i bh 1 (by omega) (eY (by omega)) (Nat.le_refl _) (by omega)
        rw [← this]
        simp [List.range_succ, sj]
    · rw [e, if_neg (fun g => hk g.2)]; rfl
  · rw [e, if_neg (fun g => hn g.1)]; rfl
def oW (l : List Int) : Prop := l.length ≤ 20 ∧ ∀ x ∈ l, 0 ≤ x ∧ x ≤ 20
theorem vl {n k : Nat} {r : Int} (hn : n ≤ 20) (hk : k ≤ 20) (hr : 0 ≤ r ∧ r ≤ 1048576) : mS (iC n k r) (pP n k r) oW := by
  unfold iC pP
  have hb := wE n k
  rw [sk, wZ]
  simp only [bS]
  rw [bu (by omega) (by omega)]
  refine vM cX eL (fun hin => ?_) (fun _ => nJ ⟨by simp, fun x hx => by cases hx⟩)
  simp only [Bool.not_true, Bool.false_eq_true, if_false]
  have hkn : k ≤ n := by
    unfold qt at hin
    by_cases h : (0 ≤ (n : Int) ∧ (n : Int) ≤ 20) ∧ 0 ≤ (k : Int) ∧ (k : Int) ≤ n
    · omega
    · rw [if_neg h] at hin; omega
  have hin' : r < (ch n k : Nat) := by
    unfold qt at hin
    rw [if_pos ⟨by omega, by omega⟩] at hin
    simp only [Int.toNat_natCast] at hin
    omega
  have key : ∀ (d q q' x : Nat) (r : Int) (l : List Int), n - x = d → d < q → d < q' → x ≤ n → l.length ≤ k → 0 ≤ r → r < (ch (n - x) (k - l.length) : Nat) → (∀ y ∈ l, 0 ≤ y ∧ y ≤ 20) → mS (eF k n q r l x) (gM k n q' r l x) oW := by
    intro d
    induction d with
    | zero =>
      intro q q' x r l hd hq hq' hx hl h0 hr hy
      obtain ⟨q, rfl⟩ : ∃ y, q = y + 1 := ⟨q - 1, by omega⟩
      obtain ⟨q', rfl⟩ : ∃ y, q' = y + 1 := ⟨q' - 1, by omega⟩
      have hlk : l.length = k := by
        by_cases h : l.length < k
        · rw [hd, vK (by omega)] at hr; omega
        · omega
      rw [eF, gM, if_neg (by simp; omega), if_neg (by simp; omega)]
      exact nJ ⟨by omega, hy⟩
    | succ d ih =>
      intro q q' x r l hd hq hq' hx hl h0 hr hy
      obtain ⟨q, rfl⟩ : ∃ y, q = y + 1 := ⟨q - 1, by omega⟩
      obtain ⟨q', rfl⟩ : ∃ y, q' = y + 1 := ⟨q' - 1, by omega⟩
      rw [eF, gM]
      by_cases hlk : l.length < k
      · rw [if_pos (by simp; omega), if_pos (by simp; omega), sk, wZ]
        simp only [bS]
        have e1 : IntKind.i64.wrap (IntKind.i64.wrap ((n : Int) - (x : Int)) - 1) = ((n - x - 1 : Nat) : Int) := by
          rw [bu (n := (n : Int) - (x : Int)) (by omega) (by omega), bu (by omega) (by omega)]; omega
        have e2 : IntKind.i64.wrap (IntKind.i64.wrap ((k : Int) - (l.length : Int)) - 1) = ((k - l.length - 1 : Nat) : Int) := by
          rw [bu (n := (k : Int) - (l.length : Int)) (by omega) (by omega), bu (by omega) (by omega)]; omega
        rw [e1, e2]
        obtain ⟨a, ha⟩ : ∃ a, n - x = a + 1 := ⟨n - x - 1, by omega⟩
        obtain ⟨b, hb2⟩ : ∃ b, k - l.length = b + 1 := ⟨k - l.length - 1, by omega⟩
        have ha' : n - x - 1 = a := by omega
        have hb' : k - l.length - 1 = b := by omega
        have hp : ch (n - x) (k - l.length) = ch a b + ch a (b + 1) := by rw [ha, hb2]; rfl
        have hz : qt (a : Int) (b : Int) = ch a b := by
          unfold qt
          by_cases hab : b ≤ a
          · rw [if_pos ⟨by omega, by omega⟩]; simp
          · rw [if_neg (by omega), vK (by omega)]
        rw [ha', hb', hz]
        rw [hp] at hr
        have hle := Nat.le_trans (qH a b) (te (by omega))
        have hle2 := Nat.le_trans (qH a (b + 1)) (te (by omega))
        refine uS Iff.rfl (fun g => ?_) (fun g => ?_)
        · have g : r < (ch a b : Nat) := by simpa using g
          rw [cN (by simp; omega), aK (by omega)]
          simp only [bS]
          refine ih q q' (x + 1) r _ (by omega) (by omega) (by omega) (by omega) (by simp; omega) h0 ?_ (fun y hy2 => ?_)
          · rw [show n - (x + 1) = a by omega, show k - (l ++ [(x : Int)]).length = b by simp; omega]; exact g
          · rcases List.mem_append.1 hy2 with h | h
            · exact hy y h
            · rw [List.mem_singleton.1 h]; omega
        · have g : ¬ r < (ch a b : Nat) := by simpa using g
          rw [aK (by omega), bu (by omega) (by omega)]
          refine ih q q' (x + 1) _ l (by omega) (by omega) (by omega) (by omega) hl (by omega) ?_ hy
          rw [show n - (x + 1) = a by omega, hb2]; omega
      · rw [if_neg (by simp; omega), if_neg (by simp; omega)]
        exact nJ ⟨by omega, hy⟩
  exact key n bh bh 0 r [] (by omega) (eY (by omega)) (eY (by omega)) (by omega) (by simp) hin.1 (by simpa using hin') (fun y hy => by cases hy)
end Go.Vk
/- A new state: alike. -/
namespace Go.Vk
def ua (s : ae) : av := ⟨List.replicate s.k_.length 0, s.b_.map fun a => List.replicate (nb a * s.k_.length) 0⟩
theorem ut {s : ae} (hs : bp s) (hS : eM s) : fT s = some (ua s) := by
  unfold fT
  have hc := hS.2.1
  rcases (kz (kB hs)).cases with ⟨e, _⟩ | ⟨_, g⟩
  · rw [e]
    simp only [Option.bind_some, Bool.not_true, Bool.false_eq_true, if_false]
    rw [zu _ (by omega)]
    simp only [bS]
    refine pj (p := s.b_) (fun a => List.replicate (nb a * s.k_.length) (0 : Int)) (fg s (List.replicate s.k_.length 0)) (fun l => some ⟨List.replicate s.k_.length 0, l⟩) (fun k l => ?_) (fun k l i h hi => ?_) (by have := hS.1; omega)
    · rw [fg, if_neg (by simp)]
    · have hA := hs.1.2 _ (List.getElem_mem h)
      have hnb := sd (hS.attr h)
      have hm : nb s.b_[i] * s.k_.length ≤ 4 * 3 := Nat.mul_le_mul (by omega) (by omega)
      have hsl := hS.1
      rw [fg, if_pos (by simp; omega), bc h, aK (by omega)]
      simp only [bS]
      rw [me hA (hS.attr h)]
      simp only [bS]
      rw [← Int.natCast_mul, jq (by omega), zu _ (by omega)]
      simp only [bS]
      rw [cN (by simp; omega)]
      rfl
  · exact absurd hS g
theorem vY {α : Type} {f : α → Nat} {b : Nat} {l : List α} (h : ∀ x ∈ l, f x ≤ b) : (l.map f).sum ≤ b * l.length := by
  induction l with
  | nil => simp
  | cons x l ih =>
    have h1 := h x (by simp)
    have h2 := ih (fun y hy => h y (by simp [hy]))
    simp only [List.map_cons, List.sum_cons, List.length_cons, Nat.mul_succ]
    omega
end Go.Vk
/- Examples: tested alike. -/
namespace Go.Vk
def ExP (s : ae) (e : bw) : Prop := eM s ∧ e.u_.length = s.b_.length ∧ (-1 ≤ e.z_ ∧ e.z_ ≤ (s.k_.length : Int) - 1) ∧
  ∀ i, 0 ≤ i → i < e.u_.length → ∃ n : Nat, ∃ h : i < s.b_.length, gg s.b_[i] = some (n : Int) ∧ n ≤ 4 ∧ ∀ hb : i < e.u_.length, -1 ≤ e.u_[i] ∧ e.u_[i] ≤ (n : Int) - 1
theorem we {s : ae} {e : bw} (hs : OkS s) (hS : eM s) (hl : e.u_.length = s.b_.length) : Dec (iu e s bh 0) (∀ i, 0 ≤ i → i < e.u_.length → ∃ n : Nat, ∃ h : i < s.b_.length, gg s.b_[i] = some (n : Int) ∧ n ≤ 4 ∧ ∀ hb : i < e.u_.length, -1 ≤ e.u_[i] ∧ e.u_[i] ≤ (n : Int) - 1) := by
  refine ku (Lp := iu e s) (n := e.u_.length) 0 (fun k i hi => ?_) (fun k i _ hi => ?_) (by have := hs.1; omega)
  · show (if _ then _ else _) = _
    rw [if_neg (by simp; omega)]
  · have ha : i < s.b_.length := by omega
    obtain ⟨n, b1, b2, _, b3⟩ := ul (hs.2.1 _ (List.getElem_mem ha)) (hS.2.2.2 i (Nat.zero_le _) ha ha).1
    rw [iu]
    rw [if_pos (by simp; omega), bc hi, bc ha, aK (by have := hs.1; omega)]
    simp only [bS]
    rw [b1]
    simp only [bS]
    rw [bu (by omega) (by omega)]
    unfold bj
    simp only [bS]
    by_cases hc : -1 ≤ e.u_[i] ∧ e.u_[i] ≤ (n : Int) - 1
    · rw [ov hc]
      exact .inl ⟨⟨n, ha, b2, b3, fun _ => hc⟩, rfl⟩
    · rw [od hc]
      exact .inr ⟨fun ⟨n', _, b4, _, g⟩ => hc (by rw [b2] at b4; have := Option.some.inj b4; rw [this]; exact g hi), rfl⟩
theorem wl {s : ae} {e : bw} (hs : OkS s) (hS : eM s) (hl : e.u_.length = s.b_.length) : Dec (lm e s bh 0) (∀ i, 0 ≤ i → i < e.u_.length → ∃ n : Nat, ∃ h : i < s.b_.length, gg s.b_[i] = some (n : Int) ∧ n ≤ 4 ∧ ∀ hb : i < e.u_.length, -1 ≤ e.u_[i] ∧ e.u_[i] ≤ (n : Int) - 1) := by
  refine ku (Lp := lm e s) (n := e.u_.length) 0 (fun k i hi => ?_) (fun k i _ hi => ?_) (by have := hs.1; omega)
  · show (if _ then _ else _) = _
    rw [if_neg (by simp; omega)]
  · have ha : i < s.b_.length := by omega
    obtain ⟨n, b1, b2, _, b3⟩ := ul (hs.2.1 _ (List.getElem_mem ha)) (hS.2.2.2 i (Nat.zero_le _) ha ha).1
    rw [lm]
    rw [if_pos (by simp; omega), bc hi, bc ha, aK (by have := hs.1; omega)]
    simp only [bS]
    rw [b2]
    simp only [bS]
    rw [bu (by omega) (by omega)]
    unfold bL
    simp only [bS]
    by_cases hc : -1 ≤ e.u_[i] ∧ e.u_[i] ≤ (n : Int) - 1
    · rw [ov hc]
      exact .inl ⟨⟨n, ha, b2, b3, fun _ => hc⟩, rfl⟩
    · rw [od hc]
      exact .inr ⟨fun ⟨n', _, b4, _, g⟩ => hc (by rw [b2] at b4; have := Option.some.inj b4; rw [this]; exact g hi), rfl⟩
theorem uu {s : ae} {e : bw} (hs : OkS s) : Dec (lA s e) (ExP s e) := by
  unfold lA ExP
  rcases (kz hs).cases with ⟨e1, h⟩ | ⟨e1, h⟩
  · rw [e1]
    unfold bj
    simp only [Option.bind_some, Bool.not_true, Bool.false_or]
    by_cases hn : e.u_.length = s.b_.length
    · rw [if_neg (by simp [hn])]
      simp only [bS]
      rw [bu (by omega) (by have := hs.2.2.1; omega)]
      by_cases hc : -1 ≤ e.z_ ∧ e.z_ ≤ (s.k_.length : Int) - 1
      · rw [ov hc]
        simp only [Bool.not_true, Bool.false_eq_true, if_false]
        exact (we hs h hn).of_iff ⟨fun g => ⟨h, hn, hc, g⟩, fun g => g.2.2.2⟩
      · rw [od hc]
        exact cy fun g => hc g.2.2.1
    · rw [if_pos (by simp; omega)]
      exact cy fun g => hn g.2.1
  · rw [e1]
    exact cy fun g => h g.1
theorem Bj {s : ae} {e : bw} (hs : OkS s) : Dec (rt s e) (ExP s e) := by
  unfold rt ExP
  rcases (mJ hs).cases with ⟨e1, h⟩ | ⟨e1, h⟩
  · rw [e1]
    unfold bL
    simp only [Option.bind_some, Bool.not_true, Bool.false_or]
    by_cases hn : e.u_.length = s.b_.length
    · rw [if_neg (by simp [hn])]
      simp only [bS]
      rw [bu (by omega) (by have := hs.2.2.1; omega)]
      by_cases hc : -1 ≤ e.z_ ∧ e.z_ ≤ (s.k_.length : Int) - 1
      · rw [ov hc]
        simp only [Bool.not_true, Bool.false_eq_true, if_false]
        exact (wl hs h hn).of_iff ⟨fun g => ⟨h, hn, hc, g⟩, fun g => g.2.2.2⟩
      · rw [od hc]
        exact cy fun g => hc g.2.2.1
    · rw [if_pos (by simp; omega)]
      exact cy fun g => hn g.2.1
  · rw [e1]
    exact cy fun g => h g.1
end Go.Vk
/- Entries: what the tests say. -/
namespace Go.Vk
end Go.Vk
/- The path of an example: alike. -/
namespace Go.Vk
def sx (t : aj) (i : Nat) : aR := t.a_.getD i default
theorem rk {t : aj} {i : Nat} (h : i < t.a_.length) : sx t i = t.a_[i] := by unfold sx; simp [h]
def tv (l : List Nat) : List Int := l.map (fun (i : Nat) => (i : Int))
def tX (s : ae) (n : aR) (e : bw) : Int :=
  let b := e.u_.getD n.l_.g_.toNat 0
  if 0 ≤ b then tr (atr s n.l_) n.l_ b else n.w_
def nxt (s : ae) (t : aj) (e : bw) (i : Nat) : Nat := ((sx t i).r_.getD (tX s (sx t i) e).toNat 0).toNat
def lp (s : ae) (t : aj) (e : bw) : Nat → Nat → List Nat
  | 0, i => [i]
  | d + 1, i => if (sx t i).s_ = true then [i] else i :: lp s t e d (nxt s t e i)
theorem Bh {s : ae} {f : ar} (_ : lS s f) {b : Int} (hb : 0 ≤ b ∧ b ≤ (nb (atr s f) : Int) - 1) : 0 ≤ tr (atr s f) f b ∧ tr (atr s f) f b ≤ (brN s f : Int) - 1 := by
  unfold tr brN
  split
  · omega
  · split <;> split <;> omega
theorem yR {s : ae} {f : ar} {e : bw} (hs : bp s) (hE : ExP s e) (h : lS s f) : ∃ b, idx e.u_ f.g_ = some b ∧ b = e.u_.getD f.g_.toNat 0 ∧ -1 ≤ b ∧ b ≤ (nb (atr s f) : Int) - 1 := by
  obtain ⟨a, ha, ea, et⟩ := qW h.2.1
  have hl : a < e.u_.length := by have := hE.2.1; omega
  obtain ⟨n, h1, h2, _, h3⟩ := hE.2.2.2 a (Nat.zero_le _) hl
  have hn : nb s.b_[a] = n := by
    have := mZ (hs.1.2 _ (List.getElem_mem ha))
    rw [h2] at this
    have := Option.some.inj this
    omega
  have h3 := h3 hl
  rw [ea, et, hn, bc hl, Int.toNat_natCast, nk hl]
  exact ⟨_, rfl, rfl, h3.1, h3.2⟩
theorem Ab {s : ae} {t : aj} {n : aR} {i : Nat} {e : bw} (hs : bp s) (hE : ExP s e) (h : vX s t i n) : ∃ k : Nat, tX s n e = k ∧ k < n.r_.length := by
  obtain ⟨b, _, hb, h1, h2⟩ := yR hs hE h.1
  unfold tX
  rw [← hb]
  have hk := h.2.1
  have hm := h.2.2.1
  by_cases h0 : 0 ≤ b
  · have := Bh h.1 ⟨h0, h2⟩
    show ∃ k : Nat, (if 0 ≤ b then _ else _) = (k : Int) ∧ _
    rw [if_pos h0]
    exact ⟨(tr (atr s n.l_) n.l_ b).toNat, by omega, by omega⟩
  · show ∃ k : Nat, (if 0 ≤ b then _ else _) = (k : Int) ∧ _
    rw [if_neg h0]
    exact ⟨n.w_.toNat, by omega, by omega⟩
theorem xZ {s : ae} {t : aj} {e : bw} (hs : bp s) (hT : qu s t) (hE : ExP s e) {i : Nat} (hi : i < t.a_.length) (hL : t.a_[i].s_ = false) : ∃ (k : Nat) (hk : k < t.a_[i].r_.length) (hn : nxt s t e i < t.a_.length), tX s t.a_[i] e = k ∧ t.a_[i].r_[k] = (nxt s t e i : Int) ∧ i < nxt s t e i ∧ t.a_[nxt s t e i].o_ = i := by
  have hS := (hT.2.2.2 i hi hi).1.2.2.2.2.2 hL
  obtain ⟨k, hk, hkl⟩ := Ab hs hE hS
  obtain ⟨m, hm, h1, h2, h3⟩ := hS.2.2.2.2.2.2 _ (List.getElem_mem hkl)
  have hx : nxt s t e i = m := by
    unfold nxt
    rw [rk hi, hk, Int.toNat_natCast, nk hkl, h1, Int.toNat_natCast]
  rw [hx]
  exact ⟨k, hkl, hm, hk, h1, h2, h3⟩
theorem xF {s : ae} {t : aj} {e : bw} (hs : bp s) (hT : qu s t) (hE : ExP s e) : ∀ (d k k' i : Nat) (pre : List Int), t.a_.length - i ≤ d → d < k → d < k' → i < t.a_.length → pre.length ≤ i →
    fI t e s k pre (i : Int) = some (pre ++ tv (lp s t e d i)) ∧ iR t e s k' (pre ++ [(i : Int)]) = some (pre ++ tv (lp s t e d i), false) := by
  intro d
  have hlen := hT.2.1
  induction d with
  | zero => intro k k' i pre h1 h2 h3 h4; omega
  | succ d ih =>
    intro k k' i pre h1 h2 h3 hi hp
    obtain ⟨k, rfl⟩ : ∃ q, k = q + 1 := ⟨k - 1, by omega⟩
    obtain ⟨k', rfl⟩ : ∃ q, k' = q + 1 := ⟨k' - 1, by omega⟩
    have hlast : idx (pre ++ [(i : Int)]) (IntKind.i64.wrap (((pre ++ [(i : Int)]).length : Int) - 1)) = some (i : Int) := by
      rw [show ((pre ++ [(i : Int)]).length : Int) - 1 = (pre.length : Int) by simp, bu (by omega) (by omega), bc (by simp)]
      simp
    rw [fI, iR, hlast]
    simp only [bS]
    rw [bc hi]
    simp only [Option.bind_some, lp]
    rw [rk hi]
    cases hL : t.a_[i].s_
    · simp only [Bool.not_false, Bool.false_eq_true, if_true, if_false]
      obtain ⟨j, hj, hn, ht, hk, hlt, _⟩ := xZ hs hT hE hi hL
      have hS := (hT.2.2.2 i hi hi).1.2.2.2.2.2 hL
      obtain ⟨b, hb, hb2, hb3, hb4⟩ := yR hs hE hS.1
      rw [cN (by simp; omega), hb]
      simp only [bS]
      have htk : tX s t.a_[i] e = if 0 ≤ b then tr (atr s t.a_[i].l_) t.a_[i].l_ b else t.a_[i].w_ := by rw [hb2]; rfl
      obtain ⟨i1, i2⟩ := ih k k' (nxt s t e i) (pre ++ [(i : Int)]) (by omega) (by omega) (by omega) hn (by simp; omega)
      have hcons : pre ++ [(i : Int)] ++ tv (lp s t e d (nxt s t e i)) = pre ++ tv (i :: lp s t e d (nxt s t e i)) := by simp [tv]
      rw [hcons] at i1 i2
      have hJ : ∀ q : Int, q = tX s t.a_[i] e → la t.a_[i] (pre ++ [(i : Int)]) (iR t e s k') q = some (pre ++ tv (i :: lp s t e d (nxt s t e i)), false) := fun q hq => by
        unfold la
        rw [hq, ht, bc hj, hk]
        simp only [bS]
        rw [cN (by simp; omega)]
        exact i2
      by_cases h0 : 0 ≤ b
      · rw [if_pos (by simpa using h0), if_pos (by simpa using h0), qE hs hS.1 ⟨h0, hb4⟩, us hs hS.1 ⟨h0, hb4⟩]
        rw [if_pos h0] at htk
        simp only [bS]
        rw [← htk, ht, bc hj, hk]
        simp only [bS]
        exact ⟨i1, by rw [← ht]; exact hJ _ rfl⟩
      · rw [if_neg (by simpa using h0), if_neg (by simpa using h0)]
        rw [if_neg h0] at htk
        rw [← htk, ht, bc hj, hk]
        simp only [bS]
        exact ⟨i1, by rw [← ht]; exact hJ _ rfl⟩
    · simp only [Bool.not_true, Bool.false_eq_true, if_true, if_false]
      rw [cN (by simp; omega)]
      exact ⟨rfl, rfl⟩
theorem CF {s : ae} {t : aj} {e : bw} (hs : bp s) (hT : qu s t) (hE : ExP s e) : mA s t e = some (tv (lp s t e 32 0)) ∧ vN s t e = some (tv (lp s t e 32 0), false) := by
  have hlen := hT.2.1
  obtain ⟨h1, h2⟩ := xF hs hT hE 32 bh bh 0 [] (by omega) (eY (by omega)) (eY (by omega)) (by omega) (Nat.le_refl _)
  exact ⟨h1, h2⟩
theorem vE {s : ae} {t : aj} {e : bw} : ∀ d i, (lp s t e d i).length ≤ d + 1
  | 0, i => by simp [lp]
  | d + 1, i => by
    have := vE (s := s) (t := t) (e := e) d (nxt s t e i)
    simp only [lp]
    split
    · simp
    · simp only [List.length_cons]; omega
end Go.Vk
/- An example added: alike. -/
namespace Go.Vk
theorem qM {t : av} (h : eO t) : kF t = some t ∧ mj t = some t := by
  have h1 := h.1.1
  have h2 := h.2.1
  unfold kF mj fm oF
  rw [cN (by simp; omega)]
  simp only [Option.bind_some, List.nil_append]
  constructor
  · have g := pj (p := t.d_) (fun x => x) (gc t t.e_) (fun l => some (av.mk t.e_ l)) (fun k l => by rw [gc, if_neg (by simp)]) (fun k l i hi hl => by
      have := (h.2.2 _ (List.getElem_mem hi)).1
      rw [gc, if_pos (by simp; omega), bc hi, aK (by omega)]
      simp only [bS]
      rw [cN (by simp; omega)]
      simp only [bS]
      rw [cN (by simp; omega)]
      rfl) (by omega)
    simpa using g
  · have g := pj (p := t.d_) (fun x => x) (gX t.d_) some (fun k l => by rw [gX, if_neg (by simp)]) (fun k l i hi hl => by
      have := (h.2.2 _ (List.getElem_mem hi)).1
      rw [gX, if_pos (by simp; omega), bc hi, aK (by omega)]
      unfold fm
      simp only [bS]
      rw [cN (by simp; omega)]
      simp only [bS]
      rw [cN (by simp; omega)]
      rfl) (by omega)
    rw [g]
    simp
def nq (l : List Int) (n : Nat) : Prop := l.length = n ∧ ∀ x ∈ l, 0 ≤ x ∧ x ≤ 2000
theorem rH {l : List Int} {n i : Nat} {v : Int} (h : nq l n) (hv : 0 ≤ v ∧ v ≤ 2000) : nq (l.set i v) n := by
  refine ⟨by simp [h.1], fun x hx => ?_⟩
  rcases List.mem_or_eq_of_mem_set hx with hx | rfl
  · exact h.2 x hx
  · exact hv
theorem rJ {l : List Int} {n : Nat} (h : nq l n) (hn : n ≤ 1000) : kn l := ⟨by rw [h.1]; omega, fun x hx => by have := h.2 x hx; omega⟩
def yi (s : ae) (l : List (List Int)) : Prop := (l.length = 0 ∨ l.length = s.b_.length) ∧ ∀ i (h : i < l.length) (h2 : i < s.b_.length), nq l[i] (nb s.b_[i] * s.k_.length)
def sY (s : ae) (t : av) : Prop := nq t.e_ s.k_.length ∧ yi s t.d_
theorem nbc {s : ae} (hS : eM s) {i : Nat} (h : i < s.b_.length) : nb s.b_[i] * s.k_.length ≤ 12 := by
  have h1 := (sd (hS.attr h)).2
  have h2 : s.k_.length ≤ 3 := by have := hS.2.1; omega
  calc _ ≤ 4 * 3 := Nat.mul_le_mul h1 h2
    _ = 12 := rfl
theorem yU {s : ae} {t : av} (hs : bp s) (hS : eM s) (h : sY s t) : eO t := by
  have h2 : s.k_.length ≤ 3 := by have := hS.2.1; omega
  have h3 := hs.1.1
  refine ⟨rJ h.1 (by omega), by rcases h.2.1 with g | g <;> omega, fun x hx => ?_⟩
  obtain ⟨i, hi, rfl⟩ := List.getElem_of_mem hx
  have hi2 : i < s.b_.length := by rcases h.2.1 with g | g <;> omega
  exact rJ (h.2.2 i hi hi2) (by have := nbc hS hi2; omega)
theorem zq {s : ae} : sY s (ua s) := by
  have hw : ∀ n, nq (List.replicate n 0) n := fun n => ⟨by simp, fun x hx => by rw [List.eq_of_mem_replicate hx]; omega⟩
  refine ⟨hw _, .inr (by simp [ua]), fun i h h2 => ?_⟩
  simp only [ua, List.getElem_map]
  exact hw _
theorem wW {b n c k : Nat} (hb : b < n) (hk : k < c) : b * c + k < n * c := by
  calc b * c + k < b * c + c := by omega
    _ = (b + 1) * c := by rw [Nat.add_mul, Nat.one_mul]
    _ ≤ n * c := Nat.mul_le_mul_right c hb
theorem yA {s : ae} {t : av} {e : bw} {w : Int} (hs : bp s) (hS : eM s) (ht : sY s t) : mS (gD s t e w) (pY s t e w) (fun y => sY s y.1) := by
  have hm := yU hs hS ht
  obtain ⟨c1, c2⟩ := qM hm
  unfold gD pY
  rw [c1, c2]
  simp only [bS]
  have bad : mS (some (t, false)) (some (t, false)) (fun y : av × Bool => sY s y.1) := nJ ht
  refine vM (iO hs hm) (rp hs hm) (fun hP => ?_) (fun _ => by simp only [Option.bind_some, Bool.not_false, Bool.true_or, if_true]; exact bad)
  simp only [Bool.not_true, Bool.false_eq_true, if_false]
  rw [← ((uu (e := e) (kB hs)).eq (Bj (kB hs)))]
  rcases (uu (e := e) (kB hs)).cases with ⟨e1, hE⟩ | ⟨e1, _⟩
  · rw [e1]
    simp only [Option.bind_some, Bool.not_true, Bool.false_or]
    obtain ⟨hcl1, hcl2⟩ := hE.2.2.1
    by_cases hc : e.z_ < 0
    · rw [show (decide (e.z_ < 0)) = true by simpa using hc, show (e.z_ == -1) = true by simp; omega]
      simp only [Option.bind_some, if_true]
      exact bad
    · rw [show (decide (e.z_ < 0)) = false by simpa using hc, show (e.z_ == -1) = false by simp; omega]
      simp only [Bool.false_eq_true, if_false]
      rw [← ((cX (x := w) (a := 1) (b := 7)).eq eL)]
      rcases (cX (x := w) (a := 1) (b := 7)).cases with ⟨e2, hw⟩ | ⟨e2, _⟩
      · rw [e2]
        simp only [Option.bind_some, Bool.not_true, Bool.false_eq_true, if_false]
        have hsum := tZ hS hP.2.1 hP.2.2.1
        rw [qR hs hm hP, sT (fun x hx => by have := hP.2.2.1 x hx; omega) hm.1.1]
        simp only [bS]
        obtain ⟨c, hcc⟩ : ∃ c : Nat, e.z_ = c := ⟨e.z_.toNat, by omega⟩
        have hcn : c < s.k_.length := by omega
        have hct : c < t.e_.length := by rw [ht.1.1]; exact hcn
        refine uS Iff.rfl (fun _ => bad) (fun _ => ?_)
        rw [hcc, bc hct]
        simp only [bS]
        have hx : 0 ≤ t.e_[c] ∧ t.e_[c] ≤ 999 := hP.2.2.1 _ (List.getElem_mem hct)
        have hT : nq (t.e_.set c (IntKind.i64.wrap (t.e_[c] + w))) s.k_.length := rH ht.1 (by rw [bu (by omega) (by omega)]; omega)
        have hlen := hm.2.1
        refine yp (fun k l i => ez t e s w t.e_[c] k l i) (fun k l i => gQ t e s w t.e_[c] k l i) t.d_.length
          (fun i a b => b = a ∧ a.length = t.d_.length ∧ yi s a ∧ ∀ j (h : j < a.length) (h2 : j < t.d_.length), i ≤ j → a[j] = t.d_[j]) (fun k a b h => ?_) (fun k a b i hi h hk => ?_) (by omega) ⟨rfl, rfl, ht.2, fun j h h2 _ => rfl⟩
        · obtain ⟨rfl, h1, h2, _⟩ := h
          rw [ez, gQ, if_neg (by simp), if_neg (by simp), hcc]
          exact nJ ⟨hT, h2⟩
        · obtain ⟨rfl, h1, h2, h3⟩ := h
          have hib : i < b.length := by omega
          have hia : i < s.b_.length := by have := ht.2.1; omega
          have hie : i < e.u_.length := by rw [hE.2.1]; exact hia
          have hcell := h2.2 i hib hia
          rw [ez, gQ, if_pos (by simp; omega), if_pos (by simp; omega), bc hie, bc hib, aK (by omega)]
          simp only [bS]
          refine uS Iff.rfl (fun hb0 => ?_) (fun _ => hk _ _ ⟨rfl, h1, h2, fun j h h' hj => h3 j h h' (by omega)⟩)
          have hb0 : 0 ≤ e.u_[i] := by simpa using hb0
          obtain ⟨n, hia2, hn1, hn2, hn3⟩ := hE.2.2.2 i (Nat.zero_le _) hie
          have hn : nb s.b_[i] = n := by
            have := mZ (hs.1.2 _ (List.getElem_mem hia))
            rw [hn1] at this
            have := Option.some.inj this
            omega
          have hn3 := (hn3 hie).2
          obtain ⟨q, hq⟩ : ∃ q : Nat, e.u_[i] = q := ⟨e.u_[i].toNat, by omega⟩
          have hqc : q * s.k_.length + c < b[i].length := by rw [hcell.1, hn]; exact wW (by omega) hcn
          have d := nbc hS hia
          have hcl := hcell.1
          have hqn : q * s.k_.length ≤ 12 := by omega
          have hcx : b[i] = t.d_[i] := h3 i hib hi (Nat.le_refl _)
          have hcb : ∀ x ∈ b[i], 0 ≤ x ∧ x ≤ 999 := by
            rw [hcx]
            rcases hP.2.2.2.2 with g | ⟨_, g⟩
            · omega
            · exact (g i hi hia).2.1
          rw [hq, hcc, ← Int.natCast_mul, jq (by omega), ← Int.natCast_add, jq (by omega), bc hqc]
          simp only [bS]
          have hv := hcb _ (List.getElem_mem hqc)
          refine hk _ _ ⟨rfl, by simpa using h1, ⟨?_, fun j h h' => ?_⟩, fun j h h' hj => ?_⟩
          · simpa using h2.1
          · simp only [List.getElem_set, Int.toNat_natCast]
            split
            · rename_i hj
              subst hj
              exact rH hcell (by rw [bu (by omega) (by omega)]; omega)
            · exact h2.2 j (by simpa using h) h'
          · simp only [List.getElem_set, Int.toNat_natCast]
            rw [if_neg (by omega)]
            exact h3 j (by simpa using h) h' (by omega)
      · rw [e2]
        simp only [Option.bind_some, Bool.not_false, if_true]
        exact bad
  · rw [e1]
    simp only [Option.bind_some, Bool.not_false, Bool.true_or, if_true]
    exact bad
end Go.Vk
/- Natural numbers, fractions: they always answer. -/
namespace Go.Vk
abbrev T {α : Type} (o : Option α) : Prop := Tot o (fun _ => True)
theorem bx {α : Type} (v : α) : T (some v) := aA trivial
theorem Dec.t {o : Option Bool} {P : Prop} (h : Dec o P) : Tot o (fun b => b = true → P) := by
  obtain ⟨b, h1, h2⟩ := h
  exact ⟨b, h1, h2.1⟩
theorem iK {ρ : Type} {o : Option Bool} {P : Prop} (h : Tot o (fun b => b = true → P)) {g : Bool → Option ρ} {Q : ρ → Prop} (hf : Tot (g false) Q) (ht : P → Tot (g true) Q) : Tot (o.bind g) Q := by
  obtain ⟨b, rfl, hb⟩ := h
  cases b
  · exact hf
  · exact ht (hb rfl)
theorem jh {ρ : Type} {o : Option Bool} {P : Prop} (h : Tot o (fun b => b = true → P)) {f : Bool → Option ρ} {Q : ρ → Prop} (ht : Tot (f true) Q) (hf : P → Tot (f false) Q) : Tot ((o.bind fun y => some (!y)).bind f) Q := by
  obtain ⟨b, rfl, hb⟩ := h
  cases b
  · exact ht
  · exact hf (hb rfl)
theorem pF (p : List Int) : Tot (iE p) (fun b => b = true → p.length ≤ 16) := by
  unfold iE
  refine bg (fun _ => aA (by simp)) (fun h => ?_)
  have h : p.length ≤ 16 := by simp at h; omega
  refine cT (fun k (_ : Unit) i => fu p k i) p.length (fun _ _ => True) (fun k _ _ => ?_) (fun k _ i hi _ hk => ?_) (by omega) (s := ()) trivial
  · show Tot (fu p (k + 1) _) _
    rw [fu, if_neg (by simp)]
    refine Tot.bind (P := fun _ => True) (bg (fun _ => aA trivial) (fun h0 => ?_)) (fun _ _ => aA (fun _ => h))
    have h0 : p.length ≠ 0 := by simpa using h0
    rw [bu (by omega) (by omega)]
    exact (gf ⟨by omega, by omega⟩).bind fun _ _ => aA trivial
  · show Tot (fu p (k + 1) _) _
    rw [fu, if_pos (by simp; omega), bc hi, aK (by omega)]
    simp only [bS]
    refine iK cX.t (by simp only [sS]; exact aA (by simp)) (fun _ => ?_)
    simp only [sS]
    exact hk () trivial
theorem ya {p : List Int} (hp : p.length ≤ 1000) : Tot (kL p) (fun l => l.length ≤ p.length) := by
  unfold kL
  have key : ∀ (n k : Nat), n ≤ p.length → n < k → Tot (fY p k (n : Int)) (fun l => l.length ≤ p.length) := by
    intro n
    induction n with
    | zero =>
      intro k hn hk
      obtain ⟨k, rfl⟩ : ∃ q, k = q + 1 := ⟨k - 1, by omega⟩
      rw [fY, if_neg (by simp)]
      simp only [sS]
      refine (nr ⟨by omega, by omega, by omega⟩).bind fun l hl => ?_
      subst hl
      refine (jR (by simp)).bind fun l hl => aA ?_
      subst hl
      simp
    | succ n ih =>
      intro k hn hk
      obtain ⟨k, rfl⟩ : ∃ q, k = q + 1 := ⟨k - 1, by omega⟩
      rw [fY, if_pos (by simp), bu (by omega) (by omega), show ((n + 1 : Nat) : Int) - 1 = (n : Int) by omega, bc (show n < p.length by omega)]
      simp only [sS]
      refine bg (fun _ => ih k (by omega) (by omega)) (fun _ => ?_)
      refine (nr ⟨by omega, by omega, by omega⟩).bind fun l hl => ?_
      subst hl
      refine (jR (by simp; omega)).bind fun l hl => aA ?_
      subst hl
      simp; omega
  exact key p.length bh (Nat.le_refl _) (eY (by omega))
theorem pe (a b : List Int) : Tot (iy a b) (fun y => y.1.length ≤ 16) := by
  unfold iy
  have bad : Tot (some (([] : List Int), false)) (fun y => y.1.length ≤ 16) := aA (by simp)
  refine iK (pF a) (by simp only [sS]; exact bad) (fun ha => ?_)
  simp only [sS]
  refine jh (pF b) (by simp only [sS]; exact bad) (fun hb => ?_)
  simp only [sS]
  rw [bu (n := (a.length : Int) + b.length) (by omega) (by omega), bu (by omega) (by omega)]
  refine (vZ ⟨by omega, by omega⟩).bind fun l hl => ?_
  subst hl
  refine cT (eS a b) a.length (fun _ l => l.length = a.length + b.length + 1) (fun k l hl => ?_) (fun k l i hi hl hk => ?_) (by omega) (by simp; omega)
  · rw [eS, if_neg (by simp)]
    refine (ya (by omega)).bind fun l2 hl2 => bg (fun _ => bad) (fun h => aA ?_)
    simp at h
    show l2.length ≤ 16
    omega
  · rw [eS, if_pos (by simp; omega)]
    refine cT (fun k2 (σ : List Int × Int) j => eV b i a (eS a b k) k2 σ.1 σ.2 j) b.length (fun _ σ => σ.1.length = a.length + b.length + 1) (fun k2 σ hσ => ?_) (fun k2 σ j hj hσ hk2 => ?_) (by omega) (s := (l, 0)) hl
    · show Tot (eV _ _ _ _ (k2 + 1) _ _ _) _
      rw [eV, if_neg (by simp), bu (n := (i : Int) + b.length) (by omega) (by omega), show (i : Int) + (b.length : Int) = ((i + b.length : Nat) : Int) by omega, bc (show i + b.length < σ.1.length by omega), aK (by omega)]
      simp only [bS]
      exact hk _ (by simpa using hσ)
    · show Tot (eV _ _ _ _ (k2 + 1) _ _ _) _
      rw [eV, if_pos (by simp; omega), bu (n := (i : Int) + j) (by omega) (by omega), show (i : Int) + (j : Int) = ((i + j : Nat) : Int) by omega, bc (show i + j < σ.1.length by omega), bc hi, bc hj, aK (i := j) (by omega)]
      simp only [bS]
      exact hk2 (_, _) (by simpa using hσ)
theorem wr (p : List Int) {i : Int} (h : 0 ≤ i) : T (jB p i) := by
  unfold jB
  exact bg (fun g => (gf ⟨h, by simpa using g⟩).bind fun _ _ => bx _) (fun _ => bx _)
theorem sw (a b : List Int) : T (jG a b) := by
  unfold jG
  refine iK (pF a) (by simp only [sS]; exact bx _) (fun ha => ?_)
  simp only [sS]
  refine jh (pF b) (by simp only [sS]; exact bx _) (fun hb => ?_)
  simp only [sS]
  have hm : Tot (mV (a.length : Int) b.length) (fun m => ∃ n : Nat, m = n ∧ n ≤ 16) := by
    unfold mV
    exact bg (fun _ => aA ⟨_, rfl, by omega⟩) (fun _ => aA ⟨_, rfl, by omega⟩)
  refine hm.bind fun m hm => ?_
  obtain ⟨n, rfl, hn⟩ := hm
  rw [bu (by omega) (by omega)]
  have key : ∀ (n k : Nat), n ≤ 16 → n < k → T (fW a b k ((n : Int) - 1)) := by
    intro n
    induction n with
    | zero =>
      intro k _ hk
      obtain ⟨k, rfl⟩ : ∃ q, k = q + 1 := ⟨k - 1, by omega⟩
      rw [fW, if_neg (by simp)]
      exact bx _
    | succ n ih =>
      intro k hn hk
      obtain ⟨k, rfl⟩ : ∃ q, k = q + 1 := ⟨k - 1, by omega⟩
      rw [show ((n + 1 : Nat) : Int) - 1 = (n : Int) by omega, fW, if_pos (by simp), bu (by omega) (by omega)]
      refine (wr a (by omega)).bind fun _ _ => (wr b (by omega)).bind fun _ _ => ?_
      exact bg (fun _ => bx _) (fun _ => bg (fun _ => bx _) (fun _ => ih k (by omega) (by omega)))
  exact key n bh hn (eY (by omega))
theorem yD (a b : List Int) : T (mg a b) := by
  unfold mg
  refine iK (pF a) (by simp only [sS]; exact bx _) (fun ha => ?_)
  simp only [sS]
  refine jh (pF b) (by simp only [sS]; exact bx _) (fun hb => ?_)
  simp only [sS]
  refine Tot.bind (P := fun _ => True) ((sw a b).bind fun _ _ => bx _) (fun u _ => bg (fun _ => bx _) (fun _ => ?_))
  refine cT (fun k (σ : List Int × Int) i => dM a b k σ.1 σ.2 i) a.length (fun i σ => σ.1.length = i) (fun k σ h => ?_) (fun k σ i hi h hk => ?_) (by omega) (s := ([], 0)) rfl
  · show Tot (dM _ _ (k + 1) _ _ _) _
    rw [dM, if_neg (by simp)]
    exact (ya (by omega)).bind fun _ _ => bx _
  · show Tot (dM _ _ (k + 1) _ _ _) _
    rw [dM, if_pos (by simp; omega), bc hi]
    simp only [bS]
    refine (wr b (by omega)).bind fun _ _ => ?_
    unfold jD
    rw [aK (by omega)]
    refine bg (fun _ => ?_) (fun _ => ?_)
    · exact (jR (by simp; omega)).bind fun l hl => hk (_, _) (by subst hl; simp; omega)
    · exact (jR (by simp; omega)).bind fun l hl => hk (_, _) (by subst hl; simp; omega)
theorem wP {n : Int} (h : n ≤ 9223372036854775807) : T (lD n) := by
  unfold lD
  refine bg (fun _ => bx _) (fun h0 => ?_)
  have h0 : 0 ≤ n := by simpa using h0
  have key : ∀ (d k : Nat) (n : Int) (l : List Int), 0 ≤ n → n < (16777216 : Int) ^ d → d ≤ 3 → d < k → l.length + d ≤ 100 → T (gF k n l) := by
    intro d
    induction d with
    | zero =>
      intro k n l h0 h1 _ hk hl
      obtain ⟨k, rfl⟩ : ∃ q, k = q + 1 := ⟨k - 1, by omega⟩
      rw [Int.pow_zero] at h1
      rw [gF, if_neg (by simp; omega)]
      exact bx _
    | succ d ih =>
      intro k n l h0 h1 hd hk hl
      obtain ⟨k, rfl⟩ : ∃ q, k = q + 1 := ⟨k - 1, by omega⟩
      rw [Int.pow_succ] at h1
      rw [gF]
      refine bg (fun _ => (jR (by simp; omega)).bind fun l2 hl2 => ?_) (fun _ => bx _)
      subst hl2
      have hb : (16777216 : Int) ^ d ≤ 16777216 ^ 2 := by
        rcases (show d = 0 ∨ d = 1 ∨ d = 2 by omega) with rfl | rfl | rfl <;> decide
      have hb2 : (16777216 : Int) ^ 2 = 281474976710656 := by decide
      rw [hb2] at hb
      have hq : Int.tdiv n 16777216 = n / 16777216 := Int.tdiv_eq_ediv_of_nonneg h0
      have hq1 : 0 ≤ n / 16777216 := by omega
      have hq2 : n / 16777216 < 16777216 ^ d := by
        generalize (16777216 : Int) ^ d = z at h1 hb
        omega
      rw [hq, bu (by omega) (by omega)]
      exact ih k _ _ hq1 hq2 (by omega) (by omega) (by simp; omega)
  exact key 3 bh n [] h0 (by have : (16777216 : Int) ^ 3 = 4722366482869645213696 := (by decide); omega) (by omega) (eY (by omega)) (by simp)
theorem ou {a b : Int} (ha : a ≤ 9223372036854775807) (hb : b ≤ 9223372036854775807) : T (fC a b) := by
  unfold fC
  exact (wP ha).bind fun _ _ => (wP hb).bind fun _ _ => (pe _ _).bind fun _ _ => bx _
def yB (f : aZ) : Prop := (0 ≤ f.C_ ∧ f.C_ ≤ 4000000000000000) ∧ 1 ≤ f.B_ ∧ f.B_ ≤ 4000000000000000
theorem nN (f : aZ) : Dec (gy f) (yB f) := by
  unfold gy yB
  simp only [xc]
  exact zJ cX fun _ => cX
theorem nI (a b : aZ) : T (gr a b) := by
  unfold gr
  refine iK (nN a).t (by simp only [sS]; exact bx _) (fun ha => ?_)
  simp only [sS]
  refine jh (nN b).t (by simp only [sS]; exact bx _) (fun hb => ?_)
  simp only [sS]
  have := ha.1; have := ha.2; have := hb.1; have := hb.2
  exact (ou (by omega) (by omega)).bind fun _ _ => (ou (by omega) (by omega)).bind fun _ _ => (sw _ _).bind fun _ _ => bx _
theorem xp (a b : aZ) : T (kV a b) := by
  unfold kV
  refine iK (nN a).t (by simp only [sS]; exact bx _) (fun ha => ?_)
  simp only [sS]
  refine jh (nN b).t (by simp only [sS]; exact bx _) (fun hb => ?_)
  simp only [sS]
  have := ha.1; have := ha.2; have := hb.1; have := hb.2
  refine Tot.bind (P := fun _ => True) ((nI a b).bind fun _ _ => bx _) (fun u _ => bg (fun _ => bx _) (fun _ => ?_))
  exact (ou (by omega) (by omega)).bind fun _ _ => (ou (by omega) (by omega)).bind fun _ _ => (yD _ _).bind fun _ _ => (ou (by omega) (by omega)).bind fun _ _ => bx _
theorem Dh {a b : Int} (ha : 0 ≤ a) (hb : 1 ≤ b) (hb2 : b ≤ 4000000000000000) : Tot (pd a b) (fun g => 1 ≤ g) := by
  unfold pd
  rw [if_neg (by simp; omega)]
  have key : ∀ (d k a b : Nat), 1 ≤ a + b → b < 2 ^ d → 2 * d + 1 < k → Tot (ir k (a : Int) (b : Int)) (fun g => 1 ≤ g) := by
    intro d
    induction d with
    | zero =>
      intro k a b h1 h2 hk
      obtain ⟨k, rfl⟩ : ∃ q, k = q + 1 := ⟨k - 1, by omega⟩
      rw [ir, if_neg (by simp; omega)]
      exact aA (by omega)
    | succ d ih =>
      intro k a b h1 h2 hk
      obtain ⟨k, rfl⟩ : ∃ q, k = q + 2 := ⟨k - 2, by omega⟩
      rw [ir]
      refine bg (fun h0 => ?_) (fun h0 => aA (by simp at h0; omega))
      have h0 : 0 < b := by simp at h0; omega
      have e1 : rem (a : Int) (b : Int) = some ((a % b : Nat) : Int) := by
        unfold rem
        rw [if_neg (by omega), Int.tmod_eq_emod_of_nonneg (by omega)]
        rfl
      rw [e1]
      simp only [bS]
      have hr := Nat.mod_lt a h0
      generalize a % b = r at hr
      rw [ir]
      refine bg (fun h3 => ?_) (fun _ => aA (by omega))
      have h3 : 0 < r := by simp at h3; omega
      have e2 : rem (b : Int) (r : Int) = some ((b % r : Nat) : Int) := by
        unfold rem
        rw [if_neg (by omega), Int.tmod_eq_emod_of_nonneg (by omega)]
        rfl
      rw [e2]
      simp only [bS]
      have hr2 := Nat.mod_lt b h3
      have hq : 1 ≤ b / r := Nat.div_pos (by omega) h3
      have hm := Nat.div_add_mod b r
      have hle : r ≤ r * (b / r) := Nat.le_mul_of_pos_right _ hq
      refine ih k r (b % r) (by omega) ?_ (by omega)
      rw [Nat.pow_succ] at h2
      omega
  have := key 60 bh a.toNat b.toNat (by omega) (by have : (2 : Nat) ^ 60 = 1152921504606846976 := (by decide); omega) (eY (by omega))
  rw [show ((a.toNat : Nat) : Int) = a by omega, show ((b.toNat : Nat) : Int) = b by omega] at this
  exact this
theorem zx {k : IntKind} {x y : Int} (h : y ≠ 0) : T (quo k x y) := by
  unfold quo
  rw [if_neg h]
  exact bx _
theorem xv (f : aZ) : T (lx f) := by
  unfold lx
  refine iK (nN f).t (by simp only [sS]; exact bx _) (fun h => ?_)
  simp only [sS]
  have := h.1; have := h.2
  exact (Dh (by omega) (by omega) (by omega)).bind fun g hg => (zx (by omega)).bind fun _ _ => (zx (by omega)).bind fun _ _ => bx _
theorem xY {l : List Int} (h : l.length ≤ 1048576) : T (jd l) := by
  unfold jd
  refine cT (gb l) l.length (fun _ _ => True) (fun k s _ => ?_) (fun k s i hi _ hk => ?_) (by omega) trivial
  · rw [gb, if_neg (by simp)]
    exact bx _
  · rw [gb, if_pos (by simp; omega), bc hi, aK (by omega)]
    exact hk _ trivial
theorem tL (l : List Int) : T (jO l) := by
  unfold jO
  refine bg (fun _ => bx _) (fun h => ?_)
  have h : l.length ≤ 3 := by simp at h; omega
  refine cT (fJ l) l.length (fun _ _ => True) (fun k s _ => ?_) (fun k s i hi _ hk => ?_) (by omega) trivial
  · rw [fJ, if_neg (by simp)]
    exact bx _
  · rw [fJ, if_pos (by simp; omega), bc hi, aK (by omega)]
    simp only [bS]
    refine iK cX.t (by simp only [sS]; exact bx _) (fun _ => ?_)
    simp only [sS]
    exact hk _ trivial
end Go.Vk
