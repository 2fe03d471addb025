/- Attributes' places, branches, nodes, trees: tested alike. -/
import Derived.Test.YtdckhcfbccnjiaaGreatDoorRX
import Derived.Test.YtdckhcfbccnjiaaGreatDoorVkQ
namespace Go.Vk
def Asc (l : List Int) : Prop := ∀ i, 1 ≤ i → i < l.length → ∀ h : i < l.length, l[i - 1] < l[i]
theorem AU {l : List Int} (hl : l.length ≤ 1048576) : Dec (fR l) (Asc l) := by
  unfold fR
  refine kv (Lp := eF l) (n := l.length) (Q := fun i => ∀ h : i < l.length, l[i - 1] < l[i]) 1 (fun k i hi => ?_) (fun k i h1 hi => ?_) (by omega)
  · show (if _ then _ else _) = _
    rw [if_neg (by simp; omega)]
  · rw [eF]
    rw [if_pos (by simp; omega), aV hi, aG (by omega), bp (by omega) (by omega), show (i : Int) - 1 = ((i - 1 : Nat) : Int) by omega, aV (show i - 1 < l.length by omega)]
    simp only [bS]
    by_cases hc : l[i] ≤ l[i - 1]
    · rw [if_pos (by simpa using hc)]
      exact .inr ⟨fun g => by have := g hi; omega, rfl⟩
    · rw [if_neg (by simpa using hc)]
      exact .inl ⟨fun _ => by omega, rfl⟩
theorem Asc.le {l : List Int} (h : Asc l) : ∀ {j : Nat} (i : Nat) (hi : i ≤ j) (hj : j < l.length), l[i] ≤ l[j]
  | 0, i, hi, hj => by
    have : i = 0 := by omega
    subst this; exact Int.le_refl _
  | j + 1, i, hi, hj => by
    by_cases e : i = j + 1
    · subst e; exact Int.le_refl _
    · have h1 := h.le (j := j) i (by omega) (by omega)
      have h2 := h (j + 1) (by omega) hj hj
      simp only [Nat.add_sub_cancel] at h2
      omega
def qi (s : ab) (l : List Int) : Prop := dv s ∧ l.length ≠ 0 ∧ ∀ i, 0 ≤ i → i < l.length → ∀ h : i < l.length, (0 ≤ l[i] ∧ l[i] ≤ (s.b_.length : Int) - 1) ∧ (0 < i → l[i - 1] < l[i])
theorem nM {s : ab} {l : List Int} (hs : aU s) (hl : l.length ≤ 1048576) : Dec (gH s l) (qi s l) := by
  unfold gH qi
  refine pf (ka (iO hs)) (fun hS => ?_) (fun g => cw fun h => g h.1)
  have hn := hs.1.1
  by_cases h0 : l.length = 0
  · rw [if_pos (by simp; exact List.length_eq_zero_iff.1 h0)]
    exact cw fun g => g.2.1 h0
  · rw [if_neg (by simp; exact fun e => h0 (by rw [e]; rfl))]
    refine (kv (Lp := ib l s) (n := l.length) (Q := fun i => ∀ h : i < l.length, (0 ≤ l[i] ∧ l[i] ≤ (s.b_.length : Int) - 1) ∧ (0 < i → l[i - 1] < l[i])) 0 (fun k i hi => ?_) (fun k i _ hi => ?_) (by omega)).of_iff ⟨fun g => ⟨hS, h0, g⟩, fun g => g.2.2⟩
    · show (if _ then _ else _) = _
      rw [if_neg (by simp; omega)]
    · rw [ib, if_pos (by simp; omega), aV hi, aG (by omega), bp (n := (s.b_.length : Int) - 1) (by omega) (by omega)]
      unfold bm
      simp only [bS]
      by_cases hr : 0 ≤ l[i] ∧ l[i] ≤ (s.b_.length : Int) - 1
      · rw [oO hr]
        simp only [Bool.not_true, Bool.false_eq_true, if_false]
        by_cases h1 : 0 < i
        · rw [if_pos (by simp; omega), bp (n := (i : Int) - 1) (by omega) (by omega), show (i : Int) - 1 = ((i - 1 : Nat) : Int) by omega, aV (show i - 1 < l.length by omega)]
          simp only [bS]
          by_cases hc : l[i] ≤ l[i - 1]
          · rw [if_pos (by simpa using hc)]
            exact .inr ⟨fun g => by have := (g hi).2 h1; omega, rfl⟩
          · rw [if_neg (by simpa using hc)]
            exact .inl ⟨fun _ => ⟨hr, fun _ => by omega⟩, rfl⟩
        · rw [if_neg (by simp; omega)]
          exact .inl ⟨fun _ => ⟨hr, fun g => absurd g h1⟩, rfl⟩
      · rw [oU hr]
        exact .inr ⟨fun g => hr (g hi).1, rfl⟩
theorem zV {s : ab} {l : List Int} (hs : aU s) (hl : l.length ≤ 1048576) : Dec (mq s l) (qi s l) := by
  unfold mq qi
  refine pf (lG (iO hs)) (fun hS => ?_) (fun g => cw fun h => g h.1)
  have hn := hs.1.1
  by_cases h0 : l.length = 0
  · rw [if_neg (by simp; exact List.length_eq_zero_iff.1 h0)]
    exact cw fun g => g.2.1 h0
  · rw [if_pos (by simp only [Bool.and_eq_true, decide_eq_true_eq, eq_self, true_and]; omega)]
    rcases (AU hl).cases with ⟨e, hA⟩ | ⟨e, hA⟩
    · rw [e]
      simp only [Option.bind_some, if_true]
      rw [show (0 : Int) = ((0 : Nat) : Int) from rfl, aV (show 0 < l.length by omega), bp (by omega) (by omega), show (l.length : Int) - 1 = ((l.length - 1 : Nat) : Int) by omega, aV (show l.length - 1 < l.length by omega)]
      simp only [bS]
      by_cases h1 : 0 ≤ l[0]
      · rw [if_pos (by simpa using h1)]
        refine ⟨_, rfl, ?_⟩
        rw [decide_eq_true_iff]
        refine ⟨fun g => ⟨hS, h0, fun i _ hi _ => ⟨⟨?_, ?_⟩, fun hp => hA i hp hi hi⟩⟩, fun g => ?_⟩
        · exact Int.le_trans h1 (hA.le 0 (Nat.zero_le _) hi)
        · have := hA.le (j := l.length - 1) i (by omega) (by omega); omega
        · have := (g.2.2 (l.length - 1) (Nat.zero_le _) (by omega) (by omega)).1; omega
      · rw [if_neg (by simpa using h1)]
        exact cw fun g => h1 (g.2.2 0 (Nat.zero_le _) (by omega) (by omega)).1.1
    · rw [e]
      exact cw fun g => hA fun i h1 hi _ => (g.2.2 i (Nat.zero_le _) hi hi).2 h1
theorem su {s : ab} {t : av} (hs : aU s) (ht : fk t) (h : pz s t) : dZ s t = some t.e_.sum := by
  unfold dZ
  rcases (jJ hs ht).cases with ⟨e, _⟩ | ⟨_, g⟩
  · rw [e]
    simp only [Option.bind_some, Bool.not_true, Bool.false_eq_true, if_false]
    have h1 := xp (p := t.e_) (fun x => x) (fF t) some (fun k s => by
      show (if _ then _ else _) = _
      rw [if_neg (by simp)]) (fun k s i hi => by
      have := ht.1.1
      rw [fF, if_pos (by simp; omega), aV hi, aG (by omega)]
      rfl) (fun x hx => by have := h.2.2.1 x hx; omega) (by have := ht.1.1; omega)
    simpa using h1
  · exact absurd h g
def brN (s : ab) (f : aq) : Nat := if f.c_ = -1 then nb (atr s f) else 2
theorem yO {s : ab} {f : aq} (h : kG s f) : 2 ≤ brN s f ∧ brN s f ≤ 4 := by
  have := nG (om h.1 h.2.1)
  unfold brN
  split <;> omega
theorem la {s : ab} {f : aq} (hs : aU s) (h : kG s f) : dR s f = some (brN s f : Int) := by
  unfold dR brN
  rcases (kE (f := f) hs).cases with ⟨e, _⟩ | ⟨_, g⟩
  · rw [e]
    simp only [Option.bind_some, Bool.not_true, Bool.false_eq_true, if_false]
    rw [nJ h.2.1]
    simp only [bS]
    rw [kB (hs.1.2 _ (oC h.2.1)) (om h.1 h.2.1)]
    by_cases h1 : f.c_ = -1
    · rw [if_pos (by simpa using h1), if_pos h1]; rfl
    · rw [if_neg (by simpa using h1), if_neg h1]; rfl
  · exact absurd h g
theorem wi {s : ab} {f : aq} (hs : aU s) (h : kG s f) : jy s f = some (brN s f : Int) := by
  unfold jy brN
  rcases (uB (f := f) hs).cases with ⟨e, _⟩ | ⟨_, g⟩
  · rw [e]
    simp only [Option.bind_some, Bool.not_true, Bool.false_eq_true, if_false]
    rw [nJ h.2.1]
    simp only [bS]
    rw [kj (hs.1.2 _ (oC h.2.1))]
    by_cases h1 : f.c_ = -1
    · rw [if_pos (by simpa using h1), if_pos h1]; rfl
    · rw [if_neg (by simpa using h1), if_neg h1]; rfl
  · exact absurd h g
theorem vm {s : ab} {f : aq} (hs : aU s) (h : ¬ kG s f) : dR s f = some 0 := by
  unfold dR
  rcases (kE (f := f) hs).cases with ⟨_, g⟩ | ⟨e, _⟩
  · exact absurd g h
  · rw [e]; rfl
theorem vl {s : ab} {f : aq} (hs : aU s) (h : ¬ kG s f) : jy s f = some 0 := by
  unfold jy
  rcases (uB (f := f) hs).cases with ⟨_, g⟩ | ⟨e, _⟩
  · exact absurd g h
  · rw [e]; rfl
def zC (t : ah) (i : Nat) (x : Int) : Prop := ∃ m : Nat, ∃ hm : m < t.a_.length, x = m ∧ i < m ∧ t.a_[m].p_ = i
def Du (n : aT) : Prop := (n.g_.j_ = 0 ∧ n.g_.c_ = 0) ∧ n.r_.length = 0 ∧ n.w_ = 0 ∧ (0 ≤ n.x_ ∧ n.x_ ≤ if n.n_.d_.length = 0 then 0 else n.n_.e_.sum)
def EF (t : ah) (i : Nat) (l : List Int) : Prop := Asc l ∧ ∀ x ∈ l, zC t i x
def vQ (s : ab) (t : ah) (i : Nat) (n : aT) : Prop := kG s n.g_ ∧ n.r_.length = brN s n.g_ ∧ (0 ≤ n.w_ ∧ n.w_ ≤ (n.r_.length : Int) - 1) ∧ n.n_.d_.length = 0 ∧ n.x_ = 0 ∧ EF t i n.r_
def xt (s : ab) (t : ah) (i : Nat) (n : aT) : Prop := (0 ≤ n.m_ ∧ n.m_ ≤ 6) ∧ (0 ≤ n.s_ ∧ n.s_ ≤ t.k_) ∧ pz s n.n_ ∧ qi s n.b_ ∧ (n.q_ = true → Du n) ∧ (n.q_ = false → vQ s t i n)
def Fs (t : ah) (i : Nat) (n : aT) : Prop := (i = 0 → n.p_ = -1 ∧ n.m_ = 0 ∧ n.s_ = 0) ∧
  (0 < i → ∃ u, ∃ _ : u < i, ∃ hu : u < t.a_.length, n.p_ = u ∧ t.a_[u].q_ = false ∧ (i : Int) ∈ t.a_[u].r_ ∧ t.a_[u].m_ + 1 = n.m_ ∧ t.a_[u].s_ ≤ n.s_)
def BB (s : ab) (t : ah) (i : Nat) : Prop := ∀ h : i < t.a_.length, xt s t i t.a_[i] ∧ Fs t i t.a_[i]
def ip (s : ab) (t : ah) : Prop := dv s ∧ (1 ≤ (t.a_.length : Int) ∧ (t.a_.length : Int) ≤ 31) ∧ (0 ≤ t.k_ ∧ t.k_ ≤ 99999) ∧ ∀ i, i < t.a_.length → BB s t i
theorem Cy {t : ah} (hl : t.a_.length ≤ 1048576) {i : Nat} (hi : i < t.a_.length) (x : Int) : Dec (lp x (i : Int) t) (¬ zC t i x) := by
  unfold lp
  rw [aG (by omega), bp (n := (t.a_.length : Int) - 1) (by omega) (by omega)]
  rcases (fg (x := x) (a := ((i + 1 : Nat) : Int)) (b := (t.a_.length : Int) - 1)).cases with ⟨e, hr⟩ | ⟨e, hr⟩
  · rw [e]
    simp only [Option.bind_some, Bool.not_true, Bool.false_eq_true, if_false]
    obtain ⟨m, rfl⟩ : ∃ m : Nat, x = m := ⟨x.toNat, by omega⟩
    have hm : m < t.a_.length := by omega
    rw [aV hm]
    simp only [bS]
    refine ⟨_, rfl, ?_⟩
    rw [bne_iff_ne]
    refine ⟨fun g ⟨m', _, h1, _, h2⟩ => ?_, fun g h => g ⟨m, hm, rfl, by omega, h⟩⟩
    obtain rfl : m = m' := by omega
    exact g h2
  · rw [e]
    exact oh fun ⟨m, hm, h1, h2, _⟩ => hr ⟨by omega, by omega⟩
theorem Ad {t : ah} (hl : t.a_.length ≤ 1048576) {i : Nat} (hi : i < t.a_.length) {l : List Int} (hk : l.length ≤ 1048576) : Dec (co l (i : Int) t) (∃ x ∈ l, ¬ zC t i x) := by
  unfold co cO
  refine (qb (Lp := bJ l (i : Int) t) (n := l.length) (Q := fun j => ∀ h : j < l.length, ¬ zC t i l[j]) (fun k j hj => ?_) (fun k j hj => ?_) (by omega)).of_iff ⟨fun ⟨j, hj, g⟩ => ⟨_, List.getElem_mem hj, g hj⟩, fun ⟨x, hx, g⟩ => ?_⟩
  · show (if _ then _ else _) = _
    rw [if_neg (by simp; omega)]
  · rw [bJ, if_pos (by simp; omega), aV hj, aG (by omega)]
    simp only [bS]
    rcases (Cy hl hi l[j]).cases with ⟨e, h⟩ | ⟨e, h⟩
    · rw [e]; exact .inl ⟨fun _ => h, rfl⟩
    · rw [e]; exact .inr ⟨fun g => h (g hj), rfl⟩
  · obtain ⟨j, hj, rfl⟩ := List.getElem_of_mem hx
    exact ⟨j, hj, fun _ => g⟩
theorem AE {s : ab} {t : ah} (hs : aU s) (ht : gp t) {i : Nat} (hi : i < t.a_.length) : Dec (ng s t (i : Int)) (xt s t i t.a_[i]) := by
  unfold ng
  have hl := ht.1.1
  rw [aV hi]
  simp only [bS]
  have hnd := ht.1.2 _ (List.getElem_mem hi)
  generalize t.a_[i] = n at *
  have hkl : n.r_.length ≤ 1048576 := hnd.2.2.1.1
  have hst : fk n.n_ := hnd.2.2.2.2.1
  have hal : n.b_.length ≤ 1048576 := hnd.2.2.2.2.2.2.1.1
  rcases (fg (x := n.m_) (a := 0) (b := 6)).cases with ⟨e, hd⟩ | ⟨e, hd⟩
  · rw [e]
    simp only [Option.bind_some, Bool.not_true, Bool.false_eq_true, if_false]
    rcases (fg (x := n.s_) (a := 0) (b := t.k_)).cases with ⟨e, hb⟩ | ⟨e, hb⟩
    · rw [e]
      simp only [Option.bind_some, Bool.not_true, Bool.false_eq_true, if_false]
      rcases (vE hs hst).cases with ⟨e, hS⟩ | ⟨e, hS⟩
      · rw [e]
        simp only [Option.bind_some, Bool.not_true, Bool.false_eq_true, if_false]
        rcases (zV hs hal).cases with ⟨e, hA⟩ | ⟨e, hA⟩
        · rw [e]
          simp only [Option.bind_some, Bool.not_true, Bool.false_eq_true, if_false]
          by_cases hL : n.q_ = true
          case neg =>
            have hL' : n.q_ = false := by simpa using hL
            rw [if_neg hL]
            by_cases hF : kG s n.g_
            · have hbr := yO hF
              rw [wi hs hF]
              simp only [bS]
              by_cases hk : n.r_.length = brN s n.g_
              · rw [if_neg (by simp; omega)]
                rcases (AU hkl).cases with ⟨e, hAs⟩ | ⟨e, hAs⟩
                · rw [e]
                  simp only [Option.bind_some, Bool.not_true, Bool.false_eq_true, if_false]
                  rw [bp (n := (brN s n.g_ : Int) - 1) (by omega) (by omega)]
                  rcases (fg (x := n.w_) (a := 0) (b := (brN s n.g_ : Int) - 1)).cases with ⟨e, hm⟩ | ⟨e, hm⟩
                  · rw [e]
                    simp only [Option.bind_some, Bool.not_true, Bool.false_or]
                    by_cases hc : n.n_.d_.length = 0 ∧ n.x_ = 0
                    · rw [if_neg (by simp [hc.1, hc.2])]
                      rcases (Ad hl hi hkl).cases with ⟨e, x, hx, hK⟩ | ⟨e, hK⟩
                      · rw [e]
                        exact cw fun g => hK ((g.2.2.2.2.2 hL').2.2.2.2.2.2 x hx)
                      · rw [e]
                        exact oh ⟨hd, hb, hS, hA, fun g => absurd g hL, fun _ => ⟨hF, hk, by omega, hc.1, hc.2, hAs, fun x hx => Classical.byContradiction fun c => hK ⟨x, hx, c⟩⟩⟩
                    · rw [if_pos (by simp only [Bool.or_eq_true, bne_iff_ne, ne_eq]; omega)]
                      exact cw fun g => hc ⟨(g.2.2.2.2.2 hL').2.2.2.1, (g.2.2.2.2.2 hL').2.2.2.2.1⟩
                  · rw [e]
                    exact cw fun g => hm (by have := (g.2.2.2.2.2 hL').2.2.1; omega)
                · rw [e]
                  exact cw fun g => hAs (g.2.2.2.2.2 hL').2.2.2.2.2.1
              · rw [if_pos (by simp; omega)]
                exact cw fun g => hk (g.2.2.2.2.2 hL').2.1
            · rw [vl hs hF]
              exact cw fun g => hF (g.2.2.2.2.2 hL').1
          case pos =>
            rw [if_pos hL, uF (fun x hx => by have := hS.2.2.1 x hx; omega) hst.1.1]
            simp only [bS]
            have key : ∀ q : Int, q = (if n.n_.d_.length = 0 then 0 else n.n_.e_.sum) → Dec (jO n q) (xt s t i n) := fun q hq => by
              unfold jO
              have hid : ∀ o : Option Bool, (o.bind fun y => some y) = o := fun o => by cases o <;> rfl
              by_cases hc : (n.g_.j_ = 0 ∧ n.g_.c_ = 0) ∧ n.r_.length = 0 ∧ n.w_ = 0
              · rw [if_pos (by simp [hc.1.1, hc.1.2, hc.2.1, hc.2.2]), hid, hid]
                exact fg.of_iff ⟨fun g => ⟨hd, hb, hS, hA, fun _ => ⟨hc.1, hc.2.1, hc.2.2, by rw [← hq]; exact g⟩, fun g => by rw [hL] at g; cases g⟩, fun g => by rw [hq]; exact (g.2.2.2.2.1 hL).2.2.2⟩
              · rw [if_neg (by simp only [Bool.and_eq_true, beq_iff_eq, Bool.and_true]; omega)]
                exact cw fun g => hc ⟨(g.2.2.2.2.1 hL).1, (g.2.2.2.2.1 hL).2.1, (g.2.2.2.2.1 hL).2.2.1⟩
            by_cases hc : n.n_.d_.length = 0
            · rw [if_pos (by simp; exact List.length_eq_zero_iff.1 hc)]
              exact key 0 (by rw [if_pos hc])
            · rw [if_neg (by simp; exact fun e => hc (by rw [e]; rfl))]
              exact key _ (by rw [if_neg hc])
        · rw [e]
          exact cw fun g => hA g.2.2.2.1
      · rw [e]
        exact cw fun g => hS g.2.2.1
    · rw [e]
      exact cw fun g => hb g.2.1
  · rw [e]
    exact cw fun g => hd g.1
theorem AD {s : ab} {n : aT} (hs : aU s) (hn : pc n) : Dec (jV s n) (Du n ∧ pz s n.n_ ∧ qi s n.b_) := by
  unfold jV
  have hst : fk n.n_ := hn.2.2.2.2.1
  have hal : n.b_.length ≤ 1048576 := hn.2.2.2.2.2.2.1.1
  by_cases hc : (n.g_.j_ = 0 ∧ n.g_.c_ = 0) ∧ n.r_.length = 0 ∧ n.w_ = 0
  · rw [if_neg (by simp only [Bool.or_eq_true, Bool.not_eq_true', bne_iff_ne, decide_eq_true_eq, ne_eq, Bool.and_true, Bool.and_eq_false_iff, beq_eq_false_iff_ne]; omega)]
    rcases (jJ hs hst).cases with ⟨e, hS⟩ | ⟨e, hS⟩
    · rw [e]
      simp only [Option.bind_some, Bool.not_true, Bool.false_eq_true, if_false]
      rcases (nM hs hal).cases with ⟨e, hA⟩ | ⟨e, hA⟩
      · rw [e]
        simp only [Option.bind_some, Bool.not_true, Bool.false_eq_true, if_false]
        by_cases h0 : n.n_.d_.length = 0
        · rw [if_pos (by simp only [beq_iff_eq]; omega)]
          refine ⟨_, rfl, ?_⟩
          rw [beq_iff_eq]
          exact ⟨fun g => ⟨⟨hc.1, hc.2.1, hc.2.2, by rw [if_pos h0]; omega⟩, hS, hA⟩, fun g => by have := g.1.2.2.2; rw [if_pos h0] at this; omega⟩
        · rw [if_neg (by simp only [beq_iff_eq]; omega), su hs hst hS]
          simp only [bS]
          have hid : ∀ o : Option Bool, (o.bind fun y => some y) = o := fun o => by cases o <;> rfl
          rw [hid]
          exact da.of_iff ⟨fun g => ⟨⟨hc.1, hc.2.1, hc.2.2, by rw [if_neg h0]; exact g⟩, hS, hA⟩, fun g => by have := g.1.2.2.2; rw [if_neg h0] at this; exact this⟩
      · rw [e]
        exact cw fun g => hA g.2.2
    · rw [e]
      exact cw fun g => hS g.2.1
  · rw [if_pos (by simp only [Bool.or_eq_true, Bool.not_eq_true', bne_iff_ne, decide_eq_true_eq, ne_eq, Bool.and_true, Bool.and_eq_false_iff, beq_eq_false_iff_ne]; omega)]
    exact cw fun g => hc ⟨g.1.1, g.1.2.1, g.1.2.2.1⟩
theorem zi {s : ab} {t : ah} (hs : aU s) (ht : gp t) {i : Nat} (hi : i < t.a_.length) : Dec (ju s t (i : Int)) (vQ s t i t.a_[i] ∧ pz s t.a_[i].n_ ∧ qi s t.a_[i].b_) := by
  unfold ju
  have hl := ht.1.1
  rw [aV hi]
  simp only [bS]
  have hnd := ht.1.2 _ (List.getElem_mem hi)
  generalize t.a_[i] = n at *
  have hkl : n.r_.length ≤ 1048576 := hnd.2.2.1.1
  have hst : fk n.n_ := hnd.2.2.2.2.1
  have hal : n.b_.length ≤ 1048576 := hnd.2.2.2.2.2.2.1.1
  rcases (kE (f := n.g_) hs).cases with ⟨e, hF⟩ | ⟨e, hF⟩
  · rw [e]
    simp only [Option.bind_some, Bool.not_true, Bool.false_eq_true, if_false]
    have hbr := yO hF
    rw [la hs hF]
    simp only [bS]
    by_cases hk : n.r_.length = brN s n.g_
    · rw [if_neg (by simp only [bne_iff_ne, ne_eq]; omega), bp (n := (n.r_.length : Int) - 1) (by omega) (by omega)]
      rcases (da (x := n.w_) (a := 0) (b := (n.r_.length : Int) - 1)).cases with ⟨e, hm⟩ | ⟨e, hm⟩
      · rw [e]
        simp only [Option.bind_some, Bool.not_true, Bool.false_eq_true, if_false]
        rcases (jJ hs hst).cases with ⟨e, hS⟩ | ⟨e, hS⟩
        · rw [e]
          simp only [Option.bind_some, Bool.not_true, Bool.false_or]
          by_cases hc : n.n_.d_.length = 0 ∧ n.x_ = 0
          · rw [if_neg (by simp only [Bool.or_eq_true, bne_iff_ne, decide_eq_true_eq, ne_eq]; omega)]
            rcases (nM hs hal).cases with ⟨e, hA⟩ | ⟨e, hA⟩
            · rw [e]
              simp only [Option.bind_some, Bool.not_true, Bool.false_eq_true, if_false]
              refine (kv (Lp := gA n (i : Int) t) (n := n.r_.length) (Q := fun j => ∀ h : j < n.r_.length, zC t i n.r_[j] ∧ (0 < j → n.r_[j - 1] < n.r_[j])) 0 (fun k j hj => ?_) (fun k j _ hj => ?_) (by omega)).of_iff
                ⟨fun g => ⟨⟨hF, hk, hm, hc.1, hc.2, fun j h1 hj _ => (g j (Nat.zero_le _) hj hj).2 h1, fun x hx => by
                  obtain ⟨j, hj, rfl⟩ := List.getElem_of_mem hx
                  exact (g j (Nat.zero_le _) hj hj).1⟩, hS, hA⟩, fun g j _ hj _ => ⟨g.1.2.2.2.2.2.2 _ (List.getElem_mem hj), fun h1 => g.1.2.2.2.2.2.1 j h1 hj hj⟩⟩
              · show (if _ then _ else _) = _
                rw [if_neg (by simp; omega)]
              · rw [gA, if_pos (by simp; omega), aV hj]
                simp only [bS]
                rw [aG (i := i) (by omega), bp (n := (t.a_.length : Int) - 1) (by omega) (by omega), aG (i := j) (by omega)]
                generalize hx : n.r_[j] = x
                rcases (da (x := x) (a := ((i + 1 : Nat) : Int)) (b := (t.a_.length : Int) - 1)).cases with ⟨e, hr⟩ | ⟨e, hr⟩
                · rw [e]
                  simp only [Option.bind_some, Bool.not_true, Bool.false_eq_true, if_false]
                  obtain ⟨m, rfl⟩ : ∃ m : Nat, x = m := ⟨x.toNat, by omega⟩
                  have hm : m < t.a_.length := by omega
                  rw [aV hm]
                  simp only [bS]
                  by_cases hu : t.a_[m].p_ = (i : Int)
                  · rw [if_neg (by simp only [bne_iff_ne, ne_eq]; omega)]
                    have hK : zC t i n.r_[j] := by rw [hx]; exact ⟨m, hm, rfl, by omega, hu⟩
                    by_cases h1 : 0 < j
                    · rw [if_pos (by simp; omega), bp (n := (j : Int) - 1) (by omega) (by omega), show (j : Int) - 1 = ((j - 1 : Nat) : Int) by omega, aV (show j - 1 < n.r_.length by omega)]
                      simp only [bS]
                      by_cases hlt : n.r_[j] ≤ n.r_[j - 1]
                      · rw [if_pos (by rw [← hx]; simpa using hlt)]
                        exact .inr ⟨fun g => by have := (g hj).2 h1; omega, rfl⟩
                      · rw [if_neg (by rw [← hx]; simpa using hlt)]
                        exact .inl ⟨fun _ => ⟨hK, fun _ => by omega⟩, rfl⟩
                    · rw [if_neg (by simp; omega)]
                      exact .inl ⟨fun _ => ⟨hK, fun g => absurd g h1⟩, rfl⟩
                  · rw [if_pos (by simp only [bne_iff_ne, ne_eq]; omega)]
                    exact .inr ⟨fun g => by
                      obtain ⟨m', hm', g1, _, g2⟩ := (g hj).1
                      rw [hx] at g1
                      obtain rfl : m = m' := by omega
                      exact hu g2, rfl⟩
                · rw [e]
                  exact .inr ⟨fun g => by
                      obtain ⟨m', hm', g1, g3, g2⟩ := (g hj).1
                      rw [hx] at g1
                      exact hr ⟨by omega, by omega⟩, rfl⟩
            · rw [e]
              exact cw fun g => hA g.2.2
          · rw [if_pos (by simp only [Bool.or_eq_true, bne_iff_ne, decide_eq_true_eq, ne_eq]; omega)]
            exact cw fun g => hc ⟨g.1.2.2.2.1, g.1.2.2.2.2.1⟩
        · rw [e]
          exact cw fun g => hS g.2.1
      · rw [e]
        exact cw fun g => hm g.1.2.2.1
    · rw [if_pos (by simp only [bne_iff_ne, ne_eq]; omega)]
      exact cw fun g => hk g.1.2.1
  · rw [e]
    exact cw fun g => hF g.1.1
theorem wr {l : List Int} (hl : l.length ≤ 1048576) (x : Int) : Dec (dJ l x) (x ∈ l) := by
  unfold dJ db
  refine (qb (Lp := bG l x) (n := l.length) (Q := fun j => ∀ h : j < l.length, x = l[j]) (fun k j hj => ?_) (fun k j hj => ?_) (by omega)).of_iff ⟨fun ⟨j, hj, g⟩ => by rw [g hj]; exact List.getElem_mem hj, fun hx => ?_⟩
  · show (if _ then _ else _) = _
    rw [if_neg (by simp; omega)]
  · rw [bG, if_pos (by simp; omega), aV hj, aG (by omega)]
    simp only [bS]
    by_cases h : x = l[j]
    · rw [if_pos (by simpa using h)]; exact .inl ⟨fun _ => h, rfl⟩
    · rw [if_neg (by simpa using h)]; exact .inr ⟨fun g => h (g hj), rfl⟩
  · obtain ⟨j, hj, rfl⟩ := List.getElem_of_mem hx
    exact ⟨j, hj, fun _ => rfl⟩
theorem zK {l : List Int} (hl : l.length ≤ 1048576) (x : Int) : Dec (ls l x) (x ∈ l) := by
  unfold ls
  have h := tX (Lp := fun k j => cU l x k (j : Int)) (n := l.length) (Q := fun j => ∀ h : j < l.length, l[j] ≠ x) (fin := some false) (bad := some true) (fun k _ => by
    show cU l x (k + 1) _ = _
    rw [cU, if_neg (by simp)]) (fun k j hj _ => by
    show (_ ∧ cU l x (k + 1) _ = cU l x k _) ∨ (_ ∧ cU l x (k + 1) _ = _)
    rw [cU, if_pos (by simp; omega), aV hj, aG (by omega)]
    simp only [bS]
    by_cases h : l[j] = x
    · rw [if_pos (by simpa using h)]; exact .inr ⟨fun g => g hj h, rfl⟩
    · rw [if_neg (by simpa using h)]; exact .inl ⟨fun _ => h, rfl⟩) (by omega)
  rcases h with ⟨h1, h2⟩ | ⟨h1, h2⟩
  · have h2 : cU l x be 0 = some false := h2
    rw [h2]
    exact cw fun hx => by
      obtain ⟨j, hj, e⟩ := List.getElem_of_mem hx
      exact h1 j hj hj e
  · have h2 : cU l x be 0 = some true := h2
    rw [h2]
    refine oh (Classical.byContradiction fun hx => h1 fun j hj _ e => hx ?_)
    rw [← e]; exact List.getElem_mem hj
theorem uP {s : ab} {t : ah} (hs : aU s) (ht : gp t) : Dec (lV s t) (ip s t) := by
  unfold lV
  have hl := ht.1.1
  rcases (lG (iO hs)).cases with ⟨e, hS⟩ | ⟨e, hS⟩
  · rw [e]
    simp only [Option.bind_some, Bool.not_true, Bool.false_eq_true, if_false]
    rcases (fg (x := (t.a_.length : Int)) (a := 1) (b := 31)).cases with ⟨e, hn⟩ | ⟨e, hn⟩
    · rw [e]
      simp only [Option.bind_some, Bool.not_true, Bool.false_eq_true, if_false]
      rcases (fg (x := t.k_) (a := 0) (b := 99999)).cases with ⟨e, hq⟩ | ⟨e, hq⟩
      · rw [e]
        simp only [Option.bind_some, Bool.not_true, Bool.false_eq_true, if_false]
        refine (rS (Lp := fun k i => dO t s k (i : Int)) (n := t.a_.length) (Q := BB s t) (F := True) (fun k _ => ?_) (fun k i hi hQ => ?_) (by omega)).of_iff ⟨fun g => ⟨hS, hn, hq, g.1⟩, fun g => ⟨g.2.2.2, trivial⟩⟩
        · show Dec (dO t s (k + 1) _) _
          rw [dO, if_neg (by simp)]
          exact oh trivial
        · show (_ ∧ dO t s (k + 1) _ = dO t s k _) ∨ (_ ∧ dO t s (k + 1) _ = _)
          rw [dO, if_pos (by simp; omega), aV hi, aG (by omega)]
          simp only [bS]
          rcases (AE hs ht hi).cases with ⟨e, hN⟩ | ⟨e, hN⟩
          · rw [e]
            simp only [Option.bind_some, Bool.not_true, Bool.false_eq_true, if_false]
            by_cases h0 : i = 0
            · rw [if_pos (by simp only [beq_iff_eq]; omega)]
              by_cases hL : t.a_[i].p_ = -1 ∧ t.a_[i].m_ = 0 ∧ t.a_[i].s_ = 0
              · rw [if_neg (by simp only [Bool.or_eq_true, bne_iff_ne, ne_eq]; omega)]
                exact .inl ⟨fun _ => ⟨hN, fun _ => hL, fun g => by omega⟩, rfl⟩
              · rw [if_pos (by simp only [Bool.or_eq_true, bne_iff_ne, ne_eq]; omega)]
                exact .inr ⟨fun g => hL ((g hi).2.1 h0), rfl⟩
            · rw [if_neg (by simp only [beq_iff_eq]; omega), bp (n := (i : Int) - 1) (by omega) (by omega)]
              rcases (fg (x := t.a_[i].p_) (a := 0) (b := (i : Int) - 1)).cases with ⟨e, hr⟩ | ⟨e, hr⟩
              · rw [e]
                simp only [Option.bind_some, Bool.not_true, Bool.false_eq_true, if_false]
                obtain ⟨u, hu⟩ : ∃ u : Nat, t.a_[i].p_ = u := ⟨t.a_[i].p_.toNat, by omega⟩
                have hui : u < i := by omega
                have hul : u < t.a_.length := by omega
                rw [hu, aV hul]
                simp only [bS]
                have hNu := hQ u hui hul
                have hd := hN.1
                have hdu := hNu.1.1
                rw [bp (n := t.a_[i].m_ - 1) (by omega) (by omega)]
                by_cases hlf : t.a_[u].q_ = true
                · rw [if_pos hlf]
                  exact .inr ⟨fun g => by
                    obtain ⟨u', _, hu', h1, h2, _⟩ := (g hi).2.2 (by omega)
                    obtain rfl : u = u' := by omega
                    exact (nomatch h2.symm.trans hlf), rfl⟩
                · rw [if_neg hlf]
                  have hlf' : t.a_[u].q_ = false := by simpa using hlf
                  rcases (wr (l := t.a_[u].r_) (ht.1.2 _ (List.getElem_mem hul)).2.2.1.1 (i : Int)).cases with ⟨e, hc⟩ | ⟨e, hc⟩
                  · rw [e]
                    simp only [Option.bind_some, Bool.not_true, Bool.false_or]
                    by_cases hd2 : t.a_[u].m_ + 1 = t.a_[i].m_ ∧ t.a_[u].s_ ≤ t.a_[i].s_
                    · rw [if_neg (by simp only [Bool.or_eq_true, bne_iff_ne, decide_eq_true_eq, ne_eq]; omega)]
                      exact .inl ⟨fun _ => ⟨hN, fun g => absurd g h0, fun _ => ⟨u, hui, hul, hu, hlf', hc, hd2.1, hd2.2⟩⟩, rfl⟩
                    · rw [if_pos (by simp only [Bool.or_eq_true, bne_iff_ne, decide_eq_true_eq, ne_eq]; omega)]
                      exact .inr ⟨fun g => by
                        obtain ⟨u', _, hu', h1, h2, h3, h4, h5⟩ := (g hi).2.2 (by omega)
                        obtain rfl : u = u' := by omega
                        exact hd2 ⟨h4, h5⟩, rfl⟩
                  · rw [e]
                    exact .inr ⟨fun g => by
                      obtain ⟨u', _, hu', h1, h2, h3, h4, h5⟩ := (g hi).2.2 (by omega)
                      obtain rfl : u = u' := by omega
                      exact hc h3, rfl⟩
              · rw [e]
                exact .inr ⟨fun g => by
                  obtain ⟨u', _, hu', h1, _⟩ := (g hi).2.2 (by omega)
                  exact hr ⟨by omega, by omega⟩, rfl⟩
          · rw [e]
            exact .inr ⟨fun g => hN (g hi).1, rfl⟩
      · rw [e]
        exact cw fun g => hq g.2.2.1
    · rw [e]
      exact cw fun g => hn g.2.1
  · rw [e]
    exact cw fun g => hS g.1
theorem od {s : ab} {t : ah} (hs : aU s) (ht : gp t) : Dec (gV s t) (ip s t) := by
  unfold gV
  have hl := ht.1.1
  rcases (ka (iO hs)).cases with ⟨e, hS⟩ | ⟨e, hS⟩
  · rw [e]
    simp only [Option.bind_some, Bool.not_true, Bool.false_eq_true, if_false]
    rcases (da (x := (t.a_.length : Int)) (a := 1) (b := 31)).cases with ⟨e, hn⟩ | ⟨e, hn⟩
    · rw [e]
      simp only [Option.bind_some, Bool.not_true, Bool.false_eq_true, if_false]
      rcases (da (x := t.k_) (a := 0) (b := 99999)).cases with ⟨e, hq⟩ | ⟨e, hq⟩
      · rw [e]
        simp only [Option.bind_some, Bool.not_true, Bool.false_eq_true, if_false]
        refine (rS (Lp := fun k i => dQ t s k (i : Int)) (n := t.a_.length) (Q := BB s t) (F := True) (fun k _ => ?_) (fun k i hi hQ => ?_) (by omega)).of_iff ⟨fun g => ⟨hS, hn, hq, g.1⟩, fun g => ⟨g.2.2.2, trivial⟩⟩
        · show Dec (dQ t s (k + 1) _) _
          rw [dQ, if_neg (by simp)]
          exact oh trivial
        · show (_ ∧ dQ t s (k + 1) _ = dQ t s k _) ∨ (_ ∧ dQ t s (k + 1) _ = _)
          rw [dQ, if_pos (by simp; omega), aV hi, aG (by omega)]
          simp only [bS]
          have hnd := ht.1.2 _ (List.getElem_mem hi)
          rcases (da (x := t.a_[i].m_) (a := 0) (b := 6)).cases with ⟨e, hdp⟩ | ⟨e, hdp⟩
          · rw [e]
            simp only [Option.bind_some, Bool.not_true, Bool.false_eq_true, if_false]
            rcases (da (x := t.a_[i].s_) (a := 0) (b := t.k_)).cases with ⟨e, hbn⟩ | ⟨e, hbn⟩
            · rw [e]
              simp only [Option.bind_some, Bool.not_true, Bool.false_eq_true, if_false]
              have hself : ∀ b : Bool, t.a_[i].q_ = b → ∀ K : Bool → Option Bool, (xt s t i t.a_[i] ∧ (((if t.a_[i].q_ = true then (jV s ({ t.a_[i] with q_ := true })).bind fun c => some (!c) else some false).bind fun d => (if d = true then some true else (if (!t.a_[i].q_) = true then (ju s t (i : Int)).bind fun f => some (!f) else some false).bind fun j => some j).bind K) = K false)) ∨
                  (¬ xt s t i t.a_[i] ∧ (((if t.a_[i].q_ = true then (jV s ({ t.a_[i] with q_ := true })).bind fun c => some (!c) else some false).bind fun d => (if d = true then some true else (if (!t.a_[i].q_) = true then (ju s t (i : Int)).bind fun f => some (!f) else some false).bind fun j => some j).bind K) = K true)) := fun b hb K => by
                cases b
                · rw [hb]
                  simp only [Option.bind_some, Bool.not_false, Bool.false_eq_true, if_true, if_false]
                  rcases (zi hs ht hi).cases with ⟨e, h⟩ | ⟨e, h⟩
                  · rw [e]
                    exact .inl ⟨⟨hdp, hbn, h.2.1, h.2.2, fun g => (nomatch hb.symm.trans g), fun _ => h.1⟩, rfl⟩
                  · rw [e]
                    exact .inr ⟨fun g => h ⟨g.2.2.2.2.2 hb, g.2.2.1, g.2.2.2.1⟩, rfl⟩
                · have hE : ({ t.a_[i] with q_ := true } : aT) = t.a_[i] := by rw [← hb]
                  rw [hE, hb]
                  simp only [Option.bind_some, Bool.not_true, Bool.false_eq_true, if_true, if_false]
                  rcases (AD hs hnd).cases with ⟨e, h⟩ | ⟨e, h⟩
                  · rw [e]
                    exact .inl ⟨⟨hdp, hbn, h.2.1, h.2.2, fun _ => h.1, fun g => (nomatch hb.symm.trans g)⟩, rfl⟩
                  · rw [e]
                    exact .inr ⟨fun g => h ⟨g.2.2.2.2.1 hb, g.2.2.1, g.2.2.2.1⟩, rfl⟩
              rcases hself _ rfl _ with ⟨hN, e⟩ | ⟨hN, e⟩
              · rw [e]
                simp only [Bool.false_eq_true, if_false]
                by_cases h0 : i = 0
                · rw [if_pos (by simp only [beq_iff_eq]; omega)]
                  by_cases hL : t.a_[i].p_ = -1 ∧ t.a_[i].m_ = 0 ∧ t.a_[i].s_ = 0
                  · rw [if_neg (by simp only [Bool.or_eq_true, bne_iff_ne, ne_eq]; omega)]
                    exact .inl ⟨fun _ => ⟨hN, fun _ => hL, fun g => by omega⟩, rfl⟩
                  · rw [if_pos (by simp only [Bool.or_eq_true, bne_iff_ne, ne_eq]; omega)]
                    exact .inr ⟨fun g => hL ((g hi).2.1 h0), rfl⟩
                · rw [if_neg (by simp only [beq_iff_eq]; omega), bp (n := (i : Int) - 1) (by omega) (by omega)]
                  rcases (da (x := t.a_[i].p_) (a := 0) (b := (i : Int) - 1)).cases with ⟨e, hr⟩ | ⟨e, hr⟩
                  · rw [e]
                    simp only [Option.bind_some, Bool.not_true, Bool.false_eq_true, if_false]
                    obtain ⟨u, hu⟩ : ∃ u : Nat, t.a_[i].p_ = u := ⟨t.a_[i].p_.toNat, by omega⟩
                    have hui : u < i := by omega
                    have hul : u < t.a_.length := by omega
                    rw [hu, aV hul]
                    simp only [bS]
                    have hNu := hQ u hui hul
                    have hdu := hNu.1.1
                    rw [bp (n := t.a_[u].m_ + 1) (by omega) (by omega)]
                    by_cases hlf : t.a_[u].q_ = true
                    · rw [if_pos hlf]
                      exact .inr ⟨fun g => by
                        obtain ⟨u', _, hu', h1, h2, _⟩ := (g hi).2.2 (by omega)
                        obtain rfl : u = u' := by omega
                        exact (nomatch h2.symm.trans hlf), rfl⟩
                    · rw [if_neg hlf]
                      have hlf' : t.a_[u].q_ = false := by simpa using hlf
                      rcases (zK (l := t.a_[u].r_) (ht.1.2 _ (List.getElem_mem hul)).2.2.1.1 (i : Int)).cases with ⟨e, hc⟩ | ⟨e, hc⟩
                      · rw [e]
                        simp only [Option.bind_some, Bool.not_true, Bool.false_or]
                        by_cases hd2 : t.a_[u].m_ + 1 = t.a_[i].m_ ∧ t.a_[u].s_ ≤ t.a_[i].s_
                        · rw [if_neg (by simp only [Bool.or_eq_true, bne_iff_ne, decide_eq_true_eq, ne_eq]; omega)]
                          exact .inl ⟨fun _ => ⟨hN, fun g => absurd g h0, fun _ => ⟨u, hui, hul, hu, hlf', hc, hd2.1, hd2.2⟩⟩, rfl⟩
                        · rw [if_pos (by simp only [Bool.or_eq_true, bne_iff_ne, decide_eq_true_eq, ne_eq]; omega)]
                          exact .inr ⟨fun g => by
                            obtain ⟨u', _, hu', h1, h2, h3, h4, h5⟩ := (g hi).2.2 (by omega)
                            obtain rfl : u = u' := by omega
                            exact hd2 ⟨h4, h5⟩, rfl⟩
                      · rw [e]
                        exact .inr ⟨fun g => by
                          obtain ⟨u', _, hu', h1, h2, h3, h4, h5⟩ := (g hi).2.2 (by omega)
                          obtain rfl : u = u' := by omega
                          exact hc h3, rfl⟩
                  · rw [e]
                    exact .inr ⟨fun g => by
                      obtain ⟨u', _, hu', h1, _⟩ := (g hi).2.2 (by omega)
                      exact hr ⟨by omega, by omega⟩, rfl⟩
              · rw [e]
                exact .inr ⟨fun g => hN (g hi).1, rfl⟩
            · rw [e]
              exact .inr ⟨fun g => hbn (g hi).1.2.1, rfl⟩
          · rw [e]
            exact .inr ⟨fun g => hdp (g hi).1.1, rfl⟩
      · rw [e]
        exact cw fun g => hq g.2.2.1
    · rw [e]
      exact cw fun g => hn g.2.1
  · rw [e]
    exact cw fun g => hS g.1
end Go.Vk
/- Where a bin goes; the mask of a branch; the mask of all: alike. -/
namespace Go.Vk
def rh (a : bc) (f : aq) (b : Int) : Int := if f.c_ = -1 then b else if 0 < a.u_.length then (if f.c_ < b then 1 else 0) else (if b = f.c_ then 0 else 1)
theorem pp {s : ab} {f : aq} (hs : aU s) (h : kG s f) {b : Int} (hb : 0 ≤ b ∧ b ≤ (nb (atr s f) : Int) - 1) : js s f b = some (rh (atr s f) f b) := by
  unfold js rh
  have hm := hs.1.2 _ (oC h.2.1)
  have hA := om h.1 h.2.1
  have hnb := nG hA
  rcases (kE (f := f) hs).cases with ⟨e, _⟩ | ⟨_, g⟩
  · rw [e]
    simp only [Option.bind_some, Bool.not_true, Bool.false_eq_true, if_false]
    rw [nJ h.2.1]
    simp only [bS]
    rw [kB hm hA]
    simp only [bS]
    rw [bp (by omega) (by omega)]
    rcases (da (x := b) (a := 0) (b := (nb (atr s f) : Int) - 1)).cases with ⟨e, _⟩ | ⟨_, g⟩
    · rw [e]
      simp only [Option.bind_some, Bool.not_true, Bool.false_eq_true, if_false]
      by_cases h1 : f.c_ = -1
      · rw [if_pos (by simpa using h1), if_pos h1]
      · rw [if_neg (by simpa using h1), if_neg h1]
        unfold nY
        by_cases h2 : 0 < (atr s f).u_.length
        · rw [if_pos (by simpa using h2), if_pos h2]
          by_cases h3 : f.c_ < b
          · rw [if_pos h3, if_pos (by simpa using h3)]; rfl
          · rw [if_neg h3, if_neg (by simpa using h3)]; rfl
        · rw [if_neg (by simpa using h2), if_neg h2]
          by_cases h3 : b = f.c_
          · rw [if_pos h3, if_neg (by simpa using h3)]; rfl
          · rw [if_neg h3, if_pos (by simpa using h3)]; rfl
    · exact absurd hb g
  · exact absurd h g
theorem rB {s : ab} {f : aq} (hs : aU s) (h : kG s f) {b : Int} (hb : 0 ≤ b ∧ b ≤ (nb (atr s f) : Int) - 1) : km s f b = some (rh (atr s f) f b) := by
  unfold km rh
  have hm := hs.1.2 _ (oC h.2.1)
  have hA := om h.1 h.2.1
  have hnb := nG hA
  rcases (uB (f := f) hs).cases with ⟨e, _⟩ | ⟨_, g⟩
  · rw [e]
    simp only [Option.bind_some, Bool.not_true, Bool.false_eq_true, if_false]
    rw [nJ h.2.1]
    simp only [bS]
    rw [kj hm]
    simp only [bS]
    rw [bp (by omega) (by omega)]
    rcases (fg (x := b) (a := 0) (b := (nb (atr s f) : Int) - 1)).cases with ⟨e, _⟩ | ⟨_, g⟩
    · rw [e]
      simp only [Option.bind_some, Bool.not_true, Bool.false_eq_true, if_false]
      by_cases h1 : f.c_ = -1
      · rw [if_pos (by simpa using h1), if_pos h1]
      · rw [if_neg (by simpa using h1), if_neg h1]
        by_cases h3 : b = f.c_
        · rw [if_pos (by simpa using h3)]
          simp only [Option.bind_some, if_true]
          have h4 : ¬ f.c_ < b := by omega
          rw [if_pos h3, if_neg h4, ite_self]
        · rw [if_neg (by simpa using h3), if_neg h3]
          simp only [bS]
          by_cases h2 : 0 < (atr s f).u_.length
          · rw [if_pos h2]
            by_cases h4 : f.c_ < b
            · rw [if_neg (by simp only [Bool.and_eq_true, decide_eq_true_eq]; omega), if_pos h4]
            · rw [if_pos (by simp only [Bool.and_eq_true, decide_eq_true_eq]; omega), if_neg h4]
          · rw [if_neg (by simp only [Bool.and_eq_true, decide_eq_true_eq]; omega), if_neg h2]
    · exact absurd hb g
  · exact absurd h g
theorem Es : ∀ i : Nat, i < 4 → ∀ m : Nat, m < 2 ^ i → bi .or .i64 (m : Int) ((2 ^ i : Nat) : Int) = ((m + 2 ^ i : Nat) : Int) := by decide
theorem Fj : ∀ m : Nat, m < 16 → bi .or .i64 (m : Int) 16 = ((m + 16 : Nat) : Int) := by decide
theorem yr : ∀ i : Nat, i < 4 → shl .i64 1 (i : Int) = some ((2 ^ i : Nat) : Int) := by decide
def ks (a : bc) (f : aq) (b : Int) : Nat → Nat
  | 0 => 0
  | i + 1 => ks a f b i + if rh a f i = b then 2 ^ i else 0
theorem lP (a : bc) (f : aq) (b : Int) : ∀ i : Nat, ks a f b i < 2 ^ i
  | 0 => by simp [ks]
  | i + 1 => by
    have := lP a f b i
    simp only [ks]
    rw [Nat.pow_succ]
    split <;> omega
def jU (s : ab) (n : aT) (b : Int) : Nat := ks (atr s n.g_) n.g_ b (nb (atr s n.g_)) + if n.w_ = b then 16 else 0
theorem oZ {n : Nat} (h : n ≤ 4) : 2 ^ n ≤ 16 := by
  have : (2 : Nat) ^ n ≤ 2 ^ 4 := Nat.pow_le_pow_right (by omega) h
  omega
theorem Az {s : ab} {n : aT} (hs : aU s) (h : kG s n.g_) (b : Int) : ki s n b = some (jU s n b : Int) := by
  unfold ki jU
  have hm := hs.1.2 _ (oC h.2.1)
  have hA := om h.1 h.2.1
  have hnb := nG hA
  rw [nJ h.2.1]
  simp only [bS]
  rw [kj hm]
  simp only [bS]
  have hbo := fun (i : Nat) (hi : i < nb (atr s n.g_)) => rB hs h (b := (i : Int)) (by omega)
  generalize hq : nb (atr s n.g_) = q at *
  have hlt := lP (atr s n.g_) n.g_ b q
  have a := oZ hnb.2
  refine jT (Lp := fun k i => cX (q : Int) s n b k (i : Int) ((ks (atr s n.g_) n.g_ b i : Nat) : Int)) (n := q) (fun k => ?_) (fun k i hi => ?_) (by omega)
  · show cX (q : Int) s n b (k + 1) _ _ = _
    rw [cX, if_neg (by simp)]
    by_cases hb : n.w_ = b
    · rw [if_pos (by simpa using hb), if_pos hb, Fj _ (by omega)]
    · rw [if_neg (by simpa using hb), if_neg hb]; rfl
  · show cX (q : Int) s n b (k + 1) _ _ = cX (q : Int) s n b k _ _
    rw [cX, if_pos (by simp; omega), hbo i hi, aG (by omega)]
    simp only [bS]
    by_cases hb : rh (atr s n.g_) n.g_ i = b
    · rw [if_pos (by simpa using hb), yr i (by omega)]
      simp only [bS]
      rw [Es i (by omega) _ (lP _ _ _ _)]
      congr 1
      simp only [ks]
      rw [if_pos hb]
    · rw [if_neg (by simpa using hb)]
      congr 1
      simp only [ks]
      rw [if_neg hb]; simp
theorem Bc {s : ab} {n : aT} (hs : aU s) (h : kG s n.g_) (b : Int) : ot s n b = some (jU s n b : Int) := by
  unfold ot jU
  have hm := hs.1.2 _ (oC h.2.1)
  have hA := om h.1 h.2.1
  have hnb := nG hA
  have hbo := fun (i : Nat) (hi : i < nb (atr s n.g_)) => pp hs h (b := (i : Int)) (by omega)
  have hsb := kB hm hA
  generalize hq : nb (atr s n.g_) = q at *
  have hlt := lP (atr s n.g_) n.g_ b q
  have a := oZ hnb.2
  refine jT (Lp := fun k i => eJ s n b k ((ks (atr s n.g_) n.g_ b i : Nat) : Int) (i : Int)) (n := q) (fun k => ?_) (fun k i hi => ?_) (by omega)
  · show eJ s n b (k + 1) _ _ = _
    rw [eJ, nJ h.2.1]
    simp only [bS]
    rw [hsb]
    simp only [bS]
    rw [if_neg (by simp)]
    by_cases hb : n.w_ = b
    · rw [if_pos (by simpa using hb), if_pos hb, bp (by omega) (by omega)]; rfl
    · rw [if_neg (by simpa using hb), if_neg hb]; rfl
  · show eJ s n b (k + 1) _ _ = eJ s n b k _ _
    have hl := lP (atr s n.g_) n.g_ b i
    have hl2 := oZ (show i ≤ 4 by omega)
    rw [eJ, nJ h.2.1]
    simp only [bS]
    rw [hsb]
    simp only [bS]
    rw [if_pos (by simp; omega), hbo i hi, aG (by omega)]
    simp only [bS]
    by_cases hb : rh (atr s n.g_) n.g_ i = b
    · rw [if_pos (by simpa using hb), rz (by omega)]
      simp only [bS]
      rw [bp (by omega) (by omega)]
      congr 1
      simp only [ks]
      rw [if_pos hb]; simp
    · rw [if_neg (by simpa using hb)]
      congr 1
      simp only [ks]
      rw [if_neg hb]; simp
def fm (a : bc) : Nat := 2 ^ nb a + 15
theorem wc {a : bc} (hx : ln a) (h : lB a) : fP a = some (fm a : Int) ∧ gC a = some (fm a : Int) := by
  unfold fP gC fm
  rcases (pl (uH hx)).cases with ⟨e, _⟩ | ⟨_, g⟩
  · rcases (qr (uH hx)).cases with ⟨e2, _⟩ | ⟨_, g⟩
    · rw [e, e2]
      simp only [Option.bind_some, Bool.not_true, Bool.false_eq_true, if_false]
      rw [kB hx h, kj hx]
      simp only [bS]
      have := nG h
      rw [rz (by omega)]
      have hn : nb a = 2 ∨ nb a = 3 ∨ nb a = 4 := by omega
      rcases hn with hn | hn | hn
      · rw [hn]; exact ⟨by decide, by decide⟩
      · rw [hn]; exact ⟨by decide, by decide⟩
      · rw [hn]; exact ⟨by decide, by decide⟩
    · exact absurd h g
  · exact absurd h g
end Go.Vk
/- A window in words: alike. -/
namespace Go.Vk
end Go.Vk
/- Scores: tested alike. -/
namespace Go.Vk
end Go.Vk
/- Scores: tested alike by the program. -/
namespace Go.Vk
end Go.Vk
/- Rules, members, forests, states: tested alike. -/
namespace Go.Vk
theorem Bb (c y : Bool) : (if c = true then some y else some false : Option Bool) = some (c && y) := by cases c <;> rfl
theorem yu (o : Option Bool) : (o.bind fun y => some y) = o := by cases o <;> rfl
theorem Dh {o k : Option Bool} {P Q : Prop} (h : Dec o P) (h' : P → Dec k Q) : Dec (o.bind fun y => if y = true then k else some false) (P ∧ Q) := h.and h'
def DH (r : cB) : Prop := (1 ≤ r.G_ ∧ r.G_ ≤ 9) ∧ (0 ≤ r.H_ ∧ r.H_ ≤ 999) ∧ (1 ≤ r.I_ ∧ r.I_ ≤ 200) ∧ (0 ≤ r.m_ ∧ r.m_ ≤ 6) ∧ (1 ≤ r.a_ ∧ r.a_ ≤ 31) ∧ (62 ≤ r.E_ ∧ r.E_ ≤ 2000)
theorem ul (r : cB) : Dec (kF r) (DH r) := by
  unfold kF bm DH
  simp only [Option.bind_some, Bb]
  exact ⟨_, rfl, by simp [and_assoc]⟩
end Go.Vk
/- Subsets by their rank: alike. -/
namespace Go.Vk
def ch : Nat → Nat → Nat
  | _, 0 => 1
  | 0, _ + 1 => 0
  | n + 1, k + 1 => ch n k + ch n (k + 1)
theorem tV (n : Nat) : ch n 0 = 1 := by cases n <;> rfl
theorem xd : ∀ {n k : Nat}, n < k → ch n k = 0
  | 0, k + 1, _ => rfl
  | n + 1, k + 1, h => by
    show ch n k + ch n (k + 1) = 0
    rw [xd (by omega), xd (by omega)]
theorem yD : ∀ n : Nat, ch n n = 1
  | 0 => rfl
  | n + 1 => by
    show ch n n + ch n (n + 1) = 1
    rw [yD n, xd (by omega)]
theorem rK : ∀ n k : Nat, ch n k ≤ 2 ^ n
  | n, 0 => by rw [tV]; exact Nat.one_le_two_pow
  | 0, k + 1 => by simp [ch]
  | n + 1, k + 1 => by
    show ch n k + ch n (k + 1) ≤ 2 ^ (n + 1)
    have h1 := rK n k
    have h2 := rK n (k + 1)
    rw [Nat.pow_succ]; omega
theorem tR : ∀ n k : Nat, ch (n + 1) (k + 1) * (k + 1) = (n + 1) * ch n k
  | 0, 0 => rfl
  | 0, k + 1 => by
    show (ch 0 (k + 1) + ch 0 (k + 2)) * _ = _
    simp [ch]
  | n + 1, 0 => by
    have h := tR n 0
    show (ch (n + 1) 0 + ch (n + 1) 1) * 1 = _
    have h : ch (n + 1) 1 * 1 = (n + 1) * ch n 0 := h
    rw [tV] at h ⊢
    omega
  | n + 1, j + 1 => by
    have h1 := tR n j
    have h2 := tR n (j + 1)
    have hp : ch (n + 1) (j + 1) = ch n j + ch n (j + 1) := rfl
    show (ch (n + 1) (j + 1) + ch (n + 1) (j + 2)) * (j + 2) = (n + 2) * ch (n + 1) (j + 1)
    generalize ch (n + 1) (j + 2) = c at *
    generalize ch n j = a at *
    generalize ch n (j + 1) = b at *
    generalize ch (n + 1) (j + 1) = d at *
    subst hp
    rw [Nat.add_mul _ _ (j + 2)]
    have h3 : (a + b) * (j + 2) = (a + b) * (j + 1) + (a + b) := Nat.mul_succ _ _
    have h4 : c * (j + 2) = (n + 1) * b := h2
    have h5 : (n + 2) * (a + b) = (n + 1) * (a + b) + (a + b) := Nat.succ_mul _ _
    have h6 : (n + 1) * (a + b) = (n + 1) * a + (n + 1) * b := Nat.mul_add _ _ _
    omega
theorem CC {n k : Nat} (h : k ≤ n) : ch n (k + 1) * (k + 1) = ch n k * (n - k) := by
  have h1 := tR n k
  have h2 : ch (n + 1) (k + 1) = ch n k + ch n (k + 1) := rfl
  rw [h2, Nat.add_mul] at h1
  have h3 : ch n k * (n - k) + ch n k * (k + 1) = ch n k * (n + 1) := by rw [← Nat.mul_add]; congr 1; omega
  rw [Nat.mul_comm (n + 1)] at h1
  omega
def rX (n k : Int) : Nat := if (0 ≤ n ∧ n ≤ 20) ∧ 0 ≤ k ∧ k ≤ n then ch n.toNat k.toNat else 0
theorem un {n : Nat} (h : n ≤ 20) : 2 ^ n ≤ 1048576 := by
  have : (2 : Nat) ^ n ≤ 2 ^ 20 := Nat.pow_le_pow_right (by omega) h
  omega
theorem yB (n k : Int) : rX n k ≤ 1048576 := by
  unfold rX
  split
  · exact Nat.le_trans (rK _ _) (un (by omega))
  · omega
theorem yC (n k : Int) : mT n k = some (rX n k : Int) := by
  unfold mT rX
  rcases (fg (x := n) (a := 0) (b := 20)).cases with ⟨e, hn⟩ | ⟨e, hn⟩
  · rw [e]
    simp only [Option.bind_some, Bool.not_true, Bool.false_eq_true, if_false]
    rcases (fg (x := k) (a := 0) (b := n)).cases with ⟨e, hk⟩ | ⟨e, hk⟩
    · rw [e, if_pos ⟨hn, hk⟩]
      simp only [Option.bind_some, Bool.not_true, Bool.false_eq_true, if_false]
      obtain ⟨m, rfl⟩ : ∃ m : Nat, n = m := ⟨n.toNat, by omega⟩
      obtain ⟨j, rfl⟩ : ∃ j : Nat, k = j := ⟨k.toNat, by omega⟩
      simp only [Int.toNat_natCast]
      have h := jT (Lp := fun q i => fJ (j : Int) (m : Int) q (i : Int) ((ch m i : Nat) : Int)) (n := j) (fin := some ((ch m j : Nat) : Int)) (fun q => by
        show fJ (j : Int) (m : Int) (q + 1) _ _ = _
        rw [fJ, if_neg (by simp)]) (fun q i hi => by
        show fJ (j : Int) (m : Int) (q + 1) _ _ = fJ (j : Int) (m : Int) q _ _
        have h1 := Nat.le_trans (rK m i) (un (by omega))
        have h2 := CC (n := m) (k := i) (by omega)
        have h3 : ch m i * (m - i) ≤ 1048576 * 20 := Nat.mul_le_mul h1 (by omega)
        have e1 : IntKind.i64.wrap ((m : Int) - (i : Int)) = ((m - i : Nat) : Int) := by rw [bp (by omega) (by omega)]; omega
        have e2 : IntKind.i64.wrap (((ch m i : Nat) : Int) * ((m - i : Nat) : Int)) = ((ch m i * (m - i) : Nat) : Int) := by rw [← Int.natCast_mul, gM (by omega)]
        rw [fJ, if_pos (by simp; omega), e1, e2, aG (by omega)]
        unfold quo
        rw [if_neg (by omega), uq, ← h2, Nat.mul_div_cancel _ (by omega)]
        have h4 := Nat.le_trans (rK m (i + 1)) (un (by omega))
        rw [gM (by omega)]
        rfl) (by omega)
      rw [tV] at h
      exact h
    · rw [e, if_neg (fun g => hk g.2)]; rfl
  · rw [e, if_neg (fun g => hn g.1)]; rfl
theorem tS (n k : Int) : jw n k = some (rX n k : Int) := by
  unfold jw rX
  rcases (da (x := n) (a := 0) (b := 20)).cases with ⟨e, hn⟩ | ⟨e, hn⟩
  · rw [e]
    simp only [Option.bind_some, Bool.not_true, Bool.false_eq_true, if_false]
    rcases (da (x := k) (a := 0) (b := n)).cases with ⟨e, hk⟩ | ⟨e, hk⟩
    · rw [e, if_pos ⟨hn, hk⟩]
      simp only [Option.bind_some, Bool.not_true, Bool.false_eq_true, if_false]
      obtain ⟨m, rfl⟩ : ∃ m : Nat, n = m := ⟨n.toNat, by omega⟩
      obtain ⟨j, rfl⟩ : ∃ j : Nat, k = j := ⟨k.toNat, by omega⟩
      simp only [Int.toNat_natCast]
      refine jT (Lp := fun q i => cW (m : Int) (j : Int) q ((List.range (i + 1)).map fun x => ((ch i x : Nat) : Int)) (i : Int)) (n := m) (fun q => ?_) (fun q i hi => ?_) (by omega)
      · show cW (m : Int) (j : Int) (q + 1) _ _ = _
        rw [cW, if_neg (by simp), aV (by simp; omega)]
        simp
      · show cW (m : Int) (j : Int) (q + 1) _ _ = cW (m : Int) (j : Int) q _ _
        rw [cW, if_pos (by simp; omega)]
        generalize hrow : ((List.range (i + 1)).map fun x => ((ch i x : Nat) : Int)) = row
        have hlen : row.length = i + 1 := by rw [← hrow]; simp
        have hget : ∀ x (h : x < row.length), row[x] = ((ch i x : Nat) : Int) := fun x h => by
          have h' : x < i + 1 := by omega
          subst hrow; simp
        have key : ∀ (d q2 x : Nat), i + 1 - x = d → d < q2 → 1 ≤ x → x ≤ i + 1 → fI row (cW (m : Int) (j : Int) q) (i : Int) q2 ((List.range x).map fun y => ((ch (i + 1) y : Nat) : Int)) (x : Int) = cW (m : Int) (j : Int) q ((List.range (i + 2)).map fun x => ((ch (i + 1) x : Nat) : Int)) ((i + 1 : Nat) : Int) := by
          intro d
          induction d with
          | zero =>
            intro q2 x hd hq h1 hx
            obtain ⟨q2, rfl⟩ : ∃ y, q2 = y + 1 := ⟨q2 - 1, by omega⟩
            obtain rfl : x = i + 1 := by omega
            rw [fI, if_neg (by simp; omega), de (by simp; omega), aG (by omega)]
            simp only [bS]
            rw [List.range_succ (n := i + 1), List.map_append]
            simp [yD]
          | succ d ih =>
            intro q2 x hd hq h1 hx
            obtain ⟨q2, rfl⟩ : ∃ y, q2 = y + 1 := ⟨q2 - 1, by omega⟩
            obtain ⟨z, rfl⟩ : ∃ z, x = z + 1 := ⟨x - 1, by omega⟩
            have hb1 := Nat.le_trans (rK i z) (un (by omega))
            have hb2 := Nat.le_trans (rK i (z + 1)) (un (by omega))
            have e1 : IntKind.i64.wrap (((z + 1 : Nat) : Int) - 1) = (z : Int) := by rw [bp (by omega) (by omega)]; omega
            rw [fI, if_pos (by simp; omega), e1, aV (by omega : z < row.length), aV (by omega : z + 1 < row.length), hget, hget]
            simp only [bS]
            rw [de (by simp; omega), aG (by omega), bp (by omega) (by omega)]
            simp only [bS]
            have := ih q2 (z + 2) (by omega) (by omega) (by omega) (by omega)
            rw [← this, List.range_succ (n := z + 1), List.map_append]
            rfl
        have := key i be 1 (by omega) (dE (by omega)) (Nat.le_refl _) (by omega)
        rw [← this]
        simp [List.range_succ, tV]
    · rw [e, if_neg (fun g => hk g.2)]; rfl
  · rw [e, if_neg (fun g => hn g.1)]; rfl
def qB (l : List Int) : Prop := l.length ≤ 20 ∧ ∀ x ∈ l, 0 ≤ x ∧ x ≤ 20
theorem xf {n k : Nat} {r : Int} (hn : n ≤ 20) (hk : k ≤ 20) (hr : 0 ≤ r ∧ r ≤ 1048576) : kN (jt n k r) (rb n k r) qB := by
  unfold jt rb
  have hb := yB n k
  rw [tS, yC]
  simp only [bS]
  rw [bp (by omega) (by omega)]
  refine rM da fg (fun hin => ?_) (fun _ => jc ⟨by simp, fun x hx => by cases hx⟩)
  simp only [Bool.not_true, Bool.false_eq_true, if_false]
  have hkn : k ≤ n := by
    unfold rX at hin
    by_cases h : (0 ≤ (n : Int) ∧ (n : Int) ≤ 20) ∧ 0 ≤ (k : Int) ∧ (k : Int) ≤ n
    · omega
    · rw [if_neg h] at hin; omega
  have hin' : r < (ch n k : Nat) := by
    unfold rX at hin
    rw [if_pos ⟨by omega, by omega⟩] at hin
    simp only [Int.toNat_natCast] at hin
    omega
  have key : ∀ (d q q' x : Nat) (r : Int) (l : List Int), n - x = d → d < q → d < q' → x ≤ n → l.length ≤ k → 0 ≤ r → r < (ch (n - x) (k - l.length) : Nat) → (∀ y ∈ l, 0 ≤ y ∧ y ≤ 20) → kN (eW k n q r l x) (iD k n q' r l x) qB := by
    intro d
    induction d with
    | zero =>
      intro q q' x r l hd hq hq' hx hl h0 hr hy
      obtain ⟨q, rfl⟩ : ∃ y, q = y + 1 := ⟨q - 1, by omega⟩
      obtain ⟨q', rfl⟩ : ∃ y, q' = y + 1 := ⟨q' - 1, by omega⟩
      have hlk : l.length = k := by
        by_cases h : l.length < k
        · rw [hd, xd (by omega)] at hr; omega
        · omega
      rw [eW, iD, if_neg (by simp; omega), if_neg (by simp; omega)]
      exact jc ⟨by omega, hy⟩
    | succ d ih =>
      intro q q' x r l hd hq hq' hx hl h0 hr hy
      obtain ⟨q, rfl⟩ : ∃ y, q = y + 1 := ⟨q - 1, by omega⟩
      obtain ⟨q', rfl⟩ : ∃ y, q' = y + 1 := ⟨q' - 1, by omega⟩
      rw [eW, iD]
      by_cases hlk : l.length < k
      · rw [if_pos (by simp; omega), if_pos (by simp; omega), tS, yC]
        simp only [bS]
        have e1 : IntKind.i64.wrap (IntKind.i64.wrap ((n : Int) - (x : Int)) - 1) = ((n - x - 1 : Nat) : Int) := by
          rw [bp (n := (n : Int) - (x : Int)) (by omega) (by omega), bp (by omega) (by omega)]; omega
        have e2 : IntKind.i64.wrap (IntKind.i64.wrap ((k : Int) - (l.length : Int)) - 1) = ((k - l.length - 1 : Nat) : Int) := by
          rw [bp (n := (k : Int) - (l.length : Int)) (by omega) (by omega), bp (by omega) (by omega)]; omega
        rw [e1, e2]
        obtain ⟨a, ha⟩ : ∃ a, n - x = a + 1 := ⟨n - x - 1, by omega⟩
        obtain ⟨b, hb2⟩ : ∃ b, k - l.length = b + 1 := ⟨k - l.length - 1, by omega⟩
        have ha' : n - x - 1 = a := by omega
        have hb' : k - l.length - 1 = b := by omega
        have hp : ch (n - x) (k - l.length) = ch a b + ch a (b + 1) := by rw [ha, hb2]; rfl
        have hz : rX (a : Int) (b : Int) = ch a b := by
          unfold rX
          by_cases hab : b ≤ a
          · rw [if_pos ⟨by omega, by omega⟩]; simp
          · rw [if_neg (by omega), xd (by omega)]
        rw [ha', hb', hz]
        rw [hp] at hr
        have hle := Nat.le_trans (rK a b) (un (by omega))
        have hle2 := Nat.le_trans (rK a (b + 1)) (un (by omega))
        refine mZ Iff.rfl (fun g => ?_) (fun g => ?_)
        · have g : r < (ch a b : Nat) := by simpa using g
          rw [de (by simp; omega), aG (by omega)]
          simp only [bS]
          refine ih q q' (x + 1) r _ (by omega) (by omega) (by omega) (by omega) (by simp; omega) h0 ?_ (fun y hy2 => ?_)
          · rw [show n - (x + 1) = a by omega, show k - (l ++ [(x : Int)]).length = b by simp; omega]; exact g
          · rcases List.mem_append.1 hy2 with h | h
            · exact hy y h
            · rw [List.mem_singleton.1 h]; omega
        · have g : ¬ r < (ch a b : Nat) := by simpa using g
          rw [aG (by omega), bp (by omega) (by omega)]
          refine ih q q' (x + 1) _ l (by omega) (by omega) (by omega) (by omega) hl (by omega) ?_ hy
          rw [show n - (x + 1) = a by omega, hb2]; omega
      · rw [if_neg (by simp; omega), if_neg (by simp; omega)]
        exact jc ⟨by omega, hy⟩
  exact key n be be 0 r [] (by omega) (dE (by omega)) (dE (by omega)) (by omega) (by simp) hin.1 (by simpa using hin') (fun y hy => by cases hy)
end Go.Vk
/- A new state: alike. -/
namespace Go.Vk
def wj (s : ab) : av := ⟨List.replicate s.l_.length 0, s.b_.map fun a => List.replicate (nb a * s.l_.length) 0⟩
theorem wa {s : ab} (hs : aU s) (hS : dv s) : gG s = some (wj s) := by
  unfold gG
  have hc := hS.2.1
  rcases (ka (iO hs)).cases with ⟨e, _⟩ | ⟨_, g⟩
  · rw [e]
    simp only [Option.bind_some, Bool.not_true, Bool.false_eq_true, if_false]
    rw [AB _ (by omega)]
    simp only [bS]
    refine rC (p := s.b_) (fun a => List.replicate (nb a * s.l_.length) (0 : Int)) (fH s (List.replicate s.l_.length 0)) (fun l => some ⟨List.replicate s.l_.length 0, l⟩) (fun k l => ?_) (fun k l i h hi => ?_) (by have := hS.1; omega)
    · rw [fH, if_neg (by simp)]
    · have hA := hs.1.2 _ (List.getElem_mem h)
      have hnb := nG (hS.attr h)
      have hm : nb s.b_[i] * s.l_.length ≤ 4 * 3 := Nat.mul_le_mul (by omega) (by omega)
      have hsl := hS.1
      rw [fH, if_pos (by simp; omega), aV h, aG (by omega)]
      simp only [bS]
      rw [kB hA (hS.attr h)]
      simp only [bS]
      rw [← Int.natCast_mul, gM (by omega), AB _ (by omega)]
      simp only [bS]
      rw [de (by simp; omega)]
      rfl
  · exact absurd hS g
theorem xI {α : Type} {f : α → Nat} {b : Nat} {l : List α} (h : ∀ x ∈ l, f x ≤ b) : (l.map f).sum ≤ b * l.length := by
  induction l with
  | nil => simp
  | cons x l ih =>
    have h1 := h x (by simp)
    have h2 := ih (fun y hy => h y (by simp [hy]))
    simp only [List.map_cons, List.sum_cons, List.length_cons, Nat.mul_succ]
    omega
end Go.Vk
/- Examples: tested alike. -/
namespace Go.Vk
def ExP (s : ab) (e : aY) : Prop := dv s ∧ e.o_.length = s.b_.length ∧ (-1 ≤ e.v_ ∧ e.v_ ≤ (s.l_.length : Int) - 1) ∧
  ∀ i, 0 ≤ i → i < e.o_.length → ∃ n : Nat, ∃ h : i < s.b_.length, el s.b_[i] = some (n : Int) ∧ n ≤ 4 ∧ ∀ hb : i < e.o_.length, -1 ≤ e.o_[i] ∧ e.o_[i] ≤ (n : Int) - 1
theorem xK {s : ab} {e : aY} (hs : OkS s) (hS : dv s) (hl : e.o_.length = s.b_.length) : Dec (jl e s be 0) (∀ i, 0 ≤ i → i < e.o_.length → ∃ n : Nat, ∃ h : i < s.b_.length, el s.b_[i] = some (n : Int) ∧ n ≤ 4 ∧ ∀ hb : i < e.o_.length, -1 ≤ e.o_[i] ∧ e.o_[i] ≤ (n : Int) - 1) := by
  refine kv (Lp := jl e s) (n := e.o_.length) 0 (fun k i hi => ?_) (fun k i _ hi => ?_) (by have := hs.1; omega)
  · show (if _ then _ else _) = _
    rw [if_neg (by simp; omega)]
  · have ha : i < s.b_.length := by omega
    obtain ⟨n, b1, b2, _, b3⟩ := qL (hs.2.1 _ (List.getElem_mem ha)) (hS.2.2.2 i (Nat.zero_le _) ha ha).1
    rw [jl]
    rw [if_pos (by simp; omega), aV hi, aV ha, aG (by have := hs.1; omega)]
    simp only [bS]
    rw [b1]
    simp only [bS]
    rw [bp (by omega) (by omega)]
    unfold bm
    simp only [bS]
    by_cases hc : -1 ≤ e.o_[i] ∧ e.o_[i] ≤ (n : Int) - 1
    · rw [oO hc]
      exact .inl ⟨⟨n, ha, b2, b3, fun _ => hc⟩, rfl⟩
    · rw [oU hc]
      exact .inr ⟨fun ⟨n', _, b4, _, g⟩ => hc (by rw [b2] at b4; have := Option.some.inj b4; rw [this]; exact g hi), rfl⟩
theorem xZ {s : ab} {e : aY} (hs : OkS s) (hS : dv s) (hl : e.o_.length = s.b_.length) : Dec (jm e s be 0) (∀ i, 0 ≤ i → i < e.o_.length → ∃ n : Nat, ∃ h : i < s.b_.length, el s.b_[i] = some (n : Int) ∧ n ≤ 4 ∧ ∀ hb : i < e.o_.length, -1 ≤ e.o_[i] ∧ e.o_[i] ≤ (n : Int) - 1) := by
  refine kv (Lp := jm e s) (n := e.o_.length) 0 (fun k i hi => ?_) (fun k i _ hi => ?_) (by have := hs.1; omega)
  · show (if _ then _ else _) = _
    rw [if_neg (by simp; omega)]
  · have ha : i < s.b_.length := by omega
    obtain ⟨n, b1, b2, _, b3⟩ := qL (hs.2.1 _ (List.getElem_mem ha)) (hS.2.2.2 i (Nat.zero_le _) ha ha).1
    rw [jm]
    rw [if_pos (by simp; omega), aV hi, aV ha, aG (by have := hs.1; omega)]
    simp only [bS]
    rw [b2]
    simp only [bS]
    rw [bp (by omega) (by omega)]
    unfold bN
    simp only [bS]
    by_cases hc : -1 ≤ e.o_[i] ∧ e.o_[i] ≤ (n : Int) - 1
    · rw [oO hc]
      exact .inl ⟨⟨n, ha, b2, b3, fun _ => hc⟩, rfl⟩
    · rw [oU hc]
      exact .inr ⟨fun ⟨n', _, b4, _, g⟩ => hc (by rw [b2] at b4; have := Option.some.inj b4; rw [this]; exact g hi), rfl⟩
theorem sv {s : ab} {e : aY} (hs : OkS s) : Dec (kY s e) (ExP s e) := by
  unfold kY ExP
  rcases (ka hs).cases with ⟨e1, h⟩ | ⟨e1, h⟩
  · rw [e1]
    unfold bm
    simp only [Option.bind_some, Bool.not_true, Bool.false_or]
    by_cases hn : e.o_.length = s.b_.length
    · rw [if_neg (by simp [hn])]
      simp only [bS]
      rw [bp (by omega) (by have := hs.2.2.1; omega)]
      by_cases hc : -1 ≤ e.v_ ∧ e.v_ ≤ (s.l_.length : Int) - 1
      · rw [oO hc]
        simp only [Bool.not_true, Bool.false_eq_true, if_false]
        exact (xK hs h hn).of_iff ⟨fun g => ⟨h, hn, hc, g⟩, fun g => g.2.2.2⟩
      · rw [oU hc]
        exact cw fun g => hc g.2.2.1
    · rw [if_pos (by simp; omega)]
      exact cw fun g => hn g.2.1
  · rw [e1]
    exact cw fun g => h g.1
theorem vW {s : ab} {e : aY} (hs : OkS s) : Dec (mJ s e) (ExP s e) := by
  unfold mJ ExP
  rcases (lG hs).cases with ⟨e1, h⟩ | ⟨e1, h⟩
  · rw [e1]
    unfold bN
    simp only [Option.bind_some, Bool.not_true, Bool.false_or]
    by_cases hn : e.o_.length = s.b_.length
    · rw [if_neg (by simp [hn])]
      simp only [bS]
      rw [bp (by omega) (by have := hs.2.2.1; omega)]
      by_cases hc : -1 ≤ e.v_ ∧ e.v_ ≤ (s.l_.length : Int) - 1
      · rw [oO hc]
        simp only [Bool.not_true, Bool.false_eq_true, if_false]
        exact (xZ hs h hn).of_iff ⟨fun g => ⟨h, hn, hc, g⟩, fun g => g.2.2.2⟩
      · rw [oU hc]
        exact cw fun g => hc g.2.2.1
    · rw [if_pos (by simp; omega)]
      exact cw fun g => hn g.2.1
  · rw [e1]
    exact cw fun g => h g.1
end Go.Vk
/- Entries: what the tests say. -/
namespace Go.Vk
end Go.Vk
/- The path of an example: alike. -/
namespace Go.Vk
def dT (t : ah) (i : Nat) : aT := t.a_.getD i default
theorem gz {t : ah} {i : Nat} (h : i < t.a_.length) : dT t i = t.a_[i] := by unfold dT; simp [h]
def eg (l : List Nat) : List Int := l.map (fun (i : Nat) => (i : Int))
def rN (s : ab) (n : aT) (e : aY) : Int :=
  let b := e.o_.getD n.g_.j_.toNat 0
  if 0 ≤ b then rh (atr s n.g_) n.g_ b else n.w_
def nxt (s : ab) (t : ah) (e : aY) (i : Nat) : Nat := ((dT t i).r_.getD (rN s (dT t i) e).toNat 0).toNat
def lu (s : ab) (t : ah) (e : aY) : Nat → Nat → List Nat
  | 0, i => [i]
  | d + 1, i => if (dT t i).q_ = true then [i] else i :: lu s t e d (nxt s t e i)
theorem En {s : ab} {f : aq} (_ : kG s f) {b : Int} (hb : 0 ≤ b ∧ b ≤ (nb (atr s f) : Int) - 1) : 0 ≤ rh (atr s f) f b ∧ rh (atr s f) f b ≤ (brN s f : Int) - 1 := by
  unfold rh brN
  split
  · omega
  · split <;> split <;> omega
theorem xT {s : ab} {f : aq} {e : aY} (hs : aU s) (hE : ExP s e) (h : kG s f) : ∃ b, idx e.o_ f.j_ = some b ∧ b = e.o_.getD f.j_.toNat 0 ∧ -1 ≤ b ∧ b ≤ (nb (atr s f) : Int) - 1 := by
  obtain ⟨a, ha, ea, et⟩ := po h.2.1
  have hl : a < e.o_.length := by have := hE.2.1; omega
  obtain ⟨n, h1, h2, _, h3⟩ := hE.2.2.2 a (Nat.zero_le _) hl
  have hn : nb s.b_[a] = n := by
    have := kj (hs.1.2 _ (List.getElem_mem ha))
    rw [h2] at this
    have := Option.some.inj this
    omega
  have h3 := h3 hl
  rw [ea, et, hn, aV hl, Int.toNat_natCast, lY hl]
  exact ⟨_, rfl, rfl, h3.1, h3.2⟩
theorem CH {s : ab} {t : ah} {n : aT} {i : Nat} {e : aY} (hs : aU s) (hE : ExP s e) (h : vQ s t i n) : ∃ k : Nat, rN s n e = k ∧ k < n.r_.length := by
  obtain ⟨b, _, hb, h1, h2⟩ := xT hs hE h.1
  unfold rN
  rw [← hb]
  have hk := h.2.1
  have hm := h.2.2.1
  by_cases h0 : 0 ≤ b
  · have := En h.1 ⟨h0, h2⟩
    show ∃ k : Nat, (if 0 ≤ b then _ else _) = (k : Int) ∧ _
    rw [if_pos h0]
    exact ⟨(rh (atr s n.g_) n.g_ b).toNat, by omega, by omega⟩
  · show ∃ k : Nat, (if 0 ≤ b then _ else _) = (k : Int) ∧ _
    rw [if_neg h0]
    exact ⟨n.w_.toNat, by omega, by omega⟩
theorem sA {s : ab} {t : ah} {e : aY} (hs : aU s) (hT : ip s t) (hE : ExP s e) {i : Nat} (hi : i < t.a_.length) (hL : t.a_[i].q_ = false) : ∃ (k : Nat) (hk : k < t.a_[i].r_.length) (hn : nxt s t e i < t.a_.length), rN s t.a_[i] e = k ∧ t.a_[i].r_[k] = (nxt s t e i : Int) ∧ i < nxt s t e i ∧ t.a_[nxt s t e i].p_ = i := by
  have hS := (hT.2.2.2 i hi hi).1.2.2.2.2.2 hL
  obtain ⟨k, hk, hkl⟩ := CH hs hE hS
  obtain ⟨m, hm, h1, h2, h3⟩ := hS.2.2.2.2.2.2 _ (List.getElem_mem hkl)
  have hx : nxt s t e i = m := by
    unfold nxt
    rw [gz hi, hk, Int.toNat_natCast, lY hkl, h1, Int.toNat_natCast]
  rw [hx]
  exact ⟨k, hkl, hm, hk, h1, h2, h3⟩
theorem zL {s : ab} {t : ah} {e : aY} (hs : aU s) (hT : ip s t) (hE : ExP s e) : ∀ (d k k' i : Nat) (pre : List Int), t.a_.length - i ≤ d → d < k → d < k' → i < t.a_.length → pre.length ≤ i →
    gd t e s k pre (i : Int) = some (pre ++ eg (lu s t e d i)) ∧ fo t e s k' (pre ++ [(i : Int)]) = some (pre ++ eg (lu s t e d i), false) := by
  intro d
  have hlen := hT.2.1
  induction d with
  | zero => intro k k' i pre h1 h2 h3 h4; omega
  | succ d ih =>
    intro k k' i pre h1 h2 h3 hi hp
    obtain ⟨k, rfl⟩ : ∃ q, k = q + 1 := ⟨k - 1, by omega⟩
    obtain ⟨k', rfl⟩ : ∃ q, k' = q + 1 := ⟨k' - 1, by omega⟩
    have hlast : idx (pre ++ [(i : Int)]) (IntKind.i64.wrap (((pre ++ [(i : Int)]).length : Int) - 1)) = some (i : Int) := by
      rw [show ((pre ++ [(i : Int)]).length : Int) - 1 = (pre.length : Int) by simp, bp (by omega) (by omega), aV (by simp)]
      simp
    rw [gd, fo, hlast]
    simp only [bS]
    rw [aV hi]
    simp only [Option.bind_some, lu]
    rw [gz hi]
    cases hL : t.a_[i].q_
    · simp only [Bool.not_false, Bool.false_eq_true, if_true, if_false]
      obtain ⟨j, hj, hn, ht, hk, hlt, _⟩ := sA hs hT hE hi hL
      have hS := (hT.2.2.2 i hi hi).1.2.2.2.2.2 hL
      obtain ⟨b, hb, hb2, hb3, hb4⟩ := xT hs hE hS.1
      rw [de (by simp; omega), hb]
      simp only [bS]
      have htk : rN s t.a_[i] e = if 0 ≤ b then rh (atr s t.a_[i].g_) t.a_[i].g_ b else t.a_[i].w_ := by rw [hb2]; rfl
      obtain ⟨i1, i2⟩ := ih k k' (nxt s t e i) (pre ++ [(i : Int)]) (by omega) (by omega) (by omega) hn (by simp; omega)
      have hcons : pre ++ [(i : Int)] ++ eg (lu s t e d (nxt s t e i)) = pre ++ eg (i :: lu s t e d (nxt s t e i)) := by simp [eg]
      rw [hcons] at i1 i2
      have hJ : ∀ q : Int, q = rN s t.a_[i] e → jB t.a_[i] (pre ++ [(i : Int)]) (fo t e s k') q = some (pre ++ eg (i :: lu s t e d (nxt s t e i)), false) := fun q hq => by
        unfold jB
        rw [hq, ht, aV hj, hk]
        simp only [bS]
        rw [de (by simp; omega)]
        exact i2
      by_cases h0 : 0 ≤ b
      · rw [if_pos (by simpa using h0), if_pos (by simpa using h0), pp hs hS.1 ⟨h0, hb4⟩, rB hs hS.1 ⟨h0, hb4⟩]
        rw [if_pos h0] at htk
        simp only [bS]
        rw [← htk, ht, aV hj, hk]
        simp only [bS]
        exact ⟨i1, by rw [← ht]; exact hJ _ rfl⟩
      · rw [if_neg (by simpa using h0), if_neg (by simpa using h0)]
        rw [if_neg h0] at htk
        rw [← htk, ht, aV hj, hk]
        simp only [bS]
        exact ⟨i1, by rw [← ht]; exact hJ _ rfl⟩
    · simp only [Bool.not_true, Bool.false_eq_true, if_true, if_false]
      rw [de (by simp; omega)]
      exact ⟨rfl, rfl⟩
theorem Dp {s : ab} {t : ah} {e : aY} (hs : aU s) (hT : ip s t) (hE : ExP s e) : nI s t e = some (eg (lu s t e 32 0)) ∧ oz s t e = some (eg (lu s t e 32 0), false) := by
  have hlen := hT.2.1
  obtain ⟨h1, h2⟩ := zL hs hT hE 32 be be 0 [] (by omega) (dE (by omega)) (dE (by omega)) (by omega) (Nat.le_refl _)
  exact ⟨h1, h2⟩
theorem us {s : ab} {t : ah} {e : aY} : ∀ d i, (lu s t e d i).length ≤ d + 1
  | 0, i => by simp [lu]
  | d + 1, i => by
    have := us (s := s) (t := t) (e := e) d (nxt s t e i)
    simp only [lu]
    split
    · simp
    · simp only [List.length_cons]; omega
end Go.Vk
/- An example added: alike. -/
namespace Go.Vk
theorem so {t : av} (h : fk t) : lS t = some t ∧ nw t = some t := by
  have h1 := h.1.1
  have h2 := h.2.1
  unfold lS nw fK pG
  rw [de (by simp; omega)]
  simp only [Option.bind_some, List.nil_append]
  constructor
  · have g := rC (p := t.d_) (fun x => x) (gQ t t.e_) (fun l => some (av.mk t.e_ l)) (fun k l => by rw [gQ, if_neg (by simp)]) (fun k l i hi hl => by
      have := (h.2.2 _ (List.getElem_mem hi)).1
      rw [gQ, if_pos (by simp; omega), aV hi, aG (by omega)]
      simp only [bS]
      rw [de (by simp; omega)]
      simp only [bS]
      rw [de (by simp; omega)]
      rfl) (by omega)
    simpa using g
  · have g := rC (p := t.d_) (fun x => x) (iN t.d_) some (fun k l => by rw [iN, if_neg (by simp)]) (fun k l i hi hl => by
      have := (h.2.2 _ (List.getElem_mem hi)).1
      rw [iN, if_pos (by simp; omega), aV hi, aG (by omega)]
      unfold fK
      simp only [bS]
      rw [de (by simp; omega)]
      simp only [bS]
      rw [de (by simp; omega)]
      rfl) (by omega)
    rw [g]
    simp
def oG (l : List Int) (n : Nat) : Prop := l.length = n ∧ ∀ x ∈ l, 0 ≤ x ∧ x ≤ 2000
theorem tc {l : List Int} {n i : Nat} {v : Int} (h : oG l n) (hv : 0 ≤ v ∧ v ≤ 2000) : oG (l.set i v) n := by
  refine ⟨by simp [h.1], fun x hx => ?_⟩
  rcases List.mem_or_eq_of_mem_set hx with hx | rfl
  · exact h.2 x hx
  · exact hv
theorem tg {l : List Int} {n : Nat} (h : oG l n) (hn : n ≤ 1000) : nZ l := ⟨by rw [h.1]; omega, fun x hx => by have := h.2 x hx; omega⟩
def Bk (s : ab) (l : List (List Int)) : Prop := (l.length = 0 ∨ l.length = s.b_.length) ∧ ∀ i (h : i < l.length) (h2 : i < s.b_.length), oG l[i] (nb s.b_[i] * s.l_.length)
def ub (s : ab) (t : av) : Prop := oG t.e_ s.l_.length ∧ Bk s t.d_
theorem nbc {s : ab} (hS : dv s) {i : Nat} (h : i < s.b_.length) : nb s.b_[i] * s.l_.length ≤ 12 := by
  have h1 := (nG (hS.attr h)).2
  have h2 : s.l_.length ≤ 3 := by have := hS.2.1; omega
  calc _ ≤ 4 * 3 := Nat.mul_le_mul h1 h2
    _ = 12 := rfl
theorem Ba {s : ab} {t : av} (hs : aU s) (hS : dv s) (h : ub s t) : fk t := by
  have h2 : s.l_.length ≤ 3 := by have := hS.2.1; omega
  have h3 := hs.1.1
  refine ⟨tg h.1 (by omega), by rcases h.2.1 with g | g <;> omega, fun x hx => ?_⟩
  obtain ⟨i, hi, rfl⟩ := List.getElem_of_mem hx
  have hi2 : i < s.b_.length := by rcases h.2.1 with g | g <;> omega
  exact tg (h.2.2 i hi hi2) (by have := nbc hS hi2; omega)
theorem AJ {s : ab} : ub s (wj s) := by
  have hw : ∀ n, oG (List.replicate n 0) n := fun n => ⟨by simp, fun x hx => by rw [List.eq_of_mem_replicate hx]; omega⟩
  refine ⟨hw _, .inr (by simp [wj]), fun i h h2 => ?_⟩
  simp only [wj, List.getElem_map]
  exact hw _
theorem yK {b n c k : Nat} (hb : b < n) (hk : k < c) : b * c + k < n * c := by
  calc b * c + k < b * c + c := by omega
    _ = (b + 1) * c := by rw [Nat.add_mul, Nat.one_mul]
    _ ≤ n * c := Nat.mul_le_mul_right c hb
theorem BC {s : ab} {t : av} {e : aY} {w : Int} (hs : aU s) (hS : dv s) (ht : ub s t) : kN (iz s t e w) (qU s t e w) (fun y => ub s y.1) := by
  have hm := Ba hs hS ht
  obtain ⟨c1, c2⟩ := so hm
  unfold iz qU
  rw [c1, c2]
  simp only [bS]
  have bad : kN (some (t, false)) (some (t, false)) (fun y : av × Bool => ub s y.1) := jc ht
  refine rM (jJ hs hm) (vE hs hm) (fun hP => ?_) (fun _ => by simp only [Option.bind_some, Bool.not_false, Bool.true_or, if_true]; exact bad)
  simp only [Bool.not_true, Bool.false_eq_true, if_false]
  rw [← ((sv (e := e) (iO hs)).eq (vW (iO hs)))]
  rcases (sv (e := e) (iO hs)).cases with ⟨e1, hE⟩ | ⟨e1, _⟩
  · rw [e1]
    simp only [Option.bind_some, Bool.not_true, Bool.false_or]
    obtain ⟨hcl1, hcl2⟩ := hE.2.2.1
    by_cases hc : e.v_ < 0
    · rw [show (decide (e.v_ < 0)) = true by simpa using hc, show (e.v_ == -1) = true by simp; omega]
      simp only [Option.bind_some, if_true]
      exact bad
    · rw [show (decide (e.v_ < 0)) = false by simpa using hc, show (e.v_ == -1) = false by simp; omega]
      simp only [Bool.false_eq_true, if_false]
      rw [← ((da (x := w) (a := 1) (b := 7)).eq fg)]
      rcases (da (x := w) (a := 1) (b := 7)).cases with ⟨e2, hw⟩ | ⟨e2, _⟩
      · rw [e2]
        simp only [Option.bind_some, Bool.not_true, Bool.false_eq_true, if_false]
        have hsum := wI hS hP.2.1 hP.2.2.1
        rw [su hs hm hP, uF (fun x hx => by have := hP.2.2.1 x hx; omega) hm.1.1]
        simp only [bS]
        obtain ⟨c, hcc⟩ : ∃ c : Nat, e.v_ = c := ⟨e.v_.toNat, by omega⟩
        have hcn : c < s.l_.length := by omega
        have hct : c < t.e_.length := by rw [ht.1.1]; exact hcn
        refine mZ Iff.rfl (fun _ => bad) (fun _ => ?_)
        rw [hcc, aV hct]
        simp only [bS]
        have hx : 0 ≤ t.e_[c] ∧ t.e_[c] ≤ 999 := hP.2.2.1 _ (List.getElem_mem hct)
        have hT : oG (t.e_.set c (IntKind.i64.wrap (t.e_[c] + w))) s.l_.length := tc ht.1 (by rw [bp (by omega) (by omega)]; omega)
        have hlen := hm.2.1
        refine tY (fun k l i => eX t e s w t.e_[c] k l i) (fun k l i => iI t e s w t.e_[c] k l i) t.d_.length
          (fun i a b => b = a ∧ a.length = t.d_.length ∧ Bk s a ∧ ∀ j (h : j < a.length) (h2 : j < t.d_.length), i ≤ j → a[j] = t.d_[j]) (fun k a b h => ?_) (fun k a b i hi h hk => ?_) (by omega) ⟨rfl, rfl, ht.2, fun j h h2 _ => rfl⟩
        · obtain ⟨rfl, h1, h2, _⟩ := h
          rw [eX, iI, if_neg (by simp), if_neg (by simp), hcc]
          exact jc ⟨hT, h2⟩
        · obtain ⟨rfl, h1, h2, h3⟩ := h
          have hib : i < b.length := by omega
          have hia : i < s.b_.length := by have := ht.2.1; omega
          have hie : i < e.o_.length := by rw [hE.2.1]; exact hia
          have hcell := h2.2 i hib hia
          rw [eX, iI, if_pos (by simp; omega), if_pos (by simp; omega), aV hie, aV hib, aG (by omega)]
          simp only [bS]
          refine mZ Iff.rfl (fun hb0 => ?_) (fun _ => hk _ _ ⟨rfl, h1, h2, fun j h h' hj => h3 j h h' (by omega)⟩)
          have hb0 : 0 ≤ e.o_[i] := by simpa using hb0
          obtain ⟨n, hia2, hn1, hn2, hn3⟩ := hE.2.2.2 i (Nat.zero_le _) hie
          have hn : nb s.b_[i] = n := by
            have := kj (hs.1.2 _ (List.getElem_mem hia))
            rw [hn1] at this
            have := Option.some.inj this
            omega
          have hn3 := (hn3 hie).2
          obtain ⟨q, hq⟩ : ∃ q : Nat, e.o_[i] = q := ⟨e.o_[i].toNat, by omega⟩
          have hqc : q * s.l_.length + c < b[i].length := by rw [hcell.1, hn]; exact yK (by omega) hcn
          have d := nbc hS hia
          have hcl := hcell.1
          have hqn : q * s.l_.length ≤ 12 := by omega
          have hcx : b[i] = t.d_[i] := h3 i hib hi (Nat.le_refl _)
          have hcb : ∀ x ∈ b[i], 0 ≤ x ∧ x ≤ 999 := by
            rw [hcx]
            rcases hP.2.2.2.2 with g | ⟨_, g⟩
            · omega
            · exact (g i hi hia).2.1
          rw [hq, hcc, ← Int.natCast_mul, gM (by omega), ← Int.natCast_add, gM (by omega), aV hqc]
          simp only [bS]
          have hv := hcb _ (List.getElem_mem hqc)
          refine hk _ _ ⟨rfl, by simpa using h1, ⟨?_, fun j h h' => ?_⟩, fun j h h' hj => ?_⟩
          · simpa using h2.1
          · simp only [List.getElem_set, Int.toNat_natCast]
            split
            · rename_i hj
              subst hj
              exact tc hcell (by rw [bp (by omega) (by omega)]; omega)
            · exact h2.2 j (by simpa using h) h'
          · simp only [List.getElem_set, Int.toNat_natCast]
            rw [if_neg (by omega)]
            exact h3 j (by simpa using h) h' (by omega)
      · rw [e2]
        simp only [Option.bind_some, Bool.not_false, if_true]
        exact bad
  · rw [e1]
    simp only [Option.bind_some, Bool.not_false, Bool.true_or, if_true]
    exact bad
end Go.Vk
/- Natural numbers, fractions: they always answer. -/
namespace Go.Vk
abbrev T {α : Type} (o : Option α) : Prop := Tot o (fun _ => True)
theorem bC {α : Type} (v : α) : T (some v) := aE trivial
theorem Dec.t {o : Option Bool} {P : Prop} (h : Dec o P) : Tot o (fun b => b = true → P) := by
  obtain ⟨b, h1, h2⟩ := h
  exact ⟨b, h1, h2.1⟩
theorem jA {ρ : Type} {o : Option Bool} {P : Prop} (h : Tot o (fun b => b = true → P)) {g : Bool → Option ρ} {Q : ρ → Prop} (hf : Tot (g false) Q) (ht : P → Tot (g true) Q) : Tot (o.bind g) Q := by
  obtain ⟨b, rfl, hb⟩ := h
  cases b
  · exact hf
  · exact ht (hb rfl)
theorem jX {ρ : Type} {o : Option Bool} {P : Prop} (h : Tot o (fun b => b = true → P)) {f : Bool → Option ρ} {Q : ρ → Prop} (ht : Tot (f true) Q) (hf : P → Tot (f false) Q) : Tot ((o.bind fun y => some (!y)).bind f) Q := by
  obtain ⟨b, rfl, hb⟩ := h
  cases b
  · exact ht
  · exact hf (hb rfl)
theorem qM (p : List Int) : Tot (jr p) (fun b => b = true → p.length ≤ 16) := by
  unfold jr
  refine br (fun _ => aE (by simp)) (fun h => ?_)
  have h : p.length ≤ 16 := by simp at h; omega
  refine dw (fun k (_ : Unit) i => fO p k i) p.length (fun _ _ => True) (fun k _ _ => ?_) (fun k _ i hi _ hk => ?_) (by omega) (s := ()) trivial
  · show Tot (fO p (k + 1) _) _
    rw [fO, if_neg (by simp)]
    refine Tot.bind (P := fun _ => True) (br (fun _ => aE trivial) (fun h0 => ?_)) (fun _ _ => aE (fun _ => h))
    have h0 : p.length ≠ 0 := by simpa using h0
    rw [bp (by omega) (by omega)]
    exact (iT ⟨by omega, by omega⟩).bind fun _ _ => aE trivial
  · show Tot (fO p (k + 1) _) _
    rw [fO, if_pos (by simp; omega), aV hi, aG (by omega)]
    simp only [bS]
    refine jA da.t (by simp only [sS]; exact aE (by simp)) (fun _ => ?_)
    simp only [sS]
    exact hk () trivial
theorem Bn {p : List Int} (hp : p.length ≤ 1000) : Tot (lM p) (fun l => l.length ≤ p.length) := by
  unfold lM
  have key : ∀ (n k : Nat), n ≤ p.length → n < k → Tot (gW p k (n : Int)) (fun l => l.length ≤ p.length) := by
    intro n
    induction n with
    | zero =>
      intro k hn hk
      obtain ⟨k, rfl⟩ : ∃ q, k = q + 1 := ⟨k - 1, by omega⟩
      rw [gW, if_neg (by simp)]
      simp only [sS]
      refine (rV ⟨by omega, by omega, by omega⟩).bind fun l hl => ?_
      subst hl
      refine (ld (by simp)).bind fun l hl => aE ?_
      subst hl
      simp
    | succ n ih =>
      intro k hn hk
      obtain ⟨k, rfl⟩ : ∃ q, k = q + 1 := ⟨k - 1, by omega⟩
      rw [gW, if_pos (by simp), bp (by omega) (by omega), show ((n + 1 : Nat) : Int) - 1 = (n : Int) by omega, aV (show n < p.length by omega)]
      simp only [sS]
      refine br (fun _ => ih k (by omega) (by omega)) (fun _ => ?_)
      refine (rV ⟨by omega, by omega, by omega⟩).bind fun l hl => ?_
      subst hl
      refine (ld (by simp; omega)).bind fun l hl => aE ?_
      subst hl
      simp; omega
  exact key p.length be (Nat.le_refl _) (dE (by omega))
theorem qp (a b : List Int) : Tot (ji a b) (fun y => y.1.length ≤ 16) := by
  unfold ji
  have bad : Tot (some (([] : List Int), false)) (fun y => y.1.length ≤ 16) := aE (by simp)
  refine jA (qM a) (by simp only [sS]; exact bad) (fun ha => ?_)
  simp only [sS]
  refine jX (qM b) (by simp only [sS]; exact bad) (fun hb => ?_)
  simp only [sS]
  rw [bp (n := (a.length : Int) + b.length) (by omega) (by omega), bp (by omega) (by omega)]
  refine (xS ⟨by omega, by omega⟩).bind fun l hl => ?_
  subst hl
  refine dw (fu a b) a.length (fun _ l => l.length = a.length + b.length + 1) (fun k l hl => ?_) (fun k l i hi hl hk => ?_) (by omega) (by simp; omega)
  · rw [fu, if_neg (by simp)]
    refine (Bn (by omega)).bind fun l2 hl2 => br (fun _ => bad) (fun h => aE ?_)
    simp at h
    show l2.length ≤ 16
    omega
  · rw [fu, if_pos (by simp; omega)]
    refine dw (fun k2 (σ : List Int × Int) j => fx b i a (fu a b k) k2 σ.1 σ.2 j) b.length (fun _ σ => σ.1.length = a.length + b.length + 1) (fun k2 σ hσ => ?_) (fun k2 σ j hj hσ hk2 => ?_) (by omega) (s := (l, 0)) hl
    · show Tot (fx _ _ _ _ (k2 + 1) _ _ _) _
      rw [fx, if_neg (by simp), bp (n := (i : Int) + b.length) (by omega) (by omega), show (i : Int) + (b.length : Int) = ((i + b.length : Nat) : Int) by omega, aV (show i + b.length < σ.1.length by omega), aG (by omega)]
      simp only [bS]
      exact hk _ (by simpa using hσ)
    · show Tot (fx _ _ _ _ (k2 + 1) _ _ _) _
      rw [fx, if_pos (by simp; omega), bp (n := (i : Int) + j) (by omega) (by omega), show (i : Int) + (j : Int) = ((i + j : Nat) : Int) by omega, aV (show i + j < σ.1.length by omega), aV hi, aV hj, aG (i := j) (by omega)]
      simp only [bS]
      exact hk2 (_, _) (by simpa using hσ)
theorem ym (p : List Int) {i : Int} (h : 0 ≤ i) : T (kz p i) := by
  unfold kz
  exact br (fun g => (iT ⟨h, by simpa using g⟩).bind fun _ _ => bC _) (fun _ => bC _)
theorem uw (a b : List Int) : T (kC a b) := by
  unfold kC
  refine jA (qM a) (by simp only [sS]; exact bC _) (fun ha => ?_)
  simp only [sS]
  refine jX (qM b) (by simp only [sS]; exact bC _) (fun hb => ?_)
  simp only [sS]
  have hm : Tot (ol (a.length : Int) b.length) (fun m => ∃ n : Nat, m = n ∧ n ≤ 16) := by
    unfold ol
    exact br (fun _ => aE ⟨_, rfl, by omega⟩) (fun _ => aE ⟨_, rfl, by omega⟩)
  refine hm.bind fun m hm => ?_
  obtain ⟨n, rfl, hn⟩ := hm
  rw [bp (by omega) (by omega)]
  have key : ∀ (n k : Nat), n ≤ 16 → n < k → T (gU a b k ((n : Int) - 1)) := by
    intro n
    induction n with
    | zero =>
      intro k _ hk
      obtain ⟨k, rfl⟩ : ∃ q, k = q + 1 := ⟨k - 1, by omega⟩
      rw [gU, if_neg (by simp)]
      exact bC _
    | succ n ih =>
      intro k hn hk
      obtain ⟨k, rfl⟩ : ∃ q, k = q + 1 := ⟨k - 1, by omega⟩
      rw [show ((n + 1 : Nat) : Int) - 1 = (n : Int) by omega, gU, if_pos (by simp), bp (by omega) (by omega)]
      refine (ym a (by omega)).bind fun _ _ => (ym b (by omega)).bind fun _ _ => ?_
      exact br (fun _ => bC _) (fun _ => br (fun _ => bC _) (fun _ => ih k (by omega) (by omega)))
  exact key n be hn (dE (by omega))
theorem Al (a b : List Int) : T (nf a b) := by
  unfold nf
  refine jA (qM a) (by simp only [sS]; exact bC _) (fun ha => ?_)
  simp only [sS]
  refine jX (qM b) (by simp only [sS]; exact bC _) (fun hb => ?_)
  simp only [sS]
  refine Tot.bind (P := fun _ => True) ((uw a b).bind fun _ _ => bC _) (fun u _ => br (fun _ => bC _) (fun _ => ?_))
  refine dw (fun k (σ : List Int × Int) i => dY a b k σ.1 σ.2 i) a.length (fun i σ => σ.1.length = i) (fun k σ h => ?_) (fun k σ i hi h hk => ?_) (by omega) (s := ([], 0)) rfl
  · show Tot (dY _ _ (k + 1) _ _ _) _
    rw [dY, if_neg (by simp)]
    exact (Bn (by omega)).bind fun _ _ => bC _
  · show Tot (dY _ _ (k + 1) _ _ _) _
    rw [dY, if_pos (by simp; omega), aV hi]
    simp only [bS]
    refine (ym b (by omega)).bind fun _ _ => ?_
    unfold kJ
    rw [aG (by omega)]
    refine br (fun _ => ?_) (fun _ => ?_)
    · exact (ld (by simp; omega)).bind fun l hl => hk (_, _) (by subst hl; simp; omega)
    · exact (ld (by simp; omega)).bind fun l hl => hk (_, _) (by subst hl; simp; omega)
theorem yX {n : Int} (h : n ≤ 9223372036854775807) : T (mO n) := by
  unfold mO
  refine br (fun _ => bC _) (fun h0 => ?_)
  have h0 : 0 ≤ n := by simpa using h0
  have key : ∀ (d k : Nat) (n : Int) (l : List Int), 0 ≤ n → n < (16777216 : Int) ^ d → d ≤ 3 → d < k → l.length + d ≤ 100 → T (iB k n l) := by
    intro d
    induction d with
    | zero =>
      intro k n l h0 h1 _ hk hl
      obtain ⟨k, rfl⟩ : ∃ q, k = q + 1 := ⟨k - 1, by omega⟩
      rw [Int.pow_zero] at h1
      rw [iB, if_neg (by simp; omega)]
      exact bC _
    | succ d ih =>
      intro k n l h0 h1 hd hk hl
      obtain ⟨k, rfl⟩ : ∃ q, k = q + 1 := ⟨k - 1, by omega⟩
      rw [Int.pow_succ] at h1
      rw [iB]
      refine br (fun _ => (ld (by simp; omega)).bind fun l2 hl2 => ?_) (fun _ => bC _)
      subst hl2
      have hb : (16777216 : Int) ^ d ≤ 16777216 ^ 2 := by
        rcases (show d = 0 ∨ d = 1 ∨ d = 2 by omega) with rfl | rfl | rfl <;> decide
      have hb2 : (16777216 : Int) ^ 2 = 281474976710656 := by decide
      rw [hb2] at hb
      have hq : Int.tdiv n 16777216 = n / 16777216 := Int.tdiv_eq_ediv_of_nonneg h0
      have hq1 : 0 ≤ n / 16777216 := by omega
      have hq2 : n / 16777216 < 16777216 ^ d := by
        generalize (16777216 : Int) ^ d = z at h1 hb
        omega
      rw [hq, bp (by omega) (by omega)]
      exact ih k _ _ hq1 hq2 (by omega) (by omega) (by simp; omega)
  exact key 3 be n [] h0 (by have : (16777216 : Int) ^ 3 = 4722366482869645213696 := (by decide); omega) (by omega) (dE (by omega)) (by simp)
theorem pE {a b : Int} (ha : a ≤ 9223372036854775807) (hb : b ≤ 9223372036854775807) : T (fS a b) := by
  unfold fS
  exact (yX ha).bind fun _ _ => (yX hb).bind fun _ _ => (qp _ _).bind fun _ _ => bC _
def AK (f : bd) : Prop := (0 ≤ f.D_ ∧ f.D_ ≤ 4000000000000000) ∧ 1 ≤ f.C_ ∧ f.C_ ≤ 4000000000000000
theorem pe (f : bd) : Dec (io f) (AK f) := by
  unfold io AK
  simp only [yu]
  exact Dh da fun _ => da
theorem pg (a b : bd) : T (im a b) := by
  unfold im
  refine jA (pe a).t (by simp only [sS]; exact bC _) (fun ha => ?_)
  simp only [sS]
  refine jX (pe b).t (by simp only [sS]; exact bC _) (fun hb => ?_)
  simp only [sS]
  have := ha.1; have := ha.2; have := hb.1; have := hb.2
  exact (pE (by omega) (by omega)).bind fun _ _ => (pE (by omega) (by omega)).bind fun _ _ => (uw _ _).bind fun _ _ => bC _
theorem yZ (a b : bd) : T (lZ a b) := by
  unfold lZ
  refine jA (pe a).t (by simp only [sS]; exact bC _) (fun ha => ?_)
  simp only [sS]
  refine jX (pe b).t (by simp only [sS]; exact bC _) (fun hb => ?_)
  simp only [sS]
  have := ha.1; have := ha.2; have := hb.1; have := hb.2
  refine Tot.bind (P := fun _ => True) ((pg a b).bind fun _ _ => bC _) (fun u _ => br (fun _ => bC _) (fun _ => ?_))
  exact (pE (by omega) (by omega)).bind fun _ _ => (pE (by omega) (by omega)).bind fun _ _ => (Al _ _).bind fun _ _ => (pE (by omega) (by omega)).bind fun _ _ => bC _
theorem Fo {a b : Int} (ha : 0 ≤ a) (hb : 1 ≤ b) (hb2 : b ≤ 4000000000000000) : Tot (qm a b) (fun g => 1 ≤ g) := by
  unfold qm
  rw [if_neg (by simp; omega)]
  have key : ∀ (d k a b : Nat), 1 ≤ a + b → b < 2 ^ d → 2 * d + 1 < k → Tot (jk k (a : Int) (b : Int)) (fun g => 1 ≤ g) := by
    intro d
    induction d with
    | zero =>
      intro k a b h1 h2 hk
      obtain ⟨k, rfl⟩ : ∃ q, k = q + 1 := ⟨k - 1, by omega⟩
      rw [jk, if_neg (by simp; omega)]
      exact aE (by omega)
    | succ d ih =>
      intro k a b h1 h2 hk
      obtain ⟨k, rfl⟩ : ∃ q, k = q + 2 := ⟨k - 2, by omega⟩
      rw [jk]
      refine br (fun h0 => ?_) (fun h0 => aE (by simp at h0; omega))
      have h0 : 0 < b := by simp at h0; omega
      have e1 : rem (a : Int) (b : Int) = some ((a % b : Nat) : Int) := by
        unfold rem
        rw [if_neg (by omega), Int.tmod_eq_emod_of_nonneg (by omega)]
        rfl
      rw [e1]
      simp only [bS]
      have hr := Nat.mod_lt a h0
      generalize a % b = r at hr
      rw [jk]
      refine br (fun h3 => ?_) (fun _ => aE (by omega))
      have h3 : 0 < r := by simp at h3; omega
      have e2 : rem (b : Int) (r : Int) = some ((b % r : Nat) : Int) := by
        unfold rem
        rw [if_neg (by omega), Int.tmod_eq_emod_of_nonneg (by omega)]
        rfl
      rw [e2]
      simp only [bS]
      have hr2 := Nat.mod_lt b h3
      have hq : 1 ≤ b / r := Nat.div_pos (by omega) h3
      have hm := Nat.div_add_mod b r
      have hle : r ≤ r * (b / r) := Nat.le_mul_of_pos_right _ hq
      refine ih k r (b % r) (by omega) ?_ (by omega)
      rw [Nat.pow_succ] at h2
      omega
  have := key 60 be a.toNat b.toNat (by omega) (by have : (2 : Nat) ^ 60 = 1152921504606846976 := (by decide); omega) (dE (by omega))
  rw [show ((a.toNat : Nat) : Int) = a by omega, show ((b.toNat : Nat) : Int) = b by omega] at this
  exact this
theorem Ai {k : IntKind} {x y : Int} (h : y ≠ 0) : T (quo k x y) := by
  unfold quo
  rw [if_neg h]
  exact bC _
theorem ze (f : bd) : T (mH f) := by
  unfold mH
  refine jA (pe f).t (by simp only [sS]; exact bC _) (fun h => ?_)
  simp only [sS]
  have := h.1; have := h.2
  exact (Fo (by omega) (by omega) (by omega)).bind fun g hg => (Ai (by omega)).bind fun _ _ => (Ai (by omega)).bind fun _ _ => bC _
theorem BP {l : List Int} (h : l.length ≤ 1048576) : T (jS l) := by
  unfold jS
  refine dw (gS l) l.length (fun _ _ => True) (fun k s _ => ?_) (fun k s i hi _ hk => ?_) (by omega) trivial
  · rw [gS, if_neg (by simp)]
    exact bC _
  · rw [gS, if_pos (by simp; omega), aV hi, aG (by omega)]
    exact hk _ trivial
theorem vL (l : List Int) : T (lc l) := by
  unfold lc
  refine br (fun _ => bC _) (fun h => ?_)
  have h : l.length ≤ 3 := by simp at h; omega
  refine dw (gj l) l.length (fun _ _ => True) (fun k s _ => ?_) (fun k s i hi _ hk => ?_) (by omega) trivial
  · rw [gj, if_neg (by simp)]
    exact bC _
  · rw [gj, if_pos (by simp; omega), aV hi, aG (by omega)]
    simp only [bS]
    refine jA da.t (by simp only [sS]; exact bC _) (fun _ => ?_)
    simp only [sS]
    exact hk _ trivial
end Go.Vk
