/- Rules, members, forests, states: tested alike. -/
import Derived.Test.YthdoeealefnabaaGreatDoorPSt
import Derived.Test.YthdoeealefnabaaGreatDoorRF
import Derived.Test.YthdoeealefnabaaGreatDoorVkL
import Derived.Test.YthdoeealefnabaaGreatDoorVkU
import Derived.Test.YthdoeealefnabaaGreatDoorVkG
import Derived.Test.YthdoeealefnabaaGreatDoorPT
import Derived.Lib.ItoaLen
namespace Go.Vk
theorem wS (c y : Bool) : (if c = true then some y else some false : Option Bool) = some (c && y) := by cases c <;> rfl
theorem rL (o : Option Bool) : (o.bind fun y => some y) = o := by cases o <;> rfl
def BU (r : cO) : Prop := (1 ≤ r.L_ ∧ r.L_ ≤ 9) ∧ (0 ≤ r.K_ ∧ r.K_ ≤ 999) ∧ (1 ≤ r.M_ ∧ r.M_ ≤ 200) ∧ (0 ≤ r.f_ ∧ r.f_ ≤ 6) ∧ (1 ≤ r.b_ ∧ r.b_ ≤ 31) ∧ (62 ≤ r.G_ ∧ r.G_ ≤ 2000)
theorem EP (r : cO) : Dec (nH r) (BU r) := by
  unfold nH bn BU
  simp only [Option.bind_some, wS]
  exact ⟨_, rfl, by simp [and_assoc]⟩
theorem EX (r : cO) : Dec (nE r) (BU r) := by
  unfold nE aZ BU
  simp only [Option.bind_some, wS]
  exact ⟨_, rfl, by simp [and_assoc]⟩
def BS (c : bi) : Prop := kn c.p_ ∧ BU c.c_ ∧ (1 ≤ c.j_ ∧ c.j_ ≤ 4) ∧ (1 ≤ c.N_ ∧ c.N_ ≤ (c.p_.d_.length : Int)) ∧ (c.O_ = 1 ∨ c.O_ = 6) ∧ (1 ≤ c.s_ ∧ c.s_ ≤ 9) ∧ (1 ≤ c.t_ ∧ c.t_ ≤ 9) ∧ c.s_ ≤ c.t_
theorem Ki (x : Int) : Dec ((kG x).bind fun y => some (decide ((y.length : Int) > 0))) (x = 1 ∨ x = 6) := by
  unfold kG
  by_cases h1 : x = 1
  · rw [if_pos (by simpa using h1)]; exact lC (.inl h1)
  · rw [if_neg (by simpa using h1)]
    by_cases h6 : x = 6
    · rw [if_pos (by simpa using h6)]; exact lC (.inr h6)
    · rw [if_neg (by simpa using h6)]; exact bF (by omega)
theorem Ll (x : Int) : Dec ((kE x).bind fun y => some (!y.2)) (x = 1 ∨ x = 6) := by
  unfold kE
  by_cases h1 : x = 1
  · rw [if_pos (by simpa using h1)]; exact lC (.inl h1)
  · rw [if_neg (by simpa using h1)]
    by_cases h6 : x = 6
    · rw [if_pos (by simpa using h6)]; exact lC (.inr h6)
    · rw [if_neg (by simpa using h6)]; exact bF (by omega)
theorem Fq {c : bi} (hc : cB c.p_) : Dec (nI c) (BS c) := by
  unfold nI BS
  rcases (pb (qp hc)).cases with ⟨e, hS⟩ | ⟨e, hS⟩
  · rw [e]
    simp only [Option.bind_some, if_true]
    rcases (EP c.c_).cases with ⟨e, hR⟩ | ⟨e, hR⟩
    · rw [e]
      simp only [Option.bind_some, if_true]
      rcases (iP (x := c.j_) (a := 1) (b := 4)).cases with ⟨e, h1⟩ | ⟨e, h1⟩
      · rw [e]
        simp only [Option.bind_some, if_true]
        rcases (iP (x := c.N_) (a := 1) (b := (c.p_.d_.length : Int))).cases with ⟨e, h2⟩ | ⟨e, h2⟩
        · rw [e]
          simp only [Option.bind_some, if_true]
          rcases (Ki c.O_).cases with ⟨e, h3⟩ | ⟨e, h3⟩
          · rw [e]
            simp only [Option.bind_some, if_true]
            rcases (iP (x := c.s_) (a := 1) (b := 9)).cases with ⟨e, h4⟩ | ⟨e, h4⟩
            · rw [e]
              simp only [Option.bind_some, if_true]
              rcases (iP (x := c.t_) (a := 1) (b := 9)).cases with ⟨e, h5⟩ | ⟨e, h5⟩
              · rw [e]
                simp only [Option.bind_some, Bool.true_and]
                refine ⟨_, rfl, ?_⟩
                rw [decide_eq_true_iff]
                exact ⟨fun g => ⟨hS, hR, h1, h2, h3, h4, h5, g⟩, fun g => g.2.2.2.2.2.2.2⟩
              · rw [e]; exact bF fun g => h5 g.2.2.2.2.2.2.1
            · rw [e]; exact bF fun g => h4 g.2.2.2.2.2.1
          · rw [e]; exact bF fun g => h3 g.2.2.2.2.1
        · rw [e]; exact bF fun g => h2 g.2.2.2.1
      · rw [e]; exact bF fun g => h1 g.2.2.1
    · rw [e]; exact bF fun g => hR g.2.1
  · rw [e]; exact bF fun g => hS g.1
theorem Ew {c : bi} (hc : cB c.p_) : Dec (nq c) (BS c) := by
  unfold nq BS
  rcases (pp (qp hc)).cases with ⟨e, hS⟩ | ⟨e, hS⟩
  · rw [e]
    simp only [Option.bind_some, if_true]
    rcases (EX c.c_).cases with ⟨e, hR⟩ | ⟨e, hR⟩
    · rw [e]
      simp only [Option.bind_some, if_true]
      rcases (fE (x := c.j_) (a := 1) (b := 4)).cases with ⟨e, h1⟩ | ⟨e, h1⟩
      · rw [e]
        simp only [Option.bind_some, if_true]
        rcases (fE (x := c.N_) (a := 1) (b := (c.p_.d_.length : Int))).cases with ⟨e, h2⟩ | ⟨e, h2⟩
        · rw [e]
          simp only [Option.bind_some, if_true]
          rcases (Ll c.O_).cases with ⟨e, h3⟩ | ⟨e, h3⟩
          · rw [e]
            simp only [Option.bind_some, if_true]
            rcases (fE (x := c.s_) (a := 1) (b := 9)).cases with ⟨e, h4⟩ | ⟨e, h4⟩
            · rw [e]
              simp only [Option.bind_some, if_true]
              rcases (fE (x := c.t_) (a := 1) (b := 9)).cases with ⟨e, h5⟩ | ⟨e, h5⟩
              · rw [e]
                simp only [Option.bind_some, Bool.true_and]
                refine ⟨_, rfl, ?_⟩
                rw [decide_eq_true_iff]
                exact ⟨fun g => ⟨hS, hR, h1, h2, h3, h4, h5, g⟩, fun g => g.2.2.2.2.2.2.2⟩
              · rw [e]; exact bF fun g => h5 g.2.2.2.2.2.2.1
            · rw [e]; exact bF fun g => h4 g.2.2.2.2.2.1
          · rw [e]; exact bF fun g => h3 g.2.2.2.2.1
        · rw [e]; exact bF fun g => h2 g.2.2.2.1
      · rw [e]; exact bF fun g => h1 g.2.2.1
    · rw [e]; exact bF fun g => hR g.2.1
  · rw [e]; exact bF fun g => hS g.1
def qg (l : List au) : Nat → Int
  | 0 => 0
  | i + 1 => if i = 0 ∨ (l.getD i default).f_ > qg l i then (l.getD i default).f_ else qg l i
theorem Nf {l : List au} {i : Nat} (h : i < l.length) : l.getD i default = l[i] := by simp [h]
theorem Im {t : ap} (hl : t.b_.length ≤ 1048576) : ov t = some (qg t.b_ t.b_.length) := by
  unfold ov
  refine uV (Lp := fun k i => dQ t k (qg t.b_ i) (i : Int)) (n := t.b_.length) (fun k => ?_) (fun k i hi => ?_) (by omega)
  · show dQ t (k + 1) _ _ = _
    rw [dQ, if_neg (by simp)]
  · show dQ t (k + 1) _ _ = dQ t k _ _
    rw [dQ, if_pos (by simp; omega), bf hi, aD (by omega)]
    simp only [Option.bind_some, qg]
    rw [Nf hi]
    by_cases h0 : i = 0
    · rw [if_pos (by simp only [beq_iff_eq]; omega), if_pos (.inl h0)]
      simp only [Option.bind_some, if_true]
    · rw [if_neg (by simp only [beq_iff_eq]; omega)]
      simp only [bS]
      by_cases h1 : t.b_[i].f_ > qg t.b_ i
      · rw [if_pos (by simpa using h1), if_pos (.inr h1)]
      · rw [if_neg (by simpa using h1), if_neg (fun g => g.elim h0 h1)]
theorem HM {t : ap} (hl : t.b_.length ≤ 1048576) : oR t = some (qg t.b_ t.b_.length) := by
  unfold oR
  by_cases h0 : t.b_.length = 0
  · rw [if_pos (by simp only [beq_iff_eq]; omega), h0]; rfl
  · rw [if_neg (by simp only [beq_iff_eq]; omega), show (0 : Int) = ((0 : Nat) : Int) from rfl, bf (show 0 < t.b_.length by omega)]
    simp only [bS]
    have h := uV (Lp := fun k i => ej t k (i : Int) (if i = 0 then (t.b_[0]'(by omega)).f_ else qg t.b_ i)) (n := t.b_.length) (fin := some (qg t.b_ t.b_.length)) (fun k => by
      show ej t (k + 1) _ _ = _
      rw [ej, if_neg (by simp), if_neg h0]) (fun k i hi => by
      show ej t (k + 1) _ _ = ej t k _ _
      rw [ej, if_pos (by simp; omega), bf hi, aD (by omega)]
      simp only [bS]
      congr 1
      rw [if_neg (Nat.succ_ne_zero i)]
      simp only [qg]
      rw [Nf hi]
      by_cases hi0 : i = 0
      · subst hi0
        rw [if_pos rfl, if_pos (show (0 = 0 ∨ _) from .inl rfl), if_neg (Int.lt_irrefl _)]
      · rw [if_neg hi0]
        by_cases h1 : t.b_[i].f_ > qg t.b_ i
        · rw [if_pos h1, if_pos (Or.inr h1)]
        · rw [if_neg h1, if_neg (fun g : i = 0 ∨ _ => g.elim hi0 h1)]) (by omega)
    exact h
def rT (n : au) : Int := if n.y_ = true then 2 + (n.i_.h_.map fun c => (c.length : Int)).sum else 1
def AL (t : ap) : Int := (t.b_.map rT).sum
theorem wG {α ρ : Type} {p : List α} (v : α → Int) (a : Int) (Lp : Nat → Int → Int → Option ρ) (fin : Int → Option ρ) (hz : ∀ k s, Lp (k + 1) s (p.length : Int) = fin s)
    (hs : ∀ k s (i : Nat) (h : i < p.length), Lp (k + 1) s (i : Int) = Lp k (IntKind.i64.wrap (s + v p[i])) ((i + 1 : Nat) : Int)) (hb : ∀ x ∈ p, 0 ≤ v x ∧ v x ≤ 1000000000) (hl : p.length ≤ 1000000000) (ha : 0 ≤ a ∧ a ≤ 1000000000) : Lp aK a 0 = fin (a + (p.map v).sum) := by
  have := uV (Lp := fun k i => Lp k (a + ((p.map v).take i).sum) (i : Int)) (n := p.length) (fin := fin (a + (p.map v).sum)) (fun k => by
    show Lp _ _ _ = _
    rw [hz, List.take_of_length_le (by simp)]) (fun k i hi => by
    show Lp _ _ _ = Lp _ _ _
    have h1 := ph (p := (p.map v).take (i + 1)) (b := 1000000000) (fun x hx => by
      obtain ⟨y, hy, rfl⟩ := List.mem_map.1 (DD hx)
      exact hb y hy)
    rw [hs _ _ _ hi]
    rw [wA (by simpa using hi)] at h1 ⊢
    rw [List.getElem_map] at h1 ⊢
    have h2 : ((p.map v).take (i + 1)).length ≤ 1000000000 := by simp; omega
    rw [cd (by omega) (by omega), Int.add_assoc]) (by omega)
  simpa using this
theorem GL {n : au} (hn : rb n) (h : n.i_.h_.length ≤ 5) : 0 ≤ rT n ∧ rT n ≤ 10000000 := by
  unfold rT
  split
  · have hc := hn.2.2.2.2.1.2
    have := ph (p := n.i_.h_.map fun c => (c.length : Int)) (b := 1048576) (fun x hx => by
      obtain ⟨y, hy, rfl⟩ := List.mem_map.1 hx
      have := (hc.2 y hy).1
      omega)
    simp only [List.length_map] at this
    omega
  · omega
theorem HW {n : au} (hn : rb n) (h : n.i_.h_.length ≤ 5) : oo n = some (rT n) := by
  unfold oo rT
  have hc := hn.2.2.2.2.1.2
  cases hL : n.y_
  · rfl
  · simp only [Bool.not_true, Bool.false_eq_true, if_true, if_false]
    exact wG (p := n.i_.h_) (fun c => (c.length : Int)) 2 (ic n) some (fun k s => by
      show (if _ then _ else _) = _
      rw [if_neg (by simp)]) (fun k s i hi => by
      rw [ic, if_pos (by simp; omega), bf hi, aD (by omega)]
      rfl) (fun x hx => by have := (hc.2 x hx).1; omega) (by omega) (by omega)
theorem HK {n : au} (hn : rb n) (h : n.i_.h_.length ≤ 5) : oE n = some (rT n) := by
  unfold oE rT
  have hc := hn.2.2.2.2.1.2
  cases hL : n.y_
  · rfl
  · simp only [Bool.not_true, Bool.false_eq_true, if_true, if_false]
    exact wG (p := n.i_.h_) (fun c => (c.length : Int)) 2 (fun k s i => fC n k i s) some (fun k s => by
      show (if _ then _ else _) = _
      rw [if_neg (by simp)]) (fun k s i hi => by
      show fC n (k + 1) _ _ = fC n k _ _
      rw [fC, if_pos (by simp; omega), bf hi, aD (by omega)]
      rfl) (fun x hx => by have := (hc.2 x hx).1; omega) (by omega) (by omega)
theorem zz {s : am} {t : ap} (hT : yl s t) {i : Nat} (hi : i < t.b_.length) : t.b_[i].i_.h_.length ≤ 5 := by
  have h := (hT.2.2.2 i hi hi).1.2.2.1
  have := hT.1.1
  rcases h.2.2.2.2 with g | g
  · omega
  · have := g.1; omega
theorem Bs {s : am} {t : ap} (ht : kR t) (hT : yl s t) : lI t = some (AL t) := by
  unfold lI AL
  have hn := hT.2.1
  have h := wG (p := t.b_) rT 0 (gg t) some (fun k s => by
    show (if _ then _ else _) = _
    rw [if_neg (by simp)]) (fun k s i hi => by
    rw [gg, if_pos (by simp; omega), bf hi, aD (by omega)]
    simp only [bS]
    rw [HW (ht.1.2 _ (List.getElem_mem hi)) (zz hT hi)]
    rfl) (fun x hx => by
      obtain ⟨i, hi, rfl⟩ := List.getElem_of_mem hx
      have := GL (ht.1.2 _ (List.getElem_mem hi)) (zz hT hi)
      omega) (by omega) (by omega)
  rw [Int.zero_add] at h
  exact h
theorem BI {s : am} {t : ap} (ht : kR t) (hT : yl s t) : lM t = some (AL t) := by
  unfold lM AL
  have hn := hT.2.1
  have h := wG (p := t.b_) rT 0 (gd t) some (fun k s => by
    show (if _ then _ else _) = _
    rw [if_neg (by simp)]) (fun k s i hi => by
    rw [gd, if_pos (by simp; omega), bf hi, aD (by omega)]
    simp only [bS]
    rw [HK (ht.1.2 _ (List.getElem_mem hi)) (zz hT hi)]
    rfl) (fun x hx => by
      obtain ⟨i, hi, rfl⟩ := List.getElem_of_mem hx
      have := GL (ht.1.2 _ (List.getElem_mem hi)) (zz hT hi)
      omega) (by omega) (by omega)
  rw [Int.zero_add] at h
  exact h
def BT (s : am) (r : cO) (t : ap) : Prop := yl s t ∧ BU r ∧ (t.b_.length : Int) ≤ r.b_ ∧ qg t.b_ t.b_.length ≤ r.f_ ∧ AL t ≤ r.G_
theorem DC {s : am} {r : cO} {t : ap} (hs : cB s) (ht : kR t) : Dec (qL s r t) (BT s r t) := by
  unfold qL BT
  rcases (Jg hs ht).cases with ⟨e, hT⟩ | ⟨e, hT⟩
  · rw [e]
    simp only [Option.bind_some, if_true]
    rcases (EP r).cases with ⟨e, hR⟩ | ⟨e, hR⟩
    · rw [e, Im ht.1.1, Bs ht hT]
      simp only [Option.bind_some, Bool.true_and, wS]
      refine ⟨_, rfl, ?_⟩
      simp [hT, hR, and_assoc]
    · rw [e]; exact bF fun g => hR g.2.1
  · rw [e]; exact bF fun g => hT g.1
theorem Fe {s : am} {r : cO} {t : ap} (hs : cB s) (ht : kR t) : Dec (qE s r t) (BT s r t) := by
  unfold qE BT
  rcases (Ji hs ht).cases with ⟨e, hT⟩ | ⟨e, hT⟩
  · rw [e]
    simp only [Option.bind_some, if_true]
    rcases (EX r).cases with ⟨e, hR⟩ | ⟨e, hR⟩
    · rw [e, HM ht.1.1, BI ht hT]
      simp only [Option.bind_some, Bool.true_and, wS]
      refine ⟨_, rfl, ?_⟩
      simp [hT, hR, and_assoc]
    · rw [e]; exact bF fun g => hR g.2.1
  · rw [e]; exact bF fun g => hT g.1
def Jt (d : cf) : Prop := FL d.s_ ∧ FL d.t_
theorem KX (d : cf) : Dec (qO d) (Jt d) := by
  unfold qO Jt
  simp only [rL]
  exact (GX d.s_).and fun _ => GX d.t_
theorem Kn {d : cf} (hd : zw d) : Dec (ra d) (Jt d) := by
  unfold ra Jt
  simp only [rL]
  exact (Hj hd.1).and fun _ => Hj hd.2
def CN (t : ap) : Prop := t.b_.length = 0 ∧ t.A_ = 0
theorem IW (t : ap) : Dec (mG t (ap.mk [] 0)) (CN t) := by
  unfold mG CN
  simp only [rL]
  by_cases h : t.A_ = 0
  · rw [if_pos (by simpa using h)]
    unfold bt
    by_cases h0 : t.b_.length = 0
    · rw [if_neg (by simp [h0])]
      obtain ⟨k, hk⟩ : ∃ k, aK = k + 1 := ⟨aK - 1, by have := fe (n := 0) (by omega); omega⟩
      rw [hk, aN, if_neg (by simp [List.length_eq_zero_iff.1 h0])]
      exact lC ⟨h0, h⟩
    · rw [if_pos (by simp; exact fun e => h0 (by rw [e]; rfl))]
      exact bF fun g => h0 g.1
  · rw [if_neg (by simpa using h)]
    exact bF fun g => h g.2
def rE (c : bi) (m : az) : Prop := BS c ∧ BT c.p_ c.c_ m.F_ ∧ Jt m.H_ ∧ (m.S_ = true → BT c.p_ c.c_ m.w_) ∧ (m.S_ = false → CN m.w_)
theorem Gg {c : bi} {m : az} (hc : cB c.p_) (hm : rc m) : Dec (mM c m) (rE c m) := by
  unfold mM rE
  rcases (Fq hc).cases with ⟨e, hC⟩ | ⟨e, hC⟩
  · rw [e]
    simp only [Option.bind_some, Bool.not_true, Bool.false_eq_true, if_false]
    rcases (DC (r := c.c_) hc hm.1).cases with ⟨e, hF⟩ | ⟨e, hF⟩
    · rw [e]
      simp only [Option.bind_some, Bool.not_true, Bool.false_eq_true, if_false]
      rcases (KX m.H_).cases with ⟨e, hD⟩ | ⟨e, hD⟩
      · rw [e]
        simp only [Option.bind_some, Bool.not_true, Bool.false_eq_true, if_false, rL]
        by_cases hy : m.S_ = true
        · rw [if_pos hy]
          exact (DC hc hm.2.2.1).of_iff ⟨fun g => ⟨hC, hF, hD, fun _ => g, fun h => by rw [hy] at h; cases h⟩, fun g => g.2.2.2.1 hy⟩
        · rw [if_neg hy]
          have hy' : m.S_ = false := by simpa using hy
          refine ⟨_, rfl, ?_⟩
          rw [Bool.and_eq_true, beq_iff_eq, beq_iff_eq]
          exact ⟨fun g => ⟨hC, hF, hD, fun h => absurd h hy, fun _ => ⟨by omega, g.2⟩⟩, fun g => ⟨by have := (g.2.2.2.2 hy').1; omega, (g.2.2.2.2 hy').2⟩⟩
      · rw [e]; exact bF fun g => hD g.2.2.1
    · rw [e]; exact bF fun g => hF g.2.1
  · rw [e]; exact bF fun g => hC g.1
theorem Ga {c : bi} {m : az} (hc : cB c.p_) (hm : rc m) : Dec (mv c m) (rE c m) := by
  unfold mv rE
  rcases (Ew hc).cases with ⟨e, hC⟩ | ⟨e, hC⟩
  · rw [e]
    simp only [Option.bind_some, Bool.not_true, Bool.false_eq_true, if_false]
    rcases (Fe (r := c.c_) hc hm.1).cases with ⟨e, hF⟩ | ⟨e, hF⟩
    · rw [e]
      simp only [Option.bind_some, Bool.not_true, Bool.false_eq_true, if_false]
      rcases (Kn hm.2.2.2).cases with ⟨e, hD⟩ | ⟨e, hD⟩
      · rw [e]
        simp only [Option.bind_some, Bool.not_true, Bool.false_eq_true, if_false, rL]
        by_cases hy : m.S_ = true
        · rw [if_pos hy]
          exact (Fe hc hm.2.2.1).of_iff ⟨fun g => ⟨hC, hF, hD, fun _ => g, fun h => by rw [hy] at h; cases h⟩, fun g => g.2.2.2.1 hy⟩
        · rw [if_neg hy]
          have hy' : m.S_ = false := by simpa using hy
          exact (IW m.w_).of_iff ⟨fun g => ⟨hC, hF, hD, fun h => absurd h hy, fun _ => g⟩, fun g => g.2.2.2.2 hy'⟩
      · rw [e]; exact bF fun g => hD g.2.2.1
    · rw [e]; exact bF fun g => hF g.2.1
  · rw [e]; exact bF fun g => hC g.1
def wn (c : bi) (f : bP) : Prop := BS c ∧ (f.j_.length : Int) = c.j_ ∧ ∀ m ∈ f.j_, rE c m
theorem FD {c : bi} {f : bP} (hc : cB c.p_) (hf : qM f) : Dec (mu c f) (wn c f) := by
  unfold mu wn
  have hl : f.j_.length ≤ 1048576 := hf.1
  rcases (Fq hc).cases with ⟨e, hC⟩ | ⟨e, hC⟩
  · rw [e]
    simp only [Option.bind_some, Bool.not_true, Bool.false_or]
    by_cases hn : (f.j_.length : Int) = c.j_
    · rw [if_neg (by simpa using hn)]
      refine (oy (Lp := gq f c) (n := f.j_.length) (Q := fun i => ∀ h : i < f.j_.length, rE c f.j_[i]) 0 (fun k i hi => ?_) (fun k i _ hi => ?_) (by omega)).of_iff ⟨fun g => ⟨hC, hn, fun m hm => by
        obtain ⟨i, hi, rfl⟩ := List.getElem_of_mem hm
        exact g i (Nat.zero_le _) hi hi⟩, fun g i _ hi _ => g.2.2 _ (List.getElem_mem hi)⟩
      · show (if _ then _ else _) = _
        rw [if_neg (by simp; omega)]
      · rw [gq, if_pos (by simp; omega), bf hi, aD (by omega)]
        simp only [bS]
        rcases (Gg hc (hf.2 _ (List.getElem_mem hi))).cases with ⟨e, h⟩ | ⟨e, h⟩
        · rw [e]; exact .inl ⟨fun _ => h, rfl⟩
        · rw [e]; exact .inr ⟨fun g => h (g hi), rfl⟩
    · rw [if_pos (by simpa using hn)]
      exact bF fun g => hn g.2.1
  · rw [e]; exact bF fun g => hC g.1
theorem Fs9 {c : bi} {f : bP} (hc : cB c.p_) (hf : qM f) : Dec (mD c f) (wn c f) := by
  unfold mD wn
  have hl : f.j_.length ≤ 1048576 := hf.1
  rcases (Ew hc).cases with ⟨e, hC⟩ | ⟨e, hC⟩
  · rw [e]
    simp only [Option.bind_some, Bool.true_and, rL]
    by_cases hn : (f.j_.length : Int) = c.j_
    · rw [if_pos (by simpa using hn)]
      have hf2 : Dec (br f.j_ c) (∃ i, i < f.j_.length ∧ ∀ h : i < f.j_.length, ¬ rE c f.j_[i]) := by
        unfold br bT
        refine pO (Lp := aS f.j_ c) (n := f.j_.length) (fun k i hi => ?_) (fun k i hi => ?_) (by omega)
        · show (if _ then _ else _) = _
          rw [if_neg (by simp; omega)]
        · rw [aS, if_pos (by simp; omega), bf hi, aD (by omega)]
          unfold mY
          simp only [bS]
          rcases (Ga hc (hf.2 _ (List.getElem_mem hi))).cases with ⟨e, h⟩ | ⟨e, h⟩
          · rw [e]; exact .inr ⟨fun g => g hi h, rfl⟩
          · rw [e]; exact .inl ⟨fun _ => h, rfl⟩
      rcases hf2.cases with ⟨e, i, hi, h⟩ | ⟨e, h⟩
      · rw [e]; exact bF fun g => h hi (g.2.2 _ (List.getElem_mem hi))
      · rw [e]; exact lC ⟨hC, hn, fun m hm => by
          obtain ⟨i, hi, rfl⟩ := List.getElem_of_mem hm
          exact Classical.byContradiction fun g => h ⟨i, hi, fun _ => g⟩⟩
    · rw [if_neg (by simpa using hn)]
      exact bF fun g => hn g.2.1
  · rw [e]; exact bF fun g => hC g.1
def Ao (st : aP) : Prop := wn st.a_ st.J_ ∧ AI (st.a_.p_.m_.length : Int) st.v_
theorem Cr {st : aP} (h : oX st) : Dec (oz st) (Ao st) := by
  unfold oz Ao
  simp only [rL]
  exact (FD h.1.1 h.2.1).and fun _ => HE h.2.2
theorem Cd {st : aP} (h : oX st) : Dec (mj st) (Ao st) := by
  unfold mj Ao
  simp only [rL]
  exact (Fs9 h.1.1 h.2.1).and fun _ => HT h.2.2
end Go.Vk
/- Lists of words and of numbers: copied, compared, marked. -/
namespace Go.Vk
theorem Iz {α : Type} (p : List α) : (p.map fun _ => 1).sum = p.length := by induction p with | nil => rfl | cons x p ih => simp [ih]; omega
end Go.Vk
/- Numbers and lists put into bytes. -/
namespace Go.Vk
def vQ (n : Nat) : List Int := if h : n < 128 then [(n : Int)] else ((n % 128 + 128 : Nat) : Int) :: vQ (n / 128)
termination_by n
decreasing_by omega
theorem Dy {n : Nat} (h : n < 128) : vQ n = [(n : Int)] := by unfold vQ; rw [dif_pos h]
theorem GT {n : Nat} (h : ¬ n < 128) : vQ n = ((n % 128 + 128 : Nat) : Int) :: vQ (n / 128) := by rw [vQ, dif_neg h]
theorem IH {n : Nat} (h : n < 256) : IntKind.u8.wrap (n : Int) = n := by
  unfold IntKind.wrap
  simp [IntKind.bits, IntKind.signed]
  omega
theorem IZ : ∀ (d k n : Nat) (l : List Int), n < 128 ^ (d + 1) → n < 9223372036854775808 → d < k → l.length + d ≤ 1000000 →
    gH k (n : Int) l = some (l ++ vQ n) ∧ gL k (n : Int) l = some (l ++ vQ n, false) ∧ (vQ n).length ≤ d + 1 := by
  intro d
  induction d with
  | zero =>
    intro k n l hn a hk hl
    obtain ⟨k, rfl⟩ : ∃ q, k = q + 1 := ⟨k - 1, by omega⟩
    unfold gH gL
    simp at hn
    rw [if_neg (by simp; omega), if_neg (by simp; omega), IH (by omega), Dy hn, eh (by simp; omega)]
    exact ⟨rfl, rfl, by simp⟩
  | succ d ih =>
    intro k n l hn a hk hl
    obtain ⟨k, rfl⟩ : ∃ q, k = q + 1 := ⟨k - 1, by omega⟩
    unfold gH gL
    by_cases hc : n < 128
    · rw [if_neg (by simp; omega), if_neg (by simp; omega), IH (by omega), Dy hc, eh (by simp; omega)]
      exact ⟨rfl, rfl, by simp⟩
    · rw [if_pos (by simp; omega), if_pos (by simp; omega)]
      rw [MH n a, NQ _ (by omega), Qu]
      have e1 : IntKind.i64.wrap (Int.tdiv (n : Int) 128) = ((n / 128 : Nat) : Int) := by
        rw [show (128 : Int) = ((128 : Nat) : Int) from rfl, si, jV (by omega)]
      have e2 : Int.tmod (n : Int) 128 = ((n % 128 : Nat) : Int) := sg n 128
      have e3 : IntKind.i64.wrap (((n % 128 : Nat) : Int) + 128) = ((n % 128 + 128 : Nat) : Int) := by rw [cd (by omega) (by omega)]; simp
      rw [e1, e2, e3, IH (by omega), eh (by simp; omega)]
      simp only [bS]
      obtain ⟨h1, h2, h3⟩ := ih k (n / 128) (l ++ [((n % 128 + 128 : Nat) : Int)]) (by
        rw [Nat.div_lt_iff_lt_mul (by omega), ← Nat.pow_succ]; exact hn) (by omega) (by omega) (by simp; omega)
      rw [h1, h2, GT hc]
      exact ⟨by simp, by simp, by simp; omega⟩
def zig (x : Int) : Nat := if x < 0 then (-2 * x - 1).toNat else (2 * x).toNat
def InR (x : Int) : Prop := -1000000000 ≤ x ∧ x ≤ 1000000000
instance : DecidablePred InR := fun _ => inferInstanceAs (Decidable (_ ∧ _))
theorem Ml {x : Int} (h : InR x) : zig x ≤ 2000000000 := by obtain ⟨h0, h1⟩ := h; unfold zig; split <;> omega
def jT (x : Int) : List Int := if InR x then vQ (zig x) else []
theorem Cm {n : Nat} (h : n ≤ 2147483647) : lF (n : Int) = some (vQ n) ∧ lR (n : Int) = some (vQ n, false) ∧ (vQ n).length ≤ 5 := by
  unfold lF lR bn aZ
  simp only [bS]
  rw [pq (by omega)]
  simp only [Bool.not_true, Bool.false_eq_true, if_false]
  obtain ⟨h1, h2, h3⟩ := IZ 4 aK n [] (by omega) (by omega) (fe (by omega)) (by simp)
  exact ⟨by simpa using h1, by simpa using h2, by simpa using h3⟩
theorem eL {x : Int} : cQ x = some (jT x) ∧ qd x = some (jT x, decide ¬ InR x) ∧ (jT x).length ≤ 5 := by
  unfold cQ qd bn aZ jT
  simp only [bS]
  by_cases hc : InR x
  · obtain ⟨h1, h2, h3⟩ := Cm (n := zig x) (by have := Ml hc; omega)
    rw [if_pos hc]
    have hb : (decide ¬ InR x) = false := by simp [hc]
    rw [hb]
    obtain ⟨c1, c2⟩ := hc
    rw [pq ⟨c1, c2⟩]
    simp only [Bool.not_true, Bool.false_eq_true, if_false]
    by_cases hn : x < 0
    · rw [if_pos (by simpa using hn), if_pos (by simpa using hn)]
      have e : IntKind.i64.wrap ((IntKind.i64.wrap (0 - (IntKind.i64.wrap (2 * x)))) - 1) = (zig x : Nat) := by
        rw [cd (n := 2 * x) (by omega) (by omega), cd (n := 0 - 2 * x) (by omega) (by omega), cd (by omega) (by omega)]
        unfold zig; rw [if_pos hn]; omega
      have e' : IntKind.i64.wrap ((IntKind.i64.wrap ((-2) * x)) - 1) = (zig x : Nat) := by
        rw [cd (n := -2 * x) (by omega) (by omega), cd (by omega) (by omega)]
        unfold zig; rw [if_pos hn]; omega
      rw [e, e', h1, h2]
      exact ⟨rfl, rfl, h3⟩
    · rw [if_neg (by simpa using hn), if_neg (by simpa using hn)]
      have e : IntKind.i64.wrap (2 * x) = (zig x : Nat) := by
        rw [cd (n := 2 * x) (by omega) (by omega)]
        unfold zig; rw [if_neg hn]; omega
      rw [e, h1, h2]
      exact ⟨rfl, rfl, h3⟩
  · rw [if_neg hc, pP (by exact hc)]
    have hb : (decide ¬ InR x) = true := by simp [hc]
    rw [hb]
    exact ⟨rfl, rfl, by simp⟩
def kK (xs : List Int) : List Int := xs.flatMap jT
theorem kT (xs : List Int) : (kK xs).length ≤ 5 * xs.length := by
  induction xs with
  | nil => simp [kK]
  | cons x xs ih => 
    have := (eL (x := x)).2.2
    simp only [kK, List.flatMap_cons, List.length_append, List.length_cons] at ih ⊢
    omega
theorem vz {p : List Int} (hp : p.length < 1000000000000) : eX p = some (decide (∀ x ∈ p, InR x)) := by
  unfold eX
  refine Fc (P := InR) (jv p) (fun k => ?_) (fun k i h => ?_) hp
  · show (if _ then _ else _) = _
    rw [if_neg (by simp)]
  · show (if _ then _ else _) = _
    rw [if_pos (by simp; omega), bf h, aD (by omega)]
    unfold bn
    simp only [bS]
    by_cases hc : InR p[i]
    · rw [pq hc, if_pos hc]; rfl
    · rw [pP hc, if_neg hc]; rfl
theorem Be {p : List Int} (hp : p.length ≤ 1048576) (l : List Int) (hl : l.length ≤ 1000000000) : ia p aK l 0 = some (l ++ kK p) := by
  rw [wM (p := p) (fun k s i => ia p k s i) (fun s x => .inr (s ++ jT x)) (fun s => some s) (fun i s => s.length ≤ l.length + 5 * i)
    (fun k s _ => by show (if _ then _ else _) = _; rw [if_neg (by simp)])
    (fun k s i h hI => ⟨by
      show (if _ then _ else _) = _
      rw [if_pos (by simp; omega), bf h, aD (by omega)]
      simp only [bS]
      rw [eL.1]
      simp only [bS]
      rw [eh (by have := (eL (x := p[i])).2.2; omega)]
      rfl, fun s' e => by
      have := (eL (x := p[i])).2.2
      obtain rfl := Sum.inr.inj e
      rw [List.length_append]; omega⟩) (by omega) l (by omega)]
  clear hp hl
  induction p generalizing l with
  | nil => simp [run, kK]
  | cons x p ih => show run _ _ (l ++ jT x) p = _; rw [ih]; simp [kK]
theorem gl {p : List Int} (hp : p.length ≤ 1048576) (l : List Int) (q : Bool) (hl : l.length ≤ 1000000000) : bM ⟨l, q⟩ p = some ⟨l ++ kK p, q || decide (¬ ∀ x ∈ p, InR x)⟩ := by
  unfold bM
  show ey p aK l q 0 = _
  rw [show ey p aK l q 0 = _ from wM (p := p) (fun k (s : List Int × Bool) i => ey p k s.1 s.2 i) (fun s x => .inr (s.1 ++ jT x, s.2 || decide ¬ InR x)) (fun s => some ⟨s.1, s.2⟩) (fun i s => s.1.length ≤ l.length + 5 * i)
    (fun k s _ => by show (if _ then _ else _) = _; rw [if_neg (by simp)])
    (fun k s i h hI => ⟨by
      show (if _ then _ else _) = _
      rw [if_pos (by simp; omega), bf h, aD (by omega)]
      simp only [bS]
      rw [eL.2.1]
      simp only [bS]
      rw [eh (by have := (eL (x := p[i])).2.2; omega)]
      rfl, fun s' e => by
      have := (eL (x := p[i])).2.2
      obtain rfl := Sum.inr.inj e
      show (s.1 ++ _).length ≤ _
      rw [List.length_append]; omega⟩) (by omega) (l, q) (Nat.le_add_right _ _)]
  clear hp hl
  induction p generalizing l q with
  | nil => simp [run, kK]
  | cons x p ih =>
    show run _ _ (l ++ jT x, q || decide ¬ InR x) p = _
    rw [ih]
    congr 2
    · simp [kK]
    · by_cases h : InR x <;> simp [h]
theorem Ec {p : List Int} (hp : p.length ≤ 1048576) (l : List Int) (q : Bool) (hl : l.length ≤ 900000000) : dr ⟨l, q⟩ p = some ⟨l ++ jT p.length ++ kK p, q || decide (¬ ∀ x ∈ p, InR x)⟩ := by
  unfold dr
  rw [gl (by simp) l q (by omega)]
  have h1 : InR (p.length : Int) := ⟨by omega, by omega⟩
  have h2 : kK [(p.length : Int)] = jT p.length := by simp [kK]
  rw [h2]
  simp only [bS]
  have := (eL (x := (p.length : Int))).2.2
  rw [gl hp _ _ (by rw [List.length_append]; omega)]
  simp [h1]
theorem zR {p : List Int} (hp : p.length ≤ 1048576) : gz p = some (if ∀ x ∈ p, InR x then jT p.length ++ kK p else []) := by
  unfold gz
  rw [vz (by omega)]
  simp only [bS]
  by_cases h : ∀ x ∈ p, InR x
  · rw [if_pos h]
    rw [decide_eq_true h]
    simp only [Bool.not_true, Bool.false_eq_true, if_false]
    rw [eL.1]
    simp only [bS]
    exact Be hp _ (by have := (eL (x := (p.length : Int))).2.2; omega)
  · rw [if_neg h]
    rw [decide_eq_false h]
    rfl
end Go.Vk
/- Windows: weighed, copied, put. -/
namespace Go.Vk
def QI (n : Nat) : Prop := n < 9223372036854775808
def wI (x : List (List Int)) : Nat := x.length + (x.map List.length).sum
def nS (p : List Int) : Prop := ∀ x ∈ p, InR x
instance : DecidablePred nS := fun p => inferInstanceAs (Decidable (∀ x ∈ p, InR x))
def mn (p : List Int) : List Int := jT p.length ++ kK p
theorem dc (x : Int) : (jT x).length ≤ 5 := eL.2.2
theorem kb (p : List Int) : (mn p).length ≤ 5 * (1 + p.length) := by
  have := dc p.length
  have := kT p
  unfold mn
  rw [List.length_append]; omega
theorem oY (p : List (List Int)) : (p.flatMap mn).length ≤ 5 * wI p := by
  unfold wI
  induction p with
  | nil => simp
  | cons x p ih =>
    have := kb x
    simp only [List.flatMap_cons, List.length_append, List.map_cons, List.sum_cons, List.length_cons]
    omega
theorem tf {p : List (List Int)} : p.length ≤ wI p := by unfold wI; omega
theorem wm {p : List (List Int)} {x : List Int} (h : x ∈ p) : x.length ≤ wI p := by
  have := kA (f := List.length) h
  unfold wI; omega
theorem pw {p : List Int} (hp : p.length ≤ 1048576) (hf : nS p) : gz p = some (mn p) := by
  rw [zR hp, if_pos (show ∀ x ∈ p, InR x from hf)]; rfl
theorem tQ {p : List (List Int)} (hs : wI p ≤ 1048576) (hf : ∀ x ∈ p, nS x) : gw p = some (jT p.length ++ p.flatMap mn) := by
  unfold gw
  rw [eL.1]
  simp only [bS]
  have h1 := oY p
  have h2 := dc p.length
  have h3 := @tf p
  exact Ez (p := p) (σ := Unit) (ρ := List Int) mn (fun _ _ => ()) (fun k l _ i => gj p k l i) (fun l _ => some l)
    (fun k l q => by show (if _ then _ else _) = _; rw [if_neg (by simp)])
    (fun k l q i h hl => by
      show (if _ then _ else _) = _
      have hm := List.getElem_mem h
      rw [if_pos (by simp; omega), bf h, aD (by omega)]
      simp only [bS]
      rw [pw (by have := wm hm; omega) (hf _ hm)]
      simp only [bS]
      rw [eh (by omega)]
      rfl) (by omega) _ () (by omega)
theorem nY {p : List Int} (hp : p.length ≤ 1048576) (l : List Int) (q : Bool) (hl : l.length ≤ 900000000) : dr ⟨l, q⟩ p = some ⟨l ++ mn p, q || decide (¬ nS p)⟩ := by
  rw [Ec hp l q hl, List.append_assoc]; rfl
theorem wY {ρ : Type} {p : List (List Int)} (hs : wI p ≤ 1048576) (Lp : Nat → List Int → Bool → Int → Option ρ) (fin : List Int → Bool → Option ρ)
    (step : ∀ k l q i, Lp (k + 1) l q i = if decide (i < (p.length : Int)) then (idx p i).bind fun e => (dr ⟨l, q⟩ e).bind fun y => Lp k y.T_ y.U_ (IntKind.i64.wrap (i + 1)) else fin l q)
    (l : List Int) (q : Bool) (hl : l.length ≤ 700000000) : Lp aK l q 0 = fin (l ++ p.flatMap mn) (q || decide (¬ ∀ x ∈ p, nS x)) := by
  have h1 := oY p
  have h3 := @tf p
  rw [← Ca]
  exact Ez (p := p) (σ := Bool) mn (fun q x => q || decide (¬ nS x)) Lp fin
    (fun k l q => by rw [step, if_neg (by simp)])
    (fun k l q i h hl => by
      have hm := List.getElem_mem h
      rw [step, if_pos (by simp; omega), bf h, aD (by omega)]
      simp only [bS]
      rw [nY (by have := wm hm; omega) l q (by omega)]
      rfl) (by omega) _ q (by omega)
theorem Bh {x : aA} (hs : wI x.o_ ≤ 1048576) : iO x = some (if ∀ r ∈ x.o_, nS r then jT x.o_.length ++ x.o_.flatMap mn else []) := by
  unfold iO
  have h3 := @tf x.o_
  rw [BR (p := x.o_) (P := nS) (fin := (gw x.o_).bind fun y => some y) (bad := some []) (gY x) (fun k => by
    show (if _ then _ else _) = _
    rw [if_neg (by simp)]) (fun k i h => by
    have hm := List.getElem_mem h
    show (if _ then _ else _) = _
    rw [if_pos (by simp; omega), bf h, aD (by omega)]
    simp only [bS]
    rw [vz (by have := wm hm; omega)]
    simp only [bS]
    by_cases hf : nS x.o_[i]
    · rw [if_pos hf, show (decide (∀ y ∈ x.o_[i], InR y)) = true from decide_eq_true hf]; rfl
    · rw [if_neg hf, show (decide (∀ y ∈ x.o_[i], InR y)) = false from decide_eq_false hf]; rfl) (by omega)]
  split
  · rename_i hf
    rw [tQ hs hf]; rfl
  · rfl
theorem zq {n : Nat} (h : n ≤ 1000000000) : InR (n : Int) := ⟨by omega, by omega⟩
theorem sO {x : Int} (hx : InR x) (l : List Int) (q : Bool) (hl : l.length ≤ 1000000000) : bM ⟨l, q⟩ [x] = some ⟨l ++ jT x, q⟩ := by
  rw [gl (by simp) l q hl]
  simp [kK, hx]
end Go.Vk
/- Trees: weighed, copied, put, compared, marked. -/
namespace Go.Vk
def szM (x : au) : Nat := x.r_.length + (x.i_.k_.length + wI x.i_.h_) + x.d_.length
def szU (x : ap) : Nat := x.b_.length + (x.b_.map szM).sum
theorem Hf {x : ap} {y : au} (hy : y ∈ x.b_) : szM y ≤ szU x := by
  have := kA (f := szM) hy
  unfold szU; omega
end Go.Vk
/- Trees, put. -/
namespace Go.Vk
def zE (b : Bool) : Int := if b then 1 else 0
def su (x : au) : List Int :=
  jT (zE x.y_) ++ jT x.g_.q_ ++ jT x.g_.u_ ++ mn x.r_ ++ jT x.C_ ++ mn x.i_.k_ ++ (jT x.i_.h_.length ++ x.i_.h_.flatMap mn) ++ jT x.D_ ++ mn x.d_ ++ jT x.f_ ++ jT x.x_ ++ jT x.B_
def uB (x : au) : Prop := nS [x.g_.q_, x.g_.u_, x.C_, x.D_, x.f_, x.x_, x.B_] ∧ nS x.r_ ∧ nS x.d_ ∧ nS x.i_.k_ ∧ ∀ y ∈ x.i_.h_, nS y
instance : DecidablePred uB := fun _ => inferInstanceAs (Decidable (_ ∧ _ ∧ _ ∧ _ ∧ _))
theorem BP (x : au) : (su x).length ≤ 5 * (12 + szM x) := by
  have a1 := dc (zE x.y_)
  have a2 := dc x.g_.q_
  have a3 := dc x.g_.u_
  have a4 := kb x.r_
  have a5 := dc x.C_
  have a6 := kb x.i_.k_
  have a7 := dc x.i_.h_.length
  have a8 := oY x.i_.h_
  have a9 := dc x.D_
  have b1 := kb x.d_
  have b2 := dc x.f_
  have b3 := dc x.x_
  have b4 := dc x.B_
  unfold su szM
  simp only [List.length_append]
  omega
theorem xM (b : Bool) : pe b = some (zE b) ∧ qH b = some (zE b) := by cases b <;> exact ⟨rfl, rfl⟩
theorem CR (b : Bool) : InR (zE b) := by cases b <;> decide
theorem uM {p : List Int} (h : p.length < 1000000000000) : eX p = some (decide (nS p)) := vz h
theorem NL {A B C D E : Prop} [Decidable A] [Decidable B] [Decidable C] [Decidable D] [Decidable E] :
    ((if (!decide A) = true then some true else some !decide B).bind fun a => (if a = true then some true else some !decide C).bind fun c => (if c = true then some true else some !decide D).bind fun d => if d = true then some false else some (decide E)) = some (decide (A ∧ B ∧ C ∧ D ∧ E)) := by
  by_cases A <;> by_cases B <;> by_cases C <;> by_cases D <;> by_cases E <;> simp [*]
theorem Ee {x : au} (h : szM x ≤ 1048576) : jP x = some (decide (uB x)) := by
  unfold szM at h
  have h4 := @tf x.i_.h_
  have hL : fg x aK 0 = some (decide (∀ y ∈ x.i_.h_, nS y)) :=
    Fc (P := nS) (p := x.i_.h_) (fg x) (fun k => by
      show (if _ then _ else _) = _
      rw [if_neg (by simp)]) (fun k i h => by
      have hm := List.getElem_mem h
      show (if _ then _ else _) = _
      rw [if_pos (by simp; omega), bf h, aD (by omega)]
      simp only [bS]
      rw [uM (by have := wm hm; omega)]
      simp only [bS]
      by_cases hf : nS x.i_.h_[i]
      · rw [if_pos hf, decide_eq_true hf]; rfl
      · rw [if_neg hf, decide_eq_false hf]; rfl) (by omega)
  unfold jP
  rw [uM (by simp), uM (p := x.r_) (by omega), uM (p := x.d_) (by omega), uM (p := x.i_.k_) (by omega), hL]
  simp only [bS]
  exact NL
theorem FX {x : au} (h : szM x ≤ 1048576) (hf : uB x) : kI x = some (su x) := by
  have hl := BP x
  unfold szM at h
  have h4 := @tf x.i_.h_
  obtain ⟨f1, f2, f3, f4, f5⟩ := hf
  have a1 := dc (zE x.y_)
  have a2 := dc x.g_.q_
  have a3 := dc x.g_.u_
  have a4 := kb x.r_
  have a5 := dc x.C_
  have a6 := kb x.i_.k_
  have a7 := dc x.i_.h_.length
  have a8 := oY x.i_.h_
  have a9 := dc x.D_
  have b1 := kb x.d_
  have b2 := dc x.f_
  have b3 := dc x.x_
  have b4 := dc x.B_
  unfold kI
  rw [(xM _).1]
  simp only [Option.bind_some, eL.1]
  rw [eh (by omega)]
  simp only [bS]
  rw [eh (by simp only [List.length_append]; omega)]
  simp only [bS]
  rw [pw (by omega) f2]
  simp only [bS]
  rw [eh (by simp only [List.length_append]; omega)]
  simp only [bS]
  rw [eh (by simp only [List.length_append]; omega)]
  simp only [bS]
  rw [pw (by omega) f4]
  simp only [bS]
  rw [eh (by simp only [List.length_append]; omega)]
  simp only [bS]
  rw [tQ (by omega) f5]
  simp only [bS]
  rw [eh (by simp only [List.length_append]; omega)]
  simp only [bS]
  rw [eh (by simp only [List.length_append]; omega)]
  simp only [bS]
  rw [pw (by omega) f3]
  simp only [bS]
  rw [eh (by simp only [List.length_append]; omega)]
  simp only [bS]
  rw [eh (by simp only [List.length_append]; omega)]
  simp only [bS]
  rw [eh (by simp only [List.length_append]; omega)]
  simp only [bS]
  rw [eh (by simp only [List.length_append]; omega)]
  rfl
theorem zC (p : List au) : (p.flatMap su).length ≤ 60 * p.length + 5 * (p.map szM).sum := by
  induction p with
  | nil => simp
  | cons x p ih =>
    have := BP x
    simp only [List.flatMap_cons, List.length_append, List.map_cons, List.sum_cons, List.length_cons]
    omega
theorem DM {x : ap} (h : szU x ≤ 1048576) : ku x = some (if InR x.A_ ∧ ∀ y ∈ x.b_, uB y then jT x.A_ ++ jT x.b_.length ++ x.b_.flatMap su else []) := by
  have hl : x.b_.length ≤ 1048576 := by unfold szU at h; omega
  have hb := zC x.b_
  have hs : (x.b_.map szM).sum ≤ 1048576 := by unfold szU at h; omega
  unfold ku
  rw [uM (by simp)]
  simp only [bS]
  by_cases h1 : InR x.A_
  · have hF : nS [x.A_] := by intro y hy; rw [List.mem_singleton.1 hy]; exact h1
    rw [decide_eq_true hF]
    simp only [Bool.not_true, Bool.false_eq_true, if_false]
    rw [eL.1, eL.1]
    have a1 := dc x.A_
    have a2 := dc x.b_.length
    simp only [bS]
    rw [eh (by omega)]
    simp only [Option.bind_some, h1, true_and]
    have key : ∀ (d k i : Nat) (l : List Int), x.b_.length - i = d → d < k → i ≤ x.b_.length → l.length + ((x.b_.drop i).flatMap su).length ≤ 800000000 →
        jf x k l (i : Int) = some (if ∀ y ∈ x.b_.drop i, uB y then l ++ (x.b_.drop i).flatMap su else []) := by
      intro d
      induction d with
      | zero =>
        intro k i l hd hk hi hll
        obtain ⟨k, rfl⟩ : ∃ q, k = q + 1 := ⟨k - 1, by omega⟩
        have : i = x.b_.length := by omega
        subst this
        show (if _ then _ else _) = _
        rw [if_neg (by simp), List.drop_length]
        simp
      | succ d ih =>
        intro k i l hd hk hi hll
        obtain ⟨k, rfl⟩ : ∃ q, k = q + 1 := ⟨k - 1, by omega⟩
        have hlt : i < x.b_.length := by omega
        have hm := List.getElem_mem hlt
        have hsz : szM x.b_[i] ≤ 1048576 := by have := Hf hm; omega
        rw [List.drop_eq_getElem_cons hlt] at hll ⊢
        simp only [List.flatMap_cons, List.length_append] at hll ⊢
        show (if _ then _ else _) = _
        rw [if_pos (by simp; omega), bf hlt]
        simp only [bS]
        rw [Ee hsz]
        simp only [bS]
        by_cases hf : uB x.b_[i]
        · rw [decide_eq_true hf]
          simp only [Bool.not_true, Bool.false_eq_true, if_false]
          rw [FX hsz hf]
          simp only [bS]
          rw [eh (by omega)]
          simp only [bS]
          rw [aD (by omega), ih k (i + 1) _ (by omega) (by omega) (by omega) (by simp only [List.length_append]; omega)]
          generalize List.drop (i + 1) x.b_ = D
          simp [hf]
        · rw [decide_eq_false hf]
          generalize List.drop (i + 1) x.b_ = D
          simp [hf]
    have := key x.b_.length aK 0 (jT x.A_ ++ jT x.b_.length) (by omega) (fe (by omega)) (by omega) (by simp only [List.length_append, List.drop_zero]; omega)
    simpa using this
  · have hF : ¬ nS [x.A_] := fun n => h1 (n _ (List.mem_singleton.2 rfl))
    rw [decide_eq_false hF]
    simp [h1]
theorem xy : kK [] = [] := rfl
theorem vv (x : Int) (xs : List Int) : kK (x :: xs) = jT x ++ kK xs := List.flatMap_cons ..
theorem nw {M : Nat} {α σ ρ : Type} {p : List α} (B : α → List Int) (u : σ → α → σ) (Lp : Nat → List Int → σ → Int → Option ρ) (fin : List Int → σ → Option ρ)
    (hz : ∀ k l q, Lp (k + 1) l q (p.length : Int) = fin l q)
    (hs : ∀ k l q (i : Nat) (h : i < p.length), l.length + (B p[i]).length ≤ M → Lp (k + 1) l q (i : Int) = Lp k (l ++ B p[i]) (u q p[i]) ((i + 1 : Nat) : Int))
    (hp : p.length < 1000000000000) (l : List Int) (q : σ) (hl : l.length + (p.flatMap B).length ≤ M) : Lp aK l q 0 = fin (l ++ p.flatMap B) (p.foldl u q) := by
  have key : ∀ (d k i : Nat) (l : List Int) (q : σ), p.length - i = d → d < k → i ≤ p.length → l.length + ((p.drop i).flatMap B).length ≤ M → Lp k l q (i : Int) = fin (l ++ (p.drop i).flatMap B) ((p.drop i).foldl u q) := by
    intro d
    induction d with
    | zero =>
      intro k i l q hd hk hi hl
      obtain ⟨k, rfl⟩ : ∃ q, k = q + 1 := ⟨k - 1, by omega⟩
      have : i = p.length := by omega
      subst this
      rw [hz, List.drop_length]
      simp
    | succ d ih =>
      intro k i l q hd hk hi hl
      obtain ⟨k, rfl⟩ : ∃ q, k = q + 1 := ⟨k - 1, by omega⟩
      have hlt : i < p.length := by omega
      rw [List.drop_eq_getElem_cons hlt] at hl ⊢
      simp only [List.flatMap_cons, List.length_append, List.foldl_cons] at hl ⊢
      rw [hs k l q i hlt (by omega), ih k (i + 1) _ _ (by omega) (by omega) (by omega) (by simp only [List.length_append]; omega), List.append_assoc]
  have := key p.length aK 0 l q (by omega) (fe (by omega)) (by omega) (by simpa using hl)
  simpa using this
theorem uA {q : Bool} {A B : Prop} [Decidable A] [Decidable B] : ((q || decide (¬ A)) || decide (¬ B)) = (q || decide (¬ (A ∧ B))) := by
  by_cases A <;> by_cases B <;> simp [*]
theorem Bj {x : ap} {k i : Nat} {l : List Int} {q : Bool} (h : i < x.b_.length) (hh : x.b_.length ≤ 1048576) (hz : szM x.b_[i] ≤ 1048576) (hl : l.length + (su x.b_[i]).length ≤ 400000000) :
    dl x (k + 1) l q (i : Int) = dl x k (l ++ su x.b_[i]) (q || decide (¬ uB x.b_[i])) ((i + 1 : Nat) : Int) := by
  show (if _ then _ else _) = _
  rw [if_pos (by simp; omega), bf h]
  generalize x.b_[i] = e at hz hl
  have hz' := hz
  unfold szM at hz'
  have h4 := @tf e.i_.h_
  simp only [bS]
  rw [(xM _).2]
  simp only [bS]
  have a1 := kT [zE e.y_, e.g_.q_, e.g_.u_]
  have a4 := kb e.r_
  have a5 := kT [e.C_]
  have a6 := kb e.i_.k_
  have a7 := kT [(e.i_.h_.length : Int)]
  have a8 := oY e.i_.h_
  have a9 := kT [e.D_]
  have b1 := kb e.d_
  have b2 := kT [e.f_, e.x_, e.B_]
  simp only [List.length_cons, List.length_nil] at a1 a5 a7 a9 b2
  rw [gl (by simp) _ _ (by omega)]
  simp only [bS]
  rw [nY (by omega) _ _ (by simp only [List.length_append]; omega)]
  simp only [bS]
  rw [gl (by simp) _ _ (by simp only [List.length_append]; omega)]
  simp only [bS]
  rw [nY (by omega) _ _ (by simp only [List.length_append]; omega)]
  simp only [bS]
  rw [gl (by simp) _ _ (by simp only [List.length_append]; omega)]
  simp only [bS]
  rw [wY (p := e.i_.h_) (by omega) (gi e (dl x k) i) _ (fun _ _ _ _ => rfl) _ _ (by simp only [List.length_append]; omega)]
  rw [gl (by simp) _ _ (by simp only [List.length_append]; omega)]
  simp only [bS]
  rw [nY (by omega) _ _ (by simp only [List.length_append]; omega)]
  simp only [bS]
  rw [gl (by simp) _ _ (by simp only [List.length_append]; omega)]
  simp only [bS]
  rw [aD (by omega)]
  congr 1
  · simp only [su, vv, xy, List.append_nil, List.append_assoc]
  · rw [uA, uA, uA, uA, uA, uA, uA, uA]
    congr 1
    refine decide_eq_decide.2 (not_congr ?_)
    have hb := CR e.y_
    have hc : InR (e.i_.h_.length : Int) := zq (by omega)
    unfold uB nS
    simp only [List.forall_mem_cons, hb, hc, true_and]
    constructor
    · rintro ⟨⟨c1, c2, _⟩, c3, ⟨c4, _⟩, c5, _, c6, ⟨c7, _⟩, c8, c9, a, c, _⟩
      exact ⟨⟨c1, c2, c4, c7, c9, a, c, by simp⟩, c3, c8, c5, c6⟩
    · rintro ⟨⟨c1, c2, c4, c7, c9, a, c, _⟩, c3, c8, c5, c6⟩
      exact ⟨⟨c1, c2, by simp⟩, c3, ⟨c4, by simp⟩, c5, by simp, c6, ⟨c7, by simp⟩, c8, c9, a, c, by simp⟩
end Go.Vk
/- Checks: alike. -/
namespace Go.Vk
def vY (x : Nat) : Nat := if x % 2 = 1 then (x / 2) ^^^ 3988292384 else x / 2
theorem Hr {x : Nat} (h : x < 9223372036854775808) : vY x < 9223372036854775808 := by
  unfold vY
  split
  · have : (x / 2) ^^^ 3988292384 < 2 ^ 63 := Nat.xor_lt_two_pow (by omega) (by omega)
    omega
  · omega
def qB : Nat → Nat → Nat
  | 0, x => x
  | n + 1, x => qB n (vY x)
theorem FZ {n : Nat} : ∀ {x : Nat}, x < 9223372036854775808 → qB n x < 9223372036854775808 := by
  induction n with
  | zero => exact fun h => h
  | succ n ih => exact fun h => ih (Hr h)
theorem FI (R : Int → Int → Option Int) (i : Int) : ∀ (d k x j : Nat), 8 - j = d → j ≤ 8 → d < k → x < 9223372036854775808 → jD R i k (x : Int) (j : Int) = R (qB d x : Nat) (IntKind.i64.wrap (i + 1)) := by
  intro d
  induction d with
  | zero =>
    intro k x j hd hj hk hx
    cases k with
    | zero => omega
    | succ k =>
      unfold jD
      rw [if_neg (by simp; omega)]
      rfl
  | succ d ih =>
    intro k x j hd hj hk hx
    cases k with
    | zero => omega
    | succ k =>
      unfold jD
      rw [if_pos (by simp; omega)]
      have hq : IntKind.i64.wrap (Int.tdiv (x : Int) 2) = ((x / 2 : Nat) : Int) := by
        rw [show Int.tdiv (x : Int) 2 = ((x / 2 : Nat) : Int) from by rw [Int.tdiv_eq_ediv_of_nonneg (by omega)]; simp]
        exact jV (by omega)
      have hj1 : IntKind.i64.wrap ((j : Int) + 1) = ((j + 1 : Nat) : Int) := by rw [cd (by omega) (by omega)]; simp
      rw [hq, hj1]
      have hm : Int.tmod (x : Int) 2 = ((x % 2 : Nat) : Int) := by rw [Int.tmod_eq_emod_of_nonneg (by omega)]; simp
      rw [hm]
      by_cases hc : x % 2 = 1
      · rw [if_pos (by simp [hc])]
        rw [show (3988292384 : Int) = ((3988292384 : Nat) : Int) from rfl, (uN (x / 2) 3988292384 (by omega) (by omega)).1]
        have := ih k ((x / 2) ^^^ 3988292384) (j + 1) (by omega) (by omega) (by omega) (uN (x / 2) 3988292384 (by omega) (by omega)).2
        rw [this]
        simp [qB, vY, hc]
      · rw [if_neg (by simp; omega)]
        have := ih k (x / 2) (j + 1) (by omega) (by omega) (by omega) (by omega)
        rw [this]
        simp [qB, vY, hc]
theorem FQ (R : Int → Int → Option Int) (i : Int) : ∀ (d k x j : Nat), 8 - j = d → j ≤ 8 → d < k → x < 9223372036854775808 → jz R i k (j : Int) (x : Int) = R (qB d x : Nat) (IntKind.i64.wrap (i + 1)) := by
  intro d
  induction d with
  | zero =>
    intro k x j hd hj hk hx
    cases k with
    | zero => omega
    | succ k =>
      unfold jz
      rw [if_neg (by simp; omega)]
      rfl
  | succ d ih =>
    intro k x j hd hj hk hx
    cases k with
    | zero => omega
    | succ k =>
      unfold jz
      rw [if_pos (by simp; omega)]
      have hj1 : IntKind.i64.wrap ((j : Int) + 1) = ((j + 1 : Nat) : Int) := by rw [cd (by omega) (by omega)]; simp
      rw [Jp, hj1]
      have hm : io .and .i64 (x : Int) 1 = ((x % 2 : Nat) : Int) := by
        rw [show (1 : Int) = ((1 : Nat) : Int) from rfl, GH x 1 hx (by omega), Nat.and_one_is_mod]
      rw [hm]
      by_cases hc : x % 2 = 1
      · rw [if_pos (by simp [hc])]
        rw [show (3988292384 : Int) = ((3988292384 : Nat) : Int) from rfl, (uN (x / 2) 3988292384 (by omega) (by omega)).1]
        have := ih k ((x / 2) ^^^ 3988292384) (j + 1) (by omega) (by omega) (by omega) (uN (x / 2) 3988292384 (by omega) (by omega)).2
        rw [this]
        simp [qB, vY, hc]
      · rw [if_neg (by simp; omega)]
        have := ih k (x / 2) (j + 1) (by omega) (by omega) (by omega) (by omega)
        rw [this]
        simp [qB, vY, hc]
def mF (p : List Int) : Prop := ∀ x ∈ p, 0 ≤ x ∧ x ≤ 255
theorem Hw {p : List Int} (hb : mF p) {i : Nat} (h : i < p.length) : ∃ n : Nat, p[i] = (n : Int) ∧ n ≤ 255 := by
  obtain ⟨h0, h1⟩ := hb p[i] (List.getElem_mem h)
  exact ⟨p[i].toNat, by omega, by omega⟩
theorem Mv {p : List Int} (hb : mF p) (hp : p.length ≤ 1048576) : ∀ (d k x i : Nat), p.length - i = d → i ≤ p.length → d < k → x < 9223372036854775808 → ∃ r : Nat, iB p k (x : Int) (i : Int) = some (r : Int) ∧ iw p k (x : Int) (i : Int) = some (r : Int) ∧ r < 9223372036854775808 := by
  intro d
  induction d with
  | zero =>
    intro k x i hd hi hk hx
    cases k with
    | zero => omega
    | succ k =>
      unfold iB iw
      rw [if_neg (by simp; omega), if_neg (by simp; omega)]
      obtain ⟨h1, h2⟩ := uN x 4294967295 hx (by omega)
      exact ⟨x ^^^ 4294967295, congrArg some h1, congrArg some h1, h2⟩
  | succ d ih =>
    intro k x i hd hi hk hx
    cases k with
    | zero => omega
    | succ k =>
      unfold iB iw
      have hlt : i < p.length := by omega
      rw [if_pos (by simp; omega), if_pos (by simp; omega), bf hlt]
      simp only [bS]
      obtain ⟨n, hn, hn2⟩ := Hw hb hlt
      rw [hn, jV (n := n) (by omega)]
      obtain ⟨h1, h2⟩ := uN x n hx (by omega)
      rw [h1]
      have e1 := FI (iB p k) i 8 aK (x ^^^ n) 0 (by omega) (by omega) (fe (by omega)) h2
      have e2 := FQ (iw p k) i 8 aK (x ^^^ n) 0 (by omega) (by omega) (fe (by omega)) h2
      rw [show ((0 : Nat) : Int) = 0 from rfl] at e1 e2
      rw [e1, e2]
      rw [show IntKind.i64.wrap ((i : Int) + 1) = ((i + 1 : Nat) : Int) from by rw [cd (by omega) (by omega)]; simp]
      exact ih k (qB 8 (x ^^^ n)) (i + 1) (by omega) (by omega) (by omega) (FZ h2)
theorem IS {p : List Int} (hb : mF p) (hp : p.length ≤ 1048576) : ∃ r : Nat, wa p = some (r : Int) ∧ wo p = some (r : Int) ∧ r < 9223372036854775808 :=
  Mv hb hp p.length aK 4294967295 0 (by omega) (by omega) (fe (by omega)) (by omega)
theorem CD (x : Nat) {k : Nat} (h : k ≤ 63) : nO .i64 (x : Int) k = ((x / 2 ^ k : Nat) : Int) := by
  unfold nO
  have e : min ((k : Int).toNat) IntKind.i64.bits = k := by show min k 64 = k; omega
  rw [e, Int.fdiv_eq_ediv_of_nonneg _ (Int.le_of_lt (Int.pow_pos (by decide)))]
  simp
theorem vP (n : Nat) : IntKind.u8.wrap (n : Int) = ((n % 256 : Nat) : Int) := by
  unfold IntKind.wrap
  simp [IntKind.bits, IntKind.signed]
def Qp (r : Nat) : List Int := [((r / 16777216 % 256 : Nat) : Int), ((r / 65536 % 256 : Nat) : Int), ((r / 256 % 256 : Nat) : Int), ((r % 256 : Nat) : Int)]
theorem Pg {r : Nat} (h : r < 9223372036854775808) (d : Nat) : IntKind.u8.wrap (IntKind.i64.wrap (Int.tdiv (r : Int) (d : Int))) = ((r / d % 256 : Nat) : Int) := by
  rw [si, jV (by have := Nat.div_le_self r d; omega), vP]
theorem OD {r : Nat} (h : r < 9223372036854775808) (d : Nat) : IntKind.u8.wrap (Int.tmod (IntKind.i64.wrap (Int.tdiv (r : Int) (d : Int))) 256) = ((r / d % 256 : Nat) : Int) := by
  rw [si, jV (by have := Nat.div_le_self r d; omega), show (256 : Int) = ((256 : Nat) : Int) from rfl, sg, vP, Nat.mod_mod]
theorem HU {p : List Int} (hb : mF p) (hp : p.length ≤ 1048576) : ∃ s, jB p = some s ∧ gC p = some s ∧ s.length = 4 := by
  obtain ⟨r, h1, h2, h3⟩ := IS hb hp
  refine ⟨Qp r, ?_, ?_, rfl⟩
  · unfold jB
    rw [h1]
    simp only [bS]
    have e1 := Pg h3 16777216
    have e2 := OD h3 65536
    have e3 := OD h3 256
    have e4 : IntKind.u8.wrap (Int.tmod (r : Int) 256) = ((r % 256 : Nat) : Int) := by rw [show (256 : Int) = ((256 : Nat) : Int) from rfl, sg, vP, Nat.mod_mod]
    simp only [Int.cast_ofNat_Int] at e1 e2 e3
    rw [e1, e2, e3, e4]; rfl
  · unfold gC
    rw [h2]
    simp only [bS]
    have e1 := CD r (k := 24) (by omega)
    have e2 := CD r (k := 16) (by omega)
    have e3 := CD r (k := 8) (by omega)
    simp only [Int.cast_ofNat_Int] at e1 e2 e3
    rw [e1, e2, e3, vP, vP, vP, vP]; rfl
end Go.Vk
/- Numbers in decimal, texts joined: alike. -/
namespace Go.Vk
open Go.Proofs
def I64 (x : Int) : Prop := -9223372036854775808 ≤ x ∧ x ≤ 9223372036854775807
theorem Fh {d : Nat} (h : d < 10) : qz ([IntKind.u8.wrap (IntKind.i64.wrap (48 + (d : Int)))] : List Int) = [UInt8.ofNat (48 + d)] := by
  rw [cd (by omega) (by omega), IntWalk.u8_in _ (by omega)]
  have : ((48 : Int) + (d : Int)).toNat = 48 + d := by omega
  simp [qz, this]
theorem DG {u : Nat} (hu : 0 < u) (s : List UInt8) : (if u / 10 = 0 then UInt8.ofNat (48 + u % 10) :: s else Lib.decDigits (u / 10) ++ (UInt8.ofNat (48 + u % 10) :: s)) = Lib.decDigits u ++ s := by
  by_cases h : u < 10
  · rw [if_pos (by omega), Lib.decDigits_one h, Nat.mod_eq_of_lt h]; rfl
  · rw [if_neg (by omega), Lib.decDigits.eq_def u, dif_neg h]; simp
def Gj (p : Int) (s : List UInt8) : Option (List UInt8) := if p < 0 then some (45 :: s) else some s
theorem zt {p : Int} {k : Nat} {s : List UInt8} (hs : s.length ≤ 1000) : dA p (k + 1) 0 s = Gj p s := by
  rw [dA, if_neg (by simp)]
  unfold Gj lp
  by_cases h : p < 0
  · rw [if_pos (by simpa using h), if_pos h, if_pos (by simp; omega)]; rfl
  · rw [if_neg (by simpa using h), if_neg h]
theorem Kh (p : Int) : ∀ (d u k : Nat) (s : List UInt8), u < 10 ^ d → u ≤ 9223372036854775808 → d < k → s.length + d ≤ 1000 → dA p k (u : Int) s = Gj p (if u = 0 then s else Lib.decDigits u ++ s) := by
  intro d
  induction d with
  | zero =>
    intro u k s hu _ hk hs
    obtain ⟨k, rfl⟩ : ∃ q, k = q + 1 := ⟨k - 1, by omega⟩
    have : u = 0 := by simpa using hu
    subst this
    rw [if_pos rfl]
    exact zt (by omega)
  | succ d ih =>
    intro u k s hu hb hk hs
    obtain ⟨k, rfl⟩ : ∃ q, k = q + 1 := ⟨k - 1, by omega⟩
    by_cases h0 : u = 0
    · subst h0
      rw [if_pos rfl]
      exact zt (by omega)
    · have hr := sg u 10
      have hd := si u 10
      simp only [Int.cast_ofNat_Int] at hr hd
      rw [dA, if_pos (by simp; omega), if_neg (by rw [hr]; simp; omega), hr]
      unfold iJ
      rw [Fh (Nat.mod_lt _ (by omega)), hd, cd (by omega) (by omega)]
      unfold lp
      rw [if_pos (by simp; omega)]
      simp only [Option.bind_some, List.cons_append, List.nil_append]
      rw [ih (u / 10) k _ (by rw [Nat.pow_succ] at hu; omega) (by omega) (by omega) (by simp; omega), if_neg h0, DG (by omega)]
theorem KA (p : Int) : ∀ (d u k : Nat) (s : List UInt8), u < 10 ^ d → u ≤ 9223372036854775808 → d < k → s.length + d ≤ 1000 → dA p k (-(u : Int)) s = Gj p (if u = 0 then s else Lib.decDigits u ++ s) := by
  intro d
  induction d with
  | zero =>
    intro u k s hu _ hk hs
    obtain ⟨k, rfl⟩ : ∃ q, k = q + 1 := ⟨k - 1, by omega⟩
    have : u = 0 := by simpa using hu
    subst this
    rw [if_pos rfl]
    exact zt (by omega)
  | succ d ih =>
    intro u k s hu hb hk hs
    obtain ⟨k, rfl⟩ : ∃ q, k = q + 1 := ⟨k - 1, by omega⟩
    by_cases h0 : u = 0
    · subst h0
      rw [if_pos rfl]
      exact zt (by omega)
    · have hr := sg u 10
      have hd := si u 10
      simp only [Int.cast_ofNat_Int] at hr hd
      have hr' : Int.tmod (-(u : Int)) 10 = -((u % 10 : Nat) : Int) := by rw [Int.neg_tmod, hr]
      have hd' : Int.tdiv (-(u : Int)) 10 = -((u / 10 : Nat) : Int) := by rw [Int.neg_tdiv, hd]
      have hj : iJ s (dA p k) (-(u : Int)) ((u % 10 : Nat) : Int) = Gj p (Lib.decDigits u ++ s) := by
        unfold iJ
        rw [Fh (Nat.mod_lt _ (by omega)), hd', cd (by omega) (by omega)]
        unfold lp
        rw [if_pos (by simp; omega)]
        simp only [Option.bind_some, List.cons_append, List.nil_append]
        rw [ih (u / 10) k _ (by rw [Nat.pow_succ] at hu; omega) (by omega) (by omega) (by simp; omega), DG (by omega)]
      rw [dA, if_pos (by simp; omega), hr', if_neg h0]
      by_cases hz : u % 10 = 0
      · rw [if_neg (by rw [hz]; simp), hz]
        rw [hz] at hj
        exact hj
      · rw [if_pos (by simp; omega), cd (by omega) (by omega), show (0 : Int) - -((u % 10 : Nat) : Int) = ((u % 10 : Nat) : Int) by omega]
        exact hj
theorem FN {n : Int} (h : I64 n) : pY n = some (Lib.itoa n) := by
  obtain ⟨h0, h1⟩ := h
  unfold pY
  by_cases hz : n = 0
  · subst hz
    rw [if_pos (by simp)]
    unfold Lib.itoa
    rw [if_neg (by omega), show (0 : Int).toNat = 0 from rfl, Lib.decDigits_one (by omega)]
    rfl
  · rw [if_neg (by simpa using hz)]
    by_cases hn : n < 0
    · obtain ⟨u, rfl⟩ : ∃ u : Nat, n = -(u : Int) := ⟨n.natAbs, by omega⟩
      rw [KA _ 20 u aK [] (by have : (10 : Nat) ^ 20 = 100000000000000000000 := (by decide); omega) (by omega) (fe (by omega)) (by simp), if_neg (by omega)]
      unfold Gj Lib.itoa
      rw [if_pos hn, if_pos hn, show (-(u : Int)).natAbs = u by omega, List.append_nil]
    · obtain ⟨u, rfl⟩ : ∃ u : Nat, n = (u : Int) := ⟨n.toNat, by omega⟩
      rw [Kh _ 20 u aK [] (by have : (10 : Nat) ^ 20 = 100000000000000000000 := (by decide); omega) (by omega) (fe (by omega)) (by simp), if_neg (by omega)]
      unfold Gj Lib.itoa
      rw [if_neg hn, if_neg hn, Int.toNat_natCast, List.append_nil]
theorem Fx {n : Int} (h : I64 n) : pH n = some (Lib.itoa n) := by
  unfold pH GU
  rw [if_pos ⟨h.1, h.2⟩]
  rfl
theorem ID {n : Int} (h : I64 n) : (Lib.itoa n).length ≤ 21 := Lib.itoa_length_le n h.1 h.2
theorem qC {a b : List UInt8} (h : a.length + b.length ≤ 68719476736) : lp a b = some (a ++ b) := if_pos h
theorem HF (xs : List (List UInt8)) (x sep : List UInt8) : Lib.join (xs ++ [x]) sep = if xs = [] then x else Lib.join xs sep ++ sep ++ x := by
  cases xs with
  | nil => simp [Lib.join_one]
  | cons y r =>
    rw [List.cons_append, Lib.join_cons, Lib.join_cons, if_neg (by simp)]
    simp [Lib.joinTail]
theorem CI (xs : List (List UInt8)) (sep : List UInt8) : ∀ n, (Lib.join (xs.take n) sep).length ≤ (Lib.join xs sep).length := by
  intro n
  cases xs with
  | nil => simp
  | cons x r =>
    cases n with
    | zero => simp [Lib.join_nil]
    | succ n =>
      rw [List.take_succ_cons, Lib.join_cons, Lib.join_cons]
      simp only [List.length_append, Lib.joinTail]
      have : ((r.take n).map (sep ++ ·)).flatten.length ≤ (r.map (sep ++ ·)).flatten.length := by
        rw [List.map_take]
        conv => rhs; rw [← List.take_append_drop n (r.map (sep ++ ·)), List.flatten_append, List.length_append]
        omega
      omega
theorem ww {xs : List (List UInt8)} {sep : List UInt8} (hx : xs.length ≤ 1000000000) (hl : (Lib.join xs sep).length ≤ 1000000000) (_ : sep.length ≤ 1000) : gJ xs sep = some (Lib.join xs sep) := by
  unfold gJ
  refine uV (Lp := fun k i => dB xs sep k (Lib.join (xs.take i) sep) (i : Int)) (n := xs.length) (fun k => ?_) (fun k i hi => ?_) (by omega)
  · show dB xs sep (k + 1) _ _ = _
    rw [dB, if_neg (by simp), List.take_length]
  · show dB xs sep (k + 1) _ _ = dB xs sep k _ _
    have ht : xs.take (i + 1) = xs.take i ++ [xs[i]] := List.take_succ_eq_append_getElem hi
    have h1 := CI xs sep (i + 1)
    have hj := HF (xs.take i) xs[i] sep
    rw [← ht] at hj
    by_cases h0 : i = 0
    · subst h0
      rw [if_pos (by simp)] at hj
      rw [hj] at h1 ⊢
      rw [dB, if_pos (by simp; omega), if_neg (by simp)]
      unfold jO
      rw [bf hi, aD (by omega)]
      simp only [Option.bind_some, List.take_zero, Lib.join_nil]
      rw [qC (by simp; omega)]
      rfl
    · have hne : ¬ xs.take i = [] := by
        intro e
        have h9 : (xs.take i).length = i := by rw [List.length_take]; omega
        rw [e] at h9
        exact h0 h9.symm
      rw [if_neg hne] at hj
      rw [hj] at h1 ⊢
      simp only [List.length_append] at h1
      rw [dB, if_pos (by simp; omega), if_pos (by simp; omega), qC (by omega)]
      unfold jO
      simp only [bS]
      rw [bf hi, aD (by omega)]
      simp only [bS]
      rw [qC (by simp only [List.length_append]; omega)]
      rfl
theorem wv {xs : List (List UInt8)} {sep : List UInt8} (hx : xs.length ≤ 1000000000) (hl : (Lib.join xs sep).length ≤ 1000000000) : uD xs sep = some (Lib.join xs sep) := by
  unfold uD
  rw [if_pos ⟨by omega, by omega⟩]
theorem wC {xs : List (List UInt8)} {sep : List UInt8} {b : Nat} (h : ∀ x ∈ xs, x.length ≤ b) : (Lib.join xs sep).length ≤ (sep.length + b) * xs.length := by
  cases xs with
  | nil => simp [Lib.join_nil]
  | cons x r =>
    rw [Lib.join_cons, List.length_append]
    have hx := h x (by simp)
    have : (Lib.joinTail sep r).length ≤ (sep.length + b) * r.length := by
      unfold Lib.joinTail
      have hr : ∀ y ∈ r, y.length ≤ b := fun y hy => h y (by simp [hy])
      clear h hx
      induction r with
      | nil => simp
      | cons y r ih =>
        have h1 := hr y (by simp)
        have h2 := ih (fun z hz => hr z (by simp [hz]))
        simp only [List.map_cons, List.flatten_cons, List.length_append, List.length_cons, Nat.mul_succ]
        omega
    simp only [List.length_cons, Nat.mul_succ]
    omega
theorem Dv {p : List Int} {sep : List UInt8} (hp : pI p) (hs : sep.length ≤ 100) : ki p sep = some (Lib.join (p.map Lib.itoa) sep) ∧ (Lib.join (p.map Lib.itoa) sep).length ≤ 121 * p.length := by
  have hl := hp.1
  have hlen : (Lib.join (p.map Lib.itoa) sep).length ≤ 121 * p.length := by
    have := wC (xs := p.map Lib.itoa) (sep := sep) (b := 21) (fun x hx => by
      obtain ⟨n, hn, rfl⟩ := List.mem_map.1 hx
      exact ID (hp.2 n hn))
    rw [List.length_map] at this
    exact Nat.le_trans this (Nat.mul_le_mul_right _ (by omega))
  refine ⟨?_, hlen⟩
  unfold ki
  refine wJ (p := p) Lib.itoa (fun k l i => dk p sep k i l) (fun l => (uD l sep).bind fun s => some s) (fun k l => ?_) (fun k l i h hi => ?_) (by omega) |>.trans ?_
  · show dk p sep (k + 1) _ l = _
    rw [dk, if_neg (by simp)]
  · show dk p sep (k + 1) _ l = _
    rw [dk, if_pos (by simp; omega), bf h, aD (by omega)]
    simp only [bS]
    rw [Fx (hp.2 _ (List.getElem_mem h))]
    simp only [bS]
    rw [eh (by simp; omega)]
    rfl
  · rw [wv (by simp; omega) (by omega)]
    rfl
end Go.Vk
/- A schema's text: alike. -/
namespace Go.Vk
open Go.Proofs
theorem Dec.val {o : Option Bool} {P : Prop} (h : Dec o P) (p : P) : o = some true := by
  rcases h.cases with ⟨e, _⟩ | ⟨_, n⟩
  · exact e
  · exact absurd p n
theorem EA {ws : List (List UInt8)} (h : uk ws) : ∀ w ∈ ws, w.length ≤ 8 := fun w hw => by
  obtain ⟨i, hi, rfl⟩ := List.getElem_of_mem hw
  have := (h i (Nat.zero_le _) hi hi).1.1
  omega
def qR (a : aB) : List UInt8 := if 0 < a.z_.length then a.E_ ++ [58] ++ Lib.join (a.z_.map Lib.itoa) [44] else a.E_ ++ [61] ++ Lib.join a.I_ [44]
theorem It {a : aB} (ha : rk a) (h : rA a) : lh a = some (qR a) ∧ lc a = some (qR a) ∧ (qR a).length ≤ 400 := by
  have hN : a.E_.length ≤ 8 := by have := h.1.1; omega
  unfold lh lc qR
  rw [(Al (Dq ha)).val h, (Ea (Dq ha)).val h]
  simp only [Option.bind_some, Bool.not_true, Bool.false_eq_true, if_false]
  rcases h.2 with ⟨h0, hv, hw⟩ | ⟨h0, hc, _⟩
  · have hj := wC (xs := a.I_) (sep := [44]) (EA hw)
    have hl : (Lib.join a.I_ [44]).length ≤ 36 := by simp only [List.length_cons, List.length_nil] at hj; omega
    rw [if_pos (by simp; omega), if_neg (c := 0 < a.z_.length) (by omega), if_neg (c := decide ((a.z_.length : Int) > 0) = true) (by rw [decide_eq_true_iff]; omega), qC (by simp; omega)]
    simp only [bS]
    rw [ww (by omega) (by omega) (by simp), wv (by omega) (by omega)]
    simp only [bS]
    rw [qC (by simp; omega)]
    exact ⟨rfl, rfl, by simp; omega⟩
  · obtain ⟨hn, hl⟩ := Dv (sep := [44]) ha.2.1 (by simp)
    have hc2 : a.z_.length ≤ 3 := by omega
    have hs : lp a.E_ [58] = some (a.E_ ++ [58]) := qC (by simp only [List.length_cons, List.length_nil]; omega)
    have ht : lp (a.E_ ++ [58]) (Lib.join (a.z_.map Lib.itoa) [44]) = some (a.E_ ++ [58] ++ Lib.join (a.z_.map Lib.itoa) [44]) := qC (by simp only [List.length_append, List.length_cons, List.length_nil]; omega)
    rw [if_neg (c := decide ((a.I_.length : Int) > 0) = true) (by rw [decide_eq_true_iff]; omega), if_pos (c := 0 < a.z_.length) (by omega), if_pos (c := decide ((a.z_.length : Int) > 0) = true) (by rw [decide_eq_true_iff]; omega), hs]
    simp only [bS]
    rw [hn]
    simp only [bS]
    rw [ht]
    refine ⟨?_, rfl, by simp; omega⟩
    refine (wJ (p := a.z_) Lib.itoa (fun k l i => ep a k l i) (fun l => (lp a.E_ [58]).bind fun s => (gJ l [44]).bind fun y => (lp s y).bind fun s => some s) (fun k l => ?_) (fun k l i h hi => ?_) (by omega)).trans ?_
    · show ep a (k + 1) l _ = _
      rw [ep, if_neg (by simp)]
    · show ep a (k + 1) l _ = _
      rw [ep, if_pos (by simp; omega), bf h, aD (by omega)]
      simp only [bS]
      rw [FN (ha.2.1.2 _ (List.getElem_mem h))]
      simp only [bS]
      rw [eh (by simp; omega)]
      rfl
    · rw [hs]
      simp only [bS]
      rw [ww (by simp; omega) (by omega) (by simp)]
      simp only [bS]
      rw [ht]; rfl
def rN (s : am) : List UInt8 := Lib.join (s.d_.map qR) [59] ++ [124] ++ Lib.join s.m_ [44]
theorem yi {s : am} (hs : cB s) (h : kn s) : kJ s = some (rN s) ∧ kM s = some (rN s) ∧ (rN s).length ≤ 3000 := by
  have ha := h.1
  have hc := h.2.1
  have hA : ∀ {i : Nat} (hi : i < s.d_.length), lh s.d_[i] = some (qR s.d_[i]) ∧ lc s.d_[i] = some (qR s.d_[i]) ∧ (qR s.d_[i]).length ≤ 400 := fun hi => It (hs.1.2 _ (List.getElem_mem hi)) (h.attr hi)
  have h1 : (Lib.join (s.d_.map qR) [59]).length ≤ 2005 := by
    have := wC (xs := s.d_.map qR) (sep := [59]) (b := 400) (fun x hx => by
      obtain ⟨y, hy, rfl⟩ := List.mem_map.1 hx
      obtain ⟨i, hi, rfl⟩ := List.getElem_of_mem hy
      exact (hA hi).2.2)
    rw [List.length_map] at this
    simp only [List.length_cons, List.length_nil] at this
    omega
  have h2 : (Lib.join s.m_ [44]).length ≤ 27 := by
    have := wC (xs := s.m_) (sep := [44]) (EA h.2.2.1)
    simp only [List.length_cons, List.length_nil] at this
    omega
  have e1 : lp (Lib.join (s.d_.map qR) [59]) [124] = some (Lib.join (s.d_.map qR) [59] ++ [124]) := qC (by simp only [List.length_cons, List.length_nil]; omega)
  have e2 : lp (Lib.join (s.d_.map qR) [59] ++ [124]) (Lib.join s.m_ [44]) = some (rN s) := qC (by simp only [List.length_append, List.length_cons, List.length_nil]; omega)
  unfold kJ kM
  rw [(pb (qp hs)).val h, (pp (qp hs)).val h]
  simp only [Option.bind_some, Bool.not_true, Bool.false_eq_true, if_false]
  refine ⟨?_, ?_, by unfold rN; simp; omega⟩
  · refine (wJ (p := s.d_) qR (fun k l i => dH s k l i) (fun l => (gJ l [59]).bind fun y => (lp y [124]).bind fun t => (gJ s.m_ [44]).bind fun y => (lp t y).bind fun t => some t) (fun k l => ?_) (fun k l i h hi => ?_) (by omega)).trans ?_
    · show dH s (k + 1) l _ = _
      rw [dH, if_neg (by simp)]
    · show dH s (k + 1) l _ = _
      rw [dH, if_pos (by simp; omega), bf h, aD (by omega)]
      simp only [bS]
      rw [(hA h).1]
      simp only [bS]
      rw [eh (by simp; omega)]
      rfl
    · rw [ww (by simp; omega) (by omega) (by simp)]
      simp only [bS]
      rw [e1]
      simp only [bS]
      rw [ww (by omega) (by omega) (by simp)]
      simp only [bS]
      rw [e2]; rfl
  · refine (wJ (p := s.d_) qR (fun k l i => dG s k i l) (fun l => (uD l [59]).bind fun y => (lp y [124]).bind fun t => (uD s.m_ [44]).bind fun y => (lp t y).bind fun t => some t) (fun k l => ?_) (fun k l i h hi => ?_) (by omega)).trans ?_
    · show dG s (k + 1) _ l = _
      rw [dG, if_neg (by simp)]
    · show dG s (k + 1) _ l = _
      rw [dG, if_pos (by simp; omega), bf h, aD (by omega)]
      simp only [bS]
      rw [(hA h).2.1]
      simp only [bS]
      rw [eh (by simp; omega)]
      rfl
    · rw [wv (by simp; omega) (by omega)]
      simp only [bS]
      rw [e1]
      simp only [bS]
      rw [wv (by omega) (by omega)]
      simp only [bS]
      rw [e2]; rfl
def AG (w : List UInt8) : List Int := vQ w.length ++ byS w
theorem BN {w : List UInt8} (h : w.length ≤ 3000) : oh w = some (AG w) ∧ ot w = some (AG w) ∧ (AG w).length ≤ 3005 := by
  obtain ⟨h1, h2, h3⟩ := Cm (n := w.length) (by omega)
  have hb := uW w
  have e : vq w = some (byS w) := if_pos (by omega)
  unfold oh ot AG
  rw [h1, h2, e]
  simp only [bS]
  rw [eh (by omega)]
  exact ⟨rfl, rfl, by rw [List.length_append]; omega⟩
theorem da {a b : List Int} (ha : mF a) (hb : mF b) : mF (a ++ b) := fun x hx => (List.mem_append.1 hx).elim (ha x) (hb x)
theorem qW {α : Type} {p : List α} {B : α → List Int} (h : ∀ x ∈ p, mF (B x)) : mF (p.flatMap B) := fun y hy => by
  obtain ⟨x, hx, hy⟩ := List.mem_flatMap.1 hy
  exact h x hx y hy
theorem Hm (s : List UInt8) : mF (byS s) := fun x hx => by
  obtain ⟨b, _, rfl⟩ := List.mem_map.1 hx
  have := b.toNat_lt
  exact ⟨by omega, by omega⟩
theorem vU : ∀ n : Nat, mF (vQ n)
  | n => by
    by_cases h : n < 128
    · rw [Dy h]
      intro x hx
      rw [List.mem_singleton.1 hx]
      omega
    · rw [GT h]
      intro x hx
      rcases List.mem_cons.1 hx with rfl | hx
      · omega
      · exact vU (n / 128) x hx
termination_by n => n
theorem eC (x : Int) : mF (jT x) := by
  unfold jT
  split
  · exact vU _
  · intro x hx; cases hx
theorem yu (p : List Int) : mF (kK p) := qW fun x _ => eC x
theorem rM (p : List Int) : mF (mn p) := da (eC _) (yu _)
theorem tz (p : List (List Int)) : mF (p.flatMap mn) := qW fun x _ => rM x
theorem EZ (x : au) : mF (su x) :=
  da (da (da (da (da (da (da (da (da (da (da (eC _) (eC _)) (eC _)) (rM _)) (eC _)) (rM _)) (da (eC _) (tz _))) (eC _)) (rM _)) (eC _)) (eC _)) (eC _)
end Go.Vk
/- What a right state's bytes need: alike. -/
namespace Go.Vk
theorem zp {α : Type} {p : List α} {f : α → Nat} {b : Nat} (h : ∀ x ∈ p, f x ≤ b) : (p.map f).sum ≤ b * p.length := by
  induction p with
  | nil => simp
  | cons x p ih =>
    have h1 := h x (by simp)
    have h2 := ih fun y hy => h y (by simp [hy])
    simp only [List.map_cons, List.sum_cons, List.length_cons, Nat.mul_succ]
    omega
theorem KL {l : List Int} {n : Nat} (h : ∀ i, 0 ≤ i → i < l.length → ∀ h : i < l.length, (0 ≤ l[i] ∧ l[i] ≤ (n : Int) - 1) ∧ (0 < i → l[i - 1] < l[i])) : l.length ≤ n := by
  have key : ∀ i, ∀ hi : i < l.length, (i : Int) ≤ l[i] := by
    intro i
    induction i with
    | zero => intro hi; exact (h 0 (Nat.le_refl _) hi hi).1.1
    | succ i ih =>
      intro hi
      have h1 := ih (by omega)
      have h2 := (h (i + 1) (Nat.zero_le _) hi hi).2 (Nat.succ_pos i)
      simp only [Nat.add_sub_cancel] at h2
      omega
  by_cases h0 : l.length = 0
  · omega
  · have h1 := key (l.length - 1) (by omega)
    have h2 := (h (l.length - 1) (Nat.zero_le _) (by omega) (by omega)).1.2
    omega
theorem uJ {l : List Int} (h : ∀ x ∈ l, 0 ≤ x ∧ x ≤ 99999) : nS l := fun x hx => by
  have := h x hx
  exact ⟨by omega, by omega⟩
theorem NY {s : am} {f : bC} (h : uF s f) : f.u_ ≤ 4 := by
  have h1 := h.2.2.2
  have h2 := (FV (a := atr s f) (by
      obtain ⟨j, hj, e⟩ := List.getElem_of_mem (wX h.2.1)
      rw [← e]
      exact h.1.attr hj)).2
  unfold Db at h1
  split at h1 <;> omega
theorem Iq {s : am} {x : aV} (h : tv s x) : nS x.k_ ∧ (∀ y ∈ x.h_, nS y) ∧ x.k_.length + wI x.h_ ≤ 80 ∧ x.k_.sum ≤ 999 := by
  obtain ⟨hS, h1, h2, h3, h4⟩ := h
  have hc := hS.2.1
  have ha := hS.1
  have hC : ∀ y ∈ x.h_, nS y ∧ y.length ≤ 12 := fun y hy => by
    rcases h4 with h4 | ⟨h4, h5⟩
    · rw [List.length_eq_zero_iff.1 h4] at hy; cases hy
    · obtain ⟨i, hi, rfl⟩ := List.getElem_of_mem hy
      obtain ⟨c1, c2, _⟩ := h5 i hi (by omega)
      have hn := (FV (hS.attr (i := i) (by omega))).2
      have := Nat.mul_le_mul hn (show s.m_.length ≤ 3 by omega)
      exact ⟨uJ fun z hz => by have := c2 z hz; omega, by omega⟩
  have hl : x.h_.length ≤ 5 := by
    rcases h4 with h4 | ⟨h4, _⟩ <;> omega
  refine ⟨uJ fun z hz => by have := h2 z hz; omega, fun y hy => (hC y hy).1, ?_, h3⟩
  have := zp (p := x.h_) (f := List.length) (b := 12) fun y hy => (hC y hy).2
  unfold wI
  omega
theorem Ch {s : am} {t : ap} (hT : yl s t) {i : Nat} (hi : i < t.b_.length) : uB t.b_[i] ∧ szM t.b_[i] ≤ 100 := by
  have hL := hT.2.1
  have hs := hT.2.2.1
  have hA := hT.1.1
  obtain ⟨⟨hd, hb, hst, hat, hlf, hsp⟩, hk0, hk1⟩ := hT.2.2.2 i hi hi
  obtain ⟨s1, s2, s3, s4⟩ := Iq hst
  have a1 := KL hat.2.2
  have a2 : nS t.b_[i].d_ := uJ fun z hz => by
    obtain ⟨j, hj, rfl⟩ := List.getElem_of_mem hz
    have := (hat.2.2 j (Nat.zero_le _) hj hj).1
    omega
  have hu : -1 ≤ t.b_[i].x_ ∧ t.b_[i].x_ ≤ 31 := by
    by_cases h0 : i = 0
    · have := (hk0 h0).1; omega
    · obtain ⟨u, hu1, hu2, e, _⟩ := hk1 (by omega); omega
  generalize t.b_[i] = n at hd hb hst hat hlf hsp s1 s2 s3 s4 a1 a2 hu
  have hk : nS n.r_ ∧ n.r_.length ≤ 4 ∧ (-1 ≤ n.g_.q_ ∧ n.g_.q_ ≤ 5) ∧ (-1 ≤ n.g_.u_ ∧ n.g_.u_ ≤ 5) ∧ (0 ≤ n.C_ ∧ n.C_ ≤ 5) ∧ (0 ≤ n.D_ ∧ n.D_ ≤ 999) := by
    cases hlb : n.y_ with
    | true =>
      obtain ⟨⟨e1, e2⟩, e3, e4, e5⟩ := hlf hlb
      refine ⟨?_, by omega, by omega, by omega, by omega, e5.1, ?_⟩
      · rw [List.length_eq_zero_iff.1 e3]; intro x hx; cases hx
      · have := e5.2
        split at this <;> omega
    | false =>
      obtain ⟨hf, e1, e2, _, e4, e5⟩ := hsp hlb
      have b1 := (Jc hf).2
      have b2 := NY hf
      have b3 := hf.2.1
      have b4 := hf.2.2.1
      refine ⟨uJ fun z hz => ?_, by omega, by omega, by omega, by omega, by omega⟩
      obtain ⟨m, hm, e, _⟩ := e5.2 z hz
      omega
  obtain ⟨k1, k2, k3, k4, k5, k6⟩ := hk
  have hI : ∀ {x : Int}, -1 ≤ x ∧ x ≤ 99999 → InR x := fun h => ⟨by omega, by omega⟩
  refine ⟨⟨?_, k1, a2, s1, s2⟩, by unfold szM; omega⟩
  intro x hx
  simp only [List.mem_cons, List.not_mem_nil, or_false] at hx
  rcases hx with rfl | rfl | rfl | rfl | rfl | rfl | rfl <;> exact hI (by omega)
def AH (t : ap) : Prop := szU t ≤ 4000 ∧ t.b_.length ≤ 31 ∧ InR t.A_ ∧ ∀ y ∈ t.b_, uB y
theorem LO {s : am} {t : ap} (hT : yl s t) : AH t := by
  have hL := hT.2.1
  have hs := hT.2.2.1
  have := zp (p := t.b_) (f := szM) (b := 100) fun y hy => by
    obtain ⟨i, hi, rfl⟩ := List.getElem_of_mem hy
    exact (Ch hT hi).2
  refine ⟨by unfold szU; omega, by omega, ⟨by omega, by omega⟩, fun y hy => ?_⟩
  obtain ⟨i, hi, rfl⟩ := List.getElem_of_mem hy
  exact (Ch hT hi).1
theorem KK {t : ap} (h : CN t) : AH t := by
  have e := List.length_eq_zero_iff.1 h.1
  refine ⟨by unfold szU; rw [e]; simp, by rw [e]; simp, ⟨by have := h.2; omega, by have := h.2; omega⟩, fun y hy => ?_⟩
  rw [e] at hy; cases hy
def yo (t : ap) : List Int := jT t.A_ ++ jT t.b_.length ++ t.b_.flatMap su
theorem xO {t : ap} (h : AH t) : (yo t).length ≤ 22000 := by
  have h1 := dc t.A_
  have h2 := dc t.b_.length
  have h3 := zC t.b_
  have h4 := h.1
  have h5 := h.2.1
  unfold szU at h4
  unfold yo
  simp only [List.length_append]
  omega
theorem yf (t : ap) : mF (yo t) := da (da (eC _) (eC _)) (qW fun x _ => EZ x)
theorem Cb {t : ap} (h : AH t) : ku t = some (yo t) := by
  rw [DM (by have := h.1; omega), if_pos h.2.2]; rfl
theorem BO {t : ap} (h : AH t) {l : List Int} (hl : l.length ≤ 1000000) : iD ⟨l, false⟩ t = some ⟨l ++ yo t, false⟩ := by
  have hb := xO h
  have h1 := h.2.1
  have hU := h.1
  unfold yo at hb ⊢
  simp only [List.length_append] at hb
  have hc : InR (t.b_.length : Int) := zq (by omega)
  have a1 := kT [t.A_, (t.b_.length : Int)]
  simp only [List.length_cons, List.length_nil] at a1
  unfold iD
  rw [gl (by simp) _ _ (by omega)]
  simp only [bS]
  have e : (false || decide (¬ ∀ x ∈ [t.A_, (t.b_.length : Int)], InR x)) = false := by simp [hc, h.2.2.1]
  rw [e]
  refine (nw (M := 400000000) (p := t.b_) (σ := Bool) su (fun q x => q || decide (¬ uB x)) (dl t) (fun l q => some ⟨l, q⟩)
      (fun k l q => by show (if _ then _ else _) = _; rw [if_neg (by simp)])
      (fun k l q i hi hll => by
        have hm := List.getElem_mem hi
        exact Bj hi (by omega) (by have := Hf hm; omega) hll) (by omega) _ false (by simp only [List.length_append]; omega)).trans ?_
  rw [Ca, decide_eq_false (show ¬ ¬ _ from fun n => n h.2.2.2)]
  simp [vv, xy]
def Hx (x : aA) : Prop := wI x.o_ ≤ 32 ∧ ∀ r ∈ x.o_, nS r
theorem MY {x : aA} (h : FL x) : Hx x := by
  have hR : ∀ r ∈ x.o_, nS r ∧ r.length ≤ 3 := fun r hr => by
    obtain ⟨i, hi, rfl⟩ := List.getElem_of_mem hr
    obtain ⟨h1, h2⟩ := h.2 i hi hi
    have h8 := h.1
    have hp : 2 ^ i ≤ 2 ^ 8 := Nat.pow_le_pow_right (by omega) (by omega)
    exact ⟨uJ fun z hz => by have := h2 z hz; omega, h1.2⟩
  have := zp (p := x.o_) (f := List.length) (b := 3) fun y hy => (hR y hy).2
  have h8 := h.1
  exact ⟨by unfold wI; omega, fun r hr => (hR r hr).1⟩
def FJ (x : aA) : List Int := jT x.o_.length ++ x.o_.flatMap mn
theorem Fm {x : aA} (h : Hx x) : (FJ x).length ≤ 200 := by
  have h1 := dc x.o_.length
  have h2 := oY x.o_
  have h3 := h.1
  unfold FJ
  rw [List.length_append]
  omega
theorem Ah (x : aA) : mF (FJ x) := da (eC _) (tz _)
theorem DF {x : aA} (h : Hx x) : iO x = some (FJ x) := by
  rw [Bh (by have := h.1; omega), if_pos h.2]; rfl
theorem Em {x : aA} (h : Hx x) {l : List Int} (hl : l.length ≤ 1000000) : gu ⟨l, false⟩ x = some ⟨l ++ FJ x, false⟩ := by
  have h3 := h.1
  have h4 := @tf x.o_
  have h2 := dc x.o_.length
  unfold gu
  rw [sO (zq (by omega)) _ _ (by omega)]
  simp only [bS]
  rw [wY (p := x.o_) (by omega) (fv x) _ (fun _ _ _ _ => rfl) _ _ (by simp only [List.length_append]; omega), decide_eq_false (show ¬ ¬ _ from fun n => n h.2), List.append_assoc]
  rfl
end Go.Vk
