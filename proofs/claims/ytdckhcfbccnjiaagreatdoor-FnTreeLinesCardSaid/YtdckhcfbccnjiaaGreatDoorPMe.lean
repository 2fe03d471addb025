/- Merits of forks: they always answer. -/
import Derived.Test.YtdckhcfbccnjiaaGreatDoorPTr
import Derived.Test.YtdckhcfbccnjiaaGreatDoorRX
import Derived.Test.YtdckhcfbccnjiaaGreatDoorVkP
import Derived.Lib.ItoaLen
namespace Go.Vk
theorem tS {s : ae} {t : av} {f : ar} (hs : bp s) (ht : eO t) (i : Int) : Tot (gh s t f i) (fun l => l.length = 0 ∨ l.length = s.k_.length ∧ eM s) := by
  unfold gh
  have bad : Tot (some ([] : List Int)) (fun l => l.length = 0 ∨ l.length = s.k_.length ∧ eM s) := aA (.inl rfl)
  refine iK (iO hs ht).t (by simp only [sS]; exact bad) (fun hP => ?_)
  simp only [sS]
  by_cases hc : t.d_.length = 0
  · rw [show ((t.d_.length : Int) == 0) = true by simpa using hc]
    simp only [sS]
    exact bad
  rw [show ((t.d_.length : Int) == 0) = false by simpa using hc]
  simp only [sS]
  refine jh (jA hs).t (by simp only [sS]; exact bad) (fun hF => ?_)
  simp only [sS]
  rw [jX hs hF]
  simp only [bS]
  refine jh cX.t (by simp only [sS]; exact bad) (fun _ => ?_)
  simp only [sS]
  have hS := hP.1
  have hcl := hS.2.1
  refine (vZ ⟨by omega, by omega⟩).bind fun l0 hl0 => ?_
  have hl0 : l0.length = s.k_.length := by rw [hl0]; simp
  obtain ⟨a, ha, ea, et⟩ := qW hF.2.1
  have hA := hs.1.2 _ (List.getElem_mem ha)
  have hn := sd (hS.attr ha)
  have hC : t.d_.length = s.b_.length := by rcases hP.2.2.2.2 with g | g; omega; exact g.1
  have hcell : sU s.k_.length (nb s.b_[a]) t.e_ t.d_[a] := by
    rcases hP.2.2.2.2 with g | g
    · omega
    · exact g.2 a (by omega) ha
  refine cT (fun k (l : List Int) b => ct s f i l0 t k b l) (nb s.b_[a]) (fun _ l => l.length = s.k_.length) (fun k l hl => ?_) (fun k l b hb hl hk => ?_) (by omega) hl0
  · show Tot (ct _ _ _ _ _ (k + 1) _ _) _
    rw [ct, ea, bc ha]
    simp only [bS]
    rw [me hA (hS.attr ha)]
    simp only [bS]
    rw [if_neg (by simp)]
    exact aA (.inr ⟨hl, hS⟩)
  · show Tot (ct _ _ _ _ _ (k + 1) _ _) _
    rw [ct, ea, bc ha]
    simp only [bS]
    rw [me hA (hS.attr ha)]
    simp only [bS]
    rw [if_pos (by simp; omega), qE hs hF (b := (b : Int)) ⟨by omega, by rw [et]; omega⟩, aK (by omega)]
    simp only [bS]
    refine bg (fun _ => ?_) (fun _ => hk _ hl)
    refine cT (fun k2 (l2 : List Int) j => cZ l0 t f b s (ct s f i l0 t k) k2 j l2) s.k_.length (fun _ l2 => l2.length = s.k_.length) (fun k2 l2 h2 => ?_) (fun k2 l2 j hj h2 hk2 => ?_) (by omega) hl
    · show Tot (cZ _ _ _ _ _ _ (k2 + 1) _ _) _
      rw [cZ, hl0, if_neg (by simp), aK (by omega)]
      exact hk _ h2
    · show Tot (cZ _ _ _ _ _ _ (k2 + 1) _ _) _
      have hm : b * s.k_.length ≤ 12 := by
        calc b * s.k_.length ≤ 4 * 3 := Nat.mul_le_mul (by omega) (by omega)
          _ = 12 := rfl
      have hat : b * s.k_.length + j < t.d_[a].length := by rw [hcell.1]; exact wW hb hj
      rw [cZ, hl0, if_pos (by simp; omega), bc (show j < l2.length by omega), ea, bc (show a < t.d_.length by omega)]
      simp only [bS]
      rw [← Int.natCast_mul, jq (by omega), ← Int.natCast_add, jq (by omega), bc hat, aK (by omega)]
      simp only [bS]
      exact hk2 _ (by simpa using h2)
theorem wF {s : ae} {t : av} {f : ar} (hs : bp s) (ht : eO t) : T (lE s t f) := by
  unfold lE
  refine iK (iO hs ht).t (by simp only [sS]; exact bx _) (fun hP => ?_)
  simp only [sS]
  by_cases hc : t.d_.length = 0
  · rw [show ((t.d_.length : Int) == 0) = true by simpa using hc]
    simp only [sS]
    exact bx _
  rw [show ((t.d_.length : Int) == 0) = false by simpa using hc]
  simp only [sS]
  refine jh (jA hs).t (by simp only [sS]; exact bx _) (fun hF => ?_)
  simp only [sS]
  have hcl := hP.1.2.1
  refine (vZ ⟨by omega, by omega⟩).bind fun l0 hl0 => ?_
  have hl0 : l0.length = s.k_.length := by rw [hl0]; simp
  have hbr := vf hF
  refine cT (fun k (σ : List Int × List Int × List Int) i => ew s f t k i σ.1 σ.2.1 σ.2.2) (brN s f) (fun i σ => σ.1.length = s.k_.length ∧ σ.2.2.length = σ.2.1.length ∧ σ.2.1.length ≤ i ∧ ∀ x ∈ σ.2.1, 0 < x) (fun k σ h => ?_) (fun k σ i hi h hk => ?_) (by omega) (s := (l0, [], [])) ⟨hl0, rfl, by simp, fun x hx => by cases hx⟩
  · obtain ⟨h1, h2, h3, h4⟩ := h
    show T (ew s f t (k + 1) _ _ _ _)
    rw [ew, jX hs hF]
    simp only [bS]
    rw [if_neg (by simp)]
    refine (xY (by omega)).bind fun y _ => bg (fun _ => bx _) (fun _ => ?_)
    refine cT (gz σ.2.1 σ.2.2 y σ.1) σ.2.1.length (fun _ _ => True) (fun k3 z _ => ?_) (fun k3 z j hj _ hk3 => ?_) (by omega) trivial
    · rw [gz, if_neg (by simp)]
      refine cT (gC σ.2.1 σ.2.2 z y σ.1) σ.2.1.length (fun _ _ => True) (fun k4 v _ => ?_) (fun k4 v j hj _ hk4 => ?_) (by omega) trivial
      · rw [gC, if_neg (by simp)]
        exact (tL _).bind fun _ _ => (xv _).bind fun _ _ => bx _
      · rw [gC, if_pos (by simp; omega), bc (show j < σ.2.2.length by omega), bc hj, aK (by omega)]
        simp only [bS]
        have := h4 _ (List.getElem_mem hj)
        exact (zx (by omega)).bind fun _ _ => hk4 _ trivial
    · rw [gz, if_pos (by simp; omega), bc hj, aK (by omega)]
      exact hk3 _ trivial
  · obtain ⟨h1, h2, h3, h4⟩ := h
    show T (ew s f t (k + 1) _ _ _ _)
    rw [ew, jX hs hF]
    simp only [bS]
    rw [if_pos (by simp; omega)]
    refine (tS hs ht _).bind fun y hy => ?_
    have hyl : y.length ≤ s.k_.length := by rcases hy with g | g <;> omega
    refine cT (fun k2 (l2 : List Int) j => fv y σ.2.1 σ.2.2 (ew s f t k) i k2 j l2) y.length (fun _ l2 => l2.length = s.k_.length) (fun k2 l2 hl2 => ?_) (fun k2 l2 j hj hl2 hk2 => ?_) (by omega) h1
    · show T (fv _ _ _ _ _ (k2 + 1) _ _)
      rw [fv, if_neg (by simp), aK (by omega)]
      obtain ⟨v, hv, _⟩ := xY (l := y) (by omega)
      rw [hv]
      simp only [bS]
      refine bg (fun h0 => ?_) (fun _ => hk (_, _, _) ⟨hl2, h2, Nat.le_succ_of_le h3, h4⟩)
      refine (jR (by simp; omega)).bind fun l3 hl3 => (tL _).bind fun q _ => (jR (by simp; omega)).bind fun l4 hl4 => ?_
      subst hl3 hl4
      refine hk (_, _, _) ⟨hl2, by simp; omega, by simp; omega, fun x hx => ?_⟩
      rcases List.mem_append.1 hx with hx | hx
      · exact h4 x hx
      · rw [List.mem_singleton.1 hx]; simpa using h0
    · show T (fv _ _ _ _ _ (k2 + 1) _ _)
      rw [fv, if_pos (by simp; omega), bc (show j < l2.length by omega), bc hj, aK (by omega)]
      simp only [bS]
      exact hk2 _ (by simpa using hl2)
theorem xl {s : ae} (hS : eM s) {a : Int} (ha : 0 ≤ a ∧ a ≤ (s.b_.length : Int) - 1) : pt s [a] := by
  refine ⟨hS, by simp, fun i _ hi h => ?_⟩
  have : i = 0 := by simp at hi; omega
  subst this
  exact ⟨ha, fun g => absurd g (by omega)⟩
theorem zX {s : ae} {a : Int} {two : Bool} (hs : bp s) (hS : eM s) (ha : 0 ≤ a ∧ a ≤ (s.b_.length : Int) - 1) : Tot (jl s [a] two) (fun l => 1 ≤ l.length ∧ l.length ≤ 10) := by
  unfold jl
  rcases (mC (l := [a]) hs (by simp)).cases with ⟨e, _⟩ | ⟨_, g⟩
  · rw [e]
    simp only [sS]
    obtain ⟨j, rfl⟩ : ∃ j : Nat, a = j := ⟨a.toNat, by omega⟩
    have hjl : j < s.b_.length := by omega
    refine cT (de [(j : Int)] s two) 1 (fun i l => i ≤ l.length ∧ l.length ≤ 5 * i) (fun k l h => ?_) (fun k l i hi h hk => ?_) (by omega) ⟨by simp, by simp⟩
    · rw [de, if_neg (by simp)]
      exact aA (by omega)
    · have : i = 0 := by omega
      subst this
      have hl : l = [] := List.length_eq_zero_iff.1 (by omega)
      subst hl
      have e0 : idx [(j : Int)] ((0 : Nat) : Int) = some (j : Int) := by rw [bc (by simp)]; rfl
      rw [de, if_pos (by simp), e0]
      simp only [bS]
      rw [bc hjl]
      simp only [bS]
      refine bg (fun _ => ?_) (fun _ => ?_)
      · rw [cN (by simp), aK (by omega)]
        simp only [bS]
        refine hk _ ?_
        simp
      · have hF0 : lS s ⟨(j : Int), 0⟩ := by
          have hb := sd (hS.attr hjl)
          refine ⟨hS, by show 0 ≤ (j : Int) ∧ (j : Int) ≤ _; omega, ?_⟩
          have hat : atr s ⟨(j : Int), 0⟩ = s.b_[j] := by
            obtain ⟨i, hi, h1, h2⟩ := qW (s := s) (f := ⟨(j : Int), 0⟩) (by show 0 ≤ (j : Int) ∧ (j : Int) ≤ _; omega)
            have : j = i := by have h1 : (j : Int) = i := h1; omega
            subst this
            exact h2
          show -1 ≤ (0 : Int) ∧ (0 : Int) ≤ pf (atr s ⟨(j : Int), 0⟩)
          rw [hat]
          unfold pf
          split <;> omega
        refine cT (fun k2 l2 i2 => dh [(j : Int)] (0 : Nat) s (de [(j : Int)] s two k) k2 l2 i2) 4 (fun i2 l2 => l2.length ≤ i2 ∧ (1 ≤ i2 → 1 ≤ l2.length)) (fun k2 l2 h2 => ?_) (fun k2 l2 i2 hi2 h2 hk2 => ?_) (by omega) (s := []) ⟨by simp, fun h => absurd h (by omega)⟩
        · show Tot (dh _ _ _ _ (k2 + 1) _ _) _
          rw [dh, if_neg (by simp), aK (by omega)]
          have := h2.2 (by omega)
          exact hk _ ⟨by omega, by omega⟩
        · show Tot (dh _ _ _ _ (k2 + 1) _ _) _
          have e1 : idx [(j : Int)] ((0 : Nat) : Int) = some (j : Int) := by rw [bc (by simp)]; rfl
          rw [dh, if_pos (by simp; omega), e1, aK (by omega)]
          simp only [bS]
          by_cases h0 : i2 = 0
          · subst h0
            rcases (jA (f := ⟨(j : Int), 0⟩) hs).cases with ⟨e, _⟩ | ⟨_, g⟩
            · have c := h2.1
              rw [show ((0 : Nat) : Int) = (0 : Int) from rfl, e]
              simp only [bS]
              have hl2 : l2 = [] := List.length_eq_zero_iff.1 (by omega)
              subst hl2
              rw [if_pos trivial, cN (by simp)]
              simp only [bS]
              exact hk2 _ ⟨by simp, fun _ => by simp⟩
            · exact absurd hF0 g
          · have h1 := h2.2 (by omega)
            have c := h2.1
            refine (Dec.t (jA (f := ⟨(j : Int), (i2 : Int)⟩) hs)).bind fun b _ => bg (fun _ => ?_) (fun _ => hk2 _ ⟨by omega, fun _ => h1⟩)
            rw [cN (by simp; omega)]
            simp only [bS]
            exact hk2 _ ⟨by simp; omega, fun _ => by simp⟩
  · exact absurd (xl hS ha) g
theorem yH {s : ae} {t : av} {a : Int} {two : Bool} (hs : bp s) (ht : eO t) : T (mb s t a two) := by
  unfold mb
  refine iK (iO hs ht).t (by simp only [sS]; exact bx _) (fun hP => ?_)
  simp only [sS]
  by_cases hc : t.d_.length = 0
  · rw [show ((t.d_.length : Int) == 0) = true by simpa using hc]
    simp only [sS]
    exact bx _
  rw [show ((t.d_.length : Int) == 0) = false by simpa using hc]
  simp only [sS]
  refine jh cX.t (by simp only [sS]; exact bx _) (fun ha => ?_)
  simp only [sS]
  have hn := hP.1.1
  rw [bu (by omega) (by omega)] at ha
  refine (zX hs hP.1 ha).bind fun l hl => ?_
  have h0 : 0 < l.length := by omega
  have e0 : idx l 0 = some l[0] := bc h0
  rw [e0]
  simp only [bS]
  refine (wF hs ht).bind fun m _ => ?_
  have key : ∀ (d k i : Nat) (a b c e : Int), l.length - i = d → d < k → T (fx l s t k a b c e (i : Int)) := by
    intro d
    induction d with
    | zero =>
      intro k i a b c e hd hk
      obtain ⟨k, rfl⟩ : ∃ q, k = q + 1 := ⟨k - 1, by omega⟩
      rw [fx, if_neg (by simp; omega)]
      exact bx _
    | succ d ih =>
      intro k i a b c e hd hk
      obtain ⟨k, rfl⟩ : ∃ q, k = q + 1 := ⟨k - 1, by omega⟩
      have hi : i < l.length := by omega
      rw [fx, if_pos (by simp; omega), bc hi]
      simp only [bS]
      refine (wF hs ht).bind fun m _ => ?_
      unfold ll
      rw [aK (by omega), bc hi]
      exact (nI _ _).bind fun _ _ => bg (fun _ => ih _ _ _ _ _ _ (by omega) (by omega)) (fun _ => ih _ _ _ _ _ _ (by omega) (by omega))
  exact key (l.length - 1) bh 1 _ _ _ _ rfl (eY (by omega))
theorem BC {s : ae} {t : av} {l : List Int} {two : Bool} (hs : bp s) (ht : eO t) (hl : l.length ≤ 1048576) : T (nS s t l two) := by
  unfold nS
  refine iK (iO hs ht).t (by simp only [sS]; exact bx _) (fun hP => ?_)
  simp only [sS]
  by_cases hc : t.d_.length = 0
  · rw [show ((t.d_.length : Int) == 0) = true by simpa using hc]
    simp only [sS]
    exact bx _
  rw [show ((t.d_.length : Int) == 0) = false by simpa using hc]
  simp only [sS]
  refine jh (mC hs hl).t (by simp only [sS]; exact bx _) (fun ha => ?_)
  simp only [sS]
  refine cT (fun k (r : List bt) i => eb l s t two k i r) l.length (fun i r => r.length = i) (fun k r h => ?_) (fun k r i hi h hk => ?_) (by omega) rfl
  · show T (eb _ _ _ _ (k + 1) _ _)
    rw [eb, if_neg (by simp)]
    exact bx _
  · show T (eb _ _ _ _ (k + 1) _ _)
    rw [eb, if_pos (by simp; omega), bc hi]
    simp only [bS]
    refine (yH hs ht).bind fun b _ => ?_
    unfold mw
    have key : ∀ (j k2 : Nat), j ≤ r.length → j < k2 → T (ip r b.1.g_ b.1.c_ b.2.C_ b.2.B_ (eb l s t two k) i k2 (j : Int)) := by
      have fin : ∀ j : Nat, j ≤ r.length → T ((sub r 0 (j : Int)).bind fun a => (app ([] : List bt) a).bind fun c => (app c ([(bt.mk (ar.mk b.1.g_ b.1.c_) (aZ.mk b.2.C_ b.2.B_))] : List bt)).bind fun d => (sub r (j : Int) (r.length : Int)).bind fun e => (app d e).bind fun f => (eb l s t two k) (IntKind.i64.wrap ((i : Int) + 1)) f) := by
        intro j hj
        refine (nr ⟨by omega, by omega, by omega⟩).bind fun l1 h1 => ?_
        have h1 : l1.length = j := by rw [h1]; simp; omega
        refine (jR (by simp; omega)).bind fun l2 h2 => ?_
        have h2 : l2.length = j := by rw [h2]; simp [h1]
        refine (jR (by simp; omega)).bind fun l3 h3 => ?_
        have h3 : l3.length = j + 1 := by rw [h3]; simp [h2]
        refine (nr ⟨by omega, by omega, by omega⟩).bind fun l4 h4 => ?_
        have h4 : l4.length = r.length - j := by rw [h4]; simp
        refine (jR (by omega)).bind fun l5 h5 => ?_
        rw [aK (by omega)]
        exact hk _ (by rw [h5]; simp; omega)
      intro j
      induction j with
      | zero =>
        intro k2 _ hk2
        obtain ⟨k2, rfl⟩ : ∃ q, k2 = q + 1 := ⟨k2 - 1, by omega⟩
        rw [ip, if_neg (by simp)]
        simp only [sS]
        exact fin 0 (by omega)
      | succ j ih =>
        intro k2 hj hk2
        obtain ⟨k2, rfl⟩ : ∃ q, k2 = q + 1 := ⟨k2 - 1, by omega⟩
        rw [ip, if_pos (by simp), bu (by omega) (by omega), show ((j + 1 : Nat) : Int) - 1 = (j : Int) by omega, bc (show j < r.length by omega)]
        simp only [bS]
        unfold oc
        refine Tot.bind (P := fun _ => True) (((nI _ _).bind fun _ _ => bx _).bind fun _ _ => bx _) (fun u _ => bg (fun _ => ih k2 (by omega) (by omega)) (fun _ => fin (j + 1) hj))
    exact key r.length bh (Nat.le_refl _) (eY (by omega))
theorem wm {s : ae} {t : av} {l : List Int} {two : Bool} (hs : bp s) (ht : eO t) (hl : l.length ≤ 1048576) : T (km s t l two) := by
  unfold km
  refine (BC hs ht hl).bind fun r _ => bg (fun _ => bx _) (fun h => ?_)
  have h : r.length ≠ 0 := by simpa using h
  unfold iX
  refine bg (fun h1 => ?_) (fun _ => (gf ⟨by omega, by omega⟩).bind fun _ _ => bx _)
  have h1 : (r.length : Int) > 1 := by simpa using h1
  exact (gf ⟨by omega, by omega⟩).bind fun _ _ => (gf ⟨by omega, by omega⟩).bind fun _ _ => bx _
end Go.Vk
/- Verdicts, places, copies: they always answer. -/
namespace Go.Vk
def V (x : Int) : Prop := -9223372036854775808 ≤ x ∧ x ≤ 9223372036854775807
theorem oU (n : Int) : V (IntKind.i64.wrap n) := by
  unfold V
  rw [IntKind.wrap_i64]
  omega
theorem dP {x : Int} (h : -1000000000000 ≤ x ∧ x ≤ 1000000000000) : V x := ⟨by omega, by omega⟩
theorem so (a : aZ) : Tot (gG a) (fun b => b = true → yB a) := by
  unfold gG
  exact (nN a).t.bind fun b hb => aA fun h => hb (by simp at h; exact h.1)
theorem zl (p : Int) : Tot (mD p) (fun v => v ≤ 9223372036854775807) := by
  unfold mD
  exact cX.t.bind fun b _ => bg (fun _ => aA (by omega)) (fun _ => aA (oU _).2)
theorem yb (a b : aZ) (n k : Int) : T (lW a b n k) := by
  unfold lW
  refine iK (so a) (by simp only [sS]; exact bx _) (fun _ => ?_)
  simp only [sS]
  refine jh (so b) (by simp only [sS]; exact bx _) (fun _ => ?_)
  simp only [sS]
  refine Tot.bind (P := fun _ => True) ((nI a b).bind fun _ _ => bx _) (fun u _ => ?_)
  cases u
  · simp only [sS]
    refine jh cX.t (by simp only [sS]; exact bx _) (fun hn => ?_)
    simp only [sS]
    refine jh cX.t (by simp only [sS]; exact bx _) (fun _ => ?_)
    simp only [sS]
    exact (xp a b).bind fun _ _ => (pe _ _).bind fun _ _ => (ou (by omega) (by omega)).bind fun _ _ => (pe _ _).bind fun _ _ => (pe _ _).bind fun _ _ => (zl k).bind fun v hv => (ou hv (by omega)).bind fun _ _ => (pe _ _).bind fun _ _ => (sw _ _).bind fun _ _ => bx _
  · simp only [sS]
    exact bx _
theorem Bn (r : cA) (n : Int) : T (nH r n) := by
  unfold nH
  refine (sE r).t.bind fun a _ => ?_
  refine Tot.bind (P := fun _ => True) (bg (fun _ => cX.t.bind fun _ _ => bx _) (fun _ => bx _)) (fun b _ => ?_)
  exact Tot.bind (P := fun _ => True) (bg (fun _ => (zl _).bind fun _ _ => bx _) (fun _ => bx _)) (fun _ _ => bx _)
theorem xw (r : cA) (a b : aZ) (n : Int) : T (kW r a b n) := by
  unfold kW
  refine iK (sE r).t (by simp only [sS]; exact bx _) (fun _ => ?_)
  simp only [sS]
  refine jh cX.t (by simp only [sS]; exact bx _) (fun _ => ?_)
  simp only [sS]
  refine jh (so a) (by simp only [sS]; exact bx _) (fun _ => ?_)
  simp only [sS]
  refine jh (so b) (by simp only [sS]; exact bx _) (fun _ => ?_)
  simp only [sS]
  refine Tot.bind (P := fun _ => True) ((nI a b).bind fun _ _ => bx _) (fun u _ => ?_)
  exact bg (fun _ => bx _) (fun _ => bg (fun _ => bx _) (fun _ => (yb ..).bind fun _ _ => bg (fun _ => bx _) (fun _ => (Bn ..).bind fun _ _ => bg (fun _ => bx _) (fun _ => bx _))))
theorem wM {l : List Int} (h : l.length ≤ 1048576) : Tot (jg l) (fun v => -1 ≤ v ∧ v < l.length ∧ (0 < l.length → 0 ≤ v)) := by
  unfold jg
  refine cT (eo l) l.length (fun i s => -1 ≤ s ∧ s < i ∧ (0 < i → 0 ≤ s)) (fun k s h1 => ?_) (fun k s i hi h1 hk => ?_) (by omega) ⟨by omega, by omega, fun g => absurd g (by omega)⟩
  · rw [eo, if_neg (by simp)]
    exact aA h1
  · obtain ⟨h1, h2, h3⟩ := h1
    rw [eo, if_pos (by simp; omega), bc hi, aK (by omega)]
    simp only [bS]
    refine Tot.bind (P := fun u => u = false → 0 ≤ s) (bg (fun _ => aA (fun h => by cases h)) (fun g => ?_)) (fun u hu => bg (fun _ => hk _ ⟨by omega, by omega, fun _ => by omega⟩) (fun g => ?_))
    · have g : 0 ≤ s := by simpa using g
      exact (gf ⟨g, by omega⟩).bind fun _ _ => aA fun _ => g
    · have := hu (by simpa using g)
      exact hk _ ⟨by omega, by omega, fun _ => by omega⟩
theorem uC {s : ae} {t : av} (hs : bp s) (ht : eO t) : T (dO s t) := by
  rcases (iO hs ht).cases with ⟨e, h⟩ | ⟨e, h⟩
  · rw [qR hs ht h]
    exact bx _
  · unfold dO
    rw [e]
    simp only [sS]
    exact bx _
theorem tJ {s : ae} {t : av} (hs : bp s) (ht : eO t) : T (kb s t) := by
  unfold kb
  rcases (iO hs ht).cases with ⟨e, h⟩ | ⟨e, h⟩
  · rw [e]
    simp only [sS]
    have h1 := h.1.2.1
    have h2 := h.2.1
    exact (uC hs ht).bind fun _ _ => (wM (by omega)).bind fun v hv => (gf ⟨hv.2.2 (by omega), hv.2.1⟩).bind fun _ _ => bx _
  · rw [e]
    simp only [sS]
    exact bx _
theorem zr {s : ae} (hs : bp s) (f : ar) : ∃ n : Nat, dF s f = some (n : Int) ∧ n ≤ 4 := by
  rcases (jA (f := f) hs).cases with ⟨_, h⟩ | ⟨_, h⟩
  · exact ⟨_, jX hs h, (vf h).2⟩
  · exact ⟨0, tp hs h, by omega⟩
theorem wi {s : ae} {t : av} {f : ar} (hs : bp s) (ht : eO t) : Tot (kh s t f) V := by
  unfold kh
  obtain ⟨n, eB, hn⟩ := zr hs f
  refine cT (fun k (l : List Int) i => dS s f t k l i) n (fun i l => l.length = i) (fun k l h => ?_) (fun k l i hi h hk => ?_) (by omega) (s := []) rfl
  · show Tot (dS s f t (k + 1) _ _) _
    rw [dS, eB]
    simp only [bS]
    rw [if_neg (by simp)]
    exact (wM (by omega)).bind fun v hv => aA (dP ⟨by omega, by omega⟩)
  · show Tot (dS s f t (k + 1) _ _) _
    rw [dS, eB]
    simp only [bS]
    rw [if_pos (by simp; omega)]
    have hcl := hs.2.1
    refine (tS hs ht _).bind fun y hy => bg (fun _ => aA (dP ⟨by omega, by omega⟩)) (fun _ => (xY (by rcases hy with g | g <;> omega)).bind fun v _ => (jR (by simp; omega)).bind fun l2 hl2 => ?_)
    subst hl2
    rw [aK (by omega)]
    exact hk _ (by simp; omega)
theorem uP {t : av} (h : t.e_.length ≤ 1048576) : lG t = some ⟨t.e_, []⟩ := by
  unfold lG
  rw [cN (by simp; omega)]
  rfl
theorem Aw {s : ae} {r : cA} {n : aR} (hs : bp s) (hn : lU n) : T (mM s r n) := by
  unfold mM
  have ht := hn.2.2.2.2.1
  have ha := hn.2.2.2.2.2.2.1.1
  exact (wm hs ht ha).bind fun _ _ => bg (fun _ => bx _) (fun _ => (uC hs ht).bind fun _ _ => (xw ..).bind fun _ _ => bg (fun _ => bx _) (fun _ => bx _))
theorem rF {n : aR} (h : lU n) : gR n = some n := by
  have h1 := h.2.2.1.1
  have h2 := h.2.2.2.2.2.2.1.1
  unfold gR
  rw [cN (by simp; omega), cN (by simp; omega), (qM h.2.2.2.2.1).1]
  rfl
theorem np {t : aj} (h : go t) : fU t = some t := by
  have h0 := h.1.1
  unfold fU
  rw [pj (p := t.a_) id (fH t) (fun l => some ⟨l, t.j_⟩) (fun k l => by rw [fH, if_neg (by simp)]) (fun k l i hi hl => by
    rw [fH, if_pos (by simp; omega), bc hi, aK (by omega)]
    simp only [bS]
    rw [rF (h.1.2 _ (List.getElem_mem hi))]
    simp only [bS]
    rw [cN (by simp; omega)]
    rfl) (by omega), List.map_id]
theorem kK {t : bd} (h : t.q_.length ≤ 1048576) : eC t = some t := by
  unfold eC
  rw [cN (by simp; omega)]
  rfl
theorem uV (t : bd) : Dec (kI t) (t.q_.length ≤ 600 ∧ 0 ≤ t.c_ ∧ t.c_ ≤ t.q_.length) := by
  unfold kI
  by_cases h : t.q_.length ≤ 600
  · rw [if_pos (by simp; omega)]
    refine Dec.of_iff ?_ (show ((0 : Int) ≤ t.c_ ∧ t.c_ ≤ (t.q_.length : Int)) ↔ _ from ⟨fun g => ⟨h, g⟩, fun g => g.2⟩)
    simp only [xc]
    exact cX
  · rw [if_neg (by simp; omega)]
    exact cy fun g => h g.1
theorem BA {t : bd} (h : t.q_.length ≤ 1048576) : Tot (nW t) (fun y => y.1.q_.length ≤ 1048576) := by
  unfold nW lL
  rw [kK h]
  simp only [bS]
  rcases (uV t).cases with ⟨e, g⟩ | ⟨e, _⟩
  · rw [e]
    simp only [sS]
    refine bg (fun _ => aA h) (fun g2 => ?_)
    have g2 : ¬ IntKind.i64.wrap ((t.q_.length : Int) - t.c_) < 2 := by simpa using g2
    rw [bu (by omega) (by omega)] at g2
    rw [bu (n := t.c_ + 1) (by omega) (by omega)]
    exact (gf ⟨by omega, by omega⟩).bind fun _ _ => (gf ⟨by omega, by omega⟩).bind fun _ _ => aA h
  · rw [e]
    simp only [sS]
    rw [if_pos (by simp)]
    exact aA h
theorem yJ {n k : Nat} (hn : n ≤ 20) (hk : k ≤ 20) (r : Int) : Tot (iC n k r) oW := by
  by_cases h : 0 ≤ r ∧ r ≤ 1048576
  · obtain ⟨v, e, _, g⟩ := vl hn hk h
    exact ⟨v, e, g⟩
  · unfold iC
    have hb := wE n k
    rw [sk]
    simp only [bS]
    rw [bu (by omega) (by omega)]
    have : bj r 0 ((qt n k : Int) - 1) = some false := by
      unfold bj
      have : ¬ (r ≥ 0 ∧ r ≤ (qt n k : Int) - 1) := by omega
      simp
      omega
    rw [this]
    simp only [sS]
    exact aA ⟨by simp, fun x hx => by cases hx⟩
theorem xA {t : bd} {n k : Nat} (h : t.q_.length ≤ 1048576) (hn : n ≤ 20) (hk : k ≤ 20) : Tot (jp t n k) (fun y => y.1.q_.length ≤ 1048576 ∧ oW y.2.1) := by
  have bad : oW [] := ⟨by simp, fun x hx => by cases hx⟩
  unfold jp kS
  rw [sk]
  simp only [bS]
  obtain ⟨⟨y1, y2, y3⟩, e, hy⟩ := BA h
  rw [e, kK h]
  simp only [bS]
  have key : Tot (if (!y3) = true then some true else (bj (qt n k : Int) 1 65536).bind fun y => some (!y)) (fun u => u = false → (qt n k : Int) ≠ 0) := by
    refine bg (fun _ => aA (fun h => by cases h)) (fun _ => cX.t.bind fun b hb => aA fun g => ?_)
    have : b = true := by simpa using g
    have := hb this
    omega
  obtain ⟨u, eu, hu⟩ := key
  rw [eu]
  simp only [bS]
  cases u
  · simp only [sS]
    have h0 := hu rfl
    unfold rem
    rw [if_neg h0]
    simp only [bS]
    unfold hI
    simp only [sS]
    exact (yJ hn hk _).bind fun l hl => aA ⟨hy, hl⟩
  · simp only [sS]
    unfold hI
    simp only [sS]
    rw [kK h]
    exact aA ⟨h, bad⟩
end Go.Vk
/- Splits, memory, learning: they always answer, and trees stay small. -/
namespace Go.Vk
def smI (n : Nat) (l : List Int) : Prop := l.length ≤ n ∧ ∀ y ∈ l, V y
def lq (d : Nat) (t : av) : Prop := smI (8 + d) t.e_ ∧ t.d_.length ≤ 8 + d ∧ ∀ c ∈ t.d_, smI (16 + d) c
def nM (d : Nat) (n : aR) : Prop := (V n.l_.g_ ∧ V n.l_.c_) ∧ smI (8 + d) n.r_ ∧ V n.w_ ∧ lq d n.n_ ∧ V n.v_ ∧ smI (24 + d) n.b_ ∧ V n.m_ ∧ V n.o_ ∧ V n.p_
def fN (d : Nat) (t : aj) : Prop := (t.a_.length ≤ 40 ∧ ∀ n ∈ t.a_, nM d n) ∧ V t.j_
theorem smI.mono {n m : Nat} (h : n ≤ m) {l : List Int} (g : smI n l) : smI m l := ⟨Nat.le_trans g.1 h, g.2⟩
theorem smI.sml {n : Nat} {l : List Int} (g : smI n l) (h : n ≤ 1000) : kn l := ⟨by have := g.1; omega, g.2⟩
theorem smI.app {n m : Nat} {l : List Int} {x : Int} (g : smI n l) (hx : V x) (h : n + 1 ≤ m) : smI m (l ++ [x]) := ⟨by have := g.1; simp; omega, fun y hy => by
  rcases List.mem_append.1 hy with hy | hy
  · exact g.2 y hy
  · rw [List.mem_singleton.1 hy]; exact hx⟩
theorem smI.set {n : Nat} {l : List Int} {x : Int} (g : smI n l) (hx : V x) (i : Nat) : smI n (l.set i x) := ⟨by rw [List.length_set]; exact g.1, fun y hy => by
  rcases List.mem_or_eq_of_mem_set hy with hy | rfl
  · exact g.2 y hy
  · exact hx⟩
theorem smI.nil (n : Nat) : smI n [] := ⟨by simp, fun x hx => by cases hx⟩
theorem smI.small {n : Nat} {l : List Int} (h : oW l) (hn : 20 ≤ n) : smI n l := ⟨Nat.le_trans h.1 hn, fun y hy => by have := h.2 y hy; exact dP ⟨by omega, by omega⟩⟩
theorem lq.mono {d d' : Nat} (h : d ≤ d') {t : av} (g : lq d t) : lq d' t := ⟨g.1.mono (by omega), by have := g.2.1; omega, fun c hc => (g.2.2 c hc).mono (by omega)⟩
theorem nM.mono {d d' : Nat} (h : d ≤ d') {t : aR} (g : nM d t) : nM d' t := by
  obtain ⟨g1, g2, g3, g4, g5, g6, g7, g8, g9⟩ := g
  exact ⟨g1, g2.mono (by omega), g3, g4.mono h, g5, g6.mono (by omega), g7, g8, g9⟩
theorem lq.sml {d : Nat} (hd : d ≤ 10) {t : av} (g : lq d t) : eO t := ⟨g.1.sml (by omega), by have := g.2.1; omega, fun c hc => (g.2.2 c hc).sml (by omega)⟩
theorem nM.sml {d : Nat} (hd : d ≤ 10) {t : aR} (g : nM d t) : lU t := by
  obtain ⟨g1, g2, g3, g4, g5, g6, g7, g8, g9⟩ := g
  exact ⟨trivial, g1, g2.sml (by omega), g3, g4.sml hd, g5, g6.sml (by omega), g7, g8, g9⟩
theorem fN.sml {d : Nat} (hd : d ≤ 10) {t : aj} (g : fN d t) : go t := ⟨⟨by have := g.1.1; omega, fun n hn => (g.1.2 n hn).sml hd⟩, g.2⟩
theorem fN.mono {d d' : Nat} (h : d ≤ d') {t : aj} (g : fN d t) : fN d' t := ⟨⟨g.1.1, fun n hn => (g.1.2 n hn).mono h⟩, g.2⟩
theorem fN.setN {d : Nat} {l : List aR} {x : Int} {n : aR} (g : l.length ≤ 40 ∧ ∀ n ∈ l, nM d n) (hn : nM d n) (hx : V x) (i : Nat) : fN d ⟨l.set i n, x⟩ := ⟨⟨by rw [List.length_set]; exact g.1, fun y hy => by
  rcases List.mem_or_eq_of_mem_set hy with hy | rfl
  · exact g.2 y hy
  · exact hn⟩, hx⟩
theorem rz {l : List Int} {n m : Nat} (h : nq l n) (hn : n ≤ m) : smI m l := ⟨by rw [h.1]; exact hn, fun y hy => by have := h.2 y hy; exact dP ⟨by omega, by omega⟩⟩
theorem yV {s : ae} {t : av} (hS : eM s) (h : sY s t) : lq 0 t := by
  obtain ⟨h1, h2, h3⟩ := h
  have ha := hS.1
  have hc := hS.2.1
  refine ⟨rz h1 (by omega), by omega, fun c hc => ?_⟩
  obtain ⟨i, hi, rfl⟩ := List.getElem_of_mem hc
  have hi2 : i < s.b_.length := by omega
  exact rz (h3 i hi hi2) (by have := nbc hS hi2; omega)
theorem BJ {s : ae} {t : av} (h : nv s t) : sY s t := by
  obtain ⟨_, h2, h3, _, h5⟩ := h
  refine ⟨⟨h2, fun x hx => by have := h3 x hx; omega⟩, by rcases h5 with g | g; exact .inl g; exact .inr g.1, fun i hi hi2 => ?_⟩
  rcases h5 with g | g
  · omega
  · obtain ⟨c1, c2, _⟩ := g.2 i hi hi2
    exact ⟨c1, fun x hx => by have := c2 x hx; omega⟩
theorem qi {s : ae} (hs : bp s) : Tot (fT s) (lq 0) := by
  rcases (kz (kB hs)).cases with ⟨_, h⟩ | ⟨e, _⟩
  · rw [ut hs h]
    exact aA (yV h zq)
  · unfold fT
    rw [e]
    simp only [sS]
    exact aA ⟨.nil _, by simp, fun x hx => by cases hx⟩
theorem sy {s : ae} {t : av} {e : bw} {w : Int} (hs : bp s) (ht : lq 0 t) : Tot (gD s t e w) (fun y => lq 0 y.1) := by
  have hm := ht.sml (by omega)
  rcases (iO hs hm).cases with ⟨_, h⟩ | ⟨eP, _⟩
  · obtain ⟨v, h1, _, h2⟩ := yA (e := e) (w := w) hs h.1 (BJ h)
    exact ⟨v, h1, yV h.1 h2⟩
  · unfold gD
    rw [(qM hm).1, eP]
    simp only [sS]
    exact aA ht
theorem zY {s : ae} {t : aj} {i : Int} {f : ar} {sets : List (List Int)} (hs : bp s) (ht : fN 0 t) (hl : sets.length ≤ 4) (hset : ∀ x ∈ sets, oW x) : Tot (kU s t i f sets) (fun y => fN 0 y.1) := by
  have hm := ht.sml (by omega)
  unfold kU
  rw [np hm]
  simp only [bS]
  refine iK (nP hs hm).t (by simp only [sS]; exact aA ht) (fun hT => ?_)
  simp only [sS]
  refine jh cX.t (by simp only [sS]; exact aA ht) (fun hi => ?_)
  simp only [sS]
  have hlen := hT.2.1
  rw [bu (by omega) (by omega)] at hi
  obtain ⟨j, rfl⟩ : ∃ j : Nat, i = j := ⟨i.toNat, by omega⟩
  have hj : j < t.a_.length := by omega
  have hn := ht.1.2 _ (List.getElem_mem hj)
  rw [bc hj]
  simp only [bS]
  cases t.a_[j].s_ with
  | false => simp only [sS]; exact aA ht
  | true =>
  simp only [sS]
  cases ((t.a_[j].n_.d_.length : Int) == 0) with
  | true => simp only [sS]; exact aA ht
  | false =>
  simp only [sS]
  refine jh (jA hs).t (by simp only [sS]; exact aA ht) (fun hF => ?_)
  simp only [sS]
  rw [jX hs hF]
  simp only [bS]
  refine bg (fun _ => aA ht) (fun _ => ?_)
  refine cT (fun k (_ : Unit) x => ex sets s t t (j : Int) f k x) sets.length (fun _ _ => True) (fun k _ _ => ?_) (fun k _ x hx _ hk => ?_) (by omega) (s := ()) trivial
  · show Tot (ex _ _ _ _ _ _ (k + 1) _) _
    rw [ex, if_neg (by simp), bc hj]
    simp only [bS]
    refine bg (fun _ => aA ht) (fun g => ?_)
    have g : ¬ (IntKind.i64.wrap ((t.a_.length : Int) + (sets.length : Int)) > 31) := by simp at g; omega
    rw [bu (by omega) (by omega)] at g
    obtain ⟨g1, g2, g3, g4, g5, g6, g7, g8, g9⟩ := hn
    refine (wi hs (g4.sml (by omega))).bind fun m hmiss => ?_
    rw [uP (by have := g4.1.1; omega)]
    simp only [bS]
    rw [cN (by have := g6.1; simp; omega)]
    simp only [Option.bind_some, List.nil_append]
    unfold kt
    refine cT (fun k2 (σ : List aR × List Int) x => er sets s t.a_[j].m_ (j : Int) t f m t.a_[j].n_.e_ [] t.a_[j].b_ t.a_[j].o_ t.a_[j].p_ t k2 σ.1 σ.2 x) sets.length (fun x σ => σ.1.length = t.a_.length + x ∧ σ.2.length = x ∧ (∀ n ∈ σ.1, nM 0 n) ∧ ∀ y ∈ σ.2, V y) (fun k2 σ h => ?_) (fun k2 σ x hx h hk2 => ?_) (by omega) (s := (t.a_, [])) ⟨rfl, rfl, ht.1.2, fun x hx => by cases hx⟩
    · obtain ⟨h1, h2, h3, h4⟩ := h
      show Tot (er _ _ _ _ _ _ _ _ _ _ _ _ _ (k2 + 1) _ _ _) _
      rw [er, if_neg (by simp), bc (show j < σ.1.length by omega)]
      simp only [bS]
      have hF2 := hF.2
      have hlast : pf (atr s f) ≤ 4 := by
        have := sd (pu hF.1 hF.2.1)
        unfold pf
        split <;> omega
      have ha := hF.1.1
      have vA : V f.g_ := dP ⟨by omega, by omega⟩
      have vB : V f.c_ := dP ⟨by omega, by omega⟩
      have z : V 0 := dP ⟨by omega, by omega⟩
      have hN : nM 0 ⟨false, f, σ.2, m, ⟨t.a_[j].n_.e_, []⟩, 0, t.a_[j].b_, t.a_[j].m_, t.a_[j].o_, t.a_[j].p_⟩ :=
        ⟨⟨vA, vB⟩, ⟨by show σ.2.length ≤ _; omega, h4⟩, hmiss, ⟨g4.1, by simp, fun x hx => by cases hx⟩, z, g6, g7, g8, g9⟩
      exact aA (fN.setN ⟨by omega, h3⟩ hN ht.2 _)
    · obtain ⟨h1, h2, h3, h4⟩ := h
      show Tot (er _ _ _ _ _ _ _ _ _ _ _ _ _ (k2 + 1) _ _ _) _
      rw [er, if_pos (by simp; omega), cN (by simp; omega)]
      simp only [bS]
      rw [bc hx]
      simp only [bS]
      obtain ⟨y, ey, hy⟩ := qi hs
      rw [ey]
      simp only [bS]
      have hx2 := hset _ (List.getElem_mem hx)
      rw [cN (by have := hx2.1; simp; omega)]
      simp only [Option.bind_some, List.nil_append]
      rw [cN (by simp; omega), aK (by omega)]
      simp only [bS]
      refine hk2 (_, _) ⟨by simp; omega, by simp; omega, fun n hn => ?_, fun y hy => ?_⟩
      · rcases List.mem_append.1 hn with hn | hn
        · exact h3 n hn
        · rw [List.mem_singleton.1 hn]
          have z : V 0 := dP ⟨by omega, by omega⟩
          have vj : V (j : Int) := dP ⟨by omega, by omega⟩
          exact ⟨⟨z, z⟩, .nil _, z, hy, z, .small hx2 (by omega), oU _, vj, ht.2⟩
      · rcases List.mem_append.1 hy with hy | hy
        · exact h4 y hy
        · rw [List.mem_singleton.1 hy]
          exact dP ⟨by omega, by omega⟩
  · show Tot (ex _ _ _ _ _ _ (k + 1) _) _
    rw [ex, if_pos (by simp; omega), bc hx, aK (by omega)]
    simp only [bS]
    have hx2 := hset _ (List.getElem_mem hx)
    refine (mC hs (by have := hx2.1; omega)).t.bind fun b _ => bg (fun _ => aA ht) (fun _ => hk () trivial)
end Go.Vk
/- Memory and learning: they always answer, and trees stay small. -/
namespace Go.Vk
theorem xy {n : aR} (h : lU n) : T (kP n) := by
  have h1 := h.2.2.2.2.1.2.1
  unfold kP
  refine bg (fun _ => bx _) (fun _ => ?_)
  refine cT (fG n) n.n_.d_.length (fun _ _ => True) (fun k s _ => ?_) (fun k s i hi _ hk => ?_) (by omega) trivial
  · rw [fG, if_neg (by simp)]
    exact bx _
  · rw [fG, if_pos (by simp; omega), bc hi, aK (by omega)]
    exact hk _ trivial
theorem rB {t : aj} (h : go t) : T (iP t) := by
  have h1 := h.1.1
  unfold iP
  refine cT (eN t) t.a_.length (fun _ _ => True) (fun k s _ => ?_) (fun k s i hi _ hk => ?_) (by omega) trivial
  · rw [eN, if_neg (by simp)]
    exact bx _
  · rw [eN, if_pos (by simp; omega), bc hi, aK (by omega)]
    exact (xy (h.1.2 _ (List.getElem_mem hi))).bind fun _ _ => hk _ trivial
theorem xO {t : aj} (h : go t) : T (kT t) := by
  have h1 := h.1.1
  unfold kT
  refine cT (fb t) t.a_.length (fun _ _ => True) (fun k s _ => ?_) (fun k s i hi _ hk => ?_) (by omega) trivial
  · rw [fb, if_neg (by simp)]
    exact bx _
  · rw [fb, if_pos (by simp; omega), bc hi, aK (by omega)]
    exact Tot.bind (P := fun _ => True) (bg (fun _ => bx _) (fun _ => bx _)) (fun _ _ => bg (fun _ => hk _ trivial) (fun _ => hk _ trivial))
theorem Bu {s : ae} {r : cA} {t : aj} (hs : bp s) (h : go t) : Tot (nE s r t) (fun b => b = true → qu s t) := by
  unfold nE
  rcases (nP hs h).cases with ⟨e, g⟩ | ⟨e, _⟩
  · rw [e]
    simp only [sS]
    exact Tot.bind (P := fun _ => True) ((sE r).t.bind fun _ _ => bx _) (fun _ _ => Tot.bind (P := fun _ => True) (bg (fun _ => (xO h).bind fun _ _ => bx _) (fun _ => bx _)) (fun _ _ => Tot.bind (P := fun _ => True) (bg (fun _ => (rB h).bind fun _ _ => bx _) (fun _ => bx _)) (fun _ _ => aA fun _ => g)))
  · rw [e]
    simp only [sS]
    exact aA fun h => by cases h
def Act (t : aj) (x : Int) : Prop := ∃ j : Nat, ∃ h : j < t.a_.length, x = j ∧ 0 < t.a_[j].n_.d_.length
theorem zf {t : aj} (h : go t) : Tot (ix t) (fun l => l.length ≤ t.a_.length ∧ ∀ x ∈ l, Act t x) := by
  have h1 := h.1.1
  unfold ix
  refine cT (dp t) t.a_.length (fun i l => l.length ≤ i ∧ ∀ x ∈ l, Act t x) (fun k l hl => ?_) (fun k l i hi hl hk => ?_) (by omega) ⟨by simp, fun x hx => by cases hx⟩
  · rw [dp, if_neg (by simp)]
    exact aA hl
  · obtain ⟨l1, l2⟩ := hl
    rw [dp, if_pos (by simp; omega), bc hi, aK (by omega)]
    simp only [bS]
    refine Tot.bind (P := fun u => u = true → 0 < t.a_[i].n_.d_.length) (bg (fun _ => aA (fun h => by simpa using h)) (fun _ => aA (fun h => by cases h))) (fun u hu => bg (fun g => ?_) (fun _ => hk _ ⟨by omega, l2⟩))
    refine (jR (by simp; omega)).bind fun l3 hl3 => ?_
    subst hl3
    refine hk _ ⟨by simp; omega, fun x hx => ?_⟩
    rcases List.mem_append.1 hx with hx | hx
    · exact l2 x hx
    · exact ⟨i, hi, List.mem_singleton.1 hx, hu g⟩
theorem xR {s : ae} {t : aj} (hs : bp s) (h : go t) : Tot (jW s t) (fun v => v = -1 ∨ Act t v) := by
  have h1 := h.1.1
  unfold jW
  rcases (nP hs h).cases with ⟨e, _⟩ | ⟨e, _⟩
  · rw [e]
    simp only [sS]
    refine (zf h).bind fun l hl => ?_
    refine cT (eW l t s) l.length (fun _ v => v = -1 ∨ Act t v) (fun k v hv => ?_) (fun k v i hi hv hk => ?_) (by omega) (.inl rfl)
    · rw [eW, if_neg (by simp)]
      exact aA hv
    · obtain ⟨j, hj, ej, hc⟩ := hl.2 _ (List.getElem_mem hi)
      rw [eW, if_pos (by simp; omega), bc hi, aK (by omega)]
      simp only [bS]
      refine Tot.bind (P := fun _ => True) (bg (fun _ => bx _) (fun g => ?_)) (fun u _ => bg (fun _ => hk _ (.inr ⟨j, hj, ej, hc⟩)) (fun _ => hk _ hv))
      rcases hv with rfl | ⟨j2, hj2, rfl, _⟩
      · exact absurd (by simp) g
      · rw [ej, bc hj, bc hj2]
        simp only [bS]
        exact (tJ hs (h.1.2 _ (List.getElem_mem hj)).2.2.2.2.1).bind fun _ _ => (tJ hs (h.1.2 _ (List.getElem_mem hj2)).2.2.2.2.1).bind fun _ _ => bx _
  · rw [e]
    simp only [sS]
    exact aA (.inl rfl)
def ub (n : aR) : Nat := if 0 < n.n_.d_.length then 1 else 0
theorem Aq : ∀ (l : List aR) (i : Nat) (h : i < l.length) (v : aR), ub l[i] = 1 → ub v = 0 → ((l.set i v).map ub).sum + 1 = (l.map ub).sum := by
  intro l
  induction l with
  | nil => intro i h; exact absurd h (by simp)
  | cons x l ih =>
    intro i h v h1 h0
    cases i with
    | zero =>
      have h1 : ub x = 1 := h1
      simp only [List.set_cons_zero, List.map_cons, List.sum_cons, h0, h1]
      omega
    | succ i =>
      have := ih i (by simpa using h) v h1 h0
      simp only [List.set_cons_succ, List.map_cons, List.sum_cons]
      omega
theorem xH {s : ae} {t : aj} (hs : bp s) (ht : fN 0 t) (b : Int) : Tot (ld s t b) (fun y => fN 0 y.1) := by
  have hm := ht.sml (by omega)
  unfold ld
  rw [np hm]
  simp only [bS]
  rcases (nP hs hm).cases with ⟨e, _⟩ | ⟨e, _⟩
  · rw [e]
    simp only [sS]
    have key : ∀ (d k : Nat) (l : List aR) (g : List Int), (l.map ub).sum < d → d ≤ k → l.length ≤ 40 → (∀ n ∈ l, nM 0 n) → g.length + d ≤ 1000 → Tot (gl t b s k l g) (fun y => fN 0 y.1) := by
      intro d
      induction d with
      | zero => intro k l g h; exact absurd h (by omega)
      | succ d ih =>
        intro k l g h hk hl hn hg
        obtain ⟨k, rfl⟩ : ∃ q, k = q + 1 := ⟨k - 1, by omega⟩
        have hB : fN 0 ⟨l, t.j_⟩ := ⟨⟨hl, hn⟩, ht.2⟩
        have hM := hB.sml (by omega)
        rw [gl]
        refine (rB hM).bind fun u _ => ?_
        obtain ⟨v, ev, hv⟩ := xR hs hM
        rw [ev]
        simp only [bS]
        refine Tot.bind (P := fun u => u = true → 0 ≤ v) (bg (fun _ => aA (fun h => by simpa using h)) (fun _ => aA (fun h => by cases h))) (fun u hu => bg (fun gu => ?_) (fun _ => aA hB))
        have h0 := hu gu
        rcases hv with rfl | ⟨j, hj, rfl, hc⟩
        · omega
        · have hj : j < l.length := hj
          have hc : 0 < l[j].n_.d_.length := hc
          have hN := hn _ (List.getElem_mem hj)
          rw [bc hj]
          simp only [bS]
          obtain ⟨g1, g2, g3, g4, g5, g6, g7, g8, g9⟩ := hN
          rw [uP (by have := g4.1.1; omega)]
          simp only [bS]
          rw [cN (by simp; omega)]
          simp only [bS]
          have z : V 0 := dP ⟨by omega, by omega⟩
          have hN' : nM 0 { l[j] with n_ := ⟨l[j].n_.e_, []⟩, v_ := 0 } := ⟨g1, g2, g3, ⟨g4.1, by simp, fun x hx => by cases hx⟩, z, g6, g7, g8, g9⟩
          have hset := Aq l j hj { l[j] with n_ := ⟨l[j].n_.e_, []⟩, v_ := 0 } (by unfold ub; rw [if_pos hc]) rfl
          refine ih k _ _ ?_ (by omega) (by rw [List.length_set]; exact hl) (fN.setN ⟨hl, hn⟩ hN' z _).1.2 (by simp; omega)
          exact Nat.le_trans (Nat.le_of_eq hset) (by omega)
    have hsum := vY (f := ub) (b := 1) (l := t.a_) (fun x _ => by unfold ub; split <;> omega)
    have := ht.1.1
    exact key 41 bh t.a_ [] (by omega) (Nat.le_of_lt (eY (by omega))) ht.1.1 ht.1.2 (by simp)
  · rw [e]
    simp only [sS]
    exact aA ht
theorem AD {s : ae} {t : aj} {e : bw} (hs : bp s) (hT : qu s t) (hE : ExP s e) : ∀ (d i : Nat), i < t.a_.length → lp s t e d i ≠ [] ∧ ∀ x ∈ lp s t e d i, x < t.a_.length := by
  intro d
  induction d with
  | zero =>
    intro i hi
    exact ⟨by simp [lp], fun x hx => by rw [List.mem_singleton.1 hx]; exact hi⟩
  | succ d ih =>
    intro i hi
    unfold lp
    split
    · exact ⟨by simp, fun x hx => by rw [List.mem_singleton.1 hx]; exact hi⟩
    · rename_i hL
      rw [rk hi] at hL
      obtain ⟨_, _, hn, _⟩ := xZ hs hT hE hi (by simpa using hL)
      refine ⟨by simp, fun x hx => ?_⟩
      rcases List.mem_cons.1 hx with rfl | hx
      · exact hi
      · exact (ih _ hn).2 x hx
theorem zO {s : ae} {t : aj} {e : bw} (hs : bp s) (ht : go t) (hT : qu s t) (hE : ExP s e) : Tot (lw s t e) (fun v => ∃ j : Nat, v = j ∧ j < t.a_.length) := by
  unfold lw nt
  rcases (nP hs ht).cases with ⟨e1, _⟩ | ⟨_, g⟩
  · rcases (uu (kB hs)).cases with ⟨e2, _⟩ | ⟨_, g⟩
    · rw [e1, e2, (CF hs hT hE).1]
      simp only [sS]
      have hlen := hT.2.1
      obtain ⟨p1, p2⟩ := AD hs hT hE 32 0 (by omega)
      have hp := vE (s := s) (t := t) (e := e) 32 0
      have hl : (tv (lp s t e 32 0)).length = (lp s t e 32 0).length := by simp [tv]
      have h0 : (lp s t e 32 0).length ≠ 0 := fun h => p1 (List.length_eq_zero_iff.1 h)
      rw [if_neg (by rw [beq_iff_eq]; omega), bu (by omega) (by omega)]
      refine (gf ⟨by omega, by omega⟩).bind fun v hv => aA ?_
      obtain ⟨x, hx, rfl⟩ := List.mem_map.1 hv.1
      exact ⟨x, rfl, p2 x hx⟩
    · exact absurd hE g
  · exact absurd hT g
theorem AA {s : ae} {r : cA} {t : aj} {e : bw} {w k : Int} {tape : bd} (hs : bp s) (ht : fN 0 t) (hb : tape.q_.length ≤ 1048576) : Tot (jF s r t e w tape k) (fun y => fN 0 y.1) := by
  have hm := ht.sml (by omega)
  unfold jF
  rw [np hm, kK hb]
  refine iK (Bu hs hm) (by simp only [sS]; exact aA ht) (fun hT => ?_)
  simp only [sS]
  refine jh (uu (kB hs)).t (by simp only [sS]; exact aA ht) (fun hE => ?_)
  simp only [sS]
  refine Tot.bind (P := fun _ => True) (bg (fun _ => bx _) (fun _ => cX.t.bind fun _ _ => bx _)) (fun u _ => ?_)
  refine Tot.bind (P := fun _ => True) (bg (fun _ => bx _) (fun _ => (uV _).t.bind fun _ _ => bx _)) (fun u2 _ => ?_)
  refine Tot.bind (P := fun u => u = false → 1 ≤ k ∧ k ≤ s.b_.length) (bg (fun _ => aA (fun h => by cases h)) (fun _ => cX.t.bind fun b hb => aA (fun g => hb (by simpa using g)))) (fun u3 hk => bg (fun _ => aA ht) (fun g => ?_))
  have hk := hk (by simpa using g)
  obtain ⟨k, rfl⟩ : ∃ q : Nat, k = q := ⟨k.toNat, by omega⟩
  refine (zO hs hm hT hE).bind fun v hv => ?_
  obtain ⟨j, rfl, hj⟩ := hv
  have hn := ht.1.2 _ (List.getElem_mem hj)
  rw [bc hj]
  simp only [bS]
  refine Tot.bind (P := fun _ => True) (bg (fun _ => bx _) (fun _ => (uC hs (hn.2.2.2.1.sml (by omega))).bind fun _ _ => bx _)) (fun u _ => bg (fun _ => aA ht) (fun _ => ?_))
  rw [rF (hn.sml (by omega))]
  simp only [bS]
  refine (sy hs hn.2.2.2.1).bind fun y hy => ?_
  have key : ∀ (c : Int) (q : Bool), V c → Tot (fy t (j : Int) tape t.a_[j] y t s r (k : Int) c q) (fun y => fN 0 y.1) := by
    intro c q hc
    obtain ⟨g1, g2, g3, g4, g5, g6, g7, g8, g9⟩ := hn
    have hN : nM 0 { t.a_[j] with n_ := y.1, v_ := c } := ⟨g1, g2, g3, hy, hc, g6, g7, g8, g9⟩
    have hB : fN 0 ⟨t.a_.set (j : Int).toNat { t.a_[j] with n_ := y.1, v_ := c }, IntKind.i64.wrap (t.j_ + 1)⟩ := fN.setN ht.1 hN (oU _) _
    unfold fy
    rw [bc hj, kK hb]
    simp only [bS]
    refine bg (fun _ => aA hB) (fun _ => (Aw hs (hN.sml (by omega))).bind fun f _ => ?_)
    obtain ⟨n, eB, hnb⟩ := zr hs f.1
    rw [eB]
    simp only [bS]
    refine Tot.bind (P := fun _ => True) (bg (fun _ => bx _) (fun _ => bx _)) (fun u _ => bg (fun _ => aA hB) (fun _ => ?_))
    refine cT (fun k2 (σ : List (List Int) × List Int × Int) i => dE s f (k : Int) t tape t (j : Int) t.a_[j] y c r k2 σ.1 σ.2.1 σ.2.2 i) n (fun i σ => σ.1.length = i ∧ (∀ x ∈ σ.1, oW x) ∧ σ.2.1.length ≤ 1048576) (fun k2 σ h => ?_) (fun k2 σ i hi h hk2 => ?_) (by omega) (s := ([], tape.q_, tape.c_)) ⟨rfl, (fun x hx => by cases hx), hb⟩
    · obtain ⟨h1, h2, h3⟩ := h
      show Tot (dE _ _ _ _ _ _ _ _ _ _ _ (k2 + 1) _ _ _ _) _
      rw [dE, eB]
      simp only [bS]
      rw [if_neg (by simp)]
      exact (zY hs hB (by omega) h2).bind fun y2 h2 => (xH hs h2 _).bind fun y3 h3 => aA h3
    · obtain ⟨h1, h2, h3⟩ := h
      show Tot (dE _ _ _ _ _ _ _ _ _ _ _ (k2 + 1) _ _ _ _) _
      rw [dE, eB]
      simp only [bS]
      rw [if_pos (by simp; omega), np hm, kK hb]
      have hS := hT.1.1
      refine (xA (t := ⟨σ.2.1, σ.2.2⟩) (n := s.b_.length) (k := k) h3 (by omega) (by omega)).bind fun y4 hy4 => bg (fun _ => aA ht) (fun _ => ?_)
      refine (jR (by simp; omega)).bind fun l3 hl3 => ?_
      subst hl3
      rw [aK (by omega)]
      refine hk2 (_, _, _) ⟨by simp; omega, fun x hx => ?_, hy4.1⟩
      rcases List.mem_append.1 hx with hx | hx
      · exact h2 x hx
      · rw [List.mem_singleton.1 hx]; exact hy4.2
  exact bg (fun _ => bg (fun _ => key _ _ (dP ⟨by omega, by omega⟩)) (fun _ => key _ _ (oU _))) (fun _ => key _ _ hn.2.2.2.2.1)
end Go.Vk
/- Draws: they always answer. -/
namespace Go.Vk
def Cur (p : List Int) (c : ao) : Prop := 0 ≤ c.i_ ∧ c.i_ ≤ p.length
abbrev TD {α : Type} (p : List Int) (o : Option (α × ao)) (Q : α → Prop) : Prop := Tot o (fun y => Cur p y.2 ∧ Q y.1)
theorem AG {p : List Int} (hp : p.length ≤ 1048576) : Tot (lH p) (Cur p) := by
  unfold lH
  have key : ∀ (d k i : Nat) (h : Int), p.length - i = d → d < k → i ≤ p.length → Tot (gB p k h (i : Int)) (Cur p) := by
    intro d
    induction d with
    | zero =>
      intro k i h hd hk hi
      obtain ⟨k, rfl⟩ : ∃ q, k = q + 1 := ⟨k - 1, by omega⟩
      rw [gB, if_neg (by simp; omega)]
      exact aA ⟨by show (0 : Int) ≤ 0; omega, by show (0 : Int) ≤ p.length; omega⟩
    | succ d ih =>
      intro k i h hd hk hi
      obtain ⟨k, rfl⟩ : ∃ q, k = q + 1 := ⟨k - 1, by omega⟩
      rw [gB]
      refine bg (fun _ => ?_) (fun _ => aA ⟨by show (0 : Int) ≤ 0; omega, by show (0 : Int) ≤ p.length; omega⟩)
      rw [bc (show i < p.length by omega), aK (by omega)]
      exact ih k (i + 1) _ (by omega) (by omega) (by omega)
  exact key p.length bh 0 _ rfl (eY (by omega)) (Nat.zero_le _)
section
variable {p : List Int} (hp : p.length ≤ 1048576)
include hp
theorem qO {c : ao} (hc : Cur p c) : TD p (gE p c) (fun v => 0 ≤ v ∧ v ≤ 255) := by
  obtain ⟨h0, h1⟩ := hc
  unfold gE
  refine bg (fun h => ?_) (fun _ => aA ⟨⟨h0, h1⟩, yv _⟩)
  have h : c.i_ < p.length := by simpa using h
  refine (gf ⟨h0, h⟩).bind fun v _ => aA ⟨⟨?_, ?_⟩, yv _⟩
  · show 0 ≤ IntKind.i64.wrap (c.i_ + 1)
    rw [bu (by omega) (by omega)]; omega
  · show IntKind.i64.wrap (c.i_ + 1) ≤ _
    rw [bu (by omega) (by omega)]; omega
theorem fB {c : ao} (hc : Cur p c) (n : Int) : TD p (cu p c n) (fun v => 0 ≤ v ∧ (v < n ∨ v = 0)) := by
  unfold cu
  refine bg (fun _ => aA ⟨hc, by omega, .inr rfl⟩) (fun h => ?_)
  have h : 0 < n := by simpa using h
  refine bg (fun _ => (qO hp hc).bind fun y hy => (wO hy.2.1 h).bind fun x hx => aA ⟨hy.1, hx.1, .inl hx.2⟩) (fun _ => ?_)
  refine (qO hp hc).bind fun y1 h1 => (qO hp h1.1).bind fun y2 h2 => (qO hp h2.1).bind fun y3 h3 => (qO hp h3.1).bind fun y4 h4 => ?_
  obtain ⟨_, a1, b1⟩ := h1
  obtain ⟨_, a2, b2⟩ := h2
  obtain ⟨_, a3, b3⟩ := h3
  obtain ⟨c4, a4, b4⟩ := h4
  have ha : 0 ≤ y1.1 * 16777216 + y2.1 * 65536 + y3.1 * 256 + y4.1 := by omega
  rw [bu (n := y1.1 * 16777216) (by omega) (by omega), bu (n := y2.1 * 65536) (by omega) (by omega), bu (n := y1.1 * 16777216 + y2.1 * 65536) (by omega) (by omega), bu (n := y3.1 * 256) (by omega) (by omega), bu (n := y1.1 * 16777216 + y2.1 * 65536 + y3.1 * 256) (by omega) (by omega), bu (n := y1.1 * 16777216 + y2.1 * 65536 + y3.1 * 256 + y4.1) (by omega) (by omega)]
  exact (wO ha h).bind fun x hx => aA ⟨c4, hx.1, .inl hx.2⟩
theorem ny {c : ao} (hc : Cur p c) (n : Int) : TD p (fj p c n) (fun _ => True) := by
  unfold fj
  exact (fB hp hc n).bind fun y hy => aA ⟨hy.1, trivial⟩
theorem ga {c : ao} (hc : Cur p c) {l : List Int} (hl : 0 < l.length) : TD p (bJ p c l) (fun v => v ∈ l) := by
  unfold bJ
  refine (fB hp hc (l.length : Int)).bind fun y hy => ?_
  have : y.1 < (l.length : Int) := by rcases hy.2.2 with g | g <;> omega
  exact (gf ⟨hy.2.1, this⟩).bind fun v hv => aA ⟨hy.1, hv.1⟩
theorem va {c : ao} (hc : Cur p c) {n : Nat} (_ : n ≤ 1000) : TD p (fh p c (n : Int)) ln := by
  unfold fh
  have hr : 0 ≤ Int.tmod (n : Int) 5 ∧ Int.tmod (n : Int) 5 < 5 := by
    rw [Int.tmod_eq_emod_of_nonneg (by omega)]
    omega
  refine (gf ⟨hr.1, by simpa using hr.2⟩).bind fun e he => ?_
  have he : e.length ≤ 1048576 := by
    have h := he.1
    simp only [List.mem_cons, List.not_mem_nil, or_false] at h
    rcases h with rfl | rfl | rfl | rfl | rfl <;> simp
  refine (ny hp hc 2).bind fun y hy => bg (fun _ => ?_) (fun _ => ?_)
  · refine (fB hp hy.1 3).bind fun y2 h2 => (ga hp h2.1 (by simp)).bind fun y3 h3 => ?_
    obtain ⟨m, hm⟩ : ∃ m : Nat, y2.1 = m := ⟨y2.1.toNat, by have := h2.2.1; omega⟩
    have hm2 : m ≤ 2 := by rcases h2.2.2 with g | g <;> omega
    refine cT (fun k (σ : Int × Int × List Int × Int) i => ck y2 p e k σ.1 σ.2.1 σ.2.2.1 σ.2.2.2 i) (1 + m) (fun i σ => Cur p ⟨σ.1, σ.2.1⟩ ∧ σ.2.2.1.length = i ∧ (∀ x ∈ σ.2.2.1, V x) ∧ V σ.2.2.2) (fun k σ h => ?_) (fun k σ i hi h hk => ?_) (by omega) (s := (y3.2.i_, y3.2.h_, [], y3.1)) ⟨h3.1, rfl, (fun x hx => by cases hx), ?_⟩
    · obtain ⟨g1, g2, g3, g4⟩ := h
      show Tot (ck _ _ _ (k + 1) _ _ _ _ _) _
      rw [ck, hm, bu (by omega) (by omega), if_neg (by simp)]
      exact aA ⟨g1, he, ⟨by show σ.2.2.1.length ≤ _; omega, g3⟩, by simp, fun x hx => by cases hx⟩
    · obtain ⟨g1, g2, g3, g4⟩ := h
      show Tot (ck _ _ _ (k + 1) _ _ _ _ _) _
      rw [ck, hm, bu (n := 1 + (m : Int)) (by omega) (by omega), if_pos (by simp; omega), cN (by simp; omega)]
      simp only [bS]
      refine (fB hp g1 6).bind fun y4 h4 => ?_
      rw [aK (by omega)]
      refine hk (_, _, _, _) ⟨h4.1, by simp; omega, fun x hx => ?_, oU _⟩
      rcases List.mem_append.1 hx with hx | hx
      · exact g3 x hx
      · rw [List.mem_singleton.1 hx]; exact g4
    · have h := h3.2
      simp only [List.mem_cons, List.not_mem_nil, or_false] at h
      exact dP (by show -1000000000000 ≤ y3.1 ∧ y3.1 ≤ _; omega)
  · refine (fB hp hy.1 3).bind fun y2 h2 => ?_
    obtain ⟨m, hm⟩ : ∃ m : Nat, y2.1 = m := ⟨y2.1.toNat, by have := h2.2.1; omega⟩
    have hm2 : m ≤ 2 := by rcases h2.2.2 with g | g <;> omega
    refine cT (fun k (l : List (List UInt8)) i => cl y2 e k i l) (2 + m) (fun i l => l.length = i ∧ ∀ x ∈ l, x.length ≤ 1048576) (fun k l h => ?_) (fun k l i hi h hk => ?_) (by omega) (s := []) ⟨rfl, fun x hx => by cases hx⟩
    · show Tot (cl _ _ (k + 1) _ _) _
      rw [cl, hm, bu (by omega) (by omega), if_neg (by simp)]
      exact aA ⟨h2.1, he, ⟨by simp, fun x hx => by cases hx⟩, by show l.length ≤ _; omega, h.2⟩
    · show Tot (cl _ _ (k + 1) _ _) _
      rw [cl, hm, bu (n := 2 + (m : Int)) (by omega) (by omega), if_pos (by simp; omega)]
      refine (gf ⟨by omega, by simp; omega⟩).bind fun v hv => ?_
      rw [cN (by simp; omega), aK (by omega)]
      refine hk _ ⟨by simp; omega, fun x hx => ?_⟩
      rcases List.mem_append.1 hx with hx | hx
      · exact h.2 x hx
      · rw [List.mem_singleton.1 hx]
        have h := hv.1
        simp only [List.mem_cons, List.not_mem_nil, or_false] at h
        rcases h with rfl | rfl | rfl | rfl <;> simp
omit hp in
def rm (s : ae) : Prop := bp s ∧ s.b_.length ≤ 8 ∧ s.k_.length ≤ 8
theorem vH {c : ao} (hc : Cur p c) : TD p (jV p c) (fun s => rm s ∧ 1 ≤ s.b_.length ∧ s.b_.length ≤ 5 ∧ 2 ≤ s.k_.length ∧ s.k_.length ≤ 3) := by
  unfold jV
  have key : ∀ (c : ao) (l : List (List UInt8)), Cur p c → 2 ≤ l.length → l.length ≤ 3 → (∀ x ∈ l, x.length ≤ 1048576) → TD p (ij p c.i_ c.h_ l) (fun s => rm s ∧ 1 ≤ s.b_.length ∧ s.b_.length ≤ 5 ∧ 2 ≤ s.k_.length ∧ s.k_.length ≤ 3) := by
    intro c l hc hl0 hl hx
    unfold ij
    refine (fB hp (c := ⟨c.i_, c.h_⟩) hc 5).bind fun y2 h2 => ?_
    obtain ⟨m, hm⟩ : ∃ m : Nat, y2.1 = m := ⟨y2.1.toNat, by have := h2.2.1; omega⟩
    have hm2 : m ≤ 4 := by rcases h2.2.2 with g | g <;> omega
    refine cT (fun k (σ : Int × Int × List bi) i => ep y2 p l k σ.1 σ.2.1 σ.2.2 i) (1 + m) (fun i σ => Cur p ⟨σ.1, σ.2.1⟩ ∧ σ.2.2.length = i ∧ ∀ x ∈ σ.2.2, ln x) (fun k σ h => ?_) (fun k σ i hi h hk => ?_) (by omega) (s := (y2.2.i_, y2.2.h_, [])) ⟨h2.1, rfl, fun x hx => by cases hx⟩
    · obtain ⟨g1, g2, g3⟩ := h
      show Tot (ep _ _ _ (k + 1) _ _ _ _) _
      rw [ep, hm, bu (by omega) (by omega), if_neg (by simp)]
      exact aA ⟨g1, ⟨⟨⟨by show σ.2.2.length ≤ _; omega, g3⟩, by show l.length ≤ _; omega, hx⟩, by show σ.2.2.length ≤ _; omega, by show l.length ≤ _; omega⟩, by show _ ≤ σ.2.2.length; omega, by show σ.2.2.length ≤ _; omega, hl0, hl⟩
    · obtain ⟨g1, g2, g3⟩ := h
      show Tot (ep _ _ _ (k + 1) _ _ _ _) _
      rw [ep, hm, bu (n := 1 + (m : Int)) (by omega) (by omega), if_pos (by simp; omega)]
      refine (va hp g1 (by omega)).bind fun y3 h3 => ?_
      rw [cN (by simp; omega), aK (by omega)]
      refine hk (_, _, _) ⟨h3.1, by simp; omega, fun x hx => ?_⟩
      rcases List.mem_append.1 hx with hx | hx
      · exact g3 x hx
      · rw [List.mem_singleton.1 hx]; exact h3.2
  refine (ny hp hc 3).bind fun y hy => bg (fun _ => ?_) (fun _ => key y.2 _ hy.1 (by simp) (by simp) (fun x hx => ?_))
  · rw [cN (by simp)]
    refine key y.2 _ hy.1 (by simp) (by simp) (fun x hx => ?_)
    simp only [List.cons_append, List.nil_append, List.mem_cons, List.not_mem_nil, or_false] at hx
    rcases hx with rfl | rfl | rfl <;> simp
  · simp only [List.mem_cons, List.not_mem_nil, or_false] at hx
    rcases hx with rfl | rfl <;> simp
theorem Bo {c : ao} (hc : Cur p c) : TD p (kq p c) (fun _ => True) := by
  unfold kq
  exact (ga hp hc (by simp)).bind fun _ h1 => (ga hp h1.1 (by simp)).bind fun _ h2 => (ga hp h2.1 (by simp)).bind fun _ h3 => (ga hp h3.1 (by simp)).bind fun _ h4 => (ga hp h4.1 (by simp)).bind fun _ h5 => (ga hp h5.1 (by simp)).bind fun _ h6 => (ny hp h6.1 2).bind fun _ h7 => aA ⟨h7.1, trivial⟩
theorem qK {c : ao} (hc : Cur p c) {s : ae} (hs : rm s) : TD p (gi p c s) (smI 8) := by
  have ha := hs.2.1
  unfold gi
  refine cT (fun k (σ : Int × Int × List Int) i => cO s p k σ.1 σ.2.1 σ.2.2 i) s.b_.length (fun i σ => Cur p ⟨σ.1, σ.2.1⟩ ∧ smI i σ.2.2) (fun k σ h => ?_) (fun k σ i hi h hk => ?_) (by omega) (s := (c.i_, c.h_, [])) ⟨hc, .nil _⟩
  · obtain ⟨g1, g2⟩ := h
    show Tot (cO _ _ (k + 1) _ _ _ _) _
    rw [cO, if_neg (by simp)]
    exact bg (fun _ => aA ⟨g1, by simp, fun x hx => by rw [List.mem_singleton.1 hx]; exact dP ⟨by omega, by omega⟩⟩) (fun _ => aA ⟨g1, g2.mono ha⟩)
  · obtain ⟨g1, g2⟩ := h
    have g3 := g2.1
    show Tot (cO _ _ (k + 1) _ _ _ _) _
    rw [cO, if_pos (by simp; omega)]
    refine (ny hp g1 4).bind fun y hy => bg (fun _ => ?_) (fun _ => ?_)
    · rw [cN (by simp; omega), aK (by omega)]
      exact hk (_, _, _) ⟨hy.1, g2.app (dP ⟨by omega, by omega⟩) (Nat.le_refl _)⟩
    · rw [aK (by omega)]
      exact hk (_, _, _) ⟨hy.1, g2.mono (Nat.le_succ _)⟩
omit hp in
def wY (f : ar) : Prop := V f.g_ ∧ V f.c_
theorem yk {c : ao} (hc : Cur p c) {s : ae} (hs : rm s) : TD p (lc p c s) wY := by
  have ha := hs.2.1
  have z : V 0 := dP ⟨by omega, by omega⟩
  unfold lc
  refine cT (fun k (l : List ar) i => dk s c p k l i) s.b_.length (fun i l => l.length ≤ 5 * i ∧ ∀ f ∈ l, wY f) (fun k l h => ?_) (fun k l i hi h hk => ?_) (by omega) (s := []) ⟨by simp, fun x hx => by cases hx⟩
  · show Tot (dk _ _ _ (k + 1) _ _) _
    rw [dk, if_neg (by simp)]
    refine bg (fun _ => aA ⟨hc, z, z⟩) (fun h0 => (fB hp hc _).bind fun y hy => ?_)
    have h0 : l.length ≠ 0 := by simpa using h0
    have : y.1 < (l.length : Int) := by rcases hy.2.2 with g | g <;> omega
    exact (gf ⟨hy.2.1, this⟩).bind fun v hv => aA ⟨hy.1, h.2 v hv.1⟩
  · show Tot (dk _ _ _ (k + 1) _ _) _
    rw [dk, if_pos (by simp; omega)]
    show Tot (dv s (i : Int) (dk s c p k) bh l ((0 : Int) - 1)) _
    refine cT (fun k2 (l2 : List ar) x => dv s (i : Int) (dk s c p k) k2 l2 (x - 1)) 5 (fun x l2 => l2.length ≤ 5 * i + x ∧ ∀ f ∈ l2, wY f) (fun k2 l2 h2 => ?_) (fun k2 l2 x hx h2 hk2 => ?_) (by omega) ⟨by omega, h.2⟩
    · show Tot (dv _ _ _ (k2 + 1) _ _) _
      rw [dv, if_neg (by simp), aK (by omega)]
      exact hk _ ⟨by omega, h2.2⟩
    · show Tot (dv _ _ _ (k2 + 1) _ _) _
      rw [dv, if_pos (by simp; omega), bu (n := (x : Int) - 1 + 1) (by omega) (by omega), show (x : Int) - 1 + 1 = ((x + 1 : Nat) : Int) - 1 by omega]
      refine (Dec.t (jA (f := ⟨(i : Int), (x : Int) - 1⟩) hs.1)).bind fun b _ => bg (fun _ => ?_) (fun _ => hk2 _ ⟨by omega, h2.2⟩)
      rw [cN (by simp; omega)]
      refine hk2 _ ⟨by simp; omega, fun f hf => ?_⟩
      rcases List.mem_append.1 hf with hf | hf
      · exact h2.2 f hf
      · rw [List.mem_singleton.1 hf]
        exact ⟨(dP ⟨by omega, by omega⟩ : V (i : Int)), (dP ⟨by omega, by omega⟩ : V ((x : Int) - 1))⟩
omit hp in
theorem oM {l : List Int} {x : Int} (hl : ∀ y ∈ l, V y) (h : x ∈ l) : V x := hl x h
theorem Au {c : ao} (hc : Cur p c) {s : ae} (hs : rm s) : TD p (lV p c s) wY := by
  unfold lV
  refine (yk hp hc hs).bind fun f hf => (fB hp hf.1 10).bind fun y hy => bg (fun _ => (ga hp hy.1 (by simp)).bind fun z hz => aA ⟨hz.1, hf.2.1, oM (fun y hy => ?_) hz.2⟩) (fun _ => bg (fun _ => (ga hp hy.1 (by simp)).bind fun z hz => aA ⟨hz.1, oM (fun y hy => ?_) hz.2, hf.2.2⟩) (fun _ => aA ⟨hy.1, hf.2⟩))
  · simp only [List.mem_cons, List.not_mem_nil, or_false] at hy
    unfold V; omega
  · simp only [List.mem_cons, List.not_mem_nil, or_false] at hy
    unfold V; omega
theorem yZ {c : ao} (hc : Cur p c) {s : ae} (hs : rm s) : TD p (lb p c s) (smI 9) := by
  unfold lb
  refine (qK hp hc hs).bind fun f hf => (fB hp hf.1 10).bind fun y hy => bg (fun _ => (ga hp hy.1 (by simp)).bind fun z hz => ?_) (fun _ => bg (fun _ => aA ⟨hy.1, .nil _⟩) (fun _ => aA ⟨hy.1, hf.2.mono (by omega)⟩))
  have h := hf.2.1
  rw [cN (by simp; omega)]
  refine aA ⟨hz.1, hf.2.app (oM (fun y hy => ?_) hz.2) (Nat.le_refl _)⟩
  simp only [List.mem_cons, List.not_mem_nil, or_false] at hy
  unfold V; omega
end
end Go.Vk
/- Trees drawn: they are there, and small. -/
namespace Go.Vk
theorem BF {a : bi} (h : ln a) : T (fE a) := by
  rcases (sF (vW h)).cases with ⟨_, g⟩ | ⟨e, _⟩
  · rw [me h g]
    exact bx _
  · unfold fE
    rw [e]
    simp only [sS]
    exact bx _
section
variable {p : List Int} (hp : p.length ≤ 1048576)
include hp
theorem uW {c : ao} (hc : Cur p c) {s : ae} (hs : rm s) : TD p (jJ p c s) (fun e => e.u_.length ≤ 8) := by
  have ha := hs.2.1
  unfold jJ
  refine cT (fun k (σ : Int × Int × List Int) i => dn s p k σ.1 σ.2.1 σ.2.2 i) s.b_.length (fun i σ => Cur p ⟨σ.1, σ.2.1⟩ ∧ σ.2.2.length = i) (fun k σ h => ?_) (fun k σ i hi h hk => ?_) (by omega) (s := (c.i_, c.h_, [])) ⟨hc, rfl⟩
  · obtain ⟨g1, g2⟩ := h
    show Tot (dn _ _ (k + 1) _ _ _ _) _
    have hb8 : σ.2.2.length ≤ 8 := by omega
    rw [dn, if_neg (by simp)]
    refine (fB hp g1 _).bind fun y hy => ?_
    refine Tot.bind (P := fun u => Cur p ⟨u.2.1, u.2.2⟩ ∧ (u.1 = true → 0 < σ.2.2.length)) (bg (fun g => (ny hp hy.1 5).bind fun y2 h2 => aA ⟨h2.1, fun _ => by simpa using g⟩) (fun _ => aA ⟨hy.1, fun h => by cases h⟩)) (fun u hu => bg (fun g => ?_) (fun _ => aA ⟨hu.1, hb8⟩))
    simp only [Bool.and_eq_true, decide_eq_true_eq] at g
    have h0 := hu.2 g.1
    refine (gf ⟨by omega, by omega⟩).bind fun e _ => ?_
    unfold rem
    rw [if_neg (by omega)]
    exact aA ⟨hu.1, hb8⟩
  · obtain ⟨g1, g2⟩ := h
    show Tot (dn _ _ (k + 1) _ _ _ _) _
    rw [dn, if_pos (by simp; omega), bc hi]
    refine (BF (hs.1.1.2 _ (List.getElem_mem hi))).bind fun b _ => (fB hp g1 b).bind fun y hy => (ny hp hy.1 9).bind fun y2 h2 => ?_
    have key : ∀ v : Int, Tot (io σ.2.2 (dn s p k) (i : Int) y2.2.i_ y2.2.h_ v) (fun y => Cur p y.2 ∧ y.1.u_.length ≤ 8) := by
      intro v
      unfold io
      rw [cN (by simp; omega), aK (by omega)]
      exact hk (_, _, _) ⟨h2.1, by simp; omega⟩
    exact bg (fun _ => key _) (fun _ => key _)
theorem tK {c : ao} (hc : Cur p c) {n : Nat} (hn : n ≤ 1000) : TD p (ju p c (n : Int)) (fun l => l.length = n ∧ ∀ x ∈ l, 0 ≤ x ∧ x ≤ 255) := by
  unfold ju
  refine cT (fun k (σ : Int × Int × List Int) i => dW (n : Int) p k σ.1 σ.2.1 σ.2.2 i) n (fun i σ => Cur p ⟨σ.1, σ.2.1⟩ ∧ σ.2.2.length = i ∧ ∀ x ∈ σ.2.2, 0 ≤ x ∧ x ≤ 255) (fun k σ h => ?_) (fun k σ i hi h hk => ?_) (by omega) (s := (c.i_, c.h_, [])) ⟨hc, rfl, fun x hx => by cases hx⟩
  · show Tot (dW _ _ (k + 1) _ _ _ _) _
    rw [dW, if_neg (by simp)]
    exact aA ⟨h.1, h.2⟩
  · obtain ⟨g1, g2, g3⟩ := h
    show Tot (dW _ _ (k + 1) _ _ _ _) _
    rw [dW, if_pos (by simp; omega)]
    refine (qO hp g1).bind fun y hy => ?_
    rw [cN (by simp; omega), aK (by omega)]
    refine hk (_, _, _) ⟨hy.1, by simp; omega, fun x hx => ?_⟩
    rcases List.mem_append.1 hx with hx | hx
    · exact g3 x hx
    · rw [List.mem_singleton.1 hx, IntWalk.u8_in _ hy.2]; exact hy.2
theorem Az {c : ao} (hc : Cur p c) {s : ae} (hs : rm s) (r : cA) {n : Nat} (hn : n ≤ 60) : Tot (ks p c s r (n : Int)) (fun y => Cur p y.2.2 ∧ fN 0 y.1) := by
  unfold ks
  have z : V 0 := dP ⟨by omega, by omega⟩
  have hN : Tot (some (aj.mk [] 0)) (fN 0) := aA ⟨⟨by simp, fun x hx => by cases hx⟩, z⟩
  refine (qK hp hc hs).bind fun y hy => ?_
  have hT : Tot (kZ s y.1) (fN 0) := by
    unfold kZ
    refine (mC hs.1 (by have := hy.2.1; omega)).t.bind fun b _ => bg (fun _ => hN) (fun _ => (qi hs.1).bind fun st hst => ?_)
    rw [cN (by have := hy.2.1; simp; omega)]
    refine aA ⟨⟨by simp, fun x hx => ?_⟩, z⟩
    rw [List.mem_singleton.1 hx]
    exact ⟨⟨z, z⟩, .nil _, z, hst, z, hy.2.mono (by omega), z, dP (x := -1) ⟨by omega, by omega⟩, z⟩
  refine hT.bind fun t ht => (fB hp hy.1 _).bind fun y2 h2 => ?_
  refine cT (fun k (σ : Int × Int × List aR × Int × List bw) i => dz (n : Int) p s r y2 k σ.1 σ.2.1 σ.2.2.1 σ.2.2.2.1 σ.2.2.2.2 i) n (fun i σ => Cur p ⟨σ.1, σ.2.1⟩ ∧ fN 0 ⟨σ.2.2.1, σ.2.2.2.1⟩ ∧ σ.2.2.2.2.length = i) (fun k σ h => ?_) (fun k σ i hi h hk => ?_) (by omega) (s := (y2.2.i_, y2.2.h_, t.a_, t.j_, [])) ⟨h2.1, ht, rfl⟩
  · obtain ⟨g1, g2, g3⟩ := h
    show Tot (dz _ _ _ _ _ (k + 1) _ _ _ _ _ _) _
    rw [dz, if_neg (by simp)]
    exact aA ⟨g1, g2⟩
  · obtain ⟨g1, g2, g3⟩ := h
    show Tot (dz _ _ _ _ _ (k + 1) _ _ _ _ _ _) _
    rw [dz, if_pos (by simp; omega)]
    refine (uW hp g1 hs).bind fun e he => (tK hp he.1 (n := 8) (by omega)).bind fun b hb => (ga hp hb.1 (by simp)).bind fun w hw => (AA hs.1 g2 (tape := ⟨b.1, 0⟩) (by show b.1.length ≤ _; have := hb.2.1; omega)).bind fun t2 ht2 => ?_
    unfold jM
    rw [cN (by simp; omega), aK (by omega)]
    exact hk (_, _, _, _, _) ⟨hw.1, ht2, by simp; omega⟩
theorem xu {c : ao} (hc : Cur p c) {s : ae} (hs : rm s) : TD p (kg p c s) (fN 0) := by
  unfold kg
  refine (Bo hp hc).bind fun r hr => (ny hp hr.1 3).bind fun o ho => ?_
  have key : ∀ (c : ao) (u : Int), Cur p c → TD p (gJ p s r c.i_ c.h_ u) (fN 0) := by
    intro c u hc
    unfold gJ
    refine (ga hp (c := ⟨c.i_, c.h_⟩) hc (by simp)).bind fun n hn => ?_
    obtain ⟨m, hm, hm2⟩ : ∃ m : Nat, n.1 = m ∧ m ≤ 60 := by
      have h := hn.2
      simp only [List.mem_cons, List.not_mem_nil, or_false] at h
      exact ⟨n.1.toNat, by omega, by omega⟩
    rw [hm]
    exact (Az hp hn.1 hs _ hm2).bind fun y hy => aA hy
  exact bg (fun _ => (ga hp ho.1 (by simp)).bind fun u hu => key u.2 _ hu.1) (fun _ => key o.2 _ ho.1)
theorem ze {c : ao} (hc : Cur p c) {s : ae} (hs : rm s) : TD p (kQ p c s) (lq 0) := by
  unfold kQ
  refine (qi hs.1).bind fun st hst => (ga hp hc (by simp)).bind fun n hn => ?_
  obtain ⟨m, hm, hm2⟩ : ∃ m : Nat, n.1 = m ∧ m ≤ 60 := by
    have h := hn.2
    simp only [List.mem_cons, List.not_mem_nil, or_false] at h
    exact ⟨n.1.toNat, by omega, by omega⟩
  refine cT (fun k (σ : Int × Int × List Int × List (List Int)) i => em n p s k σ.1 σ.2.1 σ.2.2.1 σ.2.2.2 i) m (fun i σ => Cur p ⟨σ.1, σ.2.1⟩ ∧ lq 0 ⟨σ.2.2.1, σ.2.2.2⟩) (fun k σ h => ?_) (fun k σ i hi h hk => ?_) (by omega) (s := (n.2.i_, n.2.h_, st.e_, st.d_)) ⟨hn.1, hst⟩
  · obtain ⟨g1, g2⟩ := h
    show Tot (em _ _ _ (k + 1) _ _ _ _ _) _
    rw [em, hm, if_neg (by simp)]
    refine (ny hp g1 8).bind fun o ho => bg (fun _ => ?_) (fun _ => aA ⟨ho.1, g2⟩)
    rw [uP (by have := g2.1.1; omega)]
    exact aA ⟨ho.1, g2.1, by simp, fun x hx => by cases hx⟩
  · obtain ⟨g1, g2⟩ := h
    show Tot (em _ _ _ (k + 1) _ _ _ _ _) _
    rw [em, hm, if_pos (by simp; omega), aK (by omega)]
    exact (uW hp g1 hs).bind fun e he => (ga hp he.1 (by simp)).bind fun w hw => (sy hs.1 g2).bind fun y hy => hk (_, _, _, _) ⟨hw.1, hy⟩
theorem Aj {c : ao} (hc : Cur p c) {s : ae} (hs : rm s) : TD p (lZ p c s) (lq 1) := by
  unfold lZ
  refine (ze hp hc hs).bind fun st hst => (fB hp hst.1 14).bind fun y hy => ?_
  obtain ⟨g1, g2, g3⟩ := hst.2
  have hm := hst.2.mono (d' := 1) (by omega)
  have keep : TD p (some (st.1, y.2)) (lq 1) := aA ⟨hy.1, hm⟩
  refine bg (fun _ => bg (fun h => (ga hp hy.1 (by simp)).bind fun v hv => (gf ⟨by omega, by simpa using h⟩).bind fun _ _ => aA ⟨hv.1, (g1.mono (by omega)).set (oM (fun y hy => ?_) hv.2) _, hm.2⟩) (fun _ => keep)) (fun _ => bg (fun _ => ?_) (fun _ => bg (fun _ => ?_) (fun _ => bg (fun _ => bg (fun h => ?_) (fun _ => keep)) (fun _ => keep))))
  · simp only [List.mem_cons, List.not_mem_nil, or_false] at hy
    unfold V; omega
  · have h := g1.1
    rw [cN (by simp; omega)]
    exact aA ⟨hy.1, g1.app (dP ⟨by omega, by omega⟩) (by omega), hm.2⟩
  · refine Tot.bind (P := fun u => u = true → ∃ h : 0 < st.1.d_.length, 0 < (st.1.d_[0]).length) (bg (fun h => ?_) (fun _ => aA fun h => by cases h)) (fun u hu => bg (fun g => ?_) (fun _ => keep))
    · have h : 0 < st.1.d_.length := by simpa using h
      have e0 : idx st.1.d_ 0 = some st.1.d_[0] := bc h
      rw [e0]
      exact aA fun g => ⟨h, by simpa using g⟩
    · obtain ⟨h, h2⟩ := hu g
      have e0 : idx st.1.d_ 0 = some st.1.d_[0] := bc h
      have e1 : idx st.1.d_[0] 0 = some st.1.d_[0][0] := bc h2
      have hc0 := g3 _ (List.getElem_mem h)
      rw [e0]
      simp only [bS]
      refine (ga hp hy.1 (by simp)).bind fun v hv => ?_
      rw [e1]
      refine aA ⟨hv.1, hm.1, by show (st.1.d_.set _ _).length ≤ _; rw [List.length_set]; omega, fun x hx => ?_⟩
      rcases List.mem_or_eq_of_mem_set hx with hx | rfl
      · exact hm.2.2 x hx
      · refine (hc0.mono (by omega)).set (oM (fun y hy => ?_) hv.2) _
        simp only [List.mem_cons, List.not_mem_nil, or_false] at hy
        unfold V; omega
  · have h : 0 < st.1.d_.length := by simpa using h
    have e0 : idx st.1.d_ 0 = some st.1.d_[0] := bc h
    have hc0 := g3 _ (List.getElem_mem h)
    have hl := hc0.1
    rw [e0]
    simp only [bS]
    rw [cN (by simp; omega)]
    refine aA ⟨hy.1, hm.1, by show (st.1.d_.set _ _).length ≤ _; rw [List.length_set]; omega, fun x hx => ?_⟩
    rcases List.mem_or_eq_of_mem_set hx with hx | rfl
    · exact hm.2.2 x hx
    · exact hc0.app (dP ⟨by omega, by omega⟩) (by omega)
theorem uU {c : ao} (hc : Cur p c) {s : ae} (hs : rm s) : TD p (jU p c s) (fN 1) := by
  unfold jU
  refine (xu hp hc hs).bind fun y hy => ?_
  have hm := hy.2.mono (d' := 1) (by omega)
  obtain ⟨ht, hx⟩ := hm
  refine bg (fun _ => aA ⟨hy.1, ht, hx⟩) (fun h0 => ?_)
  have h0 : y.1.a_.length ≠ 0 := by simpa using h0
  refine (fB hp hy.1 _).bind fun a ha => ?_
  obtain ⟨j, hj⟩ : ∃ j : Nat, a.1 = j := ⟨a.1.toNat, by have := ha.2.1; omega⟩
  have hjl : j < y.1.a_.length := by rcases ha.2.2 with g | g <;> omega
  have hl := ht.1
  rw [hj, bc hjl]
  have hn0 := hy.2.1.2 _ (List.getElem_mem hjl)
  have hn := ht.2 _ (List.getElem_mem hjl)
  obtain ⟨g1, g2, g3, g4, g5, g6, g7, g8, g9⟩ := hn
  refine (fB hp ha.1 22).bind fun o ho => ?_
  simp only [bS]
  refine bg (fun _ => (ga hp ho.1 (by simp)).bind fun v hv => aA ⟨hv.1, ht, oM (fun y hy => ?_) hv.2⟩) (fun _ => ?_)
  · simp only [List.mem_cons, List.not_mem_nil, or_false] at hy
    unfold V; omega
  refine bg (fun _ => (fB hp ho.1 8).bind fun v hv => aA ⟨hv.1, fN.setN ht (n := { y.1.a_[j] with m_ := v.1 }) ⟨g1, g2, g3, g4, g5, g6, dP (x := v.1) ⟨by have := hv.2; omega, by have := hv.2; omega⟩, g8, g9⟩ hx _⟩) (fun _ => ?_)
  refine bg (fun _ => (ga hp ho.1 (by simp)).bind fun v hv => aA ⟨hv.1, fN.setN ht (n := { y.1.a_[j] with o_ := v.1 }) ⟨g1, g2, g3, g4, g5, g6, g7, oM (fun y hy => ?_) hv.2, g9⟩ hx _⟩) (fun _ => ?_)
  · simp only [List.mem_cons, List.not_mem_nil, or_false] at hy
    unfold V; omega
  refine bg (fun _ => (ga hp ho.1 (by simp)).bind fun v hv => ?_) (fun _ => ?_)
  · have hk := hn0.2.1.1
    rw [cN (by simp; omega)]
    refine aA ⟨hv.1, fN.setN ht (n := { y.1.a_[j] with r_ := y.1.a_[j].r_ ++ [v.1] }) ⟨g1, hn0.2.1.app (oM (fun y hy => ?_) hv.2) (by omega), g3, g4, g5, g6, g7, g8, g9⟩ hx _⟩
    simp only [List.mem_cons, List.not_mem_nil, or_false] at hy
    rcases hy with rfl | rfl | rfl | rfl
    · exact dP ⟨by omega, by omega⟩
    · exact dP ⟨by omega, by omega⟩
    · exact oU _
    · exact dP ⟨by omega, by omega⟩
  refine bg (fun _ => (ga hp ho.1 (by simp)).bind fun v hv => aA ⟨hv.1, fN.setN ht (n := { y.1.a_[j] with w_ := v.1 }) ⟨g1, g2, oM (fun y hy => ?_) hv.2, g4, g5, g6, g7, g8, g9⟩ hx _⟩) (fun _ => ?_)
  · simp only [List.mem_cons, List.not_mem_nil, or_false] at hy
    unfold V; omega
  refine bg (fun _ => (ga hp ho.1 (by simp)).bind fun v hv => aA ⟨hv.1, fN.setN ht (n := { y.1.a_[j] with v_ := v.1 }) ⟨g1, g2, g3, g4, oM (fun y hy => ?_) hv.2, g6, g7, g8, g9⟩ hx _⟩) (fun _ => ?_)
  · simp only [List.mem_cons, List.not_mem_nil, or_false] at hy
    unfold V; omega
  refine bg (fun _ => (ga hp ho.1 (by simp)).bind fun v hv => aA ⟨hv.1, fN.setN ht (n := { y.1.a_[j] with p_ := v.1 }) ⟨g1, g2, g3, g4, g5, g6, g7, g8, oM (fun z hz => ?_) hv.2⟩ hx _⟩) (fun _ => ?_)
  · simp only [List.mem_cons, List.not_mem_nil, or_false] at hz
    rcases hz with rfl | rfl | rfl | rfl | rfl
    · exact dP ⟨by omega, by omega⟩
    · exact dP ⟨by omega, by omega⟩
    · exact dP ⟨by omega, by omega⟩
    · exact hx
    · exact oU _
  refine bg (fun _ => aA ⟨ho.1, fN.setN ht (n := { y.1.a_[j] with s_ := (!y.1.a_[j].s_) }) ⟨g1, g2, g3, g4, g5, g6, g7, g8, g9⟩ hx _⟩) (fun _ => ?_)
  refine bg (fun _ => (Au hp ho.1 hs).bind fun v hv => aA ⟨hv.1, fN.setN ht (n := { y.1.a_[j] with l_ := v.1 }) ⟨hv.2, g2, g3, g4, g5, g6, g7, g8, g9⟩ hx _⟩) (fun _ => ?_)
  refine bg (fun _ => (yZ hp ho.1 hs).bind fun v hv => aA ⟨hv.1, fN.setN ht (n := { y.1.a_[j] with b_ := v.1 }) ⟨g1, g2, g3, g4, g5, hv.2.mono (by omega), g7, g8, g9⟩ hx _⟩) (fun _ => ?_)
  refine bg (fun _ => (Aj hp ho.1 hs).bind fun v hv => aA ⟨hv.1, fN.setN ht (n := { y.1.a_[j] with n_ := v.1 }) ⟨g1, g2, g3, hv.2, g5, g6, g7, g8, g9⟩ hx _⟩) (fun _ => ?_)
  refine bg (fun _ => ?_) (fun _ => aA ⟨ho.1, ht, hx⟩)
  rw [bu (by omega) (by omega)]
  refine (nr ⟨by omega, by omega, by omega⟩).bind fun l hl2 => aA ⟨ho.1, ⟨?_, fun n hn => ?_⟩, hx⟩
  · show l.length ≤ 40
    rw [hl2]
    simp only [List.length_take, List.length_drop]
    omega
  · have hn : n ∈ l := hn
    rw [hl2] at hn
    exact ht.2 n (List.mem_of_mem_drop (List.mem_of_mem_take hn))
end
end Go.Vk
/- Numbers in decimal, texts joined: alike. -/
namespace Go.Vk
open Go.Proofs
def I64 (x : Int) : Prop := -9223372036854775808 ≤ x ∧ x ≤ 9223372036854775807
theorem lF {n : Int} (h : I64 n) : gH n = some (Lib.itoa n) := by
  unfold gH xb
  rw [if_pos ⟨h.1, h.2⟩]
  rfl
theorem nO {n : Int} (h : I64 n) : (Lib.itoa n).length ≤ 21 := Lib.itoa_length_le n h.1 h.2
theorem lK {a b : List UInt8} (h : a.length + b.length ≤ 68719476736) : rn a b = some (a ++ b) := if_pos h
theorem tc {xs : List (List UInt8)} {sep : List UInt8} (hx : xs.length ≤ 1000000000) (hl : (Lib.join xs sep).length ≤ 1000000000) : rI xs sep = some (Lib.join xs sep) := by
  unfold rI
  rw [if_pos ⟨by omega, by omega⟩]
theorem vR {xs : List (List UInt8)} {sep : List UInt8} {b : Nat} (h : ∀ x ∈ xs, x.length ≤ b) : (Lib.join xs sep).length ≤ (sep.length + b) * xs.length := by
  cases xs with
  | nil => simp [Lib.join_nil]
  | cons x r =>
    rw [Lib.join_cons, List.length_append]
    have hx := h x (by simp)
    have : (Lib.joinTail sep r).length ≤ (sep.length + b) * r.length := by
      unfold Lib.joinTail
      have hr : ∀ y ∈ r, y.length ≤ b := fun y hy => h y (by simp [hy])
      clear h hx
      induction r with
      | nil => simp
      | cons y r ih =>
        have h1 := hr y (by simp)
        have h2 := ih (fun z hz => hr z (by simp [hz]))
        simp only [List.map_cons, List.flatten_cons, List.length_append, List.length_cons, Nat.mul_succ]
        omega
    simp only [List.length_cons, Nat.mul_succ]
    omega
theorem uo {p : List Int} {sep : List UInt8} (hp : kn p) (hs : sep.length ≤ 100) : iM p sep = some (Lib.join (p.map Lib.itoa) sep) ∧ (Lib.join (p.map Lib.itoa) sep).length ≤ 121 * p.length := by
  have hl := hp.1
  have hlen : (Lib.join (p.map Lib.itoa) sep).length ≤ 121 * p.length := by
    have := vR (xs := p.map Lib.itoa) (sep := sep) (b := 21) (fun x hx => by
      obtain ⟨n, hn, rfl⟩ := List.mem_map.1 hx
      exact nO (hp.2 n hn))
    rw [List.length_map] at this
    exact Nat.le_trans this (Nat.mul_le_mul_right _ (by omega))
  refine ⟨?_, hlen⟩
  unfold iM
  refine pj (p := p) Lib.itoa (fun k l i => dj p sep k i l) (fun l => (rI l sep).bind fun s => some s) (fun k l => ?_) (fun k l i h hi => ?_) (by omega) |>.trans ?_
  · show dj p sep (k + 1) _ l = _
    rw [dj, if_neg (by simp)]
  · show dj p sep (k + 1) _ l = _
    rw [dj, if_pos (by simp; omega), bc h, aK (by omega)]
    simp only [bS]
    rw [lF (hp.2 _ (List.getElem_mem h))]
    simp only [bS]
    rw [cN (by simp; omega)]
    rfl
  · rw [tc (by simp; omega) (by omega)]
    rfl
end Go.Vk
/- The first of the greatest: found alike. -/
namespace Go.Vk
def nD (l : List Int) (j : Nat) : Prop := ∃ h : j < l.length, (∀ m, (hm : m < l.length) → l[m] ≤ l[j]) ∧ ∀ m, (hm : m < j) → l[m] < l[j]
theorem nD.eq {l : List Int} {i j : Nat} (h : nD l i) (g : nD l j) : i = j := by
  obtain ⟨hi, h1, h2⟩ := h
  obtain ⟨hj, g1, g2⟩ := g
  rcases Nat.lt_trichotomy i j with c | c | c
  · have := g2 i c; have := h1 j hj; omega
  · exact c
  · have := h2 j c; have := g1 i hi; omega
theorem zT {l : List Int} (hl : l.length ≤ 1048576) (h0 : l.length ≠ 0) : Tot (jg l) (fun r => ∃ j : Nat, r = j ∧ nD l j) := by
  unfold jg
  refine cT (eo l) l.length (fun i s => (i = 0 ∧ s = -1) ∨ ∃ j : Nat, s = j ∧ ∃ _ : j < i, ∃ hj : j < l.length, (∀ m, m < i → (hm : m < l.length) → l[m] ≤ l[j]) ∧ ∀ m, (hm : m < j) → l[m] < l[j]) (fun k s h => ?_) (fun k s i hi h ih => ?_) (by omega) (.inl ⟨rfl, rfl⟩)
  · rw [eo, if_neg (by simp)]
    rcases h with ⟨h, _⟩ | ⟨j, rfl, hj, hl, h1, h2⟩
    · exact absurd h h0
    · exact aA ⟨j, rfl, hl, fun m hm => h1 m hm hm, h2⟩
  · rw [eo, if_pos (by simp; omega), aK (by omega)]
    rcases h with ⟨h, rfl⟩ | ⟨j, rfl, hj, hjl, h1, h2⟩
    · rw [if_pos (by simp)]
      subst h
      exact ih _ (.inr ⟨0, rfl, by omega, hi, fun m hm _ => by
        have : m = 0 := by omega
        subst this; exact Int.le_refl _, fun m hm => by omega⟩)
    · rw [if_neg (by simp), bc hi, bc hjl]
      simp only [sS]
      by_cases hc : l[i] > l[j]
      · rw [if_pos (by simpa using hc)]
        refine ih _ (.inr ⟨i, rfl, by omega, hi, fun m hm hml => ?_, fun m hm => ?_⟩)
        · by_cases e : m = i
          · subst e; exact Int.le_refl _
          · have := h1 m (by omega) hml; omega
        · have := h1 m hm (by omega); omega
      · rw [if_neg (by simpa using hc)]
        refine ih _ (.inr ⟨j, rfl, by omega, hjl, fun m hm hml => ?_, h2⟩)
        by_cases e : m = i
        · subst e; omega
        · exact h1 m (by omega) hml
theorem Am {l : List Int} (hl : l.length ≤ 1048576) (h0 : l.length ≠ 0) : Tot (eJ l) (fun r => r ∈ l ∧ ∀ x ∈ l, x ≤ r) := by
  unfold eJ
  rw [if_neg (by simp; omega), show (0 : Int) = ((0 : Nat) : Int) from rfl, bc (show 0 < l.length by omega)]
  simp only [bS]
  have key : ∀ (d k i : Nat) (s : Int), l.length - i = d → d < k → 1 ≤ i → i ≤ l.length → s ∈ l → (∀ m, m < i → (hm : m < l.length) → l[m] ≤ s) → Tot (cD l k s (i : Int)) (fun r => r ∈ l ∧ ∀ x ∈ l, x ≤ r) := by
    intro d
    induction d with
    | zero =>
      intro k i s hd hk h1 hi hm hs
      obtain ⟨k, rfl⟩ : ∃ q, k = q + 1 := ⟨k - 1, by omega⟩
      rw [cD, if_neg (by simp; omega)]
      refine aA ⟨hm, fun x hx => ?_⟩
      obtain ⟨m, hml, rfl⟩ := List.getElem_of_mem hx
      exact hs m (by omega) hml
    | succ d ih =>
      intro k i s hd hk h1 hi hm hs
      obtain ⟨k, rfl⟩ : ∃ q, k = q + 1 := ⟨k - 1, by omega⟩
      have hlt : i < l.length := by omega
      rw [cD, if_pos (by simp; omega), bc hlt, aK (by omega)]
      simp only [bS]
      refine ih k (i + 1) _ (by omega) (by omega) (by omega) (by omega) ?_ (fun m hm2 hml => ?_)
      · split
        · exact List.getElem_mem hlt
        · exact hm
      · by_cases e : m = i
        · subst e; split <;> omega
        · have := hs m (by omega) hml; split <;> omega
  exact key (l.length - 1) bh 1 _ rfl (eY (by omega)) (Nat.le_refl _) (by omega) (List.getElem_mem _) (fun m hm _ => by
    have : m = 0 := by omega
    subst this; exact Int.le_refl _)
theorem zE {l : List Int} (hl : l.length ≤ 1048576) (h0 : l.length ≠ 0) : Tot (lC l) (fun r => ∃ j : Nat, r = j ∧ nD l j) := by
  unfold lC
  rw [if_neg (by simp only [Bool.and_eq_true, Bool.or_eq_true, Bool.not_eq_true', bne_iff_ne, beq_iff_eq, decide_eq_true_eq, ne_eq, Bool.and_true, eq_self, true_and, and_true, not_true_eq_false, not_false_eq_true, false_or, or_false, Bool.and_eq_false_iff, Bool.or_eq_false_iff, beq_eq_false_iff_ne, bne_eq_false_iff_eq, decide_eq_false_iff_not]; omega)]
  obtain ⟨r, e, hr, hm⟩ := Am hl h0
  rw [e]
  simp only [bS]
  have hid : ∀ o : Option Int, (o.bind fun y => some y) = o := fun o => by cases o <;> rfl
  rw [hid]
  unfold dt
  refine cT (fun k (_ : Unit) i => bR l r k i) l.length (fun i _ => ∀ m, m < i → (hm : m < l.length) → l[m] ≠ r) (fun k s h => ?_) (fun k s i hi h ih => ?_) (by omega) (s := ()) (fun m hm => by omega)
  · obtain ⟨j, hj, e2⟩ := List.getElem_of_mem hr
    exact absurd e2 (h j hj hj)
  · show Tot (bR l r (k + 1) (i : Int)) _
    rw [bR, if_pos (by simp; omega), bc hi, aK (by omega)]
    simp only [bS]
    by_cases hc : r = l[i]
    · rw [if_pos (by simpa using hc)]
      refine aA ⟨i, rfl, hi, fun m hm2 => by rw [← hc]; exact hm _ (List.getElem_mem hm2), fun m hm2 => ?_⟩
      have h1 := h m hm2 (by omega)
      have h2 := hm _ (List.getElem_mem (by omega : m < l.length))
      omega
    · rw [if_neg (by simpa using hc)]
      exact ih () (fun m hm2 hml => by
        by_cases e : m = i
        · subst e; exact fun g => hc g.symm
        · exact h m (by omega) hml)
theorem yr {l : List Int} (hl : l.length ≤ 1048576) (h0 : l.length ≠ 0) : ∃ j : Nat, nD l j ∧ jg l = some (j : Int) ∧ lC l = some (j : Int) := by
  obtain ⟨_, e1, j, rfl, h1⟩ := zT hl h0
  obtain ⟨_, e2, i, rfl, h2⟩ := zE hl h0
  obtain rfl := h1.eq h2
  exact ⟨j, h1, e1, e2⟩
end Go.Vk
