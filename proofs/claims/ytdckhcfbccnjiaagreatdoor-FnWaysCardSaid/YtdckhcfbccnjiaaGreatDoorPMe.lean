/- Merits of forks: they always answer. -/
import Derived.Test.YtdckhcfbccnjiaaGreatDoorPTr
namespace Go.Vk
theorem vy {s : ab} {t : av} {f : aq} (hs : aU s) (ht : fk t) (i : Int) : Tot (gZ s t f i) (fun l => l.length = 0 ∨ l.length = s.l_.length ∧ dv s) := by
  unfold gZ
  have bad : Tot (some ([] : List Int)) (fun l => l.length = 0 ∨ l.length = s.l_.length ∧ dv s) := aE (.inl rfl)
  refine jA (jJ hs ht).t (by simp only [sS]; exact bad) (fun hP => ?_)
  simp only [sS]
  by_cases hc : t.d_.length = 0
  · rw [show ((t.d_.length : Int) == 0) = true by simpa using hc]
    simp only [sS]
    exact bad
  rw [show ((t.d_.length : Int) == 0) = false by simpa using hc]
  simp only [sS]
  refine jX (kE hs).t (by simp only [sS]; exact bad) (fun hF => ?_)
  simp only [sS]
  rw [la hs hF]
  simp only [bS]
  refine jX da.t (by simp only [sS]; exact bad) (fun _ => ?_)
  simp only [sS]
  have hS := hP.1
  have hcl := hS.2.1
  refine (xS ⟨by omega, by omega⟩).bind fun l0 hl0 => ?_
  have hl0 : l0.length = s.l_.length := by rw [hl0]; simp
  obtain ⟨a, ha, ea, et⟩ := po hF.2.1
  have hA := hs.1.2 _ (List.getElem_mem ha)
  have hn := nG (hS.attr ha)
  have hC : t.d_.length = s.b_.length := by rcases hP.2.2.2.2 with g | g; omega; exact g.1
  have hcell : uW s.l_.length (nb s.b_[a]) t.e_ t.d_[a] := by
    rcases hP.2.2.2.2 with g | g
    · omega
    · exact g.2 a (by omega) ha
  refine dw (fun k (l : List Int) b => cy s f i l0 t k b l) (nb s.b_[a]) (fun _ l => l.length = s.l_.length) (fun k l hl => ?_) (fun k l b hb hl hk => ?_) (by omega) hl0
  · show Tot (cy _ _ _ _ _ (k + 1) _ _) _
    rw [cy, ea, aV ha]
    simp only [bS]
    rw [kB hA (hS.attr ha)]
    simp only [bS]
    rw [if_neg (by simp)]
    exact aE (.inr ⟨hl, hS⟩)
  · show Tot (cy _ _ _ _ _ (k + 1) _ _) _
    rw [cy, ea, aV ha]
    simp only [bS]
    rw [kB hA (hS.attr ha)]
    simp only [bS]
    rw [if_pos (by simp; omega), pp hs hF (b := (b : Int)) ⟨by omega, by rw [et]; omega⟩, aG (by omega)]
    simp only [bS]
    refine br (fun _ => ?_) (fun _ => hk _ hl)
    refine dw (fun k2 (l2 : List Int) j => dc l0 t f b s (cy s f i l0 t k) k2 j l2) s.l_.length (fun _ l2 => l2.length = s.l_.length) (fun k2 l2 h2 => ?_) (fun k2 l2 j hj h2 hk2 => ?_) (by omega) hl
    · show Tot (dc _ _ _ _ _ _ (k2 + 1) _ _) _
      rw [dc, hl0, if_neg (by simp), aG (by omega)]
      exact hk _ h2
    · show Tot (dc _ _ _ _ _ _ (k2 + 1) _ _) _
      have hm : b * s.l_.length ≤ 12 := by
        calc b * s.l_.length ≤ 4 * 3 := Nat.mul_le_mul (by omega) (by omega)
          _ = 12 := rfl
      have hat : b * s.l_.length + j < t.d_[a].length := by rw [hcell.1]; exact yK hb hj
      rw [dc, hl0, if_pos (by simp; omega), aV (show j < l2.length by omega), ea, aV (show a < t.d_.length by omega)]
      simp only [bS]
      rw [← Int.natCast_mul, gM (by omega), ← Int.natCast_add, gM (by omega), aV hat, aG (by omega)]
      simp only [bS]
      exact hk2 _ (by simpa using h2)
theorem yP {s : ab} {t : av} {f : aq} (hs : aU s) (ht : fk t) : T (mP s t f) := by
  unfold mP
  refine jA (jJ hs ht).t (by simp only [sS]; exact bC _) (fun hP => ?_)
  simp only [sS]
  by_cases hc : t.d_.length = 0
  · rw [show ((t.d_.length : Int) == 0) = true by simpa using hc]
    simp only [sS]
    exact bC _
  rw [show ((t.d_.length : Int) == 0) = false by simpa using hc]
  simp only [sS]
  refine jX (kE hs).t (by simp only [sS]; exact bC _) (fun hF => ?_)
  simp only [sS]
  have hcl := hP.1.2.1
  refine (xS ⟨by omega, by omega⟩).bind fun l0 hl0 => ?_
  have hl0 : l0.length = s.l_.length := by rw [hl0]; simp
  have hbr := yO hF
  refine dw (fun k (σ : List Int × List Int × List Int) i => eU s f t k i σ.1 σ.2.1 σ.2.2) (brN s f) (fun i σ => σ.1.length = s.l_.length ∧ σ.2.2.length = σ.2.1.length ∧ σ.2.1.length ≤ i ∧ ∀ x ∈ σ.2.1, 0 < x) (fun k σ h => ?_) (fun k σ i hi h hk => ?_) (by omega) (s := (l0, [], [])) ⟨hl0, rfl, by simp, fun x hx => by cases hx⟩
  · obtain ⟨h1, h2, h3, h4⟩ := h
    show T (eU s f t (k + 1) _ _ _ _)
    rw [eU, la hs hF]
    simp only [bS]
    rw [if_neg (by simp)]
    refine (BP (by omega)).bind fun y _ => br (fun _ => bC _) (fun _ => ?_)
    refine dw (iu σ.2.1 σ.2.2 y σ.1) σ.2.1.length (fun _ _ => True) (fun k3 z _ => ?_) (fun k3 z j hj _ hk3 => ?_) (by omega) trivial
    · rw [iu, if_neg (by simp)]
      refine dw (iv σ.2.1 σ.2.2 z y σ.1) σ.2.1.length (fun _ _ => True) (fun k4 v _ => ?_) (fun k4 v j hj _ hk4 => ?_) (by omega) trivial
      · rw [iv, if_neg (by simp)]
        exact (vL _).bind fun _ _ => (ze _).bind fun _ _ => bC _
      · rw [iv, if_pos (by simp; omega), aV (show j < σ.2.2.length by omega), aV hj, aG (by omega)]
        simp only [bS]
        have := h4 _ (List.getElem_mem hj)
        exact (Ai (by omega)).bind fun _ _ => hk4 _ trivial
    · rw [iu, if_pos (by simp; omega), aV hj, aG (by omega)]
      exact hk3 _ trivial
  · obtain ⟨h1, h2, h3, h4⟩ := h
    show T (eU s f t (k + 1) _ _ _ _)
    rw [eU, la hs hF]
    simp only [bS]
    rw [if_pos (by simp; omega)]
    refine (vy hs ht _).bind fun y hy => ?_
    have hyl : y.length ≤ s.l_.length := by rcases hy with g | g <;> omega
    refine dw (fun k2 (l2 : List Int) j => fN y σ.2.1 σ.2.2 (eU s f t k) i k2 j l2) y.length (fun _ l2 => l2.length = s.l_.length) (fun k2 l2 hl2 => ?_) (fun k2 l2 j hj hl2 hk2 => ?_) (by omega) h1
    · show T (fN _ _ _ _ _ (k2 + 1) _ _)
      rw [fN, if_neg (by simp), aG (by omega)]
      obtain ⟨v, hv, _⟩ := BP (l := y) (by omega)
      rw [hv]
      simp only [bS]
      refine br (fun h0 => ?_) (fun _ => hk (_, _, _) ⟨hl2, h2, Nat.le_succ_of_le h3, h4⟩)
      refine (ld (by simp; omega)).bind fun l3 hl3 => (vL _).bind fun q _ => (ld (by simp; omega)).bind fun l4 hl4 => ?_
      subst hl3 hl4
      refine hk (_, _, _) ⟨hl2, by simp; omega, by simp; omega, fun x hx => ?_⟩
      rcases List.mem_append.1 hx with hx | hx
      · exact h4 x hx
      · rw [List.mem_singleton.1 hx]; simpa using h0
    · show T (fN _ _ _ _ _ (k2 + 1) _ _)
      rw [fN, if_pos (by simp; omega), aV (show j < l2.length by omega), aV hj, aG (by omega)]
      simp only [bS]
      exact hk2 _ (by simpa using hl2)
theorem zf {s : ab} (hS : dv s) {a : Int} (ha : 0 ≤ a ∧ a ≤ (s.b_.length : Int) - 1) : qi s [a] := by
  refine ⟨hS, by simp, fun i _ hi h => ?_⟩
  have : i = 0 := by simp at hi; omega
  subst this
  exact ⟨ha, fun g => absurd g (by omega)⟩
theorem CV {s : ab} {a : Int} {two : Bool} (hs : aU s) (hS : dv s) (ha : 0 ≤ a ∧ a ≤ (s.b_.length : Int) - 1) : Tot (ke s [a] two) (fun l => 1 ≤ l.length ∧ l.length ≤ 10) := by
  unfold ke
  rcases (nM (l := [a]) hs (by simp)).cases with ⟨e, _⟩ | ⟨_, g⟩
  · rw [e]
    simp only [sS]
    obtain ⟨j, rfl⟩ : ∃ j : Nat, a = j := ⟨a.toNat, by omega⟩
    have hjl : j < s.b_.length := by omega
    refine dw (dl [(j : Int)] s two) 1 (fun i l => i ≤ l.length ∧ l.length ≤ 5 * i) (fun k l h => ?_) (fun k l i hi h hk => ?_) (by omega) ⟨by simp, by simp⟩
    · rw [dl, if_neg (by simp)]
      exact aE (by omega)
    · have : i = 0 := by omega
      subst this
      have hl : l = [] := List.length_eq_zero_iff.1 (by omega)
      subst hl
      have e0 : idx [(j : Int)] ((0 : Nat) : Int) = some (j : Int) := by rw [aV (by simp)]; rfl
      rw [dl, if_pos (by simp), e0]
      simp only [bS]
      rw [aV hjl]
      simp only [bS]
      refine br (fun _ => ?_) (fun _ => ?_)
      · rw [de (by simp), aG (by omega)]
        simp only [bS]
        refine hk _ ?_
        simp
      · have hF0 : kG s ⟨(j : Int), 0⟩ := by
          have hb := nG (hS.attr hjl)
          refine ⟨hS, by show 0 ≤ (j : Int) ∧ (j : Int) ≤ _; omega, ?_⟩
          have hat : atr s ⟨(j : Int), 0⟩ = s.b_[j] := by
            obtain ⟨i, hi, h1, h2⟩ := po (s := s) (f := ⟨(j : Int), 0⟩) (by show 0 ≤ (j : Int) ∧ (j : Int) ≤ _; omega)
            have : j = i := by have h1 : (j : Int) = i := h1; omega
            subst this
            exact h2
          show -1 ≤ (0 : Int) ∧ (0 : Int) ≤ ru (atr s ⟨(j : Int), 0⟩)
          rw [hat]
          unfold ru
          split <;> omega
        refine dw (fun k2 l2 i2 => dk [(j : Int)] (0 : Nat) s (dl [(j : Int)] s two k) k2 l2 i2) 4 (fun i2 l2 => l2.length ≤ i2 ∧ (1 ≤ i2 → 1 ≤ l2.length)) (fun k2 l2 h2 => ?_) (fun k2 l2 i2 hi2 h2 hk2 => ?_) (by omega) (s := []) ⟨by simp, fun h => absurd h (by omega)⟩
        · show Tot (dk _ _ _ _ (k2 + 1) _ _) _
          rw [dk, if_neg (by simp), aG (by omega)]
          have := h2.2 (by omega)
          exact hk _ ⟨by omega, by omega⟩
        · show Tot (dk _ _ _ _ (k2 + 1) _ _) _
          have e1 : idx [(j : Int)] ((0 : Nat) : Int) = some (j : Int) := by rw [aV (by simp)]; rfl
          rw [dk, if_pos (by simp; omega), e1, aG (by omega)]
          simp only [bS]
          by_cases h0 : i2 = 0
          · subst h0
            rcases (kE (f := ⟨(j : Int), 0⟩) hs).cases with ⟨e, _⟩ | ⟨_, g⟩
            · have c := h2.1
              rw [show ((0 : Nat) : Int) = (0 : Int) from rfl, e]
              simp only [bS]
              have hl2 : l2 = [] := List.length_eq_zero_iff.1 (by omega)
              subst hl2
              rw [if_pos trivial, de (by simp)]
              simp only [bS]
              exact hk2 _ ⟨by simp, fun _ => by simp⟩
            · exact absurd hF0 g
          · have h1 := h2.2 (by omega)
            have c := h2.1
            refine (Dec.t (kE (f := ⟨(j : Int), (i2 : Int)⟩) hs)).bind fun b _ => br (fun _ => ?_) (fun _ => hk2 _ ⟨by omega, fun _ => h1⟩)
            rw [de (by simp; omega)]
            simp only [bS]
            exact hk2 _ ⟨by simp; omega, fun _ => by simp⟩
  · exact absurd (zf hS ha) g
theorem BS {s : ab} {t : av} {a : Int} {two : Bool} (hs : aU s) (ht : fk t) : T (nj s t a two) := by
  unfold nj
  refine jA (jJ hs ht).t (by simp only [sS]; exact bC _) (fun hP => ?_)
  simp only [sS]
  by_cases hc : t.d_.length = 0
  · rw [show ((t.d_.length : Int) == 0) = true by simpa using hc]
    simp only [sS]
    exact bC _
  rw [show ((t.d_.length : Int) == 0) = false by simpa using hc]
  simp only [sS]
  refine jX da.t (by simp only [sS]; exact bC _) (fun ha => ?_)
  simp only [sS]
  have hn := hP.1.1
  rw [bp (by omega) (by omega)] at ha
  refine (CV hs hP.1 ha).bind fun l hl => ?_
  have h0 : 0 < l.length := by omega
  have e0 : idx l 0 = some l[0] := aV h0
  rw [e0]
  simp only [bS]
  refine (yP hs ht).bind fun m _ => ?_
  have key : ∀ (d k i : Nat) (a b c e : Int), l.length - i = d → d < k → T (fX l s t k a b c e (i : Int)) := by
    intro d
    induction d with
    | zero =>
      intro k i a b c e hd hk
      obtain ⟨k, rfl⟩ : ∃ q, k = q + 1 := ⟨k - 1, by omega⟩
      rw [fX, if_neg (by simp; omega)]
      exact bC _
    | succ d ih =>
      intro k i a b c e hd hk
      obtain ⟨k, rfl⟩ : ∃ q, k = q + 1 := ⟨k - 1, by omega⟩
      have hi : i < l.length := by omega
      rw [fX, if_pos (by simp; omega), aV hi]
      simp only [bS]
      refine (yP hs ht).bind fun m _ => ?_
      unfold mv
      rw [aG (by omega), aV hi]
      exact (pg _ _).bind fun _ _ => br (fun _ => ih _ _ _ _ _ _ (by omega) (by omega)) (fun _ => ih _ _ _ _ _ _ (by omega) (by omega))
  exact key (l.length - 1) be 1 _ _ _ _ rfl (dE (by omega))
theorem DR {s : ab} {t : av} {l : List Int} {two : Bool} (hs : aU s) (ht : fk t) (hl : l.length ≤ 1048576) : T (pn s t l two) := by
  unfold pn
  refine jA (jJ hs ht).t (by simp only [sS]; exact bC _) (fun hP => ?_)
  simp only [sS]
  by_cases hc : t.d_.length = 0
  · rw [show ((t.d_.length : Int) == 0) = true by simpa using hc]
    simp only [sS]
    exact bC _
  rw [show ((t.d_.length : Int) == 0) = false by simpa using hc]
  simp only [sS]
  refine jX (nM hs hl).t (by simp only [sS]; exact bC _) (fun ha => ?_)
  simp only [sS]
  refine dw (fun k (r : List bw) i => eG l s t two k i r) l.length (fun i r => r.length = i) (fun k r h => ?_) (fun k r i hi h hk => ?_) (by omega) rfl
  · show T (eG _ _ _ _ (k + 1) _ _)
    rw [eG, if_neg (by simp)]
    exact bC _
  · show T (eG _ _ _ _ (k + 1) _ _)
    rw [eG, if_pos (by simp; omega), aV hi]
    simp only [bS]
    refine (BS hs ht).bind fun b _ => ?_
    unfold nF
    have key : ∀ (j k2 : Nat), j ≤ r.length → j < k2 → T (jp r b.1.j_ b.1.c_ b.2.D_ b.2.C_ (eG l s t two k) i k2 (j : Int)) := by
      have fin : ∀ j : Nat, j ≤ r.length → T ((sub r 0 (j : Int)).bind fun a => (app ([] : List bw) a).bind fun c => (app c ([(bw.mk (aq.mk b.1.j_ b.1.c_) (bd.mk b.2.D_ b.2.C_))] : List bw)).bind fun d => (sub r (j : Int) (r.length : Int)).bind fun e => (app d e).bind fun f => (eG l s t two k) (IntKind.i64.wrap ((i : Int) + 1)) f) := by
        intro j hj
        refine (rV ⟨by omega, by omega, by omega⟩).bind fun l1 h1 => ?_
        have h1 : l1.length = j := by rw [h1]; simp; omega
        refine (ld (by simp; omega)).bind fun l2 h2 => ?_
        have h2 : l2.length = j := by rw [h2]; simp [h1]
        refine (ld (by simp; omega)).bind fun l3 h3 => ?_
        have h3 : l3.length = j + 1 := by rw [h3]; simp [h2]
        refine (rV ⟨by omega, by omega, by omega⟩).bind fun l4 h4 => ?_
        have h4 : l4.length = r.length - j := by rw [h4]; simp
        refine (ld (by omega)).bind fun l5 h5 => ?_
        rw [aG (by omega)]
        exact hk _ (by rw [h5]; simp; omega)
      intro j
      induction j with
      | zero =>
        intro k2 _ hk2
        obtain ⟨k2, rfl⟩ : ∃ q, k2 = q + 1 := ⟨k2 - 1, by omega⟩
        rw [jp, if_neg (by simp)]
        simp only [sS]
        exact fin 0 (by omega)
      | succ j ih =>
        intro k2 hj hk2
        obtain ⟨k2, rfl⟩ : ∃ q, k2 = q + 1 := ⟨k2 - 1, by omega⟩
        rw [jp, if_pos (by simp), bp (by omega) (by omega), show ((j + 1 : Nat) : Int) - 1 = (j : Int) by omega, aV (show j < r.length by omega)]
        simp only [bS]
        unfold pr
        refine Tot.bind (P := fun _ => True) (((pg _ _).bind fun _ _ => bC _).bind fun _ _ => bC _) (fun u _ => br (fun _ => ih k2 (by omega) (by omega)) (fun _ => fin (j + 1) hj))
    exact key r.length be (Nat.le_refl _) (dE (by omega))
theorem ye {s : ab} {t : av} {l : List Int} {two : Bool} (hs : aU s) (ht : fk t) (hl : l.length ≤ 1048576) : T (lr s t l two) := by
  unfold lr
  refine (DR hs ht hl).bind fun r _ => br (fun _ => bC _) (fun h => ?_)
  have h : r.length ≠ 0 := by simpa using h
  unfold jG
  refine br (fun h1 => ?_) (fun _ => (iT ⟨by omega, by omega⟩).bind fun _ _ => bC _)
  have h1 : (r.length : Int) > 1 := by simpa using h1
  exact (iT ⟨by omega, by omega⟩).bind fun _ _ => (iT ⟨by omega, by omega⟩).bind fun _ _ => bC _
end Go.Vk
/- Verdicts, places, copies: they always answer. -/
namespace Go.Vk
def V (x : Int) : Prop := -9223372036854775808 ≤ x ∧ x ≤ 9223372036854775807
theorem rl (n : Int) : V (IntKind.i64.wrap n) := by
  unfold V
  rw [IntKind.wrap_i64]
  omega
theorem eH {x : Int} (h : -1000000000000 ≤ x ∧ x ≤ 1000000000000) : V x := ⟨by omega, by omega⟩
theorem tP (a : bd) : Tot (iA a) (fun b => b = true → AK a) := by
  unfold iA
  exact (pe a).t.bind fun b hb => aE fun h => hb (by simp at h; exact h.1)
theorem BA (p : Int) : Tot (nL p) (fun v => v ≤ 9223372036854775807) := by
  unfold nL
  exact da.t.bind fun b _ => br (fun _ => aE (by omega)) (fun _ => aE (rl _).2)
theorem Ah (a b : bd) (n k : Int) : T (nk a b n k) := by
  unfold nk
  refine jA (tP a) (by simp only [sS]; exact bC _) (fun _ => ?_)
  simp only [sS]
  refine jX (tP b) (by simp only [sS]; exact bC _) (fun _ => ?_)
  simp only [sS]
  refine Tot.bind (P := fun _ => True) ((pg a b).bind fun _ _ => bC _) (fun u _ => ?_)
  cases u
  · simp only [sS]
    refine jX da.t (by simp only [sS]; exact bC _) (fun hn => ?_)
    simp only [sS]
    refine jX da.t (by simp only [sS]; exact bC _) (fun _ => ?_)
    simp only [sS]
    exact (yZ a b).bind fun _ _ => (qp _ _).bind fun _ _ => (pE (by omega) (by omega)).bind fun _ _ => (qp _ _).bind fun _ _ => (qp _ _).bind fun _ _ => (BA k).bind fun v hv => (pE hv (by omega)).bind fun _ _ => (qp _ _).bind fun _ _ => (uw _ _).bind fun _ _ => bC _
  · simp only [sS]
    exact bC _
theorem DP (r : cB) (n : Int) : T (pi r n) := by
  unfold pi
  refine (ul r).t.bind fun a _ => ?_
  refine Tot.bind (P := fun _ => True) (br (fun _ => da.t.bind fun _ _ => bC _) (fun _ => bC _)) (fun b _ => ?_)
  exact Tot.bind (P := fun _ => True) (br (fun _ => (BA _).bind fun _ _ => bC _) (fun _ => bC _)) (fun _ _ => bC _)
theorem Ac (r : cB) (a b : bd) (n : Int) : T (my r a b n) := by
  unfold my
  refine jA (ul r).t (by simp only [sS]; exact bC _) (fun _ => ?_)
  simp only [sS]
  refine jX da.t (by simp only [sS]; exact bC _) (fun _ => ?_)
  simp only [sS]
  refine jX (tP a) (by simp only [sS]; exact bC _) (fun _ => ?_)
  simp only [sS]
  refine jX (tP b) (by simp only [sS]; exact bC _) (fun _ => ?_)
  simp only [sS]
  refine Tot.bind (P := fun _ => True) ((pg a b).bind fun _ _ => bC _) (fun u _ => ?_)
  exact br (fun _ => bC _) (fun _ => br (fun _ => bC _) (fun _ => (Ah ..).bind fun _ _ => br (fun _ => bC _) (fun _ => (DP ..).bind fun _ _ => br (fun _ => bC _) (fun _ => bC _))))
theorem yF {l : List Int} (h : l.length ≤ 1048576) : Tot (mQ l) (fun v => -1 ≤ v ∧ v < l.length ∧ (0 < l.length → 0 ≤ v)) := by
  unfold mQ
  refine dw (gI l) l.length (fun i s => -1 ≤ s ∧ s < i ∧ (0 < i → 0 ≤ s)) (fun k s h1 => ?_) (fun k s i hi h1 hk => ?_) (by omega) ⟨by omega, by omega, fun g => absurd g (by omega)⟩
  · rw [gI, if_neg (by simp)]
    exact aE h1
  · obtain ⟨h1, h2, h3⟩ := h1
    rw [gI, if_pos (by simp; omega), aV hi, aG (by omega)]
    simp only [bS]
    refine Tot.bind (P := fun u => u = false → 0 ≤ s) (br (fun _ => aE (fun h => by cases h)) (fun g => ?_)) (fun u hu => br (fun _ => hk _ ⟨by omega, by omega, fun _ => by omega⟩) (fun g => ?_))
    · have g : 0 ≤ s := by simpa using g
      exact (iT ⟨g, by omega⟩).bind fun _ _ => aE fun _ => g
    · have := hu (by simpa using g)
      exact hk _ ⟨by omega, by omega, fun _ => by omega⟩
theorem vO {s : ab} {t : av} (hs : aU s) (ht : fk t) : T (dZ s t) := by
  rcases (jJ hs ht).cases with ⟨e, h⟩ | ⟨e, h⟩
  · rw [su hs ht h]
    exact bC _
  · unfold dZ
    rw [e]
    simp only [sS]
    exact bC _
theorem vD {s : ab} {t : av} (hs : aU s) (ht : fk t) : T (kU s t) := by
  unfold kU
  rcases (jJ hs ht).cases with ⟨e, h⟩ | ⟨e, h⟩
  · rw [e]
    simp only [sS]
    have h1 := h.1.2.1
    have h2 := h.2.1
    exact (vO hs ht).bind fun _ _ => (yF (by omega)).bind fun v hv => (iT ⟨hv.2.2 (by omega), hv.2.1⟩).bind fun _ _ => bC _
  · rw [e]
    simp only [sS]
    exact bC _
theorem Aj {s : ab} (hs : aU s) (f : aq) : ∃ n : Nat, dR s f = some (n : Int) ∧ n ≤ 4 := by
  rcases (kE (f := f) hs).cases with ⟨_, h⟩ | ⟨_, h⟩
  · exact ⟨_, la hs h, (yO h).2⟩
  · exact ⟨0, vm hs h, by omega⟩
theorem xH {s : ab} {t : av} {f : aq} (hs : aU s) (ht : fk t) : Tot (lm s t f) V := by
  unfold lm
  obtain ⟨n, eB, hn⟩ := Aj hs f
  refine dw (fun k (l : List Int) i => ep s f t k l i) n (fun i l => l.length = i) (fun k l h => ?_) (fun k l i hi h hk => ?_) (by omega) (s := []) rfl
  · show Tot (ep s f t (k + 1) _ _) _
    rw [ep, eB]
    simp only [bS]
    rw [if_neg (by simp)]
    exact (yF (by omega)).bind fun v hv => aE (eH ⟨by omega, by omega⟩)
  · show Tot (ep s f t (k + 1) _ _) _
    rw [ep, eB]
    simp only [bS]
    rw [if_pos (by simp; omega)]
    have hcl := hs.2.1
    refine (vy hs ht _).bind fun y hy => br (fun _ => aE (eH ⟨by omega, by omega⟩)) (fun _ => (BP (by rcases hy with g | g <;> omega)).bind fun v _ => (ld (by simp; omega)).bind fun l2 hl2 => ?_)
    subst hl2
    rw [aG (by omega)]
    exact hk _ (by simp; omega)
theorem vZ {t : av} (h : t.e_.length ≤ 1048576) : mI t = some ⟨t.e_, []⟩ := by
  unfold mI
  rw [de (by simp; omega)]
  rfl
theorem CA {s : ab} {r : cB} {n : aT} (hs : aU s) (hn : pc n) : T (ou s r n) := by
  unfold ou
  have ht := hn.2.2.2.2.1
  have ha := hn.2.2.2.2.2.2.1.1
  exact (ye hs ht ha).bind fun _ _ => br (fun _ => bC _) (fun _ => (vO hs ht).bind fun _ _ => (Ac ..).bind fun _ _ => br (fun _ => bC _) (fun _ => bC _))
theorem tj {n : aT} (h : pc n) : iE n = some n := by
  have h1 := h.2.2.1.1
  have h2 := h.2.2.2.2.2.2.1.1
  unfold iE
  rw [de (by simp; omega), de (by simp; omega), (so h.2.2.2.2.1).1]
  rfl
theorem oH {t : ah} (h : gp t) : gJ t = some t := by
  have h0 := h.1.1
  unfold gJ
  rw [rC (p := t.a_) id (gg t) (fun l => some ⟨l, t.k_⟩) (fun k l => by rw [gg, if_neg (by simp)]) (fun k l i hi hl => by
    rw [gg, if_pos (by simp; omega), aV hi, aG (by omega)]
    simp only [bS]
    rw [tj (h.1.2 _ (List.getElem_mem hi))]
    simp only [bS]
    rw [de (by simp; omega)]
    rfl) (by omega), List.map_id]
theorem lO {t : bh} (h : t.t_.length ≤ 1048576) : eY t = some t := by
  unfold eY
  rw [de (by simp; omega)]
  rfl
theorem xu (t : bh) : Dec (lT t) (t.t_.length ≤ 600 ∧ 0 ≤ t.c_ ∧ t.c_ ≤ t.t_.length) := by
  unfold lT
  by_cases h : t.t_.length ≤ 600
  · rw [if_pos (by simp; omega)]
    refine Dec.of_iff ?_ (show ((0 : Int) ≤ t.c_ ∧ t.c_ ≤ (t.t_.length : Int)) ↔ _ from ⟨fun g => ⟨h, g⟩, fun g => g.2⟩)
    simp only [yu]
    exact da
  · rw [if_neg (by simp; omega)]
    exact cw fun g => h g.1
theorem Eb {t : bh} (h : t.t_.length ≤ 1048576) : Tot (pd t) (fun y => y.1.t_.length ≤ 1048576) := by
  unfold pd mX
  rw [lO h]
  simp only [bS]
  rcases (xu t).cases with ⟨e, g⟩ | ⟨e, _⟩
  · rw [e]
    simp only [sS]
    refine br (fun _ => aE h) (fun g2 => ?_)
    have g2 : ¬ IntKind.i64.wrap ((t.t_.length : Int) - t.c_) < 2 := by simpa using g2
    rw [bp (by omega) (by omega)] at g2
    rw [bp (n := t.c_ + 1) (by omega) (by omega)]
    exact (iT ⟨by omega, by omega⟩).bind fun _ _ => (iT ⟨by omega, by omega⟩).bind fun _ _ => aE h
  · rw [e]
    simp only [sS]
    rw [if_pos (by simp)]
    exact aE h
theorem Ay {n k : Nat} (hn : n ≤ 20) (hk : k ≤ 20) (r : Int) : Tot (jt n k r) qB := by
  by_cases h : 0 ≤ r ∧ r ≤ 1048576
  · obtain ⟨v, e, _, g⟩ := xf hn hk h
    exact ⟨v, e, g⟩
  · unfold jt
    have hb := yB n k
    rw [tS]
    simp only [bS]
    rw [bp (by omega) (by omega)]
    have : bm r 0 ((rX n k : Int) - 1) = some false := by
      unfold bm
      have : ¬ (r ≥ 0 ∧ r ≤ (rX n k : Int) - 1) := by omega
      simp
      omega
    rw [this]
    simp only [sS]
    exact aE ⟨by simp, fun x hx => by cases hx⟩
theorem zx {t : bh} {n k : Nat} (h : t.t_.length ≤ 1048576) (hn : n ≤ 20) (hk : k ≤ 20) : Tot (kg t n k) (fun y => y.1.t_.length ≤ 1048576 ∧ qB y.2.1) := by
  have bad : qB [] := ⟨by simp, fun x hx => by cases hx⟩
  unfold kg ma
  rw [tS]
  simp only [bS]
  obtain ⟨⟨y1, y2, y3⟩, e, hy⟩ := Eb h
  rw [e, lO h]
  simp only [bS]
  have key : Tot (if (!y3) = true then some true else (bm (rX n k : Int) 1 65536).bind fun y => some (!y)) (fun u => u = false → (rX n k : Int) ≠ 0) := by
    refine br (fun _ => aE (fun h => by cases h)) (fun _ => da.t.bind fun b hb => aE fun g => ?_)
    have : b = true := by simpa using g
    have := hb this
    omega
  obtain ⟨u, eu, hu⟩ := key
  rw [eu]
  simp only [bS]
  cases u
  · simp only [sS]
    have h0 := hu rfl
    unfold rem
    rw [if_neg h0]
    simp only [bS]
    unfold iP
    simp only [sS]
    exact (Ay hn hk _).bind fun l hl => aE ⟨hy, hl⟩
  · simp only [sS]
    unfold iP
    simp only [sS]
    rw [lO h]
    exact aE ⟨h, bad⟩
end Go.Vk
/- Splits, memory, learning: they always answer, and trees stay small. -/
namespace Go.Vk
def smI (n : Nat) (l : List Int) : Prop := l.length ≤ n ∧ ∀ y ∈ l, V y
def mp (d : Nat) (t : av) : Prop := smI (8 + d) t.e_ ∧ t.d_.length ≤ 8 + d ∧ ∀ c ∈ t.d_, smI (16 + d) c
def pb (d : Nat) (n : aT) : Prop := (V n.g_.j_ ∧ V n.g_.c_) ∧ smI (8 + d) n.r_ ∧ V n.w_ ∧ mp d n.n_ ∧ V n.x_ ∧ smI (24 + d) n.b_ ∧ V n.m_ ∧ V n.p_ ∧ V n.s_
def gq (d : Nat) (t : ah) : Prop := (t.a_.length ≤ 40 ∧ ∀ n ∈ t.a_, pb d n) ∧ V t.k_
theorem smI.mono {n m : Nat} (h : n ≤ m) {l : List Int} (g : smI n l) : smI m l := ⟨Nat.le_trans g.1 h, g.2⟩
theorem smI.sml {n : Nat} {l : List Int} (g : smI n l) (h : n ≤ 1000) : nZ l := ⟨by have := g.1; omega, g.2⟩
theorem smI.app {n m : Nat} {l : List Int} {x : Int} (g : smI n l) (hx : V x) (h : n + 1 ≤ m) : smI m (l ++ [x]) := ⟨by have := g.1; simp; omega, fun y hy => by
  rcases List.mem_append.1 hy with hy | hy
  · exact g.2 y hy
  · rw [List.mem_singleton.1 hy]; exact hx⟩
theorem smI.set {n : Nat} {l : List Int} {x : Int} (g : smI n l) (hx : V x) (i : Nat) : smI n (l.set i x) := ⟨by rw [List.length_set]; exact g.1, fun y hy => by
  rcases List.mem_or_eq_of_mem_set hy with hy | rfl
  · exact g.2 y hy
  · exact hx⟩
theorem smI.nil (n : Nat) : smI n [] := ⟨by simp, fun x hx => by cases hx⟩
theorem smI.small {n : Nat} {l : List Int} (h : qB l) (hn : 20 ≤ n) : smI n l := ⟨Nat.le_trans h.1 hn, fun y hy => by have := h.2 y hy; exact eH ⟨by omega, by omega⟩⟩
theorem mp.mono {d d' : Nat} (h : d ≤ d') {t : av} (g : mp d t) : mp d' t := ⟨g.1.mono (by omega), by have := g.2.1; omega, fun c hc => (g.2.2 c hc).mono (by omega)⟩
theorem pb.mono {d d' : Nat} (h : d ≤ d') {t : aT} (g : pb d t) : pb d' t := by
  obtain ⟨g1, g2, g3, g4, g5, g6, g7, g8, g9⟩ := g
  exact ⟨g1, g2.mono (by omega), g3, g4.mono h, g5, g6.mono (by omega), g7, g8, g9⟩
theorem mp.sml {d : Nat} (hd : d ≤ 10) {t : av} (g : mp d t) : fk t := ⟨g.1.sml (by omega), by have := g.2.1; omega, fun c hc => (g.2.2 c hc).sml (by omega)⟩
theorem pb.sml {d : Nat} (hd : d ≤ 10) {t : aT} (g : pb d t) : pc t := by
  obtain ⟨g1, g2, g3, g4, g5, g6, g7, g8, g9⟩ := g
  exact ⟨trivial, g1, g2.sml (by omega), g3, g4.sml hd, g5, g6.sml (by omega), g7, g8, g9⟩
theorem gq.sml {d : Nat} (hd : d ≤ 10) {t : ah} (g : gq d t) : gp t := ⟨⟨by have := g.1.1; omega, fun n hn => (g.1.2 n hn).sml hd⟩, g.2⟩
theorem gq.mono {d d' : Nat} (h : d ≤ d') {t : ah} (g : gq d t) : gq d' t := ⟨⟨g.1.1, fun n hn => (g.1.2 n hn).mono h⟩, g.2⟩
theorem gq.setN {d : Nat} {l : List aT} {x : Int} {n : aT} (g : l.length ≤ 40 ∧ ∀ n ∈ l, pb d n) (hn : pb d n) (hx : V x) (i : Nat) : gq d ⟨l.set i n, x⟩ := ⟨⟨by rw [List.length_set]; exact g.1, fun y hy => by
  rcases List.mem_or_eq_of_mem_set hy with hy | rfl
  · exact g.2 y hy
  · exact hn⟩, hx⟩
theorem sU {l : List Int} {n m : Nat} (h : oG l n) (hn : n ≤ m) : smI m l := ⟨by rw [h.1]; exact hn, fun y hy => by have := h.2 y hy; exact eH ⟨by omega, by omega⟩⟩
theorem Bi {s : ab} {t : av} (hS : dv s) (h : ub s t) : mp 0 t := by
  obtain ⟨h1, h2, h3⟩ := h
  have ha := hS.1
  have hc := hS.2.1
  refine ⟨sU h1 (by omega), by omega, fun c hc => ?_⟩
  obtain ⟨i, hi, rfl⟩ := List.getElem_of_mem hc
  have hi2 : i < s.b_.length := by omega
  exact sU (h3 i hi hi2) (by have := nbc hS hi2; omega)
theorem DO {s : ab} {t : av} (h : pz s t) : ub s t := by
  obtain ⟨_, h2, h3, _, h5⟩ := h
  refine ⟨⟨h2, fun x hx => by have := h3 x hx; omega⟩, by rcases h5 with g | g; exact .inl g; exact .inr g.1, fun i hi hi2 => ?_⟩
  rcases h5 with g | g
  · omega
  · obtain ⟨c1, c2, _⟩ := g.2 i hi hi2
    exact ⟨c1, fun x hx => by have := c2 x hx; omega⟩
theorem rr {s : ab} (hs : aU s) : Tot (gG s) (mp 0) := by
  rcases (ka (iO hs)).cases with ⟨_, h⟩ | ⟨e, _⟩
  · rw [wa hs h]
    exact aE (Bi h AJ)
  · unfold gG
    rw [e]
    simp only [sS]
    exact aE ⟨.nil _, by simp, fun x hx => by cases hx⟩
theorem uQ {s : ab} {t : av} {e : aY} {w : Int} (hs : aU s) (ht : mp 0 t) : Tot (iz s t e w) (fun y => mp 0 y.1) := by
  have hm := ht.sml (by omega)
  rcases (jJ hs hm).cases with ⟨_, h⟩ | ⟨eP, _⟩
  · obtain ⟨v, h1, _, h2⟩ := BC (e := e) (w := w) hs h.1 (DO h)
    exact ⟨v, h1, Bi h.1 h2⟩
  · unfold iz
    rw [(so hm).1, eP]
    simp only [sS]
    exact aE ht
theorem BX {s : ab} {t : ah} {i : Int} {f : aq} {sets : List (List Int)} (hs : aU s) (ht : gq 0 t) (hl : sets.length ≤ 4) (hset : ∀ x ∈ sets, qB x) : Tot (mt s t i f sets) (fun y => gq 0 y.1) := by
  have hm := ht.sml (by omega)
  unfold mt
  rw [oH hm]
  simp only [bS]
  refine jA (od hs hm).t (by simp only [sS]; exact aE ht) (fun hT => ?_)
  simp only [sS]
  refine jX da.t (by simp only [sS]; exact aE ht) (fun hi => ?_)
  simp only [sS]
  have hlen := hT.2.1
  rw [bp (by omega) (by omega)] at hi
  obtain ⟨j, rfl⟩ : ∃ j : Nat, i = j := ⟨i.toNat, by omega⟩
  have hj : j < t.a_.length := by omega
  have hn := ht.1.2 _ (List.getElem_mem hj)
  rw [aV hj]
  simp only [bS]
  cases t.a_[j].q_ with
  | false => simp only [sS]; exact aE ht
  | true =>
  simp only [sS]
  cases ((t.a_[j].n_.d_.length : Int) == 0) with
  | true => simp only [sS]; exact aE ht
  | false =>
  simp only [sS]
  refine jX (kE hs).t (by simp only [sS]; exact aE ht) (fun hF => ?_)
  simp only [sS]
  rw [la hs hF]
  simp only [bS]
  refine br (fun _ => aE ht) (fun _ => ?_)
  refine dw (fun k (_ : Unit) x => eR sets s t t (j : Int) f k x) sets.length (fun _ _ => True) (fun k _ _ => ?_) (fun k _ x hx _ hk => ?_) (by omega) (s := ()) trivial
  · show Tot (eR _ _ _ _ _ _ (k + 1) _) _
    rw [eR, if_neg (by simp), aV hj]
    simp only [bS]
    refine br (fun _ => aE ht) (fun g => ?_)
    have g : ¬ (IntKind.i64.wrap ((t.a_.length : Int) + (sets.length : Int)) > 31) := by simp at g; omega
    rw [bp (by omega) (by omega)] at g
    obtain ⟨g1, g2, g3, g4, g5, g6, g7, g8, g9⟩ := hn
    refine (xH hs (g4.sml (by omega))).bind fun m hmiss => ?_
    rw [vZ (by have := g4.1.1; omega)]
    simp only [bS]
    rw [de (by have := g6.1; simp; omega)]
    simp only [Option.bind_some, List.nil_append]
    unfold lD
    refine dw (fun k2 (σ : List aT × List Int) x => eO sets s t.a_[j].m_ (j : Int) t f m t.a_[j].n_.e_ [] t.a_[j].b_ t.a_[j].p_ t.a_[j].s_ t k2 σ.1 σ.2 x) sets.length (fun x σ => σ.1.length = t.a_.length + x ∧ σ.2.length = x ∧ (∀ n ∈ σ.1, pb 0 n) ∧ ∀ y ∈ σ.2, V y) (fun k2 σ h => ?_) (fun k2 σ x hx h hk2 => ?_) (by omega) (s := (t.a_, [])) ⟨rfl, rfl, ht.1.2, fun x hx => by cases hx⟩
    · obtain ⟨h1, h2, h3, h4⟩ := h
      show Tot (eO _ _ _ _ _ _ _ _ _ _ _ _ _ (k2 + 1) _ _ _) _
      rw [eO, if_neg (by simp), aV (show j < σ.1.length by omega)]
      simp only [bS]
      have hF2 := hF.2
      have hlast : ru (atr s f) ≤ 4 := by
        have := nG (om hF.1 hF.2.1)
        unfold ru
        split <;> omega
      have ha := hF.1.1
      have vA : V f.j_ := eH ⟨by omega, by omega⟩
      have vB : V f.c_ := eH ⟨by omega, by omega⟩
      have z : V 0 := eH ⟨by omega, by omega⟩
      have hN : pb 0 ⟨false, f, σ.2, m, ⟨t.a_[j].n_.e_, []⟩, 0, t.a_[j].b_, t.a_[j].m_, t.a_[j].p_, t.a_[j].s_⟩ :=
        ⟨⟨vA, vB⟩, ⟨by show σ.2.length ≤ _; omega, h4⟩, hmiss, ⟨g4.1, by simp, fun x hx => by cases hx⟩, z, g6, g7, g8, g9⟩
      exact aE (gq.setN ⟨by omega, h3⟩ hN ht.2 _)
    · obtain ⟨h1, h2, h3, h4⟩ := h
      show Tot (eO _ _ _ _ _ _ _ _ _ _ _ _ _ (k2 + 1) _ _ _) _
      rw [eO, if_pos (by simp; omega), de (by simp; omega)]
      simp only [bS]
      rw [aV hx]
      simp only [bS]
      obtain ⟨y, ey, hy⟩ := rr hs
      rw [ey]
      simp only [bS]
      have hx2 := hset _ (List.getElem_mem hx)
      rw [de (by have := hx2.1; simp; omega)]
      simp only [Option.bind_some, List.nil_append]
      rw [de (by simp; omega), aG (by omega)]
      simp only [bS]
      refine hk2 (_, _) ⟨by simp; omega, by simp; omega, fun n hn => ?_, fun y hy => ?_⟩
      · rcases List.mem_append.1 hn with hn | hn
        · exact h3 n hn
        · rw [List.mem_singleton.1 hn]
          have z : V 0 := eH ⟨by omega, by omega⟩
          have vj : V (j : Int) := eH ⟨by omega, by omega⟩
          exact ⟨⟨z, z⟩, .nil _, z, hy, z, .small hx2 (by omega), rl _, vj, ht.2⟩
      · rcases List.mem_append.1 hy with hy | hy
        · exact h4 y hy
        · rw [List.mem_singleton.1 hy]
          exact eH ⟨by omega, by omega⟩
  · show Tot (eR _ _ _ _ _ _ (k + 1) _) _
    rw [eR, if_pos (by simp; omega), aV hx, aG (by omega)]
    simp only [bS]
    have hx2 := hset _ (List.getElem_mem hx)
    refine (nM hs (by have := hx2.1; omega)).t.bind fun b _ => br (fun _ => aE ht) (fun _ => hk () trivial)
end Go.Vk
/- Memory and learning: they always answer, and trees stay small. -/
namespace Go.Vk
theorem zl {n : aT} (h : pc n) : T (mA n) := by
  have h1 := h.2.2.2.2.1.2.1
  unfold mA
  refine br (fun _ => bC _) (fun _ => ?_)
  refine dw (gc n) n.n_.d_.length (fun _ _ => True) (fun k s _ => ?_) (fun k s i hi _ hk => ?_) (by omega) trivial
  · rw [gc, if_neg (by simp)]
    exact bC _
  · rw [gc, if_pos (by simp; omega), aV hi, aG (by omega)]
    exact hk _ trivial
theorem te {t : ah} (h : gp t) : T (jM t) := by
  have h1 := h.1.1
  unfold jM
  refine dw (fj t) t.a_.length (fun _ _ => True) (fun k s _ => ?_) (fun k s i hi _ hk => ?_) (by omega) trivial
  · rw [fj, if_neg (by simp)]
    exact bC _
  · rw [fj, if_pos (by simp; omega), aV hi, aG (by omega)]
    exact (zl (h.1.2 _ (List.getElem_mem hi))).bind fun _ _ => hk _ trivial
theorem zq {t : ah} (h : gp t) : T (ml t) := by
  have h1 := h.1.1
  unfold ml
  refine dw (fA t) t.a_.length (fun _ _ => True) (fun k s _ => ?_) (fun k s i hi _ hk => ?_) (by omega) trivial
  · rw [fA, if_neg (by simp)]
    exact bC _
  · rw [fA, if_pos (by simp; omega), aV hi, aG (by omega)]
    exact Tot.bind (P := fun _ => True) (br (fun _ => bC _) (fun _ => bC _)) (fun _ _ => br (fun _ => hk _ trivial) (fun _ => hk _ trivial))
theorem DX {s : ab} {r : cB} {t : ah} (hs : aU s) (h : gp t) : Tot (pm s r t) (fun b => b = true → ip s t) := by
  unfold pm
  rcases (od hs h).cases with ⟨e, g⟩ | ⟨e, _⟩
  · rw [e]
    simp only [sS]
    exact Tot.bind (P := fun _ => True) ((ul r).t.bind fun _ _ => bC _) (fun _ _ => Tot.bind (P := fun _ => True) (br (fun _ => (zq h).bind fun _ _ => bC _) (fun _ => bC _)) (fun _ _ => Tot.bind (P := fun _ => True) (br (fun _ => (te h).bind fun _ _ => bC _) (fun _ => bC _)) (fun _ _ => aE fun _ => g)))
  · rw [e]
    simp only [sS]
    exact aE fun h => by cases h
def Act (t : ah) (x : Int) : Prop := ∃ j : Nat, ∃ h : j < t.a_.length, x = j ∧ 0 < t.a_[j].n_.d_.length
theorem Bq {t : ah} (h : gp t) : Tot (jo t) (fun l => l.length ≤ t.a_.length ∧ ∀ x ∈ l, Act t x) := by
  have h1 := h.1.1
  unfold jo
  refine dw (dx t) t.a_.length (fun i l => l.length ≤ i ∧ ∀ x ∈ l, Act t x) (fun k l hl => ?_) (fun k l i hi hl hk => ?_) (by omega) ⟨by simp, fun x hx => by cases hx⟩
  · rw [dx, if_neg (by simp)]
    exact aE hl
  · obtain ⟨l1, l2⟩ := hl
    rw [dx, if_pos (by simp; omega), aV hi, aG (by omega)]
    simp only [bS]
    refine Tot.bind (P := fun u => u = true → 0 < t.a_[i].n_.d_.length) (br (fun _ => aE (fun h => by simpa using h)) (fun _ => aE (fun h => by cases h))) (fun u hu => br (fun g => ?_) (fun _ => hk _ ⟨by omega, l2⟩))
    refine (ld (by simp; omega)).bind fun l3 hl3 => ?_
    subst hl3
    refine hk _ ⟨by simp; omega, fun x hx => ?_⟩
    rcases List.mem_append.1 hx with hx | hx
    · exact l2 x hx
    · exact ⟨i, hi, List.mem_singleton.1 hx, hu g⟩
theorem zb {s : ab} {t : ah} (hs : aU s) (h : gp t) : Tot (kO s t) (fun v => v = -1 ∨ Act t v) := by
  have h1 := h.1.1
  unfold kO
  rcases (od hs h).cases with ⟨e, _⟩ | ⟨e, _⟩
  · rw [e]
    simp only [sS]
    refine (Bq h).bind fun l hl => ?_
    refine dw (fD l t s) l.length (fun _ v => v = -1 ∨ Act t v) (fun k v hv => ?_) (fun k v i hi hv hk => ?_) (by omega) (.inl rfl)
    · rw [fD, if_neg (by simp)]
      exact aE hv
    · obtain ⟨j, hj, ej, hc⟩ := hl.2 _ (List.getElem_mem hi)
      rw [fD, if_pos (by simp; omega), aV hi, aG (by omega)]
      simp only [bS]
      refine Tot.bind (P := fun _ => True) (br (fun _ => bC _) (fun g => ?_)) (fun u _ => br (fun _ => hk _ (.inr ⟨j, hj, ej, hc⟩)) (fun _ => hk _ hv))
      rcases hv with rfl | ⟨j2, hj2, rfl, _⟩
      · exact absurd (by simp) g
      · rw [ej, aV hj, aV hj2]
        simp only [bS]
        exact (vD hs (h.1.2 _ (List.getElem_mem hj)).2.2.2.2.1).bind fun _ _ => (vD hs (h.1.2 _ (List.getElem_mem hj2)).2.2.2.2.1).bind fun _ _ => bC _
  · rw [e]
    simp only [sS]
    exact aE (.inl rfl)
def wk (n : aT) : Nat := if 0 < n.n_.d_.length then 1 else 0
theorem Db : ∀ (l : List aT) (i : Nat) (h : i < l.length) (v : aT), wk l[i] = 1 → wk v = 0 → ((l.set i v).map wk).sum + 1 = (l.map wk).sum := by
  intro l
  induction l with
  | nil => intro i h; exact absurd h (by simp)
  | cons x l ih =>
    intro i h v h1 h0
    cases i with
    | zero =>
      have h1 : wk x = 1 := h1
      simp only [List.set_cons_zero, List.map_cons, List.sum_cons, h0, h1]
      omega
    | succ i =>
      have := ih i (by simpa using h) v h1 h0
      simp only [List.set_cons_succ, List.map_cons, List.sum_cons]
      omega
theorem zZ {s : ab} {t : ah} (hs : aU s) (ht : gq 0 t) (b : Int) : Tot (mh s t b) (fun y => gq 0 y.1) := by
  have hm := ht.sml (by omega)
  unfold mh
  rw [oH hm]
  simp only [bS]
  rcases (od hs hm).cases with ⟨e, _⟩ | ⟨e, _⟩
  · rw [e]
    simp only [sS]
    have key : ∀ (d k : Nat) (l : List aT) (g : List Int), (l.map wk).sum < d → d ≤ k → l.length ≤ 40 → (∀ n ∈ l, pb 0 n) → g.length + d ≤ 1000 → Tot (ia t b s k l g) (fun y => gq 0 y.1) := by
      intro d
      induction d with
      | zero => intro k l g h; exact absurd h (by omega)
      | succ d ih =>
        intro k l g h hk hl hn hg
        obtain ⟨k, rfl⟩ : ∃ q, k = q + 1 := ⟨k - 1, by omega⟩
        have hB : gq 0 ⟨l, t.k_⟩ := ⟨⟨hl, hn⟩, ht.2⟩
        have hM := hB.sml (by omega)
        rw [ia]
        refine (te hM).bind fun u _ => ?_
        obtain ⟨v, ev, hv⟩ := zb hs hM
        rw [ev]
        simp only [bS]
        refine Tot.bind (P := fun u => u = true → 0 ≤ v) (br (fun _ => aE (fun h => by simpa using h)) (fun _ => aE (fun h => by cases h))) (fun u hu => br (fun gu => ?_) (fun _ => aE hB))
        have h0 := hu gu
        rcases hv with rfl | ⟨j, hj, rfl, hc⟩
        · omega
        · have hj : j < l.length := hj
          have hc : 0 < l[j].n_.d_.length := hc
          have hN := hn _ (List.getElem_mem hj)
          rw [aV hj]
          simp only [bS]
          obtain ⟨g1, g2, g3, g4, g5, g6, g7, g8, g9⟩ := hN
          rw [vZ (by have := g4.1.1; omega)]
          simp only [bS]
          rw [de (by simp; omega)]
          simp only [bS]
          have z : V 0 := eH ⟨by omega, by omega⟩
          have hN' : pb 0 { l[j] with n_ := ⟨l[j].n_.e_, []⟩, x_ := 0 } := ⟨g1, g2, g3, ⟨g4.1, by simp, fun x hx => by cases hx⟩, z, g6, g7, g8, g9⟩
          have hset := Db l j hj { l[j] with n_ := ⟨l[j].n_.e_, []⟩, x_ := 0 } (by unfold wk; rw [if_pos hc]) rfl
          refine ih k _ _ ?_ (by omega) (by rw [List.length_set]; exact hl) (gq.setN ⟨hl, hn⟩ hN' z _).1.2 (by simp; omega)
          exact Nat.le_trans (Nat.le_of_eq hset) (by omega)
    have hsum := xI (f := wk) (b := 1) (l := t.a_) (fun x _ => by unfold wk; split <;> omega)
    have := ht.1.1
    exact key 41 be t.a_ [] (by omega) (Nat.le_of_lt (dE (by omega))) ht.1.1 ht.1.2 (by simp)
  · rw [e]
    simp only [sS]
    exact aE ht
theorem BW {s : ab} {t : ah} {e : aY} (hs : aU s) (hT : ip s t) (hE : ExP s e) : ∀ (d i : Nat), i < t.a_.length → lu s t e d i ≠ [] ∧ ∀ x ∈ lu s t e d i, x < t.a_.length := by
  intro d
  induction d with
  | zero =>
    intro i hi
    exact ⟨by simp [lu], fun x hx => by rw [List.mem_singleton.1 hx]; exact hi⟩
  | succ d ih =>
    intro i hi
    unfold lu
    split
    · exact ⟨by simp, fun x hx => by rw [List.mem_singleton.1 hx]; exact hi⟩
    · rename_i hL
      rw [gz hi] at hL
      obtain ⟨_, _, hn, _⟩ := sA hs hT hE hi (by simpa using hL)
      refine ⟨by simp, fun x hx => ?_⟩
      rcases List.mem_cons.1 hx with rfl | hx
      · exact hi
      · exact (ih _ hn).2 x hx
theorem Cd {s : ab} {t : ah} {e : aY} (hs : aU s) (ht : gp t) (hT : ip s t) (hE : ExP s e) : Tot (mn s t e) (fun v => ∃ j : Nat, v = j ∧ j < t.a_.length) := by
  unfold mn oI
  rcases (od hs ht).cases with ⟨e1, _⟩ | ⟨_, g⟩
  · rcases (sv (iO hs)).cases with ⟨e2, _⟩ | ⟨_, g⟩
    · rw [e1, e2, (Dp hs hT hE).1]
      simp only [sS]
      have hlen := hT.2.1
      obtain ⟨p1, p2⟩ := BW hs hT hE 32 0 (by omega)
      have hp := us (s := s) (t := t) (e := e) 32 0
      have hl : (eg (lu s t e 32 0)).length = (lu s t e 32 0).length := by simp [eg]
      have h0 : (lu s t e 32 0).length ≠ 0 := fun h => p1 (List.length_eq_zero_iff.1 h)
      rw [if_neg (by rw [beq_iff_eq]; omega), bp (by omega) (by omega)]
      refine (iT ⟨by omega, by omega⟩).bind fun v hv => aE ?_
      obtain ⟨x, hx, rfl⟩ := List.mem_map.1 hv.1
      exact ⟨x, rfl, p2 x hx⟩
    · exact absurd hE g
  · exact absurd hT g
theorem Cz {s : ab} {r : cB} {t : ah} {e : aY} {w k : Int} {tape : bh} (hs : aU s) (ht : gq 0 t) (hb : tape.t_.length ≤ 1048576) : Tot (kL s r t e w tape k) (fun y => gq 0 y.1) := by
  have hm := ht.sml (by omega)
  unfold kL
  rw [oH hm, lO hb]
  refine jA (DX hs hm) (by simp only [sS]; exact aE ht) (fun hT => ?_)
  simp only [sS]
  refine jX (sv (iO hs)).t (by simp only [sS]; exact aE ht) (fun hE => ?_)
  simp only [sS]
  refine Tot.bind (P := fun _ => True) (br (fun _ => bC _) (fun _ => da.t.bind fun _ _ => bC _)) (fun u _ => ?_)
  refine Tot.bind (P := fun _ => True) (br (fun _ => bC _) (fun _ => (xu _).t.bind fun _ _ => bC _)) (fun u2 _ => ?_)
  refine Tot.bind (P := fun u => u = false → 1 ≤ k ∧ k ≤ s.b_.length) (br (fun _ => aE (fun h => by cases h)) (fun _ => da.t.bind fun b hb => aE (fun g => hb (by simpa using g)))) (fun u3 hk => br (fun _ => aE ht) (fun g => ?_))
  have hk := hk (by simpa using g)
  obtain ⟨k, rfl⟩ : ∃ q : Nat, k = q := ⟨k.toNat, by omega⟩
  refine (Cd hs hm hT hE).bind fun v hv => ?_
  obtain ⟨j, rfl, hj⟩ := hv
  have hn := ht.1.2 _ (List.getElem_mem hj)
  rw [aV hj]
  simp only [bS]
  refine Tot.bind (P := fun _ => True) (br (fun _ => bC _) (fun _ => (vO hs (hn.2.2.2.1.sml (by omega))).bind fun _ _ => bC _)) (fun u _ => br (fun _ => aE ht) (fun _ => ?_))
  rw [tj (hn.sml (by omega))]
  simp only [bS]
  refine (uQ hs hn.2.2.2.1).bind fun y hy => ?_
  have key : ∀ (c : Int) (q : Bool), V c → Tot (fW t (j : Int) tape t.a_[j] y t s r (k : Int) c q) (fun y => gq 0 y.1) := by
    intro c q hc
    obtain ⟨g1, g2, g3, g4, g5, g6, g7, g8, g9⟩ := hn
    have hN : pb 0 { t.a_[j] with n_ := y.1, x_ := c } := ⟨g1, g2, g3, hy, hc, g6, g7, g8, g9⟩
    have hB : gq 0 ⟨t.a_.set (j : Int).toNat { t.a_[j] with n_ := y.1, x_ := c }, IntKind.i64.wrap (t.k_ + 1)⟩ := gq.setN ht.1 hN (rl _) _
    unfold fW
    rw [aV hj, lO hb]
    simp only [bS]
    refine br (fun _ => aE hB) (fun _ => (CA hs (hN.sml (by omega))).bind fun f _ => ?_)
    obtain ⟨n, eB, hnb⟩ := Aj hs f.1
    rw [eB]
    simp only [bS]
    refine Tot.bind (P := fun _ => True) (br (fun _ => bC _) (fun _ => bC _)) (fun u _ => br (fun _ => aE hB) (fun _ => ?_))
    refine dw (fun k2 (σ : List (List Int) × List Int × Int) i => dS s f (k : Int) t tape t (j : Int) t.a_[j] y c r k2 σ.1 σ.2.1 σ.2.2 i) n (fun i σ => σ.1.length = i ∧ (∀ x ∈ σ.1, qB x) ∧ σ.2.1.length ≤ 1048576) (fun k2 σ h => ?_) (fun k2 σ i hi h hk2 => ?_) (by omega) (s := ([], tape.t_, tape.c_)) ⟨rfl, (fun x hx => by cases hx), hb⟩
    · obtain ⟨h1, h2, h3⟩ := h
      show Tot (dS _ _ _ _ _ _ _ _ _ _ _ (k2 + 1) _ _ _ _) _
      rw [dS, eB]
      simp only [bS]
      rw [if_neg (by simp)]
      exact (BX hs hB (by omega) h2).bind fun y2 h2 => (zZ hs h2 _).bind fun y3 h3 => aE h3
    · obtain ⟨h1, h2, h3⟩ := h
      show Tot (dS _ _ _ _ _ _ _ _ _ _ _ (k2 + 1) _ _ _ _) _
      rw [dS, eB]
      simp only [bS]
      rw [if_pos (by simp; omega), oH hm, lO hb]
      have hS := hT.1.1
      refine (zx (t := ⟨σ.2.1, σ.2.2⟩) (n := s.b_.length) (k := k) h3 (by omega) (by omega)).bind fun y4 hy4 => br (fun _ => aE ht) (fun _ => ?_)
      refine (ld (by simp; omega)).bind fun l3 hl3 => ?_
      subst hl3
      rw [aG (by omega)]
      refine hk2 (_, _, _) ⟨by simp; omega, fun x hx => ?_, hy4.1⟩
      rcases List.mem_append.1 hx with hx | hx
      · exact h2 x hx
      · rw [List.mem_singleton.1 hx]; exact hy4.2
  exact br (fun _ => br (fun _ => key _ _ (eH ⟨by omega, by omega⟩)) (fun _ => key _ _ (rl _))) (fun _ => key _ _ hn.2.2.2.2.1)
end Go.Vk
/- Draws: they always answer. -/
namespace Go.Vk
def Cur (p : List Int) (c : ao) : Prop := 0 ≤ c.i_ ∧ c.i_ ≤ p.length
abbrev TD {α : Type} (p : List Int) (o : Option (α × ao)) (Q : α → Prop) : Prop := Tot o (fun y => Cur p y.2 ∧ Q y.1)
theorem FU {p : List Int} (hp : p.length ≤ 1048576) : Tot (ox p) (Cur p) := by
  unfold ox
  have key : ∀ (d k i : Nat) (h : Int), p.length - i = d → d < k → i ≤ p.length → Tot (iC p k h (i : Int)) (Cur p) := by
    intro d
    induction d with
    | zero =>
      intro k i h hd hk hi
      obtain ⟨k, rfl⟩ : ∃ q, k = q + 1 := ⟨k - 1, by omega⟩
      rw [iC, if_neg (by simp; omega)]
      exact aE ⟨by show (0 : Int) ≤ 0; omega, by show (0 : Int) ≤ p.length; omega⟩
    | succ d ih =>
      intro k i h hd hk hi
      obtain ⟨k, rfl⟩ : ∃ q, k = q + 1 := ⟨k - 1, by omega⟩
      rw [iC]
      refine br (fun _ => ?_) (fun _ => aE ⟨by show (0 : Int) ≤ 0; omega, by show (0 : Int) ≤ p.length; omega⟩)
      rw [aV (show i < p.length by omega), aG (by omega)]
      exact ih k (i + 1) _ (by omega) (by omega) (by omega)
  exact key p.length be 0 _ rfl (dE (by omega)) (Nat.zero_le _)
section
variable {p : List Int} (hp : p.length ≤ 1048576)
include hp
theorem sH {c : ao} (hc : Cur p c) : TD p (iw p c) (fun v => 0 ≤ v ∧ v ≤ 255) := by
  obtain ⟨h0, h1⟩ := hc
  unfold iw
  refine br (fun h => ?_) (fun _ => aE ⟨⟨h0, h1⟩, Af _⟩)
  have h : c.i_ < p.length := by simpa using h
  refine (iT ⟨h0, h⟩).bind fun v _ => aE ⟨⟨?_, ?_⟩, Af _⟩
  · show 0 ≤ IntKind.i64.wrap (c.i_ + 1)
    rw [bp (by omega) (by omega)]; omega
  · show IntKind.i64.wrap (c.i_ + 1) ≤ _
    rw [bp (by omega) (by omega)]; omega
theorem jg {c : ao} (hc : Cur p c) (n : Int) : TD p (cP p c n) (fun v => 0 ≤ v ∧ (v < n ∨ v = 0)) := by
  unfold cP
  refine br (fun _ => aE ⟨hc, by omega, .inr rfl⟩) (fun h => ?_)
  have h : 0 < n := by simpa using h
  refine br (fun _ => (sH hp hc).bind fun y hy => (yA hy.2.1 h).bind fun x hx => aE ⟨hy.1, hx.1, .inl hx.2⟩) (fun _ => ?_)
  refine (sH hp hc).bind fun y1 h1 => (sH hp h1.1).bind fun y2 h2 => (sH hp h2.1).bind fun y3 h3 => (sH hp h3.1).bind fun y4 h4 => ?_
  obtain ⟨_, a1, b1⟩ := h1
  obtain ⟨_, a2, b2⟩ := h2
  obtain ⟨_, a3, b3⟩ := h3
  obtain ⟨c4, a4, b4⟩ := h4
  have ha : 0 ≤ y1.1 * 16777216 + y2.1 * 65536 + y3.1 * 256 + y4.1 := by omega
  rw [bp (n := y1.1 * 16777216) (by omega) (by omega), bp (n := y2.1 * 65536) (by omega) (by omega), bp (n := y1.1 * 16777216 + y2.1 * 65536) (by omega) (by omega), bp (n := y3.1 * 256) (by omega) (by omega), bp (n := y1.1 * 16777216 + y2.1 * 65536 + y3.1 * 256) (by omega) (by omega), bp (n := y1.1 * 16777216 + y2.1 * 65536 + y3.1 * 256 + y4.1) (by omega) (by omega)]
  exact (yA ha h).bind fun x hx => aE ⟨c4, hx.1, .inl hx.2⟩
theorem qv {c : ao} (hc : Cur p c) (n : Int) : TD p (gi p c n) (fun _ => True) := by
  unfold gi
  exact (jg hp hc n).bind fun y hy => aE ⟨hy.1, trivial⟩
theorem ic {c : ao} (hc : Cur p c) {l : List Int} (hl : 0 < l.length) : TD p (bP p c l) (fun v => v ∈ l) := by
  unfold bP
  refine (jg hp hc (l.length : Int)).bind fun y hy => ?_
  have : y.1 < (l.length : Int) := by rcases hy.2.2 with g | g <;> omega
  exact (iT ⟨hy.2.1, this⟩).bind fun v hv => aE ⟨hy.1, hv.1⟩
theorem wN {c : ao} (hc : Cur p c) {n : Nat} (_ : n ≤ 1000) : TD p (jE p c (n : Int)) ln := by
  unfold jE
  have hr : 0 ≤ Int.tmod (n : Int) 5 ∧ Int.tmod (n : Int) 5 < 5 := by
    rw [Int.tmod_eq_emod_of_nonneg (by omega)]
    omega
  refine (iT ⟨hr.1, by simpa using hr.2⟩).bind fun e he => ?_
  have he : e.length ≤ 1048576 := by
    have h := he.1
    simp only [List.mem_cons, List.not_mem_nil, or_false] at h
    rcases h with rfl | rfl | rfl | rfl | rfl <;> simp
  refine (qv hp hc 2).bind fun y hy => br (fun _ => ?_) (fun _ => ?_)
  · refine (jg hp hy.1 3).bind fun y2 h2 => (ic hp h2.1 (by simp)).bind fun y3 h3 => ?_
    obtain ⟨m, hm⟩ : ∃ m : Nat, y2.1 = m := ⟨y2.1.toNat, by have := h2.2.1; omega⟩
    have hm2 : m ≤ 2 := by rcases h2.2.2 with g | g <;> omega
    refine dw (fun k (σ : Int × Int × List Int × Int) i => dn y2 p e k σ.1 σ.2.1 σ.2.2.1 σ.2.2.2 i) (1 + m) (fun i σ => Cur p ⟨σ.1, σ.2.1⟩ ∧ σ.2.2.1.length = i ∧ (∀ x ∈ σ.2.2.1, V x) ∧ V σ.2.2.2) (fun k σ h => ?_) (fun k σ i hi h hk => ?_) (by omega) (s := (y3.2.i_, y3.2.h_, [], y3.1)) ⟨h3.1, rfl, (fun x hx => by cases hx), ?_⟩
    · obtain ⟨g1, g2, g3, g4⟩ := h
      show Tot (dn _ _ _ (k + 1) _ _ _ _ _) _
      rw [dn, hm, bp (by omega) (by omega), if_neg (by simp)]
      exact aE ⟨g1, he, ⟨by show σ.2.2.1.length ≤ _; omega, g3⟩, by simp, fun x hx => by cases hx⟩
    · obtain ⟨g1, g2, g3, g4⟩ := h
      show Tot (dn _ _ _ (k + 1) _ _ _ _ _) _
      rw [dn, hm, bp (n := 1 + (m : Int)) (by omega) (by omega), if_pos (by simp; omega), de (by simp; omega)]
      simp only [bS]
      refine (jg hp g1 6).bind fun y4 h4 => ?_
      rw [aG (by omega)]
      refine hk (_, _, _, _) ⟨h4.1, by simp; omega, fun x hx => ?_, rl _⟩
      rcases List.mem_append.1 hx with hx | hx
      · exact g3 x hx
      · rw [List.mem_singleton.1 hx]; exact g4
    · have h := h3.2
      simp only [List.mem_cons, List.not_mem_nil, or_false] at h
      exact eH (by show -1000000000000 ≤ y3.1 ∧ y3.1 ≤ _; omega)
  · refine (jg hp hy.1 3).bind fun y2 h2 => ?_
    obtain ⟨m, hm⟩ : ∃ m : Nat, y2.1 = m := ⟨y2.1.toNat, by have := h2.2.1; omega⟩
    have hm2 : m ≤ 2 := by rcases h2.2.2 with g | g <;> omega
    refine dw (fun k (l : List (List UInt8)) i => dp y2 e k i l) (2 + m) (fun i l => l.length = i ∧ ∀ x ∈ l, x.length ≤ 1048576) (fun k l h => ?_) (fun k l i hi h hk => ?_) (by omega) (s := []) ⟨rfl, fun x hx => by cases hx⟩
    · show Tot (dp _ _ (k + 1) _ _) _
      rw [dp, hm, bp (by omega) (by omega), if_neg (by simp)]
      exact aE ⟨h2.1, he, ⟨by simp, fun x hx => by cases hx⟩, by show l.length ≤ _; omega, h.2⟩
    · show Tot (dp _ _ (k + 1) _ _) _
      rw [dp, hm, bp (n := 2 + (m : Int)) (by omega) (by omega), if_pos (by simp; omega)]
      refine (iT ⟨by omega, by simp; omega⟩).bind fun v hv => ?_
      rw [de (by simp; omega), aG (by omega)]
      refine hk _ ⟨by simp; omega, fun x hx => ?_⟩
      rcases List.mem_append.1 hx with hx | hx
      · exact h.2 x hx
      · rw [List.mem_singleton.1 hx]
        have h := hv.1
        simp only [List.mem_cons, List.not_mem_nil, or_false] at h
        rcases h with rfl | rfl | rfl | rfl <;> simp
omit hp in
def sG (s : ab) : Prop := aU s ∧ s.b_.length ≤ 8 ∧ s.l_.length ≤ 8
theorem Bd {c : ao} (hc : Cur p c) : TD p (mu p c) (fun s => sG s ∧ 1 ≤ s.b_.length ∧ s.b_.length ≤ 5 ∧ 2 ≤ s.l_.length ∧ s.l_.length ≤ 3) := by
  unfold mu
  have key : ∀ (c : ao) (l : List (List UInt8)), Cur p c → 2 ≤ l.length → l.length ≤ 3 → (∀ x ∈ l, x.length ≤ 1048576) → TD p (jd p c.i_ c.h_ l) (fun s => sG s ∧ 1 ≤ s.b_.length ∧ s.b_.length ≤ 5 ∧ 2 ≤ s.l_.length ∧ s.l_.length ≤ 3) := by
    intro c l hc hl0 hl hx
    unfold jd
    refine (jg hp (c := ⟨c.i_, c.h_⟩) hc 5).bind fun y2 h2 => ?_
    obtain ⟨m, hm⟩ : ∃ m : Nat, y2.1 = m := ⟨y2.1.toNat, by have := h2.2.1; omega⟩
    have hm2 : m ≤ 4 := by rcases h2.2.2 with g | g <;> omega
    refine dw (fun k (σ : Int × Int × List bc) i => eQ y2 p l k σ.1 σ.2.1 σ.2.2 i) (1 + m) (fun i σ => Cur p ⟨σ.1, σ.2.1⟩ ∧ σ.2.2.length = i ∧ ∀ x ∈ σ.2.2, ln x) (fun k σ h => ?_) (fun k σ i hi h hk => ?_) (by omega) (s := (y2.2.i_, y2.2.h_, [])) ⟨h2.1, rfl, fun x hx => by cases hx⟩
    · obtain ⟨g1, g2, g3⟩ := h
      show Tot (eQ _ _ _ (k + 1) _ _ _ _) _
      rw [eQ, hm, bp (by omega) (by omega), if_neg (by simp)]
      exact aE ⟨g1, ⟨⟨⟨by show σ.2.2.length ≤ _; omega, g3⟩, by show l.length ≤ _; omega, hx⟩, by show σ.2.2.length ≤ _; omega, by show l.length ≤ _; omega⟩, by show _ ≤ σ.2.2.length; omega, by show σ.2.2.length ≤ _; omega, hl0, hl⟩
    · obtain ⟨g1, g2, g3⟩ := h
      show Tot (eQ _ _ _ (k + 1) _ _ _ _) _
      rw [eQ, hm, bp (n := 1 + (m : Int)) (by omega) (by omega), if_pos (by simp; omega)]
      refine (wN hp g1 (by omega)).bind fun y3 h3 => ?_
      rw [de (by simp; omega), aG (by omega)]
      refine hk (_, _, _) ⟨h3.1, by simp; omega, fun x hx => ?_⟩
      rcases List.mem_append.1 hx with hx | hx
      · exact g3 x hx
      · rw [List.mem_singleton.1 hx]; exact h3.2
  refine (qv hp hc 3).bind fun y hy => br (fun _ => ?_) (fun _ => key y.2 _ hy.1 (by simp) (by simp) (fun x hx => ?_))
  · rw [de (by simp)]
    refine key y.2 _ hy.1 (by simp) (by simp) (fun x hx => ?_)
    simp only [List.cons_append, List.nil_append, List.mem_cons, List.not_mem_nil, or_false] at hx
    rcases hx with rfl | rfl | rfl <;> simp
  · simp only [List.mem_cons, List.not_mem_nil, or_false] at hx
    rcases hx with rfl | rfl <;> simp
theorem DU {c : ao} (hc : Cur p c) : TD p (lx p c) (fun _ => True) := by
  unfold lx
  exact (ic hp hc (by simp)).bind fun _ h1 => (ic hp h1.1 (by simp)).bind fun _ h2 => (ic hp h2.1 (by simp)).bind fun _ h3 => (ic hp h3.1 (by simp)).bind fun _ h4 => (ic hp h4.1 (by simp)).bind fun _ h5 => (ic hp h5.1 (by simp)).bind fun _ h6 => (qv hp h6.1 2).bind fun _ h7 => aE ⟨h7.1, trivial⟩
theorem rU {c : ao} (hc : Cur p c) {s : ab} (hs : sG s) : TD p (hH p c s) (smI 8) := by
  have ha := hs.2.1
  unfold hH
  refine dw (fun k (σ : Int × Int × List Int) i => cS s p k σ.1 σ.2.1 σ.2.2 i) s.b_.length (fun i σ => Cur p ⟨σ.1, σ.2.1⟩ ∧ smI i σ.2.2) (fun k σ h => ?_) (fun k σ i hi h hk => ?_) (by omega) (s := (c.i_, c.h_, [])) ⟨hc, .nil _⟩
  · obtain ⟨g1, g2⟩ := h
    show Tot (cS _ _ (k + 1) _ _ _ _) _
    rw [cS, if_neg (by simp)]
    exact br (fun _ => aE ⟨g1, by simp, fun x hx => by rw [List.mem_singleton.1 hx]; exact eH ⟨by omega, by omega⟩⟩) (fun _ => aE ⟨g1, g2.mono ha⟩)
  · obtain ⟨g1, g2⟩ := h
    have g3 := g2.1
    show Tot (cS _ _ (k + 1) _ _ _ _) _
    rw [cS, if_pos (by simp; omega)]
    refine (qv hp g1 4).bind fun y hy => br (fun _ => ?_) (fun _ => ?_)
    · rw [de (by simp; omega), aG (by omega)]
      exact hk (_, _, _) ⟨hy.1, g2.app (eH ⟨by omega, by omega⟩) (Nat.le_refl _)⟩
    · rw [aG (by omega)]
      exact hk (_, _, _) ⟨hy.1, g2.mono (Nat.le_succ _)⟩
omit hp in
def yY (f : aq) : Prop := V f.j_ ∧ V f.c_
theorem BH {c : ao} (hc : Cur p c) {s : ab} (hs : sG s) : TD p (mj p c s) yY := by
  have ha := hs.2.1
  have z : V 0 := eH ⟨by omega, by omega⟩
  unfold mj
  refine dw (fun k (l : List aq) i => du s c p k l i) s.b_.length (fun i l => l.length ≤ 5 * i ∧ ∀ f ∈ l, yY f) (fun k l h => ?_) (fun k l i hi h hk => ?_) (by omega) (s := []) ⟨by simp, fun x hx => by cases hx⟩
  · show Tot (du _ _ _ (k + 1) _ _) _
    rw [du, if_neg (by simp)]
    refine br (fun _ => aE ⟨hc, z, z⟩) (fun h0 => (jg hp hc _).bind fun y hy => ?_)
    have h0 : l.length ≠ 0 := by simpa using h0
    have : y.1 < (l.length : Int) := by rcases hy.2.2 with g | g <;> omega
    exact (iT ⟨hy.2.1, this⟩).bind fun v hv => aE ⟨hy.1, h.2 v hv.1⟩
  · show Tot (du _ _ _ (k + 1) _ _) _
    rw [du, if_pos (by simp; omega)]
    show Tot (dG s (i : Int) (du s c p k) be l ((0 : Int) - 1)) _
    refine dw (fun k2 (l2 : List aq) x => dG s (i : Int) (du s c p k) k2 l2 (x - 1)) 5 (fun x l2 => l2.length ≤ 5 * i + x ∧ ∀ f ∈ l2, yY f) (fun k2 l2 h2 => ?_) (fun k2 l2 x hx h2 hk2 => ?_) (by omega) ⟨by omega, h.2⟩
    · show Tot (dG _ _ _ (k2 + 1) _ _) _
      rw [dG, if_neg (by simp), aG (by omega)]
      exact hk _ ⟨by omega, h2.2⟩
    · show Tot (dG _ _ _ (k2 + 1) _ _) _
      rw [dG, if_pos (by simp; omega), bp (n := (x : Int) - 1 + 1) (by omega) (by omega), show (x : Int) - 1 + 1 = ((x + 1 : Nat) : Int) - 1 by omega]
      refine (Dec.t (kE (f := ⟨(i : Int), (x : Int) - 1⟩) hs.1)).bind fun b _ => br (fun _ => ?_) (fun _ => hk2 _ ⟨by omega, h2.2⟩)
      rw [de (by simp; omega)]
      refine hk2 _ ⟨by simp; omega, fun f hf => ?_⟩
      rcases List.mem_append.1 hf with hf | hf
      · exact h2.2 f hf
      · rw [List.mem_singleton.1 hf]
        exact ⟨(eH ⟨by omega, by omega⟩ : V (i : Int)), (eH ⟨by omega, by omega⟩ : V ((x : Int) - 1))⟩
omit hp in
theorem qD {l : List Int} {x : Int} (hl : ∀ y ∈ l, V y) (h : x ∈ l) : V x := hl x h
theorem Cu {c : ao} (hc : Cur p c) {s : ab} (hs : sG s) : TD p (nq p c s) yY := by
  unfold nq
  refine (BH hp hc hs).bind fun f hf => (jg hp hf.1 10).bind fun y hy => br (fun _ => (ic hp hy.1 (by simp)).bind fun z hz => aE ⟨hz.1, hf.2.1, qD (fun y hy => ?_) hz.2⟩) (fun _ => br (fun _ => (ic hp hy.1 (by simp)).bind fun z hz => aE ⟨hz.1, qD (fun y hy => ?_) hz.2, hf.2.2⟩) (fun _ => aE ⟨hy.1, hf.2⟩))
  · simp only [List.mem_cons, List.not_mem_nil, or_false] at hy
    unfold V; omega
  · simp only [List.mem_cons, List.not_mem_nil, or_false] at hy
    unfold V; omega
theorem Bp {c : ao} (hc : Cur p c) {s : ab} (hs : sG s) : TD p (ms p c s) (smI 9) := by
  unfold ms
  refine (rU hp hc hs).bind fun f hf => (jg hp hf.1 10).bind fun y hy => br (fun _ => (ic hp hy.1 (by simp)).bind fun z hz => ?_) (fun _ => br (fun _ => aE ⟨hy.1, .nil _⟩) (fun _ => aE ⟨hy.1, hf.2.mono (by omega)⟩))
  have h := hf.2.1
  rw [de (by simp; omega)]
  refine aE ⟨hz.1, hf.2.app (qD (fun y hy => ?_) hz.2) (Nat.le_refl _)⟩
  simp only [List.mem_cons, List.not_mem_nil, or_false] at hy
  unfold V; omega
end
end Go.Vk
/- Trees drawn: they are there, and small. -/
namespace Go.Vk
theorem Et {a : bc} (h : ln a) : T (dV a) := by
  rcases (pl (uH h)).cases with ⟨_, g⟩ | ⟨e, _⟩
  · rw [kB h g]
    exact bC _
  · unfold dV
    rw [e]
    simp only [sS]
    exact bC _
section
variable {p : List Int} (hp : p.length ≤ 1048576)
include hp
theorem uu {c : ao} (hc : Cur p c) {s : ab} (hs : sG s) : TD p (jZ p c s) (fun e => e.o_.length ≤ 8) := by
  have ha := hs.2.1
  unfold jZ
  refine dw (fun k (σ : Int × Int × List Int) i => dr s p k σ.1 σ.2.1 σ.2.2 i) s.b_.length (fun i σ => Cur p ⟨σ.1, σ.2.1⟩ ∧ σ.2.2.length = i) (fun k σ h => ?_) (fun k σ i hi h hk => ?_) (by omega) (s := (c.i_, c.h_, [])) ⟨hc, rfl⟩
  · obtain ⟨g1, g2⟩ := h
    show Tot (dr _ _ (k + 1) _ _ _ _) _
    have hb8 : σ.2.2.length ≤ 8 := by omega
    rw [dr, if_neg (by simp)]
    refine (jg hp g1 _).bind fun y hy => ?_
    refine Tot.bind (P := fun u => Cur p ⟨u.2.1, u.2.2⟩ ∧ (u.1 = true → 0 < σ.2.2.length)) (br (fun g => (qv hp hy.1 5).bind fun y2 h2 => aE ⟨h2.1, fun _ => by simpa using g⟩) (fun _ => aE ⟨hy.1, fun h => by cases h⟩)) (fun u hu => br (fun g => ?_) (fun _ => aE ⟨hu.1, hb8⟩))
    simp only [Bool.and_eq_true, decide_eq_true_eq] at g
    have h0 := hu.2 g.1
    refine (iT ⟨by omega, by omega⟩).bind fun e _ => ?_
    unfold rem
    rw [if_neg (by omega)]
    exact aE ⟨hu.1, hb8⟩
  · obtain ⟨g1, g2⟩ := h
    show Tot (dr _ _ (k + 1) _ _ _ _) _
    rw [dr, if_pos (by simp; omega), aV hi]
    refine (Et (hs.1.1.2 _ (List.getElem_mem hi))).bind fun b _ => (jg hp g1 b).bind fun y hy => (qv hp hy.1 9).bind fun y2 h2 => ?_
    have key : ∀ v : Int, Tot (ja σ.2.2 (dr s p k) (i : Int) y2.2.i_ y2.2.h_ v) (fun y => Cur p y.2 ∧ y.1.o_.length ≤ 8) := by
      intro v
      unfold ja
      rw [de (by simp; omega), aG (by omega)]
      exact hk (_, _, _) ⟨h2.1, by simp; omega⟩
    exact br (fun _ => key _) (fun _ => key _)
theorem Dg {c : ao} (hc : Cur p c) {s : ab} (hs : sG s) : TD p (np p c s) (fun _ => True) := by
  unfold np
  refine (uu hp hc hs).bind fun e he => (jg hp he.1 12).bind fun y hy => br (fun _ => (ic hp hy.1 (by simp)).bind fun v hv => aE ⟨hv.1, trivial⟩) (fun _ => br (fun _ => ?_) (fun _ => br (fun _ => br (fun h => ?_) (fun _ => aE ⟨hy.1, trivial⟩)) (fun _ => aE ⟨hy.1, trivial⟩)))
  · have := he.2
    rw [de (by simp; omega)]
    exact aE ⟨hy.1, trivial⟩
  · have h : 0 < e.1.o_.length := by simpa using h
    exact (ic hp hy.1 (by simp)).bind fun v hv => (iT ⟨by omega, by omega⟩).bind fun _ _ => aE ⟨hv.1, trivial⟩
theorem Ae {c : ao} (hc : Cur p c) {n : Nat} (hn : n ≤ 1000) : TD p (ly p c (n : Int)) (fun l => l.length = n ∧ ∀ x ∈ l, 0 ≤ x ∧ x ≤ 255) := by
  unfold ly
  refine dw (fun k (σ : Int × Int × List Int) i => eo (n : Int) p k σ.1 σ.2.1 σ.2.2 i) n (fun i σ => Cur p ⟨σ.1, σ.2.1⟩ ∧ σ.2.2.length = i ∧ ∀ x ∈ σ.2.2, 0 ≤ x ∧ x ≤ 255) (fun k σ h => ?_) (fun k σ i hi h hk => ?_) (by omega) (s := (c.i_, c.h_, [])) ⟨hc, rfl, fun x hx => by cases hx⟩
  · show Tot (eo _ _ (k + 1) _ _ _ _) _
    rw [eo, if_neg (by simp)]
    exact aE ⟨h.1, h.2⟩
  · obtain ⟨g1, g2, g3⟩ := h
    show Tot (eo _ _ (k + 1) _ _ _ _) _
    rw [eo, if_pos (by simp; omega)]
    refine (sH hp g1).bind fun y hy => ?_
    rw [de (by simp; omega), aG (by omega)]
    refine hk (_, _, _) ⟨hy.1, by simp; omega, fun x hx => ?_⟩
    rcases List.mem_append.1 hx with hx | hx
    · exact g3 x hx
    · rw [List.mem_singleton.1 hx, IntWalk.u8_in _ hy.2]; exact hy.2
theorem Da {c : ao} (hc : Cur p c) {s : ab} (hs : sG s) (r : cB) {n : Nat} (hn : n ≤ 60) : Tot (lA p c s r (n : Int)) (fun y => Cur p y.2.2 ∧ gq 0 y.1) := by
  unfold lA
  have z : V 0 := eH ⟨by omega, by omega⟩
  have hN : Tot (some (ah.mk [] 0)) (gq 0) := aE ⟨⟨by simp, fun x hx => by cases hx⟩, z⟩
  refine (rU hp hc hs).bind fun y hy => ?_
  have hT : Tot (lX s y.1) (gq 0) := by
    unfold lX
    refine (nM hs.1 (by have := hy.2.1; omega)).t.bind fun b _ => br (fun _ => hN) (fun _ => (rr hs.1).bind fun st hst => ?_)
    rw [de (by have := hy.2.1; simp; omega)]
    refine aE ⟨⟨by simp, fun x hx => ?_⟩, z⟩
    rw [List.mem_singleton.1 hx]
    exact ⟨⟨z, z⟩, .nil _, z, hst, z, hy.2.mono (by omega), z, eH (x := -1) ⟨by omega, by omega⟩, z⟩
  refine hT.bind fun t ht => (jg hp hy.1 _).bind fun y2 h2 => ?_
  refine dw (fun k (σ : Int × Int × List aT × Int × List aY) i => dK (n : Int) p s r y2 k σ.1 σ.2.1 σ.2.2.1 σ.2.2.2.1 σ.2.2.2.2 i) n (fun i σ => Cur p ⟨σ.1, σ.2.1⟩ ∧ gq 0 ⟨σ.2.2.1, σ.2.2.2.1⟩ ∧ σ.2.2.2.2.length = i) (fun k σ h => ?_) (fun k σ i hi h hk => ?_) (by omega) (s := (y2.2.i_, y2.2.h_, t.a_, t.k_, [])) ⟨h2.1, ht, rfl⟩
  · obtain ⟨g1, g2, g3⟩ := h
    show Tot (dK _ _ _ _ _ (k + 1) _ _ _ _ _ _) _
    rw [dK, if_neg (by simp)]
    exact aE ⟨g1, g2⟩
  · obtain ⟨g1, g2, g3⟩ := h
    show Tot (dK _ _ _ _ _ (k + 1) _ _ _ _ _ _) _
    rw [dK, if_pos (by simp; omega)]
    refine (uu hp g1 hs).bind fun e he => (Ae hp he.1 (n := 8) (by omega)).bind fun b hb => (ic hp hb.1 (by simp)).bind fun w hw => (Cz hs.1 g2 (tape := ⟨b.1, 0⟩) (by show b.1.length ≤ _; have := hb.2.1; omega)).bind fun t2 ht2 => ?_
    unfold lb
    rw [de (by simp; omega), aG (by omega)]
    exact hk (_, _, _, _, _) ⟨hw.1, ht2, by simp; omega⟩
theorem zc {c : ao} (hc : Cur p c) {s : ab} (hs : sG s) : TD p (lj p c s) (gq 0) := by
  unfold lj
  refine (DU hp hc).bind fun r hr => (qv hp hr.1 3).bind fun o ho => ?_
  have key : ∀ (c : ao) (u : Int), Cur p c → TD p (iG p s r c.i_ c.h_ u) (gq 0) := by
    intro c u hc
    unfold iG
    refine (ic hp (c := ⟨c.i_, c.h_⟩) hc (by simp)).bind fun n hn => ?_
    obtain ⟨m, hm, hm2⟩ : ∃ m : Nat, n.1 = m ∧ m ≤ 60 := by
      have h := hn.2
      simp only [List.mem_cons, List.not_mem_nil, or_false] at h
      exact ⟨n.1.toNat, by omega, by omega⟩
    rw [hm]
    exact (Da hp hn.1 hs _ hm2).bind fun y hy => aE hy
  exact br (fun _ => (ic hp ho.1 (by simp)).bind fun u hu => key u.2 _ hu.1) (fun _ => key o.2 _ ho.1)
theorem AM {c : ao} (hc : Cur p c) {s : ab} (hs : sG s) : TD p (mx p c s) (mp 0) := by
  unfold mx
  refine (rr hs.1).bind fun st hst => (ic hp hc (by simp)).bind fun n hn => ?_
  obtain ⟨m, hm, hm2⟩ : ∃ m : Nat, n.1 = m ∧ m ≤ 60 := by
    have h := hn.2
    simp only [List.mem_cons, List.not_mem_nil, or_false] at h
    exact ⟨n.1.toNat, by omega, by omega⟩
  refine dw (fun k (σ : Int × Int × List Int × List (List Int)) i => eN n p s k σ.1 σ.2.1 σ.2.2.1 σ.2.2.2 i) m (fun i σ => Cur p ⟨σ.1, σ.2.1⟩ ∧ mp 0 ⟨σ.2.2.1, σ.2.2.2⟩) (fun k σ h => ?_) (fun k σ i hi h hk => ?_) (by omega) (s := (n.2.i_, n.2.h_, st.e_, st.d_)) ⟨hn.1, hst⟩
  · obtain ⟨g1, g2⟩ := h
    show Tot (eN _ _ _ (k + 1) _ _ _ _ _) _
    rw [eN, hm, if_neg (by simp)]
    refine (qv hp g1 8).bind fun o ho => br (fun _ => ?_) (fun _ => aE ⟨ho.1, g2⟩)
    rw [vZ (by have := g2.1.1; omega)]
    exact aE ⟨ho.1, g2.1, by simp, fun x hx => by cases hx⟩
  · obtain ⟨g1, g2⟩ := h
    show Tot (eN _ _ _ (k + 1) _ _ _ _ _) _
    rw [eN, hm, if_pos (by simp; omega), aG (by omega)]
    exact (uu hp g1 hs).bind fun e he => (ic hp he.1 (by simp)).bind fun w hw => (uQ hs.1 g2).bind fun y hy => hk (_, _, _, _) ⟨hw.1, hy⟩
theorem Cw {c : ao} (hc : Cur p c) {s : ab} (hs : sG s) : TD p (ns p c s) (mp 1) := by
  unfold ns
  refine (AM hp hc hs).bind fun st hst => (jg hp hst.1 14).bind fun y hy => ?_
  obtain ⟨g1, g2, g3⟩ := hst.2
  have hm := hst.2.mono (d' := 1) (by omega)
  have keep : TD p (some (st.1, y.2)) (mp 1) := aE ⟨hy.1, hm⟩
  refine br (fun _ => br (fun h => (ic hp hy.1 (by simp)).bind fun v hv => (iT ⟨by omega, by simpa using h⟩).bind fun _ _ => aE ⟨hv.1, (g1.mono (by omega)).set (qD (fun y hy => ?_) hv.2) _, hm.2⟩) (fun _ => keep)) (fun _ => br (fun _ => ?_) (fun _ => br (fun _ => ?_) (fun _ => br (fun _ => br (fun h => ?_) (fun _ => keep)) (fun _ => keep))))
  · simp only [List.mem_cons, List.not_mem_nil, or_false] at hy
    unfold V; omega
  · have h := g1.1
    rw [de (by simp; omega)]
    exact aE ⟨hy.1, g1.app (eH ⟨by omega, by omega⟩) (by omega), hm.2⟩
  · refine Tot.bind (P := fun u => u = true → ∃ h : 0 < st.1.d_.length, 0 < (st.1.d_[0]).length) (br (fun h => ?_) (fun _ => aE fun h => by cases h)) (fun u hu => br (fun g => ?_) (fun _ => keep))
    · have h : 0 < st.1.d_.length := by simpa using h
      have e0 : idx st.1.d_ 0 = some st.1.d_[0] := aV h
      rw [e0]
      exact aE fun g => ⟨h, by simpa using g⟩
    · obtain ⟨h, h2⟩ := hu g
      have e0 : idx st.1.d_ 0 = some st.1.d_[0] := aV h
      have e1 : idx st.1.d_[0] 0 = some st.1.d_[0][0] := aV h2
      have hc0 := g3 _ (List.getElem_mem h)
      rw [e0]
      simp only [bS]
      refine (ic hp hy.1 (by simp)).bind fun v hv => ?_
      rw [e1]
      refine aE ⟨hv.1, hm.1, by show (st.1.d_.set _ _).length ≤ _; rw [List.length_set]; omega, fun x hx => ?_⟩
      rcases List.mem_or_eq_of_mem_set hx with hx | rfl
      · exact hm.2.2 x hx
      · refine (hc0.mono (by omega)).set (qD (fun y hy => ?_) hv.2) _
        simp only [List.mem_cons, List.not_mem_nil, or_false] at hy
        unfold V; omega
  · have h : 0 < st.1.d_.length := by simpa using h
    have e0 : idx st.1.d_ 0 = some st.1.d_[0] := aV h
    have hc0 := g3 _ (List.getElem_mem h)
    have hl := hc0.1
    rw [e0]
    simp only [bS]
    rw [de (by simp; omega)]
    refine aE ⟨hy.1, hm.1, by show (st.1.d_.set _ _).length ≤ _; rw [List.length_set]; omega, fun x hx => ?_⟩
    rcases List.mem_or_eq_of_mem_set hx with hx | rfl
    · exact hm.2.2 x hx
    · exact hc0.app (eH ⟨by omega, by omega⟩) (by omega)
theorem Au {c : ao} (hc : Cur p c) {s : ab} (hs : sG s) : TD p (mE p c s) (gq 1) := by
  unfold mE
  refine (zc hp hc hs).bind fun y hy => ?_
  have hm := hy.2.mono (d' := 1) (by omega)
  obtain ⟨ht, hx⟩ := hm
  refine br (fun _ => aE ⟨hy.1, ht, hx⟩) (fun h0 => ?_)
  have h0 : y.1.a_.length ≠ 0 := by simpa using h0
  refine (jg hp hy.1 _).bind fun a ha => ?_
  obtain ⟨j, hj⟩ : ∃ j : Nat, a.1 = j := ⟨a.1.toNat, by have := ha.2.1; omega⟩
  have hjl : j < y.1.a_.length := by rcases ha.2.2 with g | g <;> omega
  have hl := ht.1
  rw [hj, aV hjl]
  have hn0 := hy.2.1.2 _ (List.getElem_mem hjl)
  have hn := ht.2 _ (List.getElem_mem hjl)
  obtain ⟨g1, g2, g3, g4, g5, g6, g7, g8, g9⟩ := hn
  refine (jg hp ha.1 22).bind fun o ho => ?_
  simp only [bS]
  refine br (fun _ => (ic hp ho.1 (by simp)).bind fun v hv => aE ⟨hv.1, ht, qD (fun y hy => ?_) hv.2⟩) (fun _ => ?_)
  · simp only [List.mem_cons, List.not_mem_nil, or_false] at hy
    unfold V; omega
  refine br (fun _ => (jg hp ho.1 8).bind fun v hv => aE ⟨hv.1, gq.setN ht (n := { y.1.a_[j] with m_ := v.1 }) ⟨g1, g2, g3, g4, g5, g6, eH (x := v.1) ⟨by have := hv.2; omega, by have := hv.2; omega⟩, g8, g9⟩ hx _⟩) (fun _ => ?_)
  refine br (fun _ => (ic hp ho.1 (by simp)).bind fun v hv => aE ⟨hv.1, gq.setN ht (n := { y.1.a_[j] with p_ := v.1 }) ⟨g1, g2, g3, g4, g5, g6, g7, qD (fun y hy => ?_) hv.2, g9⟩ hx _⟩) (fun _ => ?_)
  · simp only [List.mem_cons, List.not_mem_nil, or_false] at hy
    unfold V; omega
  refine br (fun _ => (ic hp ho.1 (by simp)).bind fun v hv => ?_) (fun _ => ?_)
  · have hk := hn0.2.1.1
    rw [de (by simp; omega)]
    refine aE ⟨hv.1, gq.setN ht (n := { y.1.a_[j] with r_ := y.1.a_[j].r_ ++ [v.1] }) ⟨g1, hn0.2.1.app (qD (fun y hy => ?_) hv.2) (by omega), g3, g4, g5, g6, g7, g8, g9⟩ hx _⟩
    simp only [List.mem_cons, List.not_mem_nil, or_false] at hy
    rcases hy with rfl | rfl | rfl | rfl
    · exact eH ⟨by omega, by omega⟩
    · exact eH ⟨by omega, by omega⟩
    · exact rl _
    · exact eH ⟨by omega, by omega⟩
  refine br (fun _ => (ic hp ho.1 (by simp)).bind fun v hv => aE ⟨hv.1, gq.setN ht (n := { y.1.a_[j] with w_ := v.1 }) ⟨g1, g2, qD (fun y hy => ?_) hv.2, g4, g5, g6, g7, g8, g9⟩ hx _⟩) (fun _ => ?_)
  · simp only [List.mem_cons, List.not_mem_nil, or_false] at hy
    unfold V; omega
  refine br (fun _ => (ic hp ho.1 (by simp)).bind fun v hv => aE ⟨hv.1, gq.setN ht (n := { y.1.a_[j] with x_ := v.1 }) ⟨g1, g2, g3, g4, qD (fun y hy => ?_) hv.2, g6, g7, g8, g9⟩ hx _⟩) (fun _ => ?_)
  · simp only [List.mem_cons, List.not_mem_nil, or_false] at hy
    unfold V; omega
  refine br (fun _ => (ic hp ho.1 (by simp)).bind fun v hv => aE ⟨hv.1, gq.setN ht (n := { y.1.a_[j] with s_ := v.1 }) ⟨g1, g2, g3, g4, g5, g6, g7, g8, qD (fun z hz => ?_) hv.2⟩ hx _⟩) (fun _ => ?_)
  · simp only [List.mem_cons, List.not_mem_nil, or_false] at hz
    rcases hz with rfl | rfl | rfl | rfl | rfl
    · exact eH ⟨by omega, by omega⟩
    · exact eH ⟨by omega, by omega⟩
    · exact eH ⟨by omega, by omega⟩
    · exact hx
    · exact rl _
  refine br (fun _ => aE ⟨ho.1, gq.setN ht (n := { y.1.a_[j] with q_ := (!y.1.a_[j].q_) }) ⟨g1, g2, g3, g4, g5, g6, g7, g8, g9⟩ hx _⟩) (fun _ => ?_)
  refine br (fun _ => (Cu hp ho.1 hs).bind fun v hv => aE ⟨hv.1, gq.setN ht (n := { y.1.a_[j] with g_ := v.1 }) ⟨hv.2, g2, g3, g4, g5, g6, g7, g8, g9⟩ hx _⟩) (fun _ => ?_)
  refine br (fun _ => (Bp hp ho.1 hs).bind fun v hv => aE ⟨hv.1, gq.setN ht (n := { y.1.a_[j] with b_ := v.1 }) ⟨g1, g2, g3, g4, g5, hv.2.mono (by omega), g7, g8, g9⟩ hx _⟩) (fun _ => ?_)
  refine br (fun _ => (Cw hp ho.1 hs).bind fun v hv => aE ⟨hv.1, gq.setN ht (n := { y.1.a_[j] with n_ := v.1 }) ⟨g1, g2, g3, hv.2, g5, g6, g7, g8, g9⟩ hx _⟩) (fun _ => ?_)
  refine br (fun _ => ?_) (fun _ => aE ⟨ho.1, ht, hx⟩)
  rw [bp (by omega) (by omega)]
  refine (rV ⟨by omega, by omega, by omega⟩).bind fun l hl2 => aE ⟨ho.1, ⟨?_, fun n hn => ?_⟩, hx⟩
  · show l.length ≤ 40
    rw [hl2]
    simp only [List.length_take, List.length_drop]
    omega
  · have hn : n ∈ l := hn
    rw [hl2] at hn
    exact ht.2 n (List.mem_of_mem_drop (List.mem_of_mem_take hn))
end
end Go.Vk
/- The ways of a tree: alike. -/
namespace Go.Vk
def lvN (t : ah) : Nat → List Nat
  | 0 => []
  | i + 1 => lvN t i ++ if (dT t i).q_ then [i] else []
theorem wn {t : ah} : ∀ {i : Nat} {x : Nat}, x ∈ lvN t i → x < i ∧ (dT t x).q_ = true
  | 0, x, h => by simp [lvN] at h
  | i + 1, x, h => by
    simp only [lvN] at h
    rcases List.mem_append.1 h with h | h
    · have := wn h; exact ⟨by omega, this.2⟩
    · by_cases hl : (dT t i).q_ = true
      · rw [if_pos hl] at h
        rw [List.mem_singleton.1 h]; exact ⟨by omega, hl⟩
      · rw [if_neg hl] at h; cases h
theorem rP (t : ah) : ∀ i : Nat, (lvN t i).length ≤ i
  | 0 => by simp [lvN]
  | i + 1 => by
    have := rP t i
    simp only [lvN, List.length_append]
    split <;> simp <;> omega
def lv (t : ah) : List Nat := lvN t t.a_.length
theorem xx (a b : List Nat) : eg (a ++ b) = eg a ++ eg b := List.map_append
theorem yh {t : ah} (ht : t.a_.length ≤ 1048576) : qf t = some (eg (lv t)) := by
  unfold qf lv
  refine jT (Lp := fun k i => fQ t k (eg (lvN t i)) (i : Int)) (n := t.a_.length) (fun k => ?_) (fun k i hi => ?_) (by omega)
  · show fQ t (k + 1) _ _ = _
    rw [fQ, if_neg (by simp)]
  · show fQ t (k + 1) _ _ = fQ t k _ _
    have hl := rP t i
    rw [fQ, if_pos (by simp; omega), aV hi, aG (by omega)]
    simp only [sS, lvN]
    rw [gz hi]
    by_cases h : t.a_[i].q_ = true
    · rw [if_pos h, if_pos h, xx, de (by simp [eg]; omega)]
      rfl
    · rw [if_neg h, if_neg h, List.append_nil]
theorem uG {t : ah} (ht : t.a_.length ≤ 1048576) : lQ t = some (eg (lv t)) := by
  unfold lQ fi lv
  have h := jT (Lp := fun k i => bz t k (i : Int) (eg (lvN t i))) (n := t.a_.length) (fin := some (eg (lvN t t.a_.length))) (fun k => by
    show bz t (k + 1) _ _ = _
    rw [bz, if_neg (by simp)]) (fun k i hi => by
    show bz t (k + 1) _ _ = bz t k _ _
    have hl := rP t i
    rw [bz, if_pos (by simp; omega), aV hi, aG (by omega)]
    unfold nc
    simp only [sS, lvN]
    rw [gz hi]
    by_cases h : t.a_[i].q_ = true
    · rw [if_pos h, if_pos h, xx, de (by simp [eg]; omega)]
      rfl
    · rw [if_neg h, if_neg h, List.append_nil]) (by omega)
  have h : bz t be 0 [] = _ := h
  rw [h]
  rfl
def iq (x : Int) : List Int → Nat
  | [] => 0
  | y :: l => if y = x then 0 else iq x l + 1
theorem rT {x : Int} : ∀ {l : List Int}, x ∈ l → ∃ h : iq x l < l.length, l[iq x l] = x
  | [], h => by cases h
  | y :: l, h => by
    by_cases e : y = x
    · have hp : iq x (y :: l) = 0 := by simp [iq, e]
      simp only [hp]
      exact ⟨by simp, e⟩
    · have hm : x ∈ l := by
        rcases List.mem_cons.1 h with h | h
        · exact absurd h.symm e
        · exact h
      obtain ⟨h1, h2⟩ := rT hm
      have hp : iq x (y :: l) = iq x l + 1 := by simp [iq, e]
      simp only [hp]
      exact ⟨by simp; exact h1, by simpa using h2⟩
def gP (t : ah) (i : Nat) : Nat := (dT t i).p_.toNat
def sV (s : ab) (t : ah) (i : Nat) (m : List Int) : List Int :=
  let u := dT t (gP t i)
  m.set u.g_.j_.toNat (bi .and .i64 (m.getD u.g_.j_.toNat 0) (jU s u (iq (i : Int) u.r_)))
def uY (s : ab) (t : ah) : Nat → Nat → List Int → List Int
  | 0, _, m => m
  | k + 1, i, m => if i = 0 then m else uY s t k (gP t i) (sV s t i m)
theorem zo {s : ab} {t : ah} {i : Nat} {m : List Int} : (sV s t i m).length = m.length := by simp [sV]
theorem wL {s : ab} {t : ah} (hT : ip s t) {i : Nat} (hi : i < t.a_.length) (h0 : 0 < i) : ∃ hu : gP t i < t.a_.length, gP t i < i ∧ t.a_[i].p_ = (gP t i : Int) ∧ t.a_[gP t i].q_ = false ∧ (i : Int) ∈ t.a_[gP t i].r_ ∧ vQ s t (gP t i) t.a_[gP t i] := by
  obtain ⟨u, hui, hul, h1, h2, h3, _⟩ := (hT.2.2.2 i hi hi).2.2 h0
  have he : gP t i = u := by unfold gP; rw [gz hi, h1]; simp
  rw [he]
  exact ⟨hul, hui, h1, h2, h3, (hT.2.2.2 u hul hul).1.2.2.2.2.2 h2⟩
theorem Ap {l : List Int} (hl : l.length ≤ 1048576) {x : Int} (hx : x ∈ l) (hA : Asc l) : db l x = some (iq x l : Int) := by
  obtain ⟨hp, hv⟩ := rT hx
  unfold db
  have h := jT (Lp := fun k i => bG l x k (i : Int)) (n := iq x l) (fin := some (iq x l : Int)) (fun k => by
    show bG l x (k + 1) _ = _
    rw [bG, if_pos (by simp; omega), aV hp]
    simp only [sS]
    rw [if_pos (by simp [hv])]) (fun k i hi => by
    show bG l x (k + 1) _ = bG l x k _
    have hlt : i < l.length := by omega
    have := hA (iq x l) (by omega) hp hp
    have h2 := hA.le (j := iq x l - 1) i (by omega) (by omega)
    rw [bG, if_pos (by simp; omega), aV hlt, aG (by omega)]
    simp only [sS]
    rw [if_neg (by simp; omega)]) (by omega)
  exact h
theorem zu {s : ab} {u : aT} {t : ah} {x : Int} {i : Nat} {R : Int → List Int → Option (List bf)} {m : List Int} (hs : aU s) (hF : kG s u.g_) (hk : u.r_.length ≤ 1048576) (hx : (i : Int) ∈ u.r_) (hA : Asc u.r_) (hm : m.length = s.b_.length) (hi : i < t.a_.length) (hup : t.a_[i].p_ = x) :
    fw u (i : Int) s t R be 0 m = R x (m.set u.g_.j_.toNat (bi .and .i64 (m.getD u.g_.j_.toNat 0) (jU s u (iq (i : Int) u.r_)))) := by
  obtain ⟨hp, hv⟩ := rT hx
  obtain ⟨a, ha, ea, _⟩ := po hF.2.1
  generalize hpl : iq (i : Int) u.r_ = p at *
  have hset : ∀ q : Nat, (if q ≤ p then m else m.set a (bi .and .i64 (m.getD a 0) (jU s u (p : Int)))) = (if q ≤ p then m else m.set a (bi .and .i64 (m.getD a 0) (jU s u (p : Int)))) := fun _ => rfl
  rw [ea]
  simp only [Int.toNat_natCast]
  refine jT (Lp := fun k q => fw u (i : Int) s t R k (q : Int) (if q ≤ p then m else m.set a (bi .and .i64 (m.getD a 0) (jU s u (p : Int))))) (n := u.r_.length) (fun k => ?_) (fun k q hq => ?_) (by omega) |> fun g => by simpa using g
  · show fw u (i : Int) s t R (k + 1) _ _ = _
    rw [fw, if_neg (by simp), aV hi, if_neg (by omega)]
    simp only [sS]
    rw [hup]; simp
  · show fw u (i : Int) s t R (k + 1) _ _ = fw u (i : Int) s t R k _ _
    rw [fw, if_pos (by simp; omega), aV hq, aG (by omega), ea]
    simp only [sS]
    by_cases he : q = p
    · subst he
      rw [if_pos (by simp [hv]), if_pos (Nat.le_refl _), if_neg (by omega), aV (by omega : a < m.length), Bc hs hF]
      simp only [sS, Int.toNat_natCast]
      rw [lY (by omega : a < m.length)]
    · have hne : ¬ (u.r_[q] == (i : Int)) = true := by
        rw [beq_iff_eq, ← hv]
        intro g
        rcases Nat.lt_or_gt_of_ne he with c | c
        · have h1 := hA p (by omega) hp hp
          have h2 := hA.le (j := p - 1) q (by omega) (by omega)
          omega
        · have h1 := hA q (by omega) hq hq
          have h2 := hA.le (j := q - 1) p (by omega) (by omega)
          omega
      rw [if_neg hne]
      by_cases hle : q ≤ p
      · rw [if_pos hle, if_pos (by omega)]
      · rw [if_neg hle, if_neg (by omega)]
theorem ug {s : ab} {t : ah} (hs : aU s) (ht : gp t) (hT : ip s t) (lw : List bf) (leaf : Int) (R : List bf → Int → Option (List bf)) (R' : Int → List bf → Option (List bf)) (j : Int) : ∀ (d k k' i : Nat) (m : List Int), i < d → d < k → d < k' → i < t.a_.length → m.length = s.b_.length →
    kI t s lw leaf R j k (i : Int) m = ((app lw [(bf.mk leaf (uY s t d i m))]).bind fun l => R l (IntKind.i64.wrap (j + 1))) ∧
    gN t s lw leaf R' j k' (i : Int) m = ((app lw [(bf.mk leaf (uY s t d i m))]).bind fun l => R' (IntKind.i64.wrap (j + 1)) l) := by
  intro d
  induction d with
  | zero => intro k k' i m h; omega
  | succ d ih =>
    intro k k' i m hd hk hk' hi hm
    obtain ⟨k, rfl⟩ : ∃ q, k = q + 1 := ⟨k - 1, by omega⟩
    obtain ⟨k', rfl⟩ : ∃ q, k' = q + 1 := ⟨k' - 1, by omega⟩
    rw [kI, gN, aV hi]
    simp only [sS, uY]
    by_cases h0 : i = 0
    · have hup : t.a_[i].p_ = -1 := ((hT.2.2.2 i hi hi).2.1 h0).1
      have c1 : ¬ (decide ((i : Int) > 0) = true) := by rw [h0]; simp
      have c2 : ¬ (decide ((-1 : Int) ≥ 0) = true) := by simp
      rw [hup, if_neg c1, if_neg c2, if_pos h0]
      exact ⟨rfl, rfl⟩
    · obtain ⟨hul, hui, hup, hlf, hmem, hsp⟩ := wL hT hi (by omega)
      have hkl := (ht.1.2 _ (List.getElem_mem hul)).2.2.1.1
      have hF := hsp.1
      have hA := hsp.2.2.2.2.2.1
      obtain ⟨a, ha, ea, _⟩ := po hF.2.1
      have c1 : decide ((i : Int) > 0) = true := by simp; omega
      have c2 : decide ((gP t i : Int) ≥ 0) = true := by simp
      rw [if_neg h0, hup, if_pos c1, if_pos c2, aV hul]
      simp only [sS]
      have hst : sV s t i m = m.set t.a_[gP t i].g_.j_.toNat (bi .and .i64 (m.getD t.a_[gP t i].g_.j_.toNat 0) (jU s t.a_[gP t i] (iq (i : Int) t.a_[gP t i].r_))) := by
        unfold sV
        rw [gz hul]
      obtain ⟨i1, i2⟩ := ih k k' (gP t i) (sV s t i m) (by omega) (by omega) (by omega) hul (by rw [zo, hm])
      constructor
      · rw [zu hs hF hkl hmem hA hm hi hup, ← hst]
        exact i1
      · rw [Ap hkl hmem hA]
        simp only [sS]
        rw [Az hs hF]
        simp only [sS]
        have hg : m.getD t.a_[gP t i].g_.j_.toNat 0 = m[a]'(by omega) := by rw [ea, Int.toNat_natCast, lY (by omega : a < m.length)]
        rw [hg] at hst
        have hx : idx m t.a_[gP t i].g_.j_ = some (m[a]'(by omega)) := by rw [ea, aV (by omega : a < m.length)]
        rw [hx]
        simp only [sS]
        rw [← hst]
        exact i2
def rE (s : ab) : List Int := s.b_.map fun a => (fm a : Int)
def gR (s : ab) (t : ah) (i : Nat) : bf := ⟨i, uY s t 32 i (rE s)⟩
theorem zG {s : ab} {t : ah} (hs : aU s) (ht : gp t) (hT : ip s t) : sZ s t = some ((lv t).map (gR s t)) ∧ kx s t = some ((lv t).map (gR s t)) := by
  unfold sZ kx
  rcases (od hs ht).cases with ⟨e, _⟩ | ⟨_, g⟩
  · rcases (uP hs ht).cases with ⟨e2, _⟩ | ⟨_, g⟩
    · rw [e, e2, yh ht.1.1, uG ht.1.1]
      simp only [sS]
      have hn := hT.2.1
      have hlen := rP t t.a_.length
      have hna := hT.1.1
      have hlv : (eg (lv t)).length = (lv t).length := by simp [eg]
      have hall : ∀ (i : Nat) (h : i < (lv t).length), (eg (lv t))[i]'(by rw [hlv]; exact h) = (((lv t)[i] : Nat) : Int) := fun i h => by simp [eg]
      have hmem : ∀ (i : Nat) (h : i < (lv t).length), (lv t)[i] < t.a_.length := fun i h => (wn (List.getElem_mem h)).1
      constructor
      · refine jT (Lp := fun k i => dz (eg (lv t)) s t k (((lv t).take i).map (gR s t)) (i : Int)) (n := (lv t).length) (fun k => ?_) (fun k i hi => ?_) (by unfold lv; omega)
        · show dz (eg (lv t)) s t (k + 1) _ _ = _
          rw [dz, if_neg (by simp [eg]), List.take_length]
        · show dz (eg (lv t)) s t (k + 1) _ _ = dz (eg (lv t)) s t k _ _
          rw [dz, if_pos (by simp [eg]; omega), aV (by rw [hlv]; exact hi), hall i hi]
          simp only [sS]
          have hf := jT (Lp := fun q j => fZ s (eg (lv t)) (i : Int) t (((lv t).take i).map (gR s t)) (((lv t)[i] : Nat) : Int) (dz (eg (lv t)) s t k) q ((s.b_.take j).map fun a => (fm a : Int)) (j : Int)) (n := s.b_.length)
            (fin := kI t s (((lv t).take i).map (gR s t)) (((lv t)[i] : Nat) : Int) (dz (eg (lv t)) s t k) (i : Int) be (((lv t)[i] : Nat) : Int) (rE s)) (fun q => by
              show fZ s (eg (lv t)) (i : Int) t _ _ (dz (eg (lv t)) s t k) (q + 1) _ _ = _
              rw [fZ, if_neg (by simp), List.take_length, aV (by rw [hlv]; exact hi), hall i hi]
              rfl) (fun q j hj => by
              show fZ s (eg (lv t)) (i : Int) t _ _ (dz (eg (lv t)) s t k) (q + 1) _ _ = fZ s (eg (lv t)) (i : Int) t _ _ (dz (eg (lv t)) s t k) q _ _
              rw [fZ, if_pos (by simp; omega), aV hj, aG (by omega)]
              simp only [sS]
              rw [(wc (hs.1.2 _ (List.getElem_mem hj)) (hT.1.attr hj)).1]
              simp only [sS]
              rw [de (by simp; omega), List.take_succ_eq_append_getElem hj, List.map_append]
              rfl) (by omega)
          have hf : fZ s (eg (lv t)) (i : Int) t (((lv t).take i).map (gR s t)) (((lv t)[i] : Nat) : Int) (dz (eg (lv t)) s t k) be [] 0 = _ := hf
          rw [hf, (ug hs ht hT _ _ _ (fun _ _ => none) _ 32 be be (lv t)[i] (rE s) (by have := hmem i hi; omega) (dE (by omega)) (dE (by omega)) (hmem i hi) (by simp [rE])).1, de (by simp; unfold lv at *; omega), aG (by unfold lv at *; omega), List.take_succ_eq_append_getElem hi, List.map_append]
          rfl
      · have h := jT (Lp := fun k i => cF (eg (lv t)) s t k (i : Int) (((lv t).take i).map (gR s t))) (n := (lv t).length) (fin := some ((lv t).map (gR s t))) (fun k => by
          show cF (eg (lv t)) s t (k + 1) _ _ = _
          rw [cF, if_neg (by simp [eg]), List.take_length]) (fun k i hi => by
          show cF (eg (lv t)) s t (k + 1) _ _ = cF (eg (lv t)) s t k _ _
          rw [cF, if_pos (by simp [eg]; omega), aV (by rw [hlv]; exact hi), hall i hi]
          simp only [sS]
          have hf := jT (Lp := fun q j => ef s t (((lv t).take i).map (gR s t)) (((lv t)[i] : Nat) : Int) (cF (eg (lv t)) s t k) (i : Int) q (j : Int) ((s.b_.take j).map fun a => (fm a : Int))) (n := s.b_.length)
            (fin := gN t s (((lv t).take i).map (gR s t)) (((lv t)[i] : Nat) : Int) (cF (eg (lv t)) s t k) (i : Int) be (((lv t)[i] : Nat) : Int) (rE s)) (fun q => by
              show ef s t _ _ (cF (eg (lv t)) s t k) (i : Int) (q + 1) _ _ = _
              rw [ef, if_neg (by simp), List.take_length]
              rfl) (fun q j hj => by
              show ef s t _ _ (cF (eg (lv t)) s t k) (i : Int) (q + 1) _ _ = ef s t _ _ (cF (eg (lv t)) s t k) (i : Int) q _ _
              rw [ef, if_pos (by simp; omega), aV hj, aG (by omega)]
              simp only [sS]
              rw [(wc (hs.1.2 _ (List.getElem_mem hj)) (hT.1.attr hj)).2]
              simp only [sS]
              rw [de (by simp; omega), List.take_succ_eq_append_getElem hj, List.map_append]
              rfl) (by omega)
          have hf : ef s t (((lv t).take i).map (gR s t)) (((lv t)[i] : Nat) : Int) (cF (eg (lv t)) s t k) (i : Int) be 0 [] = _ := hf
          rw [hf, (ug hs ht hT _ _ (fun _ _ => none) _ _ 32 be be (lv t)[i] (rE s) (by have := hmem i hi; omega) (dE (by omega)) (dE (by omega)) (hmem i hi) (by simp [rE])).2, de (by simp; unfold lv at *; omega), aG (by unfold lv at *; omega), List.take_succ_eq_append_getElem hi, List.map_append]
          rfl) (by unfold lv; omega)
        exact h
    · exact absurd hT g
  · exact absurd hT g
end Go.Vk
