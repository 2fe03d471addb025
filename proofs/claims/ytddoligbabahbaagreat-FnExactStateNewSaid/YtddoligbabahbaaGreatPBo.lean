/- Two texts of data, walked side by side. -/
import Derived.Test.YtddoligbabahbaaGreatVkTo
namespace Go.Vk
/-- both answer, alike, and as said -/
def Both {ρ : Type} (a b : Option ρ) (Q : ρ → Prop) : Prop := ∃ m, a = some m ∧ b = some m ∧ Q m
theorem both_some {ρ : Type} {m : ρ} {Q : ρ → Prop} (h : Q m) : Both (some m) (some m) Q := ⟨m, rfl, rfl, h⟩
theorem Both.mono {ρ : Type} {a b : Option ρ} {Q R : ρ → Prop} (h : Both a b Q) (f : ∀ m, Q m → R m) : Both a b R := by
  obtain ⟨m, h1, h2, h3⟩ := h
  exact ⟨m, h1, h2, f m h3⟩
theorem Both.bind {α ρ : Type} {a b : Option α} {Q : α → Prop} {f g : α → Option ρ} {R : ρ → Prop} (h : Both a b Q) (k : ∀ m, Q m → Both (f m) (g m) R) : Both (a.bind f) (b.bind g) R := by
  obtain ⟨m, h1, h2, h3⟩ := h
  rw [h1, h2]
  exact k m h3
theorem both_if {ρ : Type} {c d : Prop} [Decidable c] [Decidable d] {a b a' b' : Option ρ} {Q : ρ → Prop} (e : c ↔ d) (h : c → Both a b Q) (h' : ¬ c → Both a' b' Q) : Both (if c then a else a') (if d then b else b') Q := by
  by_cases hc : c
  · rw [if_pos hc, if_pos (e.1 hc)]; exact h hc
  · rw [if_neg hc, if_neg (fun hd => hc (e.2 hd))]; exact h' hc
theorem both_dec {ρ : Type} {a b : Option Bool} {P : Prop} {f g : Bool → Option ρ} {R : ρ → Prop} (h : Dec a P) (h' : Dec b P) (ht : P → Both (f true) (g true) R) (hf : ¬ P → Both (f false) (g false) R) : Both (a.bind f) (b.bind g) R := by
  rw [← h.eq h']
  rcases h.cases with ⟨e, hp⟩ | ⟨e, hp⟩
  · rw [e]; exact ht hp
  · rw [e]; exact hf hp
/-- two counted loops, side by side -/
theorem both_for {σ τ ρ : Type} (Lp : Nat → σ → Int → Option ρ) (Lq : Nat → τ → Int → Option ρ) (n : Nat) (I : Nat → σ → τ → Prop) {Q : ρ → Prop}
    (hz : ∀ k s t, I n s t → Both (Lp (k + 1) s (n : Int)) (Lq (k + 1) t (n : Int)) Q)
    (hs : ∀ k s t i, i < n → I i s t → (∀ s' t', I (i + 1) s' t' → Both (Lp k s' ((i + 1 : Nat) : Int)) (Lq k t' ((i + 1 : Nat) : Int)) Q) → Both (Lp (k + 1) s (i : Int)) (Lq (k + 1) t (i : Int)) Q)
    (hn : n < 1000000000000) {s : σ} {t : τ} (h0 : I 0 s t) : Both (Lp Fuel s 0) (Lq Fuel t 0) Q := by
  have key : ∀ (d k i : Nat) (s : σ) (t : τ), n - i = d → d < k → i ≤ n → I i s t → Both (Lp k s (i : Int)) (Lq k t (i : Int)) Q := by
    intro d
    induction d with
    | zero =>
      intro k i s t hd hk hi h
      obtain ⟨k, rfl⟩ : ∃ q, k = q + 1 := ⟨k - 1, by omega⟩
      have : i = n := by omega
      subst this
      exact hz k s t h
    | succ d ih =>
      intro k i s t hd hk hi h
      obtain ⟨k, rfl⟩ : ∃ q, k = q + 1 := ⟨k - 1, by omega⟩
      exact hs k s t i (by omega) h (fun s' t' h' => ih k (i + 1) s' t' (by omega) (by omega) (by omega) h')
  exact key n Fuel 0 s t (by omega) (fuel_gt hn) (Nat.zero_le _) h0
end Go.Vk
