/- Loops over a list, as recursion over the list. No program in sight. -/
import Derived.Test.YtgpfgjlmjodcaaaVkQ
namespace Go.Vk
/-- a loop over a list: each element either ends it or gives the next state -/
def run {α σ ρ : Type} (f : σ → α → Option ρ ⊕ σ) (fin : σ → Option ρ) : σ → List α → Option ρ
  | s, [] => fin s
  | s, x :: xs => match f s x with
    | .inl r => r
    | .inr s' => run f fin s' xs
theorem run_loop {α σ ρ : Type} {p : List α} (Lp : Nat → σ → Int → Option ρ) (f : σ → α → Option ρ ⊕ σ) (fin : σ → Option ρ) (I : Nat → σ → Prop)
    (hz : ∀ k s, I p.length s → Lp (k + 1) s (p.length : Int) = fin s)
    (hs : ∀ k s (i : Nat) (h : i < p.length), I i s → (Lp (k + 1) s (i : Int) = match f s p[i] with | .inl r => r | .inr s' => Lp k s' ((i + 1 : Nat) : Int)) ∧ ∀ s', f s p[i] = .inr s' → I (i + 1) s')
    (hp : p.length < 1000000000000) : ∀ s, I 0 s → Lp Fuel s 0 = run f fin s p := by
  have key : ∀ (d k i : Nat) (s : σ), p.length - i = d → d < k → i ≤ p.length → I i s → Lp k s (i : Int) = run f fin s (p.drop i) := by
    intro d
    induction d with
    | zero =>
      intro k i s hd hk hi hI
      obtain ⟨k, rfl⟩ : ∃ q, k = q + 1 := ⟨k - 1, by omega⟩
      have : i = p.length := by omega
      subst this
      rw [hz _ _ hI, List.drop_length]
      rfl
    | succ d ih =>
      intro k i s hd hk hi hI
      obtain ⟨k, rfl⟩ : ∃ q, k = q + 1 := ⟨k - 1, by omega⟩
      have hlt : i < p.length := by omega
      obtain ⟨h1, h2⟩ := hs k s i hlt hI
      rw [h1, List.drop_eq_getElem_cons hlt]
      unfold run
      cases h : f s p[i] with
      | inl r => rfl
      | inr s' => exact ih k (i + 1) s' (by omega) (by omega) (by omega) (h2 s' h)
  intro s hI
  have := key p.length Fuel 0 s (by omega) (fuel_gt (by omega)) (by omega) hI
  simpa using this
theorem all_loop {α : Type} {p : List α} {P : α → Prop} [DecidablePred P] (Lp : Nat → Int → Option Bool)
    (hz : ∀ k, Lp (k + 1) (p.length : Int) = some true)
    (hs : ∀ k (i : Nat) (h : i < p.length), Lp (k + 1) (i : Int) = if P p[i] then Lp k ((i + 1 : Nat) : Int) else some false)
    (hp : p.length < 1000000000000) : Lp Fuel 0 = some (decide (∀ x ∈ p, P x)) := by
  rw [run_loop (p := p) (σ := Unit) (fun k _ i => Lp k i) (fun _ x => if P x then .inr () else .inl (some false)) (fun _ => some true) (fun _ _ => True) (fun k _ _ => hz k) (fun k _ i h _ => ⟨by
    show Lp _ _ = _
    rw [hs k i h]
    split <;> rfl, fun _ _ => trivial⟩) hp () trivial]
  clear hz hs hp Lp
  induction p with
  | nil => simp [run]
  | cons x p ih =>
    unfold run
    by_cases h : P x
    · simp only [h, if_true, ih]
      simp [h]
    · simp [h]
end Go.Vk
