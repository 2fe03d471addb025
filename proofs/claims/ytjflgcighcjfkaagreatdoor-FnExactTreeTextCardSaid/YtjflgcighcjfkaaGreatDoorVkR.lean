/- Loops over a list, as recursion over the list. No program in sight. -/
import Derived.Test.YtjflgcighcjfkaaGreatDoorVkQ
namespace Go.Vk
/-- a loop over a list: each element either ends it or gives the next state -/
def run {α σ ρ : Type} (f : σ → α → Option ρ ⊕ σ) (fin : σ → Option ρ) : σ → List α → Option ρ
  | s, [] => fin s
  | s, x :: xs => match f s x with
    | .inl r => r
    | .inr s' => run f fin s' xs
theorem run_loop {α σ ρ : Type} {p : List α} (Lp : Nat → σ → Int → Option ρ) (f : σ → α → Option ρ ⊕ σ) (fin : σ → Option ρ) (I : Nat → σ → Prop)
    (hz : ∀ k s, I p.length s → Lp (k + 1) s (p.length : Int) = fin s)
    (hs : ∀ k s (i : Nat) (h : i < p.length), I i s → (Lp (k + 1) s (i : Int) = match f s p[i] with | .inl r => r | .inr s' => Lp k s' ((i + 1 : Nat) : Int)) ∧ ∀ s', f s p[i] = .inr s' → I (i + 1) s')
    (hp : p.length < 1000000000000) : ∀ s, I 0 s → Lp Fuel s 0 = run f fin s p := by
  have key : ∀ (d k i : Nat) (s : σ), p.length - i = d → d < k → i ≤ p.length → I i s → Lp k s (i : Int) = run f fin s (p.drop i) := by
    intro d
    induction d with
    | zero =>
      intro k i s hd hk hi hI
      obtain ⟨k, rfl⟩ : ∃ q, k = q + 1 := ⟨k - 1, by omega⟩
      have : i = p.length := by omega
      subst this
      rw [hz _ _ hI, List.drop_length]
      rfl
    | succ d ih =>
      intro k i s hd hk hi hI
      obtain ⟨k, rfl⟩ : ∃ q, k = q + 1 := ⟨k - 1, by omega⟩
      have hlt : i < p.length := by omega
      obtain ⟨h1, h2⟩ := hs k s i hlt hI
      rw [h1, List.drop_eq_getElem_cons hlt]
      unfold run
      cases h : f s p[i] with
      | inl r => rfl
      | inr s' => exact ih k (i + 1) s' (by omega) (by omega) (by omega) (h2 s' h)
  intro s hI
  have := key p.length Fuel 0 s (by omega) (fuel_gt (by omega)) (by omega) hI
  simpa using this
theorem all_loop {α : Type} {p : List α} {P : α → Prop} [DecidablePred P] (Lp : Nat → Int → Option Bool)
    (hz : ∀ k, Lp (k + 1) (p.length : Int) = some true)
    (hs : ∀ k (i : Nat) (h : i < p.length), Lp (k + 1) (i : Int) = if P p[i] then Lp k ((i + 1 : Nat) : Int) else some false)
    (hp : p.length < 1000000000000) : Lp Fuel 0 = some (decide (∀ x ∈ p, P x)) := by
  rw [run_loop (p := p) (σ := Unit) (fun k _ i => Lp k i) (fun _ x => if P x then .inr () else .inl (some false)) (fun _ => some true) (fun _ _ => True) (fun k _ _ => hz k) (fun k _ i h _ => ⟨by
    show Lp _ _ = _
    rw [hs k i h]
    split <;> rfl, fun _ _ => trivial⟩) hp () trivial]
  clear hz hs hp Lp
  induction p with
  | nil => simp [run]
  | cons x p ih =>
    unfold run
    by_cases h : P x
    · simp only [h, if_true, ih]
      simp [h]
    · simp [h]
theorem all_loop2 {α ρ : Type} {p : List α} {P : α → Prop} [DecidablePred P] {fin bad : Option ρ} (Lp : Nat → Int → Option ρ)
    (hz : ∀ k, Lp (k + 1) (p.length : Int) = fin)
    (hs : ∀ k (i : Nat) (h : i < p.length), Lp (k + 1) (i : Int) = if P p[i] then Lp k ((i + 1 : Nat) : Int) else bad)
    (hp : p.length < 1000000000000) : Lp Fuel 0 = if ∀ x ∈ p, P x then fin else bad := by
  rw [run_loop (p := p) (σ := Unit) (fun k _ i => Lp k i) (fun _ x => if P x then .inr () else .inl bad) (fun _ => fin) (fun _ _ => True) (fun k _ _ => hz k) (fun k _ i h _ => ⟨by
    show Lp _ _ = _
    rw [hs k i h]
    split <;> rfl, fun _ _ => trivial⟩) hp () trivial]
  clear hz hs hp Lp
  induction p with
  | nil => simp [run]
  | cons x p ih =>
    unfold run
    by_cases h : P x
    · simp only [h, if_true, ih]
      simp [h]
    · simp [h]
/-- a loop that appends -/
theorem app_loop {α σ ρ : Type} {p : List α} (B : α → List Int) (u : σ → α → σ) (Lp : Nat → List Int → σ → Int → Option ρ) (fin : List Int → σ → Option ρ)
    (hz : ∀ k l q, Lp (k + 1) l q (p.length : Int) = fin l q)
    (hs : ∀ k l q (i : Nat) (h : i < p.length), l.length + (B p[i]).length ≤ 800000000 → Lp (k + 1) l q (i : Int) = Lp k (l ++ B p[i]) (u q p[i]) ((i + 1 : Nat) : Int))
    (hp : p.length < 1000000000000) (l : List Int) (q : σ) (hl : l.length + (p.flatMap B).length ≤ 800000000) : Lp Fuel l q 0 = fin (l ++ p.flatMap B) (p.foldl u q) := by
  have key : ∀ (d k i : Nat) (l : List Int) (q : σ), p.length - i = d → d < k → i ≤ p.length → l.length + ((p.drop i).flatMap B).length ≤ 800000000 → Lp k l q (i : Int) = fin (l ++ (p.drop i).flatMap B) ((p.drop i).foldl u q) := by
    intro d
    induction d with
    | zero =>
      intro k i l q hd hk hi hl
      obtain ⟨k, rfl⟩ : ∃ q, k = q + 1 := ⟨k - 1, by omega⟩
      have : i = p.length := by omega
      subst this
      rw [hz, List.drop_length]
      simp
    | succ d ih =>
      intro k i l q hd hk hi hl
      obtain ⟨k, rfl⟩ : ∃ q, k = q + 1 := ⟨k - 1, by omega⟩
      have hlt : i < p.length := by omega
      rw [List.drop_eq_getElem_cons hlt] at hl ⊢
      simp only [List.flatMap_cons, List.length_append, List.foldl_cons] at hl ⊢
      rw [hs k l q i hlt (by omega), ih k (i + 1) _ _ (by omega) (by omega) (by omega) (by simp only [List.length_append]; omega), List.append_assoc]
  have := key p.length Fuel 0 l q (by omega) (fuel_gt (by omega)) (by omega) (by simpa using hl)
  simpa using this
theorem foldl_bad {α : Type} {P : α → Prop} [DecidablePred P] (p : List α) (q : Bool) : p.foldl (fun q x => q || decide (¬ P x)) q = (q || decide (¬ ∀ x ∈ p, P x)) := by
  induction p generalizing q with
  | nil => simp
  | cons x p ih =>
    rw [List.foldl_cons, ih]
    by_cases h : P x <;> simp [h]
end Go.Vk
