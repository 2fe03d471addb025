/- Two texts of data, walked side by side. -/
import Derived.Test.YtddoligbabahbaaGreatVkTo
namespace Go.Vk
/-- both answer, alike, and as said -/
def Both {ρ : Type} (a b : Option ρ) (Q : ρ → Prop) : Prop := ∃ m, a = some m ∧ b = some m ∧ Q m
theorem Both.mono {ρ : Type} {a b : Option ρ} {Q R : ρ → Prop} (h : Both a b Q) (f : ∀ m, Q m → R m) : Both a b R := by
  obtain ⟨m, h1, h2, h3⟩ := h
  exact ⟨m, h1, h2, f m h3⟩
theorem Both.bind {α ρ : Type} {a b : Option α} {Q : α → Prop} {f g : α → Option ρ} {R : ρ → Prop} (h : Both a b Q) (k : ∀ m, Q m → Both (f m) (g m) R) : Both (a.bind f) (b.bind g) R := by
  obtain ⟨m, h1, h2, h3⟩ := h
  rw [h1, h2]
  exact k m h3
end Go.Vk
