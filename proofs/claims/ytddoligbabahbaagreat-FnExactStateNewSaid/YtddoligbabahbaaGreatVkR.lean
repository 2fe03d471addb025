/- Loops over a list, as recursion over the list. No program in sight. -/
import Derived.Test.YtddoligbabahbaaGreatVkQ
namespace Go.Vk
/-- a loop over a list: each element either ends it or gives the next state -/
def run {α σ ρ : Type} (f : σ → α → Option ρ ⊕ σ) (fin : σ → Option ρ) : σ → List α → Option ρ
  | s, [] => fin s
  | s, x :: xs => match f s x with
    | .inl r => r
    | .inr s' => run f fin s' xs
end Go.Vk
