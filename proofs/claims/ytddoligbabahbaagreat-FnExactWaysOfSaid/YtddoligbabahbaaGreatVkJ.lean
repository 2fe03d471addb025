/- Joins of ways. -/
import Derived.Test.YtddoligbabahbaaGreatVkI
namespace Go.Vk
open Go.RowKit
theorem c_join1 {α0 : Type} {P : Program} {n : Nat} {C : World → Prop} {E : Env} {Q : Exit → Act → World → Prop} {x y : Code} (Cf : α0 → World → Prop) (Ef : α0 → Env) (g : α0 → Prop)
    (hy : ∀ s0, (g s0) → CW P n (Cf s0) (Ef s0) Q y) (hx : (∀ s0, (g s0) → XW n (Cf s0) (Ef s0) (QS P y Q) .normal) → CW P n C E (QS P y Q) x) : CW P n C E Q (.seq x y) :=
  c_seq (hx (fun s0 H => x_qs (hy s0 H)))
end Go.Vk
