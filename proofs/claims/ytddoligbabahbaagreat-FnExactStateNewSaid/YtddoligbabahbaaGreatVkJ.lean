/- Joins of ways. -/
import Derived.Test.YtddoligbabahbaaGreatVkI
namespace Go.Vk
open Go.RowKit
theorem c_join8 {α0 α1 α2 α3 α4 α5 α6 α7 : Type} {P : Program} {n : Nat} {C : World → Prop} {E : Env} {Q : Exit → Act → World → Prop} {x y : Code} (Cf : α0 → α1 → α2 → α3 → α4 → α5 → α6 → α7 → World → Prop) (Ef : α0 → α1 → α2 → α3 → α4 → α5 → α6 → α7 → Env) (g : α0 → α1 → α2 → α3 → α4 → α5 → α6 → α7 → Prop)
    (hy : ∀ s0 s1 s2 s3 s4 s5 s6 s7, (g s0 s1 s2 s3 s4 s5 s6 s7) → CW P n (Cf s0 s1 s2 s3 s4 s5 s6 s7) (Ef s0 s1 s2 s3 s4 s5 s6 s7) Q y) (hx : (∀ s0 s1 s2 s3 s4 s5 s6 s7, (g s0 s1 s2 s3 s4 s5 s6 s7) → XW n (Cf s0 s1 s2 s3 s4 s5 s6 s7) (Ef s0 s1 s2 s3 s4 s5 s6 s7) (QS P y Q) .normal) → CW P n C E (QS P y Q) x) : CW P n C E Q (.seq x y) :=
  c_seq (hx (fun s0 s1 s2 s3 s4 s5 s6 s7 H => x_qs (hy s0 s1 s2 s3 s4 s5 s6 s7 H)))
end Go.Vk
