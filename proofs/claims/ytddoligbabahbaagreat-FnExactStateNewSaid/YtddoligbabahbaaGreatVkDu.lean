/- A slice whose elements were handed over, and that is read on. A literal that holds what is borrowed. -/
import Derived.Test.YtddoligbabahbaaGreatVkBr
namespace Go.Vk
open Go.RowKit
variable {P : Program} {n : Nat} {C : World → Prop} {E : Env} {m : Md} {l rest : List Oper} {w0 w : World} {M : List Nat} {L : List Res} {Q : Exit → Act → World → Prop}
end Go.Vk
