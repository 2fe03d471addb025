/- Elements deleted from a slice of the call's own: what stands behind moved up, the rest cleared. -/
import Derived.Test.YtddoligbabahbaaGreatVkW
namespace Go.Vk
open Go.RowKit
section
variable {α : Type} {e : Enc α} {f : α → List Value}
end
section
variable {P : Program} {n : Nat} {C : World → Prop} {E : Env} {m : Md} {l rest : List Oper} {w0 : World} {M : List Nat} {L : List Res}
end
end Go.Vk
