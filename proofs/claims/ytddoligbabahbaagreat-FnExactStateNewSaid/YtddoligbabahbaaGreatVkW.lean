/- Structs compared, min, maps that the call makes. -/
import Derived.Test.YtddoligbabahbaaGreatVkT
import Derived.Laws.StructEq
import Derived.ChangeKeysEq
import Derived.MapKept
namespace Go.Vk
open Go.RowKit
section
variable {P : Program} {n : Nat} {S C : World → Prop} {E : Env} {m : Md} {l rest : List Oper} {w0 : World} {M : List Nat} {L : List Res}
theorem rd_isNone {α : Type} {e : Enc α} {w : World} {X : List Nat} {xs : List α} {a : Option Addr} {nn c : Nat} (h : rdList e w X xs [.slice a nn c]) (ha : a.isNone = true) : xs = [] := by
  obtain ⟨a', c', hv, _, _, hel⟩ := h
  simp only [List.cons.injEq, Value.slice.injEq, and_true] at hv
  obtain ⟨rfl, _, _⟩ := hv
  by_cases hne : xs = []
  · exact hne
  · obtain ⟨p, rfl, _⟩ := hel hne
    cases ha
/-! ### maps -/
variable {κ : Type}
section
variable [DecidableEq κ]
end
def ents (f : κ → List Value) : Nat → List (κ × Int) → List MapEntry
  | _, [] => []
  | i, (k, v) :: es => { key := .agg (f k).toArray, val := .int .i64 v, born := i } :: ents f (i + 1) es
def Res.map (f : κ → List Value) (b : Nat) (es : List (κ × Int)) : Res :=
  ⟨[b], fun w => w.heap[b]? = some (.map (ents f 0 es).toArray es.length), fun _ _ h ok => (h b (by simp)).trans ok⟩
section
variable [DecidableEq κ]
end
section
variable [DecidableEq κ]
end
end
end Go.Vk
