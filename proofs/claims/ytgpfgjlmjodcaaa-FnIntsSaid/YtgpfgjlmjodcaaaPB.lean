/- Lists of words and of numbers: copied, compared, marked. -/
import Derived.Test.YtgpfgjlmjodcaaaRF
import Derived.Test.YtgpfgjlmjodcaaaVkQ
import Derived.Test.YtgpfgjlmjodcaaaVkO
namespace Go.Vk
theorem toByteS_id {p : List Int} (hp : p.length ≤ 1048576) : laws_toByteS p = some p := by
  unfold laws_toByteS
  rw [mk_eq _ (by omega)]
  have := copy_loop (F := some) (g := id) (laws_toByteS_L1 p) (fun _ _ _ => rfl) (by omega) (fun _ _ => rfl) 0
  simpa using this
theorem toIntS_id {p : List Int} (hp : p.length ≤ 1048576) : laws_toIntS p = some p := by
  unfold laws_toIntS
  rw [mk_eq _ (by omega)]
  have := copy_loop (F := some) (g := id) (laws_toIntS_L1 p) (fun _ _ _ => rfl) (by omega) (fun _ _ => rfl) 0
  simpa using this
theorem eqByteS_self {p : List Int} (hp : p.length < 1000000000000) : laws_eqByteS p p = some true := by
  unfold laws_eqByteS
  rw [if_neg (by simp)]
  refine same_loop (p := p) (laws_eqByteS_L1 p p) (fun _ o => o) (fun k i => ?_) hp (fun _ _ _ => rfl)
  show (if _ then _ else _) = _
  cases h : idx p i with
  | none => rfl
  | some e => simp only [Option.bind_some, bne_self_eq_false, Bool.false_eq_true, if_false]
theorem eqIntS_self {p : List Int} (hp : p.length < 1000000000000) : laws_eqIntS p p = some true := by
  unfold laws_eqIntS
  rw [if_neg (by simp)]
  refine same_loop (p := p) (laws_eqIntS_L1 p p) (fun _ o => o) (fun k i => ?_) hp (fun _ _ _ => rfl)
  show (if _ then _ else _) = _
  cases h : idx p i with
  | none => rfl
  | some e => simp only [Option.bind_some, bne_self_eq_false, Bool.false_eq_true, if_false]
theorem sum_ones {α : Type} (p : List α) : (p.map fun _ => 1).sum = p.length := by induction p with | nil => rfl | cons x p ih => simp [ih]; omega
theorem marks_byte : ∀ x : Int, Marks (fun _ m => some (IntKind.i64.wrap (m + 1), IntKind.u8.wrap m)) (fun e m => if (e != IntKind.u8.wrap m) then some (-1) else some (IntKind.i64.wrap (m + 1))) 1 x := fun x m hm =>
  ⟨m + 1, _, by show some (IntKind.i64.wrap ((m : Int) + 1), _) = _; rw [wrap_succ (by omega)], by show (if _ then _ else some (IntKind.i64.wrap ((m : Int) + 1))) = _; rw [wrap_succ (by omega), if_neg (by simp)], by omega, by omega⟩
theorem markByteS_ok {p : List Int} (hp : p.length < 1000000000000) : ∀ m : Nat, m + p.length < 4611686018427387904 →
    ∃ (m' : Nat) (p' : List Int), laws_markByteS p (m : Int) = some ((m' : Int), p') ∧ laws_heldByteS p' (m : Int) = some (m' : Int) ∧ m ≤ m' ∧ m' ≤ m + p.length ∧ p'.length = p.length := by
  intro m hm
  have := marks_loop (p := p) (Mk := fun _ m => some (IntKind.i64.wrap (m + 1), IntKind.u8.wrap m)) (Hd := fun e m => if (e != IntKind.u8.wrap m) then some (-1) else some (IntKind.i64.wrap (m + 1))) (c := fun _ => 1) (B := p.length) (laws_markByteS_L1 p) (fun q => laws_heldByteS_L1 q) (fun _ _ _ _ => rfl) (fun q k m i e y h0 h1 h2 h3 => by
    show (if _ then (idx q i).bind _ else _) = _
    rw [if_pos h0, h1]
    simp only [Option.bind_some]
    revert h2
    split
    · intro h2; simp only [Option.some.injEq] at h2; omega
    · intro h2; rw [Option.some.inj h2]) (fun q k m i h0 => if_neg h0) hp (fun x _ => marks_byte x) (by rw [sum_ones]; omega) m (by omega)
  rwa [sum_ones] at this
theorem marks_int : ∀ x : Int, Marks (fun _ m => some (IntKind.i64.wrap (m + 1), m)) (fun e m => if (e != m) then some (-1) else some (IntKind.i64.wrap (m + 1))) 1 x := fun x m hm =>
  ⟨m + 1, _, by show some (IntKind.i64.wrap ((m : Int) + 1), _) = _; rw [wrap_succ (by omega)], by show (if _ then _ else some (IntKind.i64.wrap ((m : Int) + 1))) = _; rw [wrap_succ (by omega), if_neg (by simp)], by omega, by omega⟩
theorem markIntS_ok {p : List Int} (hp : p.length < 1000000000000) : ∀ m : Nat, m + p.length < 4611686018427387904 →
    ∃ (m' : Nat) (p' : List Int), laws_markIntS p (m : Int) = some ((m' : Int), p') ∧ laws_heldIntS p' (m : Int) = some (m' : Int) ∧ m ≤ m' ∧ m' ≤ m + p.length ∧ p'.length = p.length := by
  intro m hm
  have := marks_loop (p := p) (Mk := fun _ m => some (IntKind.i64.wrap (m + 1), m)) (Hd := fun e m => if (e != m) then some (-1) else some (IntKind.i64.wrap (m + 1))) (c := fun _ => 1) (B := p.length) (laws_markIntS_L1 p) (fun q => laws_heldIntS_L1 q) (fun _ _ _ _ => rfl) (fun q k m i e y h0 h1 h2 h3 => by
    show (if _ then (idx q i).bind _ else _) = _
    rw [if_pos h0, h1]
    simp only [Option.bind_some]
    revert h2
    split
    · intro h2; simp only [Option.some.injEq] at h2; omega
    · intro h2; rw [Option.some.inj h2]) (fun q k m i h0 => if_neg h0) hp (fun x _ => marks_int x) (by rw [sum_ones]; omega) m (by omega)
  rwa [sum_ones] at this
end Go.Vk
