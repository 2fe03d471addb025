/- Draws: they always answer. -/
import Derived.Test.YtejkhekgflacaaaRF
import Derived.Test.YtejkhekgflacaaaVkR
namespace Go.Vk
theorem and255 (x : Int) : 0 ≤ ibits .and .i64 x 255 ∧ ibits .and .i64 x 255 ≤ 255 := by
  unfold ibits
  show 0 ≤ IntKind.i64.wrap ((BitVec.ofInt 64 x &&& BitVec.ofInt 64 255).toNat : Int) ∧ IntKind.i64.wrap ((BitVec.ofInt 64 x &&& BitVec.ofInt 64 255).toNat : Int) ≤ 255
  have h : (BitVec.ofInt 64 x &&& BitVec.ofInt 64 255).toNat ≤ 255 := by
    rw [BitVec.toNat_and]
    exact Nat.and_le_right
  rw [wrap_nat (by omega)]
  omega
def Cur (p : List Int) (c : Tspec_l1Cur) : Prop := 0 ≤ c.i_ ∧ c.i_ ≤ p.length
def Dr {α : Type} (p : List Int) (op : Tspec_l1Cur → Option (α × Tspec_l1Cur)) (Q : α → Prop) : Prop := ∀ c, Cur p c → ∃ v c', op c = some (v, c') ∧ Cur p c' ∧ Q v
section
variable {p : List Int} (hp : p.length ≤ 1048576)
include hp
theorem dr_byte : Dr p (spec_l1Byte p) (fun v => 0 ≤ v ∧ v ≤ 255) := fun c ⟨h0, h1⟩ => by
  unfold spec_l1Byte
  by_cases h : c.i_ < p.length
  · rw [if_pos (by simpa using h)]
    obtain ⟨i, hi⟩ : ∃ i : Nat, c.i_ = i := ⟨c.i_.toNat, by omega⟩
    rw [hi, idx_lt (show i < p.length by omega)]
    refine ⟨_, _, rfl, ⟨?_, ?_⟩, and255 _⟩
    · show 0 ≤ IntKind.i64.wrap ((i : Int) + 1)
      rw [wrap_id (by omega) (by omega)]; omega
    · show IntKind.i64.wrap ((i : Int) + 1) ≤ _
      rw [wrap_id (by omega) (by omega)]; omega
  · rw [if_neg (by simpa using h)]
    exact ⟨_, _, rfl, ⟨h0, h1⟩, and255 _⟩
theorem dr_below {n : Int} (hn : 0 < n) : Dr p (fun c => spec_l1Below p c n) (fun v => 0 ≤ v ∧ v < n) := fun c hc => by
  show ∃ v c', spec_l1Below p c n = some (v, c') ∧ _
  unfold spec_l1Below
  have hr : ∀ x : Int, 0 ≤ x → ∃ r, rem x n = some r ∧ 0 ≤ r ∧ r < n := fun x hx => by
    unfold rem
    rw [if_neg (by omega), Int.tmod_eq_emod_of_nonneg hx]
    exact ⟨_, rfl, Int.emod_nonneg _ (by omega), Int.emod_lt_of_pos _ hn⟩
  rw [if_neg (by simp; omega)]
  split
  · obtain ⟨v, c1, e, hc1, hv⟩ := dr_byte hp c hc
    rw [e]
    obtain ⟨r, e2, h2⟩ := hr v hv.1
    simp only [Option.bind_some]
    rw [e2]
    exact ⟨_, _, rfl, hc1, h2⟩
  · obtain ⟨v1, c1, e1, hc1, hv1⟩ := dr_byte hp c hc
    obtain ⟨v2, c2, e2, hc2, hv2⟩ := dr_byte hp c1 hc1
    obtain ⟨v3, c3, e3, hc3, hv3⟩ := dr_byte hp c2 hc2
    obtain ⟨v4, c4, e4, hc4, hv4⟩ := dr_byte hp c3 hc3
    rw [e1]
    simp only [Option.bind_some]
    rw [e2]
    simp only [Option.bind_some]
    rw [e3]
    simp only [Option.bind_some]
    rw [e4]
    simp only [Option.bind_some]
    rw [wrap_id (n := v1 * 16777216) (by omega) (by omega), wrap_id (n := v2 * 65536) (by omega) (by omega), wrap_id (n := v1 * 16777216 + v2 * 65536) (by omega) (by omega), wrap_id (n := v3 * 256) (by omega) (by omega), wrap_id (n := v1 * 16777216 + v2 * 65536 + v3 * 256) (by omega) (by omega), wrap_id (n := v1 * 16777216 + v2 * 65536 + v3 * 256 + v4) (by omega) (by omega)]
    obtain ⟨r, e5, h5⟩ := hr (v1 * 16777216 + v2 * 65536 + v3 * 256 + v4) (by omega)
    rw [e5]
    exact ⟨_, _, rfl, hc4, h5⟩
theorem dr_pick {l : List Int} (hl : 0 < l.length) : Dr p (fun c => spec_l1PickInt p c l) (fun v => v ∈ l) := fun c hc => by
  show ∃ v c', spec_l1PickInt p c l = some (v, c') ∧ _
  unfold spec_l1PickInt
  obtain ⟨v, c1, e, hc1, h0, h1⟩ := dr_below hp (n := (l.length : Int)) (by omega) c hc
  have e' : spec_l1Below p c (l.length : Int) = some (v, c1) := e
  rw [e']
  obtain ⟨i, hi⟩ : ∃ i : Nat, v = i := ⟨v.toNat, by omega⟩
  simp only [Option.bind_some]
  rw [hi, idx_lt (show i < l.length by omega)]
  exact ⟨_, _, rfl, hc1, List.getElem_mem _⟩
theorem dr_new : ∃ c, spec_l1New p = some c ∧ Cur p c := by
  unfold spec_l1New
  have key : ∀ (d k i : Nat) (h : Int), p.length - i = d → d < k → i ≤ p.length → ∃ c, spec_l1New_L1 p k h (i : Int) = some c ∧ Cur p c := by
    intro d
    induction d with
    | zero =>
      intro k i h hd hk hi
      obtain ⟨k, rfl⟩ : ∃ q, k = q + 1 := ⟨k - 1, by omega⟩
      refine ⟨⟨0, h⟩, ?_, ⟨Int.le_refl _, by show (0 : Int) ≤ _; omega⟩⟩
      show (if _ then _ else _) = _
      rw [if_neg (by simp; omega)]
    | succ d ih =>
      intro k i h hd hk hi
      obtain ⟨k, rfl⟩ : ∃ q, k = q + 1 := ⟨k - 1, by omega⟩
      unfold spec_l1New_L1
      split
      · rw [idx_lt (show i < p.length by omega)]
        simp only [Option.bind_some]
        rw [wrap_succ (by omega)]
        exact ih k (i + 1) _ (by omega) (by omega) (by omega)
      · exact ⟨⟨0, h⟩, rfl, ⟨Int.le_refl _, by show (0 : Int) ≤ _; omega⟩⟩
  exact key p.length Fuel 0 _ (by omega) (fuel_gt (by omega)) (by omega)
end
end Go.Vk
