/- Draws: they always answer. -/
import Derived.Test.YtgpfgjlmjodcaaaPD
namespace Go.Vk
theorem and255 (x : Int) : 0 ≤ ibits .and .i64 x 255 ∧ ibits .and .i64 x 255 ≤ 255 := by
  unfold ibits
  show 0 ≤ IntKind.i64.wrap ((BitVec.ofInt 64 x &&& BitVec.ofInt 64 255).toNat : Int) ∧ IntKind.i64.wrap ((BitVec.ofInt 64 x &&& BitVec.ofInt 64 255).toNat : Int) ≤ 255
  have h : (BitVec.ofInt 64 x &&& BitVec.ofInt 64 255).toNat ≤ 255 := by
    rw [BitVec.toNat_and]
    exact Nat.and_le_right
  rw [wrap_nat (by omega)]
  omega
def Cur (p : List Int) (c : Tspec_l1Cur) : Prop := 0 ≤ c.i_ ∧ c.i_ ≤ p.length
def Dr {α : Type} (p : List Int) (op : Tspec_l1Cur → Option (α × Tspec_l1Cur)) (Q : α → Prop) : Prop := ∀ c, Cur p c → ∃ v c', op c = some (v, c') ∧ Cur p c' ∧ Q v
section
variable {p : List Int} (hp : p.length ≤ 1048576)
include hp
theorem dr_byte : Dr p (spec_l1Byte p) (fun v => 0 ≤ v ∧ v ≤ 255) := fun c ⟨h0, h1⟩ => by
  unfold spec_l1Byte
  by_cases h : c.i_ < p.length
  · rw [if_pos (by simpa using h)]
    obtain ⟨i, hi⟩ : ∃ i : Nat, c.i_ = i := ⟨c.i_.toNat, by omega⟩
    rw [hi, idx_lt (show i < p.length by omega)]
    refine ⟨_, _, rfl, ⟨?_, ?_⟩, and255 _⟩
    · show 0 ≤ IntKind.i64.wrap ((i : Int) + 1)
      rw [wrap_id (by omega) (by omega)]; omega
    · show IntKind.i64.wrap ((i : Int) + 1) ≤ _
      rw [wrap_id (by omega) (by omega)]; omega
  · rw [if_neg (by simpa using h)]
    exact ⟨_, _, rfl, ⟨h0, h1⟩, and255 _⟩
theorem dr_below {n : Int} (hn : 0 < n) : Dr p (fun c => spec_l1Below p c n) (fun v => 0 ≤ v ∧ v < n) := fun c hc => by
  show ∃ v c', spec_l1Below p c n = some (v, c') ∧ _
  unfold spec_l1Below
  have hr : ∀ x : Int, 0 ≤ x → ∃ r, rem x n = some r ∧ 0 ≤ r ∧ r < n := fun x hx => by
    unfold rem
    rw [if_neg (by omega), Int.tmod_eq_emod_of_nonneg hx]
    exact ⟨_, rfl, Int.emod_nonneg _ (by omega), Int.emod_lt_of_pos _ hn⟩
  rw [if_neg (by simp; omega)]
  split
  · obtain ⟨v, c1, e, hc1, hv⟩ := dr_byte hp c hc
    rw [e]
    obtain ⟨r, e2, h2⟩ := hr v hv.1
    simp only [Option.bind_some]
    rw [e2]
    exact ⟨_, _, rfl, hc1, h2⟩
  · obtain ⟨v1, c1, e1, hc1, hv1⟩ := dr_byte hp c hc
    obtain ⟨v2, c2, e2, hc2, hv2⟩ := dr_byte hp c1 hc1
    obtain ⟨v3, c3, e3, hc3, hv3⟩ := dr_byte hp c2 hc2
    obtain ⟨v4, c4, e4, hc4, hv4⟩ := dr_byte hp c3 hc3
    rw [e1]
    simp only [Option.bind_some]
    rw [e2]
    simp only [Option.bind_some]
    rw [e3]
    simp only [Option.bind_some]
    rw [e4]
    simp only [Option.bind_some]
    rw [wrap_id (n := v1 * 16777216) (by omega) (by omega), wrap_id (n := v2 * 65536) (by omega) (by omega), wrap_id (n := v1 * 16777216 + v2 * 65536) (by omega) (by omega), wrap_id (n := v3 * 256) (by omega) (by omega), wrap_id (n := v1 * 16777216 + v2 * 65536 + v3 * 256) (by omega) (by omega), wrap_id (n := v1 * 16777216 + v2 * 65536 + v3 * 256 + v4) (by omega) (by omega)]
    obtain ⟨r, e5, h5⟩ := hr (v1 * 16777216 + v2 * 65536 + v3 * 256 + v4) (by omega)
    rw [e5]
    exact ⟨_, _, rfl, hc4, h5⟩
theorem dr_pick {l : List Int} (hl : 0 < l.length) : Dr p (fun c => spec_l1PickInt p c l) (fun v => v ∈ l) := fun c hc => by
  show ∃ v c', spec_l1PickInt p c l = some (v, c') ∧ _
  unfold spec_l1PickInt
  obtain ⟨v, c1, e, hc1, h0, h1⟩ := dr_below hp (n := (l.length : Int)) (by omega) c hc
  have e' : spec_l1Below p c (l.length : Int) = some (v, c1) := e
  rw [e']
  obtain ⟨i, hi⟩ : ∃ i : Nat, v = i := ⟨v.toNat, by omega⟩
  simp only [Option.bind_some]
  rw [hi, idx_lt (show i < l.length by omega)]
  exact ⟨_, _, rfl, hc1, List.getElem_mem _⟩
theorem dr_once {n : Int} (hn : 0 < n) : Dr p (fun c => spec_l1Once p c n) (fun _ => True) := fun c hc => by
  show ∃ v c', spec_l1Once p c n = some (v, c') ∧ _
  unfold spec_l1Once
  obtain ⟨v, c1, e, hc1, h0, h1⟩ := dr_below hp hn c hc
  have e' : spec_l1Below p c n = some (v, c1) := e
  rw [e']
  exact ⟨_, _, rfl, hc1, trivial⟩
theorem dr_new : ∃ c, spec_l1New p = some c ∧ Cur p c := by
  unfold spec_l1New
  have key : ∀ (d k i : Nat) (h : Int), p.length - i = d → d < k → i ≤ p.length → ∃ c, spec_l1New_L1 p k h (i : Int) = some c ∧ Cur p c := by
    intro d
    induction d with
    | zero =>
      intro k i h hd hk hi
      obtain ⟨k, rfl⟩ : ∃ q, k = q + 1 := ⟨k - 1, by omega⟩
      refine ⟨⟨0, h⟩, ?_, ⟨Int.le_refl _, by show (0 : Int) ≤ _; omega⟩⟩
      show (if _ then _ else _) = _
      rw [if_neg (by simp; omega)]
    | succ d ih =>
      intro k i h hd hk hi
      obtain ⟨k, rfl⟩ : ∃ q, k = q + 1 := ⟨k - 1, by omega⟩
      unfold spec_l1New_L1
      split
      · rw [idx_lt (show i < p.length by omega)]
        simp only [Option.bind_some]
        rw [wrap_succ (by omega)]
        exact ih k (i + 1) _ (by omega) (by omega) (by omega)
      · exact ⟨⟨0, h⟩, rfl, ⟨Int.le_refl _, by show (0 : Int) ≤ _; omega⟩⟩
  exact key p.length Fuel 0 _ (by omega) (fuel_gt (by omega)) (by omega)
theorem dr_int : Dr p (spec_l27Int p) InR := fun c hc => by
  unfold spec_l27Int
  obtain ⟨v, c1, e, hc1, h0, h1⟩ := dr_below hp (n := 5000) (by omega) c hc
  have e' : spec_l1Below p c 5000 = some (v, c1) := e
  rw [e']
  simp only [Option.bind_some]
  obtain ⟨x, c2, e2, hc2, h2⟩ := dr_pick hp (l := [0, 1, -1, 63, 64, -64, -65, 1000000000, -1000000000, v]) (by simp) c1 hc1
  have e2' : spec_l1PickInt p c1 [0, 1, -1, 63, 64, -64, -65, 1000000000, -1000000000, v] = some (x, c2) := e2
  rw [e2']
  refine ⟨_, _, rfl, hc2, ?_⟩
  simp only [List.mem_cons, List.not_mem_nil, or_false] at h2
  show -1000000000 ≤ x ∧ x ≤ 1000000000
  omega
theorem dr_ints : Dr p (spec_l27Ints p) (fun l => l.length ≤ 5 ∧ ∀ x ∈ l, InR x) := fun c hc => by
  unfold spec_l27Ints
  obtain ⟨n, c1, e, hc1, h0, h1⟩ := dr_below hp (n := 5) (by omega) c hc
  have e' : spec_l1Below p c 5 = some (n, c1) := e
  rw [e']
  simp only [Option.bind_some]
  have key : ∀ (d k i : Nat) (c : Tspec_l1Cur) (l : List Int), 5 - i = d → d < k → i ≤ 5 → l.length ≤ i → Cur p c → (∀ x ∈ l, InR x) → ∃ v c', spec_l27Ints_L1 (n, c1) p k c.i_ c.h_ l (i : Int) = some (v, c') ∧ Cur p c' ∧ v.length ≤ 5 ∧ ∀ x ∈ v, InR x := by
    intro d
    induction d with
    | zero =>
      intro k i c l hd hk hi hl hc hx
      obtain ⟨k, rfl⟩ : ∃ q, k = q + 1 := ⟨k - 1, by omega⟩
      unfold spec_l27Ints_L1
      rw [if_neg (by simp; omega)]
      exact ⟨_, _, rfl, hc, by omega, hx⟩
    | succ d ih =>
      intro k i c l hd hk hi hl hc hx
      obtain ⟨k, rfl⟩ : ∃ q, k = q + 1 := ⟨k - 1, by omega⟩
      unfold spec_l27Ints_L1
      split
      · obtain ⟨x, c2, e2, hc2, h2⟩ := dr_int hp c hc
        have e2' : spec_l27Int p ⟨c.i_, c.h_⟩ = some (x, c2) := e2
        rw [e2']
        simp only [Option.bind_some]
        rw [app_eq (by simp; omega)]
        simp only [Option.bind_some]
        rw [wrap_succ (by omega)]
        exact ih k (i + 1) c2 _ (by omega) (by omega) (by omega) (by simp; omega) hc2 (fun y hy => by
          rcases List.mem_append.1 hy with hy | hy
          · exact hx y hy
          · rw [List.mem_singleton.1 hy]; exact h2)
      · exact ⟨_, _, rfl, hc, by omega, hx⟩
  exact key 5 Fuel 0 c1 [] (by omega) (fuel_gt (by omega)) (by omega) (by simp) hc1 (by simp)
theorem dr_putInt : ∃ x, spec_DrawPutInt p = some x ∧ I64 x := by
  unfold spec_DrawPutInt
  obtain ⟨c, e, hc⟩ := dr_new hp
  obtain ⟨x1, c1, e1, hc1, h1⟩ := dr_int hp c hc
  obtain ⟨x2, c2, e2, hc2, h2⟩ := dr_int hp c1 hc1
  obtain ⟨x, c3, e3, _, h3⟩ := dr_pick hp (l := [x1, x2, 1000000001, -1000000001, 9223372036854775807, -9223372036854775808]) (by simp) c2 hc2
  have e3' : spec_l1PickInt p c2 [x1, x2, 1000000001, -1000000001, 9223372036854775807, -9223372036854775808] = some (x, c3) := e3
  rw [e]
  simp only [Option.bind_some]
  rw [e1]
  simp only [Option.bind_some]
  rw [e2]
  simp only [Option.bind_some]
  rw [e3']
  refine ⟨_, rfl, ?_⟩
  obtain ⟨a1, a2⟩ := h1
  obtain ⟨b1, b2⟩ := h2
  simp only [List.mem_cons, List.not_mem_nil, or_false] at h3
  show -9223372036854775808 ≤ x ∧ x ≤ 9223372036854775807
  omega
theorem dr_putInts : ∃ l, spec_DrawPutInts p = some l ∧ l.length ≤ 6 ∧ ∀ x ∈ l, I64 x := by
  unfold spec_DrawPutInts
  obtain ⟨c, e, hc⟩ := dr_new hp
  obtain ⟨l, c1, e1, hc1, h1, h1'⟩ := dr_ints hp c hc
  obtain ⟨b, c2, e2, hc2, _⟩ := dr_once hp (n := 6) (by omega) c1 hc1
  have e2' : spec_l1Once p c1 6 = some (b, c2) := e2
  have hl : ∀ x ∈ l, I64 x := fun x hx => by
    obtain ⟨a, b⟩ := h1' x hx
    exact ⟨by omega, by omega⟩
  rw [e]
  simp only [Option.bind_some]
  rw [e1]
  simp only [Option.bind_some]
  rw [e2']
  simp only [Option.bind_some]
  cases b
  · exact ⟨_, rfl, by omega, hl⟩
  · obtain ⟨x, c3, e3, _, h3⟩ := dr_pick hp (l := [1000000001, -9223372036854775808]) (by simp) c2 hc2
    have e3' : spec_l1PickInt p c2 [1000000001, -9223372036854775808] = some (x, c3) := e3
    simp only [if_true]
    rw [e3']
    simp only [Option.bind_some]
    rw [app_eq (by simp; omega)]
    refine ⟨_, rfl, by simp; omega, fun y hy => ?_⟩
    rcases List.mem_append.1 hy with hy | hy
    · exact hl y hy
    · rw [List.mem_singleton.1 hy]
      simp only [List.mem_cons, List.not_mem_nil, or_false] at h3
      show -9223372036854775808 ≤ x ∧ x ≤ 9223372036854775807
      omega
end
end Go.Vk
