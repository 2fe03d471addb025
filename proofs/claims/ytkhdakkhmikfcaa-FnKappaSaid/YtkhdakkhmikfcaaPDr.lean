/- Draws: they always answer. -/
import Derived.Test.YtkhdakkhmikfcaaRF
import Derived.Test.YtkhdakkhmikfcaaVkTo
namespace Go.Vk
def Cur (p : List Int) (c : Tspec_l1Cur) : Prop := 0 ≤ c.i_ ∧ c.i_ ≤ p.length
section
variable {p : List Int} {c : Tspec_l1Cur} (hp : p.length ≤ 1048576) (hc : Cur p c)
include hp hc
theorem tot_byte : Tot (spec_l1Byte p c) (fun v => (0 ≤ v.1 ∧ v.1 ≤ 255) ∧ Cur p v.2) := by
  obtain ⟨h0, h1⟩ := hc
  unfold spec_l1Byte
  refine tot_if (fun h => ?_) (fun h => tot_some ⟨and255 _, h0, h1⟩)
  have h := of_decide_eq_true h
  refine (tot_idx ⟨h0, h⟩).bind fun v hv => tot_some ⟨and255 _, ?_, ?_⟩
  · show 0 ≤ IntKind.i64.wrap (c.i_ + 1)
    rw [wrap_id (by omega) (by omega)]; omega
  · show IntKind.i64.wrap (c.i_ + 1) ≤ _
    rw [wrap_id (by omega) (by omega)]; omega
theorem tot_below (n : Int) : Tot (spec_l1Below p c n) (fun v => (0 ≤ v.1 ∧ (v.1 < n ∨ (n ≤ 0 ∧ v.1 = 0))) ∧ Cur p v.2) := by
  unfold spec_l1Below
  refine tot_if (fun h => tot_some ⟨⟨Int.le_refl _, .inr ⟨of_decide_eq_true h, rfl⟩⟩, hc⟩) (fun h => ?_)
  have h : 0 < n := by simpa using h
  refine tot_if (fun _ => ?_) (fun _ => ?_)
  · exact (tot_byte hp hc).bind fun v hv => (tot_rem hv.1.1 h).bind fun r hr => tot_some ⟨⟨hr.1, .inl hr.2⟩, hv.2⟩
  · refine (tot_byte hp hc).bind fun v1 h1 => (tot_byte hp h1.2).bind fun v2 h2 => (tot_byte hp h2.2).bind fun v3 h3 => (tot_byte hp h3.2).bind fun v4 h4 => ?_
    have a1 := h1.1; have a2 := h2.1; have a3 := h3.1; have a4 := h4.1
    rw [wrap_id (n := v1.1 * 16777216) (by omega) (by omega), wrap_id (n := v2.1 * 65536) (by omega) (by omega), wrap_id (n := v1.1 * 16777216 + v2.1 * 65536) (by omega) (by omega), wrap_id (n := v3.1 * 256) (by omega) (by omega), wrap_id (n := v1.1 * 16777216 + v2.1 * 65536 + v3.1 * 256) (by omega) (by omega), wrap_id (n := v1.1 * 16777216 + v2.1 * 65536 + v3.1 * 256 + v4.1) (by omega) (by omega)]
    exact (tot_rem (by omega) h).bind fun r hr => tot_some ⟨⟨hr.1, .inl hr.2⟩, h4.2⟩
theorem tot_pick {l : List Int} (hl : 0 < l.length) : Tot (spec_l1PickInt p c l) (fun v => v.1 ∈ l ∧ Cur p v.2) := by
  unfold spec_l1PickInt
  exact (tot_below hp hc _).bind fun v hv => (tot_idx ⟨hv.1.1, by rcases hv.1.2 with h | ⟨h, _⟩ <;> omega⟩).bind fun e he => tot_some ⟨he.1, hv.2⟩
theorem tot_once (n : Int) : Tot (spec_l1Once p c n) (fun v => Cur p v.2) := by
  unfold spec_l1Once
  exact (tot_below hp hc n).bind fun v hv => tot_some hv.2
omit hc in
theorem tot_new : Tot (spec_l1New p) (Cur p) := by
  unfold spec_l1New
  have key : ∀ (d k i : Nat) (h : Int), p.length - i = d → d < k → i ≤ p.length → Tot (spec_l1New_L1 p k h (i : Int)) (Cur p) := by
    intro d
    induction d with
    | zero =>
      intro k i h hd hk hi
      obtain ⟨k, rfl⟩ : ∃ q, k = q + 1 := ⟨k - 1, by omega⟩
      refine ⟨⟨0, h⟩, ?_, ⟨Int.le_refl _, by show (0 : Int) ≤ _; omega⟩⟩
      show (if _ then _ else _) = _
      rw [if_neg (by simp; omega)]
    | succ d ih =>
      intro k i h hd hk hi
      obtain ⟨k, rfl⟩ : ∃ q, k = q + 1 := ⟨k - 1, by omega⟩
      unfold spec_l1New_L1
      split
      · rw [idx_lt (show i < p.length by omega)]
        simp only [Option.bind_some]
        rw [wrap_succ (by omega)]
        exact ih k (i + 1) _ (by omega) (by omega) (by omega)
      · exact ⟨⟨0, h⟩, rfl, ⟨Int.le_refl _, by show (0 : Int) ≤ _; omega⟩⟩
  exact key p.length Fuel 0 _ (by omega) (fuel_gt (by omega)) (by omega)
end
end Go.Vk
