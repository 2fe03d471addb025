/- FnExactWayOk answers true. -/
import Derived.Test.YtejneofoabmojaaPX
namespace Go.Vk
def toW (x : Tlaws_Way) : Timpl_Way := ⟨x.Leaf_, x.Masks_⟩
theorem weighs_way {x : Tlaws_Way} (hx : x.Masks_.length < 9223372036854775808) : Weighs laws_szWay (fun x => x.Masks_.length) x := fun s hs => by
  show ∃ r, laws_szWay x s = some r ∧ ((r < 0 ∧ s < x.Masks_.length) ∨ (x.Masks_.length ≤ s ∧ r = ((s - x.Masks_.length : Nat) : Int)))
  unfold laws_szWay
  obtain ⟨r, e1, g⟩ := weighs_ints hx s hs
  rw [e1]
  simp only [Option.bind_some]
  rcases g with ⟨g, g'⟩ | ⟨g, rfl⟩
  · rw [if_pos (by simpa using g)]; exact ⟨_, rfl, .inl ⟨by omega, by omega⟩⟩
  · rw [if_neg (by simp)]; exact ⟨_, rfl, .inr ⟨by omega, rfl⟩⟩
theorem toWay_ok {x : Tlaws_Way} (h : x.Masks_.length ≤ 1048576) : laws_toWay x = some (toW x) := by
  unfold laws_toWay
  rw [toIntS_id h]
  rfl
theorem eqWay_self {x : Timpl_Way} (h : x.Masks_.length < 1000000000000) : laws_eqWay x x = some true := by
  unfold laws_eqWay
  rw [if_neg (by simp), eqIntS_self h]
  rfl
theorem exactWayOk {x : Tlaws_Schema} {y : Tlaws_Way} (hx : OkSc x) (hy : y.Masks_.length < 9223372036854775808) (hm : I64s y.Masks_) : laws_FnExactWayOk x y = some true := by
  unfold laws_FnExactWayOk
  obtain ⟨r, h1, h2⟩ := weighs_schema hx 1048576 (by omega)
  have h1' : laws_szSchema x 1048576 = some r := h1
  rw [h1']
  simp only [Option.bind_some]
  rcases h2 with ⟨h2, _⟩ | ⟨h2, rfl⟩
  · rw [if_pos (by simpa using h2)]
  · rw [if_neg (by simp)]
    obtain ⟨r, g1, g2⟩ := weighs_way hy (1048576 - szS x) (by omega)
    rw [g1]
    simp only [Option.bind_some]
    rcases g2 with ⟨g2, _⟩ | ⟨g2, rfl⟩
    · rw [if_pos (by simpa using g2)]
    · have g3 : y.Masks_.length ≤ 1048576 := by simp only at g2; omega
      rw [if_neg (by simp), toSchema_ok h2, toWay_ok g3]
      simp only [Option.bind_some]
      have ho := okS_of h2
      have e := (specWay (w := toW y) ho).eq (implWay (w := toW y) ho hm)
      obtain ⟨b, e1, _⟩ := specWay (w := toW y) ho
      rw [← e, e1]
      simp only [Option.bind_some, bne_self_eq_false, Bool.false_eq_true, if_false]
      rw [eqSchema_self ho, eqWay_self (x := toW y) (by show y.Masks_.length < _; omega)]
      rfl
end Go.Vk
