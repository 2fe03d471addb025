/- A score in words: alike. -/
import Derived.Test.YtjflgcighcjfkaaDoorPC
namespace Go.Vk
theorem scoreText_same {n : Int} {s : Timpl_Score} (hs : sml_Score s) : ∃ m, spec_ScoreText n s = some m ∧ impl_ScoreText n s = some m := by
  unfold spec_ScoreText impl_ScoreText
  rw [← (specScore (n := n) hs).eq (implScore hs)]
  rcases (specScore (n := n) hs).cases with ⟨e, h⟩ | ⟨e, h⟩
  · obtain ⟨k, k1, k2, k3, k4⟩ := kappa_same (n := n) hs
    obtain ⟨c, c1, c2, c3⟩ := count_same (n := n) hs
    obtain ⟨r, r1, r2, r3⟩ := right_same (n := n) hs
    obtain ⟨l, l1, l2, l3⟩ := lastRight_same (n := n) hs
    have hk3 := itoa_len k3
    have hk4 := itoa_len k4
    have hc := itoa_len c3
    have hr := itoa_len r3
    have hl := itoa_len l3
    rw [e, k1, k2, c1, c2, r1, r2, l1, l2]
    simp only [Option.bind_some, Bool.not_true, Bool.false_eq_true, if_false]
    rw [specDigits k3, specDigits k4, specDigits c3, specDigits r3, specDigits l3, implDigits k3, implDigits k4, implDigits c3, implDigits r3, implDigits l3]
    simp only [Option.bind_some]
    generalize Lib.itoa k.1 = a at *
    generalize Lib.itoa k.2 = b at *
    generalize Lib.itoa c = d at *
    generalize Lib.itoa r = f at *
    generalize Lib.itoa l = g at *
    rw [sadd_eq (a := a) (by simp; omega)]
    simp only [Option.bind_some]
    rw [sadd_eq (a := a ++ [47]) (by simp; omega)]
    simp only [Option.bind_some]
    rw [implJoin (by simp) (by simp [Lib.join]; omega)]
    refine ⟨_, ?_, rfl⟩
    repeat
      rw [sadd_eq (by simp; omega)]
      simp only [Option.bind_some]
    simp [Lib.join]
  · rw [e]; exact ⟨[], rfl, rfl⟩
end Go.Vk
