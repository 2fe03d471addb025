/- Signed integers and lists round-trip. -/
import Derived.Test.YtgpfgjlmjodcaaaPL
import Derived.Test.YtgpfgjlmjodcaaaPM
import Derived.Test.YtgpfgjlmjodcaaaPE
namespace Go.Vk
theorem putN_bytes : ∀ (d n : Nat), n < 128 ^ (d + 1) → Bytes (putN n) := by
  intro d
  induction d with
  | zero =>
    intro n h x hx
    rw [putN_lo (by simpa using h)] at hx
    rw [List.mem_singleton.1 hx]
    simp at h; omega
  | succ d ih =>
    intro n h x hx
    by_cases hc : n < 128
    · rw [putN_lo hc] at hx
      rw [List.mem_singleton.1 hx]; omega
    · rw [putN_hi hc] at hx
      rcases List.mem_cons.1 hx with rfl | hx
      · omega
      · exact ih (n / 128) (by rw [Nat.div_lt_iff_lt_mul (by omega), ← Nat.pow_succ]; exact h) x hx
theorem putB_bytes (x : Int) : Bytes (putB x) := by
  unfold putB
  split
  · rename_i h
    exact putN_bytes 4 _ (by have := zig_le h; omega)
  · intro y hy; cases hy
theorem putsB_bytes (xs : List Int) : Bytes (putsB xs) := fun y hy => by
  obtain ⟨x, _, hx⟩ := List.mem_flatMap.1 hy
  exact putB_bytes x y hx
theorem Bytes.append {a b : List Int} (ha : Bytes a) (hb : Bytes b) : Bytes (a ++ b) := fun x hx => by
  rcases List.mem_append.1 hx with h | h
  · exact ha x h
  · exact hb x h
theorem gI_put {l pre post : List Int} {x : Int} (hx : InR x) (e : l = pre ++ putB x ++ post) (hp : l.length ≤ 1048576) : gI l (pre.length : Int) = some (x, ((pre.length + (putB x).length : Nat) : Int)) := by
  subst e
  unfold gI
  rw [getInt_put hx hp]
theorem many_put {l : List Int} (hp : l.length ≤ 1048576) : ∀ (xs pre post : List Int), (∀ x ∈ xs, InR x) → l = pre ++ putsB xs ++ post → (gI l).many xs.length (pre.length : Int) = some (xs, ((pre.length + (putsB xs).length : Nat) : Int)) := by
  intro xs
  induction xs with
  | nil => intro pre post _ _; simp [Pz.many, putsB]
  | cons x xs ih =>
    intro pre post hx e
    have e' : putsB (x :: xs) = putB x ++ putsB xs := List.flatMap_cons ..
    rw [e'] at e ⊢
    show (gI l (pre.length : Int)).bind _ = _
    rw [gI_put (pre := pre) (post := putsB xs ++ post) (hx x (List.mem_cons_self ..)) (by rw [e]; simp) hp]
    simp only [Option.bind_some]
    have := ih (pre ++ putB x) post (fun y hy => hx y (List.mem_cons_of_mem _ hy)) (by rw [e]; simp)
    rw [List.length_append] at this
    rw [this]
    simp only [Option.bind_some, List.length_append]
    congr 3
    omega
theorem list_put {l pre post xs : List Int} (hx : ∀ x ∈ xs, InR x) (hn : xs.length ≤ 1000000000) (e : l = pre ++ (putB xs.length ++ putsB xs) ++ post) (hp : l.length ≤ 1048576) :
    listOf l (gI l) (pre.length : Int) = some (xs, ((pre.length + ((putB xs.length ++ putsB xs)).length : Nat) : Int)) := by
  unfold listOf
  rw [gI_put (pre := pre) (post := putsB xs ++ post) (inr_len hn) (by rw [e]; simp) hp]
  simp only [Option.bind_some]
  rw [if_neg (by omega), Int.toNat_natCast]
  have := many_put hp xs (pre ++ putB xs.length) post hx (by rw [e]; simp)
  rw [List.length_append] at this
  rw [this, List.length_append, Nat.add_assoc]
theorem implGetInt_put {l pre post : List Int} {x : Int} (hb : Bytes l) (hx : InR x) (e : l = pre ++ putB x ++ post) (hp : l.length ≤ 1048576) : impl_GetInt l (pre.length : Int) = some (x, ((pre.length + (putB x).length : Nat) : Int), true) := by
  have hl : pre.length ≤ l.length := by rw [e]; simp only [List.length_append]; omega
  have h := gI_put hx e hp
  rcases gI_cases hb hp (a := (pre.length : Int)) ⟨by omega, by omega⟩ with ⟨v, b, h1, _, h2, _⟩ | ⟨h1, _⟩
  · rw [h] at h1; obtain ⟨rfl, rfl⟩ := Prod.mk.inj (Option.some.inj h1); exact h2
  · rw [h] at h1; cases h1
theorem implGetInts_put {l pre post xs : List Int} (hb : Bytes l) (hx : ∀ x ∈ xs, InR x) (hn : xs.length ≤ 1000000000) (e : l = pre ++ (putB xs.length ++ putsB xs) ++ post) (hp : l.length ≤ 1048576) :
    impl_GetInts l (pre.length : Int) = some (xs, ((pre.length + ((putB xs.length ++ putsB xs)).length : Nat) : Int), true) := by
  have hl : pre.length ≤ l.length := by rw [e]; simp only [List.length_append]; omega
  have h := list_put hx hn e hp
  unfold impl_GetInts
  rw [((gInts_rd hb hp).2 _ ⟨by omega, by omega⟩).1 _ _ h]
  rfl
theorem sameInts_self {p : List Int} (hp : p.length < 1000000000000) : laws_sameInts p p = some true := by
  unfold laws_sameInts
  rw [if_neg (by simp)]
  refine same_loop (p := p) (laws_sameInts_L1 p p) (fun _ o => o) (fun k i => ?_) hp (fun _ _ _ => rfl)
  show (if _ then _ else _) = _
  cases h : idx p i with
  | none => rfl
  | some e => simp only [Option.bind_some, bne_self_eq_false, Bool.false_eq_true, if_false]
/-- the list's part -/
theorem ints_J {x : Int} {xs : List Int} {q : Bool} (hn : xs.length ≤ 6) (l : List Int) (hl : l = putB x ++ (if ∀ x ∈ xs, InR x then putB xs.length ++ putsB xs else []) ++ [9]) :
    laws_FnInts_J1 xs l (putB x, q) ((putB x).length : Int) = some true := by
  have a1 := putB_len x
  have a2 := putB_len xs.length
  have a3 := putsB_len xs
  unfold laws_FnInts_J1
  rw [all_loop2 (p := xs) (P := InR) (fin := (impl_GetInts l ((putB x).length : Int)).bind fun y84 => (if y84.2.2 then (laws_sameInts y84.1 xs).bind fun y94 => some y94 else some false).bind fun u93 => some (u93 && (y84.2.1 == (IntKind.i64.wrap ((l.length : Int) - 1)))))
    (bad := some ((l.length : Int) == (IntKind.i64.wrap (((putB x).length : Int) + 1)))) (laws_FnInts_L1 xs l (putB x, q) ((putB x).length : Int)) (fun k => by
      show (if _ then _ else _) = _
      rw [if_neg (by simp)]) (fun k i h => by
      show (if _ then _ else _) = _
      rw [if_pos (by simp; omega), idx_lt h, wrap_succ (i := i) (by omega)]
      simp only [Option.bind_some]
      by_cases hc : InR xs[i]
      · obtain ⟨c1, c2⟩ := hc
        rw [if_neg (by simp; omega)]
        simp only [Option.bind_some]
        rw [if_neg (by simp; omega), if_pos (show InR xs[i] from ⟨c1, c2⟩)]
      · rw [if_neg hc]
        by_cases h2 : xs[i] > 1000000000
        · rw [if_pos (by simpa using h2)]
          rfl
        · rw [if_neg (by simpa using h2)]
          simp only [Option.bind_some]
          rw [if_pos (by simp; exact Classical.byContradiction fun n => hc ⟨by omega, by omega⟩)]) (by omega)]
  split
  · rename_i hx
    rw [if_pos hx] at hl
    have hlen : l.length = (putB x).length + (putB xs.length ++ putsB xs).length + 1 := by rw [hl]; simp only [List.length_append, List.length_singleton]
    have hlen2 : (putB xs.length ++ putsB xs).length ≤ 100 := by rw [List.length_append]; omega
    have hb : Bytes l := by
      rw [hl]
      exact ((putB_bytes x).append ((putB_bytes _).append (putsB_bytes xs))).append (fun y hy => by rw [List.mem_singleton.1 hy]; omega)
    rw [implGetInts_put hb hx (by omega) hl (by omega)]
    simp only [Option.bind_some, if_true]
    rw [sameInts_self (by omega), wrap_id (by omega) (by omega), hlen]
    simp only [Option.bind_some, Bool.true_and]
    congr 1
    rw [beq_iff_eq]; omega
  · rename_i hx
    rw [if_neg hx] at hl
    have hlen : l.length = (putB x).length + 1 := by rw [hl]; simp
    rw [wrap_id (by omega) (by omega), hlen]
    congr 1
    rw [beq_iff_eq]; omega
theorem ints_holds (p : List Int) : laws_FnInts p = some true := by
  unfold laws_FnInts laws_big
  simp only [Option.bind_some]
  by_cases hp : 1048576 < p.length
  · rw [if_pos (by simp; omega)]
  · rw [if_neg (by simp; omega)]
    obtain ⟨x, e1, hx⟩ := dr_putInt (p := p) (by omega)
    obtain ⟨xs, e2, hn, _⟩ := dr_putInts (p := p) (by omega)
    rw [e1]
    simp only [Option.bind_some]
    rw [e2]
    simp only [Option.bind_some]
    have a1 := putB_len x
    have a2 := putB_len xs.length
    have a3 := putsB_len xs
    rw [putInt_ok.2.1]
    simp only [Option.bind_some]
    rw [app_eq (by simp; omega)]
    simp only [Option.bind_some, List.nil_append]
    rw [implPutInts_ok (by omega)]
    simp only [Option.bind_some]
    have hlen : (if ∀ x ∈ xs, InR x then putB xs.length ++ putsB xs else []).length ≤ 100 := by
      split
      · rw [List.length_append]; omega
      · simp
    rw [app_eq (by omega)]
    simp only [Option.bind_some]
    rw [app_eq (by simp; omega)]
    simp only [Option.bind_some]
    by_cases hc : InR x
    · rw [in_t hc]
      simp only [if_true]
      have hb : Bytes (putB x ++ (if ∀ x ∈ xs, InR x then putB xs.length ++ putsB xs else []) ++ [9]) := by
        refine ((putB_bytes x).append ?_).append (fun y hy => by rw [List.mem_singleton.1 hy]; omega)
        split
        · exact (putB_bytes _).append (putsB_bytes xs)
        · intro y hy; cases hy
      have hg := implGetInt_put (pre := []) (post := (if ∀ x ∈ xs, InR x then putB xs.length ++ putsB xs else []) ++ [9]) hb hc (by simp) (by simp only [List.length_append, List.length_singleton]; omega)
      rw [List.length_nil, Nat.zero_add] at hg
      have hg' : impl_GetInt (putB x ++ (if ∀ x ∈ xs, InR x then putB xs.length ++ putsB xs else []) ++ [9]) 0 = _ := hg
      rw [hg']
      simp only [Option.bind_some, Bool.not_true, Bool.false_or, bne_self_eq_false, Bool.false_eq_true, if_false]
      exact ints_J hn _ rfl
    · rw [in_f hc]
      have h0 : putB x = [] := by unfold putB; rw [if_neg hc]
      have := ints_J (x := x) (xs := xs) (q := decide ¬ InR x) hn _ rfl
      rw [h0] at this ⊢
      simp only [Bool.false_eq_true, if_false]
      rw [if_neg (by simp)]
      exact this
end Go.Vk
