/- Windows: weighed, copied, put. -/
import Derived.Test.YtgpfgjlmjodcaaaPE
namespace Go.Vk
def small (n : Nat) : Prop := n < 9223372036854775808
theorem weighs_ints {x : List Int} (hx : x.length < 9223372036854775808) : Weighs laws_szIntS List.length x := fun s hs => by
  obtain ⟨r, h1, h2⟩ := weigh_list (p := x) s hs
  exact ⟨r, h1, h2 hx⟩
def szSS (x : List (List Int)) : Nat := x.length + (x.map List.length).sum
theorem weighs_intss {x : List (List Int)} (hx : x.length < 9223372036854775808) (he : ∀ y ∈ x, y.length < 9223372036854775808) : Weighs laws_szIntSS szSS x := fun s hs => by
  unfold laws_szIntSS szSS
  rw [wrap_id (n := (s : Int) - (x.length : Int)) (by omega) (by omega)]
  by_cases h : s < x.length
  · rw [if_pos (by simp; omega)]
    exact ⟨_, rfl, .inl ⟨by omega, by omega⟩⟩
  · rw [if_neg (by simp; omega)]
    have := weigh_loop (p := x) (Z := laws_szIntS) (size := List.length) (laws_szIntSS_L1 x) (fun _ _ _ => rfl) (by omega) (fun y hy => weighs_ints (he y hy)) (s - x.length) (by omega)
    rw [show (s : Int) - (x.length : Int) = ((s - x.length : Nat) : Int) by omega]
    obtain ⟨r, h1, h2⟩ := this
    refine ⟨r, h1, ?_⟩
    rcases h2 with ⟨h2, h3⟩ | ⟨h2, h3⟩
    · exact .inl ⟨h2, by omega⟩
    · exact .inr ⟨by omega, by rw [h3]; congr 1; omega⟩
theorem toIntSS_id {p : List (List Int)} (hp : p.length ≤ 1048576) (he : ∀ x ∈ p, x.length ≤ 1048576) : laws_toIntSS p = some p := by
  unfold laws_toIntSS
  rw [mk_eq _ (by omega)]
  have := copy_loop (F := laws_toIntS) (g := id) (laws_toIntSS_L1 p) (fun _ _ _ => rfl) (by omega) (fun x hx => toIntS_id (he x hx)) []
  simpa using this
/-! ### put -/
def Fits (p : List Int) : Prop := ∀ x ∈ p, InR x
instance : DecidablePred Fits := fun p => inferInstanceAs (Decidable (∀ x ∈ p, InR x))
def listB (p : List Int) : List Int := putB p.length ++ putsB p
theorem putB_len (x : Int) : (putB x).length ≤ 5 := putInt_ok.2.2
theorem listB_len (p : List Int) : (listB p).length ≤ 5 * (1 + p.length) := by
  have := putB_len p.length
  have := putsB_len p
  unfold listB
  rw [List.length_append]; omega
theorem listsB_len (p : List (List Int)) : (p.flatMap listB).length ≤ 5 * szSS p := by
  unfold szSS
  induction p with
  | nil => simp
  | cons x p ih =>
    have := listB_len x
    simp only [List.flatMap_cons, List.length_append, List.map_cons, List.sum_cons, List.length_cons]
    omega
theorem szSS_le {p : List (List Int)} : p.length ≤ szSS p := by unfold szSS; omega
theorem szSS_mem {p : List (List Int)} {x : List Int} (h : x ∈ p) : x.length ≤ szSS p := by
  have := sum_ge (f := List.length) h
  unfold szSS; omega
theorem specList_ok {p : List Int} (hp : p.length ≤ 1048576) (hf : Fits p) : spec_PutInts p = some (listB p) := by
  rw [specPutInts_ok hp, if_pos (show ∀ x ∈ p, InR x from hf)]; rfl
theorem l27PutLists_ok {p : List (List Int)} (hs : szSS p ≤ 1048576) (hf : ∀ x ∈ p, Fits x) : spec_l27PutLists p = some (putB p.length ++ p.flatMap listB) := by
  unfold spec_l27PutLists
  rw [putInt_ok.1]
  simp only [Option.bind_some]
  have h1 := listsB_len p
  have h2 := putB_len p.length
  have h3 := @szSS_le p
  exact app_loop (p := p) (σ := Unit) (ρ := List Int) listB (fun _ _ => ()) (fun k l _ i => spec_l27PutLists_L1 p k l i) (fun l _ => some l)
    (fun k l q => by show (if _ then _ else _) = _; rw [if_neg (by simp)])
    (fun k l q i h hl => by
      show (if _ then _ else _) = _
      have hm := List.getElem_mem h
      rw [if_pos (by simp; omega), idx_lt h, wrap_succ (by omega)]
      simp only [Option.bind_some]
      rw [specList_ok (by have := szSS_mem hm; omega) (hf _ hm)]
      simp only [Option.bind_some]
      rw [app_eq (by omega)]
      rfl) (by omega) _ () (by omega)
theorem implListB_ok {p : List Int} (hp : p.length ≤ 1048576) (l : List Int) (q : Bool) (hl : l.length ≤ 900000000) : impl_writer_list ⟨l, q⟩ p = some ⟨l ++ listB p, q || decide (¬ Fits p)⟩ := by
  rw [implList_ok hp l q hl, List.append_assoc]; rfl
theorem implWindow_L {ρ : Type} {p : List (List Int)} (hs : szSS p ≤ 1048576) (Lp : Nat → List Int → Bool → Int → Option ρ) (fin : List Int → Bool → Option ρ)
    (step : ∀ k l q i, Lp (k + 1) l q i = if decide (i < (p.length : Int)) then (idx p i).bind fun e => (impl_writer_list ⟨l, q⟩ e).bind fun y => Lp k y.out_ y.bad_ (IntKind.i64.wrap (i + 1)) else fin l q)
    (l : List Int) (q : Bool) (hl : l.length ≤ 700000000) : Lp Fuel l q 0 = fin (l ++ p.flatMap listB) (q || decide (¬ ∀ x ∈ p, Fits x)) := by
  have h1 := listsB_len p
  have h3 := @szSS_le p
  rw [← foldl_bad]
  exact app_loop (p := p) (σ := Bool) listB (fun q x => q || decide (¬ Fits x)) Lp fin
    (fun k l q => by rw [step, if_neg (by simp)])
    (fun k l q i h hl => by
      have hm := List.getElem_mem h
      rw [step, if_pos (by simp; omega), idx_lt h, wrap_succ (by omega)]
      simp only [Option.bind_some]
      rw [implListB_ok (by have := szSS_mem hm; omega) l q (by omega)]
      rfl) (by omega) _ q (by omega)
theorem specWindow_ok {x : Timpl_Window} (hs : szSS x.Rows_ ≤ 1048576) : spec_PutWindow x = some (if ∀ r ∈ x.Rows_, Fits r then putB x.Rows_.length ++ x.Rows_.flatMap listB else []) := by
  unfold spec_PutWindow
  have h3 := @szSS_le x.Rows_
  rw [all_loop2 (p := x.Rows_) (P := Fits) (fin := (spec_l27PutLists x.Rows_).bind fun y => some y) (bad := some []) (spec_PutWindow_L1 x) (fun k => by
    show (if _ then _ else _) = _
    rw [if_neg (by simp)]) (fun k i h => by
    have hm := List.getElem_mem h
    show (if _ then _ else _) = _
    rw [if_pos (by simp; omega), idx_lt h, wrap_succ (by omega)]
    simp only [Option.bind_some]
    rw [l27Fits_ok (by have := szSS_mem hm; omega)]
    simp only [Option.bind_some]
    by_cases hf : Fits x.Rows_[i]
    · rw [if_pos hf, show (decide (∀ y ∈ x.Rows_[i], InR y)) = true from decide_eq_true hf]; rfl
    · rw [if_neg hf, show (decide (∀ y ∈ x.Rows_[i], InR y)) = false from decide_eq_false hf]; rfl) (by omega)]
  split
  · rename_i hf
    rw [l27PutLists_ok hs hf]; rfl
  · rfl
theorem inr_len {n : Nat} (h : n ≤ 1000000000) : InR (n : Int) := ⟨by omega, by omega⟩
theorem implInts1_ok {x : Int} (hx : InR x) (l : List Int) (q : Bool) (hl : l.length ≤ 1000000000) : impl_writer_ints ⟨l, q⟩ [x] = some ⟨l ++ putB x, q⟩ := by
  rw [implInts_ok (by simp) l q hl]
  simp [putsB, hx]
theorem implWindow_ok {x : Timpl_Window} (hs : szSS x.Rows_ ≤ 1048576) : impl_PutWindow x = some (if ∀ r ∈ x.Rows_, Fits r then putB x.Rows_.length ++ x.Rows_.flatMap listB else []) := by
  unfold impl_PutWindow impl_writer_window
  have h3 := @szSS_le x.Rows_
  rw [implInts1_ok (inr_len (by omega)) _ _ (by simp)]
  simp only [Option.bind_some]
  rw [implWindow_L hs (impl_writer_window_L1 x) (fun l q => some ⟨l, q⟩) (fun _ _ _ _ => rfl) _ _ (by have := putB_len x.Rows_.length; simp; omega)]
  simp only [Option.bind_some, impl_writer_done]
  by_cases h : ∀ r ∈ x.Rows_, Fits r
  · rw [if_pos h, show (decide ¬ ∀ r ∈ x.Rows_, Fits r) = false from decide_eq_false fun n => n h]; rfl
  · rw [if_neg h, show (decide ¬ ∀ r ∈ x.Rows_, Fits r) = true from decide_eq_true h]; rfl
theorem sum_len {p : List (List Int)} : (p.map fun v => 1 + v.length).sum = szSS p := by
  unfold szSS
  induction p with
  | nil => rfl
  | cons x p ih => simp only [List.map_cons, List.sum_cons, List.length_cons]; omega
theorem exactPutWindow {x : Tlaws_Window} (hx : x.Rows_.length < 9223372036854775808) (he : ∀ y ∈ x.Rows_, y.length < 9223372036854775808) : laws_FnExactPutWindow x = some true := by
  unfold laws_FnExactPutWindow laws_szWindow
  obtain ⟨r, h1, h2⟩ := weighs_intss hx he 1048576 (by omega)
  have h1' : laws_szIntSS x.Rows_ 1048576 = some r := h1
  rw [h1']
  simp only [Option.bind_some]
  rcases h2 with ⟨h2, _⟩ | ⟨h2, h3⟩
  · rw [if_pos (by simpa using h2)]; rfl
  · rw [if_neg (by simp; omega)]
    simp only [Option.bind_some]
    rw [if_neg (by simp; omega)]
    have h4 := @szSS_le x.Rows_
    have ht : laws_toWindow x = some ⟨x.Rows_⟩ := by
      unfold laws_toWindow
      rw [toIntSS_id (by omega) (fun y hy => by have := szSS_mem hy; omega)]; rfl
    rw [ht]
    simp only [Option.bind_some]
    have hs : szSS (Timpl_Window.mk x.Rows_).Rows_ ≤ 1048576 := h2
    rw [specWindow_ok hs, implWindow_ok hs]
    have hb : (if ∀ r ∈ (Timpl_Window.mk x.Rows_).Rows_, Fits r then putB (Timpl_Window.mk x.Rows_).Rows_.length ++ (Timpl_Window.mk x.Rows_).Rows_.flatMap listB else []).length ≤ 10000000 := by
      split
      · have := putB_len x.Rows_.length
        have := listsB_len x.Rows_
        rw [List.length_append]
        show (putB x.Rows_.length).length + (x.Rows_.flatMap listB).length ≤ _
        omega
      · simp
    generalize (if ∀ r ∈ (Timpl_Window.mk x.Rows_).Rows_, Fits r then putB (Timpl_Window.mk x.Rows_).Rows_.length ++ (Timpl_Window.mk x.Rows_).Rows_.flatMap listB else []) = b at hb
    simp only [Option.bind_some]
    have hw : (((Timpl_Window.mk x.Rows_).Rows_).map fun v => 1 + v.length).sum ≤ 1048576 := by rw [sum_len]; exact h2
    rw [eqByteS_self (by omega), eqWindow_self hw]
    obtain ⟨m1, p1, a1, a2⟩ := markWindow_ok hw
    obtain ⟨m2, b2, b1, b3, b4, b5, b6⟩ := markByteS_ok (p := b) (by omega) 1 (by omega)
    have b1' : laws_markByteS b 1 = some ((m2 : Int), b2) := b1
    have b3' : laws_heldByteS b2 1 = some (m2 : Int) := b3
    rw [a1, b1']
    simp only [Option.bind_some, b3', Bool.not_true, Bool.false_eq_true, if_false, bne_self_eq_false]
    rw [if_neg (by simp), if_neg (by simp)]
    simp only [Option.bind_some, Bool.false_eq_true, if_false]
    rw [if_neg (by simp)]
end Go.Vk
