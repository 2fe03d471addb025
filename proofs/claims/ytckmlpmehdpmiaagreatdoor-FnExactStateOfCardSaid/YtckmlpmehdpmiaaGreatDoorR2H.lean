/- Trees, put. -/
import Derived.Test.YtckmlpmehdpmiaaGreatDoorPTr
import Derived.Test.YtckmlpmehdpmiaaGreatDoorRF
import Derived.Test.YtckmlpmehdpmiaaGreatDoorVkBr
import Derived.Test.YtckmlpmehdpmiaaGreatDoorVkG
import Derived.Test.YtckmlpmehdpmiaaGreatDoorPT
import Derived.Lib.ItoaLen
namespace Go.Vk
def rT (b : Bool) : Int := if b then 1 else 0
def qx (x : az) : List Int :=
  dh (rT x.B_) ++ dh x.i_.t_ ++ dh x.i_.u_ ++ iI x.v_ ++ dh x.I_ ++ iI x.k_.q_ ++ (dh x.k_.l_.length ++ x.k_.l_.flatMap iI) ++ dh x.J_ ++ iI x.d_ ++ dh x.h_ ++ dh x.A_ ++ dh x.G_
def tK (x : az) : Prop := ot [x.i_.t_, x.i_.u_, x.I_, x.J_, x.h_, x.A_, x.G_] ∧ ot x.v_ ∧ ot x.d_ ∧ ot x.k_.q_ ∧ ∀ y ∈ x.k_.l_, ot y
instance : DecidablePred tK := fun _ => inferInstanceAs (Decidable (_ ∧ _ ∧ _ ∧ _ ∧ _))
theorem Eg (x : az) : (qx x).length ≤ 5 * (12 + szM x) := by
  have a := dd (rT x.B_)
  have c := dd x.i_.t_
  have d := dd x.i_.u_
  have e := kN x.v_
  have f := dd x.I_
  have g := kN x.k_.q_
  have h := dd x.k_.l_.length
  have i := qa x.k_.l_
  have j := dd x.J_
  have k := kN x.d_
  have l := dd x.h_
  have m := dd x.A_
  have o := dd x.G_
  unfold qx szM
  simp only [List.length_append]
  omega
theorem zy (b : Bool) : qh b = some (rT b) ∧ rC b = some (rT b) := by cases b <;> exact ⟨rfl, rfl⟩
theorem yu (b : Bool) : InR (rT b) := by cases b <;> decide
theorem vE {p : List Int} (h : p.length < 1000000000000) : fp p = some (decide (ot p)) := wN h
theorem Ql {A B C D E : Prop} [Decidable A] [Decidable B] [Decidable C] [Decidable D] [Decidable E] :
    ((if (!decide A) = true then some true else some !decide B).bind fun a => (if a = true then some true else some !decide C).bind fun c => (if c = true then some true else some !decide D).bind fun d => if d = true then some false else some (decide E)) = some (decide (A ∧ B ∧ C ∧ D ∧ E)) := by
  by_cases A <;> by_cases B <;> by_cases C <;> by_cases D <;> by_cases E <;> simp [*]
theorem Ge {x : az} (h : szM x ≤ 1048576) : kH x = some (decide (tK x)) := by
  unfold szM at h
  have e := @ro x.k_.l_
  have c : gG x aI 0 = some (decide (∀ y ∈ x.k_.l_, ot y)) :=
    FK (P := ot) (p := x.k_.l_) (gG x) (fun k => by
      show (if _ then _ else _) = _
      rw [if_neg (by simp)]) (fun k i h => by
      have d := List.getElem_mem h
      show (if _ then _ else _) = _
      rw [if_pos (by simp; omega), aX h, aG (by omega)]
      simp only [bS]
      rw [vE (by have := tD d; omega)]
      simp only [bS]
      by_cases a : ot x.k_.l_[i]
      · rw [if_pos a, decide_eq_true a]; rfl
      · rw [if_neg a, decide_eq_false a]; rfl) (by omega)
  unfold kH
  rw [vE (by simp), vE (p := x.v_) (by omega), vE (p := x.d_) (by omega), vE (p := x.k_.q_) (by omega), c]
  simp only [bS]
  exact Ql
theorem Il {x : az} (h : szM x ≤ 1048576) (a : tK x) : lH x = some (qx x) := by
  have g := Eg x
  unfold szM at h
  have i := @ro x.k_.l_
  obtain ⟨j, c, d, e, f⟩ := a
  have k := dd (rT x.B_)
  have l := dd x.i_.t_
  have m := dd x.i_.u_
  have o := kN x.v_
  have p := dd x.I_
  have q := kN x.k_.q_
  have r := dd x.k_.l_.length
  have s := qa x.k_.l_
  have t := dd x.J_
  have u := kN x.d_
  have v := dd x.h_
  have w := dd x.A_
  have A := dd x.G_
  unfold lH
  rw [(zy _).1]
  simp only [Option.bind_some, eV.1]
  rw [cJ (by omega)]
  simp only [bS]
  rw [cJ (by simp only [List.length_append]; omega)]
  simp only [bS]
  rw [qv (by omega) c]
  simp only [bS]
  rw [cJ (by simp only [List.length_append]; omega)]
  simp only [bS]
  rw [cJ (by simp only [List.length_append]; omega)]
  simp only [bS]
  rw [qv (by omega) e]
  simp only [bS]
  rw [cJ (by simp only [List.length_append]; omega)]
  simp only [bS]
  rw [vz (by omega) f]
  simp only [bS]
  rw [cJ (by simp only [List.length_append]; omega)]
  simp only [bS]
  rw [cJ (by simp only [List.length_append]; omega)]
  simp only [bS]
  rw [qv (by omega) d]
  simp only [bS]
  rw [cJ (by simp only [List.length_append]; omega)]
  simp only [bS]
  rw [cJ (by simp only [List.length_append]; omega)]
  simp only [bS]
  rw [cJ (by simp only [List.length_append]; omega)]
  simp only [bS]
  rw [cJ (by simp only [List.length_append]; omega)]
  rfl
theorem BC (p : List az) : (p.flatMap qx).length ≤ 60 * p.length + 5 * (p.map szM).sum := by
  induction p with
  | nil => simp
  | cons x p ih =>
    have := Eg x
    simp only [List.flatMap_cons, List.length_append, List.map_cons, List.sum_cons, List.length_cons]
    omega
theorem FU {x : ax} (h : szU x ≤ 1048576) : ls x = some (if InR x.y_ ∧ ∀ y ∈ x.e_, tK y then dh x.y_ ++ dh x.e_.length ++ x.e_.flatMap qx else []) := by
  have q : x.e_.length ≤ 1048576 := by unfold szU at h; omega
  have r := BC x.e_
  have s : (x.e_.map szM).sum ≤ 1048576 := by unfold szU at h; omega
  unfold ls
  rw [vE (by simp)]
  simp only [bS]
  by_cases h1 : InR x.y_
  · have g : ot [x.y_] := by intro y j; rw [List.mem_singleton.1 j]; exact h1
    rw [decide_eq_true g]
    simp only [Bool.not_true, Bool.false_eq_true, if_false]
    rw [eV.1, eV.1]
    have t := dd x.y_
    have u := dd x.e_.length
    simp only [bS]
    rw [cJ (by omega)]
    simp only [Option.bind_some, h1, true_and]
    have key : ∀ (d k i : Nat) (l : List Int), x.e_.length - i = d → d < k → i ≤ x.e_.length → l.length + ((x.e_.drop i).flatMap qx).length ≤ 800000000 →
        mg x k l (i : Int) = some (if ∀ y ∈ x.e_.drop i, tK y then l ++ (x.e_.drop i).flatMap qx else []) := by
      intro d
      induction d with
      | zero =>
        intro k i l m hk o a
        obtain ⟨k, rfl⟩ := kS k (by omega)
        have : i = x.e_.length := by omega
        subst this
        show (if _ then _ else _) = _
        rw [if_neg (by simp), List.drop_length]
        simp
      | succ d ih =>
        intro k i l m hk o a
        obtain ⟨k, rfl⟩ := kS k (by omega)
        have c : i < x.e_.length := by omega
        have p := List.getElem_mem c
        have f : szM x.e_[i] ≤ 1048576 := by have := EY p; omega
        rw [List.drop_eq_getElem_cons c] at a ⊢
        simp only [List.flatMap_cons, List.length_append] at a ⊢
        show (if _ then _ else _) = _
        rw [if_pos (by simp; omega), aX c]
        simp only [bS]
        rw [Ge f]
        simp only [bS]
        by_cases e : tK x.e_[i]
        · rw [decide_eq_true e]
          simp only [Bool.not_true, Bool.false_eq_true, if_false]
          rw [Il f e]
          simp only [bS]
          rw [cJ (by omega)]
          simp only [bS]
          rw [aG (by omega), ih k (i + 1) _ (by omega) (by omega) (by omega) (by simp only [List.length_append]; omega)]
          generalize List.drop (i + 1) x.e_ = D
          simp [e]
        · rw [decide_eq_false e]
          generalize List.drop (i + 1) x.e_ = D
          simp [e]
    have := key x.e_.length aI 0 (dh x.y_ ++ dh x.e_.length) (by omega) (cw (by omega)) (by omega) (by simp only [List.length_append, List.drop_zero]; omega)
    simpa using this
  · have g : ¬ ot [x.y_] := fun n => h1 (n _ (List.mem_singleton.2 rfl))
    rw [decide_eq_false g]
    simp [h1]
theorem zd : jL [] = [] := rfl
theorem xb (x : Int) (xs : List Int) : jL (x :: xs) = dh x ++ jL xs := List.flatMap_cons ..
theorem oY {M : Nat} {α σ ρ : Type} {p : List α} (B : α → List Int) (u : σ → α → σ) (Lp : Nat → List Int → σ → Int → Option ρ) (fin : List Int → σ → Option ρ)
    (e : ∀ k l q, Lp (k + 1) l q (p.length : Int) = fin l q)
    (f : ∀ k l q (i : Nat) (h : i < p.length), l.length + (B p[i]).length ≤ M → Lp (k + 1) l q (i : Int) = Lp k (l ++ B p[i]) (u q p[i]) ((i + 1 : Nat) : Int))
    (m : p.length < 1000000000000) (l : List Int) (q : σ) (a : l.length + (p.flatMap B).length ≤ M) : Lp aI l q 0 = fin (l ++ p.flatMap B) (p.foldl u q) := by
  have key : ∀ (d k i : Nat) (l : List Int) (q : σ), p.length - i = d → d < k → i ≤ p.length → l.length + ((p.drop i).flatMap B).length ≤ M → Lp k l q (i : Int) = fin (l ++ (p.drop i).flatMap B) ((p.drop i).foldl u q) := by
    intro d
    induction d with
    | zero =>
      intro k i l q g hk j a
      obtain ⟨k, rfl⟩ := kS k (by omega)
      have : i = p.length := by omega
      subst this
      rw [e, List.drop_length]
      simp
    | succ d ih =>
      intro k i l q g hk j a
      obtain ⟨k, rfl⟩ := kS k (by omega)
      have c : i < p.length := by omega
      rw [List.drop_eq_getElem_cons c] at a ⊢
      simp only [List.flatMap_cons, List.length_append, List.foldl_cons] at a ⊢
      rw [f k l q i c (by omega), ih k (i + 1) _ _ (by omega) (by omega) (by omega) (by simp only [List.length_append]; omega), List.append_assoc]
  have := key p.length aI 0 l q (by omega) (cw (by omega)) (by omega) (by simpa using a)
  simpa using this
theorem vb {q : Bool} {A B : Prop} [Decidable A] [Decidable B] : ((q || decide (¬ A)) || decide (¬ B)) = (q || decide (¬ (A ∧ B))) := by
  by_cases A <;> by_cases B <;> simp [*]
theorem CS {x : ax} {k i : Nat} {l : List Int} {q : Bool} (h : i < x.e_.length) (A : x.e_.length ≤ 1048576) (j : szM x.e_[i] ≤ 1048576) (m : l.length + (qx x.e_[i]).length ≤ 400000000) :
    dJ x (k + 1) l q (i : Int) = dJ x k (l ++ qx x.e_[i]) (q || decide (¬ tK x.e_[i])) ((i + 1 : Nat) : Int) := by
  show (if _ then _ else _) = _
  rw [if_pos (by simp; omega), aX h]
  generalize x.e_[i] = e at j m
  have hz' := j
  unfold szM at hz'
  have C := @ro e.k_.l_
  simp only [bS]
  rw [(zy _).2]
  simp only [bS]
  have o := mj [rT e.B_, e.i_.t_, e.i_.u_]
  have D := kN e.v_
  have r := mj [e.I_]
  have E := kN e.k_.q_
  have s := mj [(e.k_.l_.length : Int)]
  have F := qa e.k_.l_
  have t := mj [e.J_]
  have G := kN e.d_
  have u := mj [e.h_, e.A_, e.G_]
  simp only [List.length_cons, List.length_nil] at o r s t u
  rw [gS (by simp) _ _ (by omega)]
  simp only [bS]
  rw [ph (by omega) _ _ (by simp only [List.length_append]; omega)]
  simp only [bS]
  rw [gS (by simp) _ _ (by simp only [List.length_append]; omega)]
  simp only [bS]
  rw [ph (by omega) _ _ (by simp only [List.length_append]; omega)]
  simp only [bS]
  rw [gS (by simp) _ _ (by simp only [List.length_append]; omega)]
  simp only [bS]
  rw [yb (p := e.k_.l_) (by omega) (iT e (dJ x k) i) _ (fun _ _ _ _ => rfl) _ _ (by simp only [List.length_append]; omega)]
  rw [gS (by simp) _ _ (by simp only [List.length_append]; omega)]
  simp only [bS]
  rw [ph (by omega) _ _ (by simp only [List.length_append]; omega)]
  simp only [bS]
  rw [gS (by simp) _ _ (by simp only [List.length_append]; omega)]
  simp only [bS]
  rw [aG (by omega)]
  congr 1
  · simp only [qx, xb, zd, List.append_nil, List.append_assoc]
  · rw [vb, vb, vb, vb, vb, vb, vb, vb]
    congr 1
    refine decide_eq_decide.2 (not_congr ?_)
    have v := yu e.B_
    have w : InR (e.k_.l_.length : Int) := vW (by omega)
    unfold tK ot
    simp only [List.forall_mem_cons, v, w, true_and]
    constructor
    · rintro ⟨⟨c1, c2, _⟩, c3, ⟨c4, _⟩, c5, _, c6, ⟨d, _⟩, f, g, a, c, _⟩
      exact ⟨⟨c1, c2, c4, d, g, a, c, by simp⟩, c3, f, c5, c6⟩
    · rintro ⟨⟨c1, c2, c4, d, g, a, c, _⟩, c3, f, c5, c6⟩
      exact ⟨⟨c1, c2, by simp⟩, c3, ⟨c4, by simp⟩, c5, by simp, c6, ⟨d, by simp⟩, f, g, a, c, by simp⟩
end Go.Vk
/- Checks: alike. -/
namespace Go.Vk
def wO (x : Nat) : Nat := if x % 2 = 1 then (x / 2) ^^^ 3988292384 else x / 2
theorem Kt {x : Nat} (h : x < 9223372036854775808) : wO x < 9223372036854775808 := by
  unfold wO
  split
  · have : (x / 2) ^^^ 3988292384 < 2 ^ 63 := Nat.xor_lt_two_pow (by omega) (by omega)
    omega
  · omega
def rk : Nat → Nat → Nat
  | 0, x => x
  | n + 1, x => rk n (wO x)
theorem HQ {n : Nat} : ∀ {x : Nat}, x < 9223372036854775808 → rk n x < 9223372036854775808 := by
  induction n with
  | zero => exact fun h => h
  | succ n ih => exact fun h => ih (Kt h)
theorem Is (R : Int → Int → Option Int) (i : Int) : ∀ (d k x j : Nat), 8 - j = d → j ≤ 8 → d < k → x < 9223372036854775808 → lc R i k (x : Int) (j : Int) = R (rk d x : Nat) (IntKind.i64.wrap (i + 1)) := by
  intro d
  induction d with
  | zero =>
    intro k x j e f hk g
    cases k with
    | zero => omega
    | succ k =>
      unfold lc
      rw [if_neg (by simp; omega)]
      rfl
  | succ d ih =>
    intro k x j e f hk g
    cases k with
    | zero => omega
    | succ k =>
      unfold lc
      rw [if_pos (by simp; omega)]
      have h : IntKind.i64.wrap (Int.tdiv (x : Int) 2) = ((x / 2 : Nat) : Int) := by
        rw [show Int.tdiv (x : Int) 2 = ((x / 2 : Nat) : Int) from by rw [Int.tdiv_eq_ediv_of_nonneg (by omega)]; simp]
        exact gq (by omega)
      have c : IntKind.i64.wrap ((j : Int) + 1) = ((j + 1 : Nat) : Int) := by rw [bi (by omega) (by omega)]; simp
      rw [h, c]
      have l : Int.tmod (x : Int) 2 = ((x % 2 : Nat) : Int) := by rw [Int.tmod_eq_emod_of_nonneg (by omega)]; simp
      rw [l]
      by_cases a : x % 2 = 1
      · rw [if_pos (by simp [a])]
        rw [show (3988292384 : Int) = ((3988292384 : Nat) : Int) from rfl, (vL (x / 2) 3988292384 (by omega) (by omega)).1]
        have := ih k ((x / 2) ^^^ 3988292384) (j + 1) (by omega) (by omega) (by omega) (vL (x / 2) 3988292384 (by omega) (by omega)).2
        rw [this]
        simp [rk, wO, a]
      · rw [if_neg (by simp; omega)]
        have := ih k (x / 2) (j + 1) (by omega) (by omega) (by omega) (by omega)
        rw [this]
        simp [rk, wO, a]
theorem HG (R : Int → Int → Option Int) (i : Int) : ∀ (d k x j : Nat), 8 - j = d → j ≤ 8 → d < k → x < 9223372036854775808 → lm R i k (j : Int) (x : Int) = R (rk d x : Nat) (IntKind.i64.wrap (i + 1)) := by
  intro d
  induction d with
  | zero =>
    intro k x j f g hk c
    cases k with
    | zero => omega
    | succ k =>
      unfold lm
      rw [if_neg (by simp; omega)]
      rfl
  | succ d ih =>
    intro k x j f g hk c
    cases k with
    | zero => omega
    | succ k =>
      unfold lm
      rw [if_pos (by simp; omega)]
      have e : IntKind.i64.wrap ((j : Int) + 1) = ((j + 1 : Nat) : Int) := by rw [bi (by omega) (by omega)]; simp
      rw [Lk, e]
      have h : eK .and .i64 (x : Int) 1 = ((x % 2 : Nat) : Int) := by
        rw [show (1 : Int) = ((1 : Nat) : Int) from rfl, IF x 1 c (by omega), Nat.and_one_is_mod]
      rw [h]
      by_cases a : x % 2 = 1
      · rw [if_pos (by simp [a])]
        rw [show (3988292384 : Int) = ((3988292384 : Nat) : Int) from rfl, (vL (x / 2) 3988292384 (by omega) (by omega)).1]
        have := ih k ((x / 2) ^^^ 3988292384) (j + 1) (by omega) (by omega) (by omega) (vL (x / 2) 3988292384 (by omega) (by omega)).2
        rw [this]
        simp [rk, wO, a]
      · rw [if_neg (by simp; omega)]
        have := ih k (x / 2) (j + 1) (by omega) (by omega) (by omega) (by omega)
        rw [this]
        simp [rk, wO, a]
def dl (p : List Int) : Prop := ∀ x ∈ p, 0 ≤ x ∧ x ≤ 255
theorem zg {p : List Int} (a : dl p) {i : Nat} (h : i < p.length) : ∃ n : Nat, p[i] = (n : Int) ∧ n ≤ 255 := by
  obtain ⟨c, h1⟩ := a p[i] (List.getElem_mem h)
  exact ⟨p[i].toNat, by omega, by omega⟩
theorem PK {p : List Int} (h : dl p) (q : p.length ≤ 1048576) : ∀ (d k x i : Nat), p.length - i = d → i ≤ p.length → d < k → x < 9223372036854775808 → ∃ r : Nat, ki p k (x : Int) (i : Int) = some (r : Int) ∧ ka p k (x : Int) (i : Int) = some (r : Int) ∧ r < 9223372036854775808 := by
  intro d
  induction d with
  | zero =>
    intro k x i j l hk e
    cases k with
    | zero => omega
    | succ k =>
      unfold ki ka
      rw [if_neg (by simp; omega), if_neg (by simp; omega)]
      obtain ⟨h1, a⟩ := vL x 4294967295 e (by omega)
      exact ⟨x ^^^ 4294967295, congrArg some h1, congrArg some h1, a⟩
  | succ d ih =>
    intro k x i j l hk e
    cases k with
    | zero => omega
    | succ k =>
      unfold ki ka
      have c : i < p.length := by omega
      rw [if_pos (by simp; omega), if_pos (by simp; omega), aX c]
      simp only [bS]
      obtain ⟨n, m, o⟩ := zg h c
      rw [m, gq (n := n) (by omega)]
      obtain ⟨h1, a⟩ := vL x n e (by omega)
      rw [h1]
      have f := Is (ki p k) i 8 aI (x ^^^ n) 0 (by omega) (by omega) (cw (by omega)) a
      have g := HG (ka p k) i 8 aI (x ^^^ n) 0 (by omega) (by omega) (cw (by omega)) a
      rw [show ((0 : Nat) : Int) = 0 from rfl] at f g
      rw [f, g]
      rw [show IntKind.i64.wrap ((i : Int) + 1) = ((i + 1 : Nat) : Int) from by rw [bi (by omega) (by omega)]; simp]
      exact ih k (rk 8 (x ^^^ n)) (i + 1) (by omega) (by omega) (by omega) (HQ a)
theorem Lo {p : List Int} (a : dl p) (c : p.length ≤ 1048576) : ∃ r : Nat, xM p = some (r : Int) ∧ yG p = some (r : Int) ∧ r < 9223372036854775808 :=
  PK a c p.length aI 4294967295 0 (by omega) (by omega) (cw (by omega)) (by omega)
theorem Ff (x : Nat) {k : Nat} (h : k ≤ 63) : qg .i64 (x : Int) k = ((x / 2 ^ k : Nat) : Int) := by
  unfold qg
  have e : min ((k : Int).toNat) IntKind.i64.bits = k := by show min k 64 = k; omega
  rw [e, Int.fdiv_eq_ediv_of_nonneg _ (Int.le_of_lt (Int.pow_pos (by decide)))]
  simp
theorem xn (n : Nat) : IntKind.u8.wrap (n : Int) = ((n % 256 : Nat) : Int) := by
  unfold IntKind.wrap
  simp [IntKind.bits, IntKind.signed]
def SQ (r : Nat) : List Int := [((r / 16777216 % 256 : Nat) : Int), ((r / 65536 % 256 : Nat) : Int), ((r / 256 % 256 : Nat) : Int), ((r % 256 : Nat) : Int)]
theorem SG {r : Nat} (h : r < 9223372036854775808) (d : Nat) : IntKind.u8.wrap (IntKind.i64.wrap (Int.tdiv (r : Int) (d : Int))) = ((r / d % 256 : Nat) : Int) := by
  rw [rU, gq (by have := Nat.div_le_self r d; omega), xn]
theorem Qo {r : Nat} (h : r < 9223372036854775808) (d : Nat) : IntKind.u8.wrap (Int.tmod (IntKind.i64.wrap (Int.tdiv (r : Int) (d : Int))) 256) = ((r / d % 256 : Nat) : Int) := by
  rw [rU, gq (by have := Nat.div_le_self r d; omega), show (256 : Int) = ((256 : Nat) : Int) from rfl, mY, xn, Nat.mod_mod]
theorem Ex {p : List Int} (f : dl p) (g : p.length ≤ 1048576) : ∃ s, ga p = some s ∧ fL p = some s ∧ s.length = 4 := by
  obtain ⟨r, h1, h, e⟩ := Lo f g
  refine ⟨SQ r, ?_, ?_, rfl⟩
  · unfold ga
    rw [h1]
    simp only [bS]
    have a := SG e 16777216
    have c := Qo e 65536
    have d := Qo e 256
    have i : IntKind.u8.wrap (Int.tmod (r : Int) 256) = ((r % 256 : Nat) : Int) := by rw [show (256 : Int) = ((256 : Nat) : Int) from rfl, mY, xn, Nat.mod_mod]
    simp only [Int.cast_ofNat_Int] at a c d
    rw [a, c, d, i]; rfl
  · unfold fL
    rw [h]
    simp only [bS]
    have a := Ff r (k := 24) (by omega)
    have c := Ff r (k := 16) (by omega)
    have d := Ff r (k := 8) (by omega)
    simp only [Int.cast_ofNat_Int] at a c d
    rw [a, c, d, xn, xn, xn, xn]; rfl
end Go.Vk
/- Numbers in decimal, texts joined: alike. -/
namespace Go.Vk
open Go.Proofs
def I64 (x : Int) : Prop := -9223372036854775808 ≤ x ∧ x ≤ 9223372036854775807
theorem Gs {d : Nat} (h : d < 10) : dw ([IntKind.u8.wrap (IntKind.i64.wrap (48 + (d : Int)))] : List Int) = [UInt8.ofNat (48 + d)] := by
  rw [bi (by omega) (by omega), IntWalk.u8_in _ (by omega)]
  have : ((48 : Int) + (d : Int)).toNat = 48 + d := by omega
  simp [dw, this]
theorem GJ {u : Nat} (a : 0 < u) (s : List UInt8) : (if u / 10 = 0 then UInt8.ofNat (48 + u % 10) :: s else Lib.decDigits (u / 10) ++ (UInt8.ofNat (48 + u % 10) :: s)) = Lib.decDigits u ++ s := by
  by_cases h : u < 10
  · rw [if_pos (by omega), Lib.decDigits_one h, Nat.mod_eq_of_lt h]; rfl
  · rw [if_neg (by omega), Lib.decDigits.eq_def u, dif_neg h]; simp
def Iv (p : Int) (s : List UInt8) : Option (List UInt8) := if p < 0 then some (45 :: s) else some s
theorem Bb {p : Int} {k : Nat} {s : List UInt8} (a : s.length ≤ 1000) : dQ p (k + 1) 0 s = Iv p s := by
  rw [dQ, if_neg (by simp)]
  unfold Iv mB
  by_cases h : p < 0
  · rw [if_pos (by simpa using h), if_pos h, if_pos (by simp; omega)]; rfl
  · rw [if_neg (by simpa using h), if_neg h]
theorem MR (p : Int) : ∀ (d u k : Nat) (s : List UInt8), u < 10 ^ d → u ≤ 9223372036854775808 → d < k → s.length + d ≤ 1000 → dQ p k (u : Int) s = Iv p (if u = 0 then s else Lib.decDigits u ++ s) := by
  intro d
  induction d with
  | zero =>
    intro u k s a _ hk g
    obtain ⟨k, rfl⟩ := kS k (by omega)
    have : u = 0 := by simpa using a
    subst this
    rw [if_pos rfl]
    exact Bb (by omega)
  | succ d ih =>
    intro u k s a h hk g
    obtain ⟨k, rfl⟩ := kS k (by omega)
    by_cases e : u = 0
    · subst e
      rw [if_pos rfl]
      exact Bb (by omega)
    · have c := mY u 10
      have f := rU u 10
      simp only [Int.cast_ofNat_Int] at c f
      rw [dQ, if_pos (by simp; omega), if_neg (by rw [c]; simp; omega), c]
      unfold jx
      rw [Gs (Nat.mod_lt _ (by omega)), f, bi (by omega) (by omega)]
      unfold mB
      rw [if_pos (by simp; omega)]
      simp only [Option.bind_some, List.cons_append, List.nil_append]
      rw [ih (u / 10) k _ (by rw [Nat.pow_succ] at a; omega) (by omega) (by omega) (by simp; omega), if_neg e, GJ (by omega)]
theorem MT (p : Int) : ∀ (d u k : Nat) (s : List UInt8), u < 10 ^ d → u ≤ 9223372036854775808 → d < k → s.length + d ≤ 1000 → dQ p k (-(u : Int)) s = Iv p (if u = 0 then s else Lib.decDigits u ++ s) := by
  intro d
  induction d with
  | zero =>
    intro u k s a _ hk i
    obtain ⟨k, rfl⟩ := kS k (by omega)
    have : u = 0 := by simpa using a
    subst this
    rw [if_pos rfl]
    exact Bb (by omega)
  | succ d ih =>
    intro u k s a j hk i
    obtain ⟨k, rfl⟩ := kS k (by omega)
    by_cases f : u = 0
    · subst f
      rw [if_pos rfl]
      exact Bb (by omega)
    · have g := mY u 10
      have h := rU u 10
      simp only [Int.cast_ofNat_Int] at g h
      have hr' : Int.tmod (-(u : Int)) 10 = -((u % 10 : Nat) : Int) := by rw [Int.neg_tmod, g]
      have hd' : Int.tdiv (-(u : Int)) 10 = -((u / 10 : Nat) : Int) := by rw [Int.neg_tdiv, h]
      have c : jx s (dQ p k) (-(u : Int)) ((u % 10 : Nat) : Int) = Iv p (Lib.decDigits u ++ s) := by
        unfold jx
        rw [Gs (Nat.mod_lt _ (by omega)), hd', bi (by omega) (by omega)]
        unfold mB
        rw [if_pos (by simp; omega)]
        simp only [Option.bind_some, List.cons_append, List.nil_append]
        rw [ih (u / 10) k _ (by rw [Nat.pow_succ] at a; omega) (by omega) (by omega) (by simp; omega), GJ (by omega)]
      rw [dQ, if_pos (by simp; omega), hr', if_neg f]
      by_cases e : u % 10 = 0
      · rw [if_neg (by rw [e]; simp), e]
        rw [e] at c
        exact c
      · rw [if_pos (by simp; omega), bi (by omega) (by omega), show (0 : Int) - -((u % 10 : Nat) : Int) = ((u % 10 : Nat) : Int) by omega]
        exact c
theorem wY {n : Int} (h : I64 n) : oX n = some (Lib.itoa n) := by
  obtain ⟨d, h1⟩ := h
  unfold oX
  by_cases c : n = 0
  · subst c
    rw [if_pos (by simp)]
    unfold Lib.itoa
    rw [if_neg (by omega), show (0 : Int).toNat = 0 from rfl, Lib.decDigits_one (by omega)]
    rfl
  · rw [if_neg (by simpa using c)]
    by_cases a : n < 0
    · obtain ⟨u, rfl⟩ : ∃ u : Nat, n = -(u : Int) := ⟨n.natAbs, by omega⟩
      rw [MT _ 20 u aI [] (by have : (10 : Nat) ^ 20 = 100000000000000000000 := (by decide); omega) (by omega) (cw (by omega)) (by simp), if_neg (by omega)]
      unfold Iv Lib.itoa
      rw [if_pos a, if_pos a, show (-(u : Int)).natAbs = u by omega, List.append_nil]
    · obtain ⟨u, rfl⟩ : ∃ u : Nat, n = (u : Int) := ⟨n.toNat, by omega⟩
      rw [MR _ 20 u aI [] (by have : (10 : Nat) ^ 20 = 100000000000000000000 := (by decide); omega) (by omega) (cw (by omega)) (by simp), if_neg (by omega)]
      unfold Iv Lib.itoa
      rw [if_neg a, if_neg a, Int.toNat_natCast, List.append_nil]
theorem wS {n : Int} (h : I64 n) : oZ n = some (Lib.itoa n) := by
  unfold oZ Js
  rw [if_pos ⟨h.1, h.2⟩]
  rfl
theorem Hb {n : Int} (h : I64 n) : (Lib.itoa n).length ≤ 21 := Lib.itoa_length_le n h.1 h.2
theorem rt {a b : List UInt8} (h : a.length + b.length ≤ 68719476736) : mB a b = some (a ++ b) := if_pos h
theorem Ko (xs : List (List UInt8)) (x sep : List UInt8) : Lib.join (xs ++ [x]) sep = if xs = [] then x else Lib.join xs sep ++ sep ++ x := by
  cases xs with
  | nil => simp [Lib.join_one]
  | cons y r =>
    rw [List.cons_append, Lib.join_cons, Lib.join_cons, if_neg (by simp)]
    simp [Lib.joinTail]
theorem FA (xs : List (List UInt8)) (sep : List UInt8) : ∀ n, (Lib.join (xs.take n) sep).length ≤ (Lib.join xs sep).length := by
  intro n
  cases xs with
  | nil => simp
  | cons x r =>
    cases n with
    | zero => simp [Lib.join_nil]
    | succ n =>
      rw [List.take_succ_cons, Lib.join_cons, Lib.join_cons]
      simp only [List.length_append, Lib.joinTail]
      have : ((r.take n).map (sep ++ ·)).flatten.length ≤ (r.map (sep ++ ·)).flatten.length := by
        rw [List.map_take]
        conv => rhs; rw [← List.take_append_drop n (r.map (sep ++ ·)), List.flatten_append, List.length_append]
        omega
      omega
theorem yt {xs : List (List UInt8)} {sep : List UInt8} (j : xs.length ≤ 1000000000) (l : (Lib.join xs sep).length ≤ 1000000000) (_ : sep.length ≤ 1000) : iz xs sep = some (Lib.join xs sep) := by
  unfold iz
  refine vM (Lp := fun k i => dY xs sep k (Lib.join (xs.take i) sep) (i : Int)) (n := xs.length) (fun k => ?_) (fun k i c => ?_) (by omega)
  · show dY xs sep (k + 1) _ _ = _
    rw [dY, if_neg (by simp), List.take_length]
  · show dY xs sep (k + 1) _ _ = dY xs sep k _ _
    have h : xs.take (i + 1) = xs.take i ++ [xs[i]] := List.take_succ_eq_append_getElem c
    have h1 := FA xs sep (i + 1)
    have a := Ko (xs.take i) xs[i] sep
    rw [← h] at a
    by_cases d : i = 0
    · subst d
      rw [if_pos (by simp)] at a
      rw [a] at h1 ⊢
      rw [dY, if_pos (by simp; omega), if_neg (by simp)]
      unfold kZ
      rw [aX c, aG (by omega)]
      simp only [Option.bind_some, List.take_zero, Lib.join_nil]
      rw [rt (by simp; omega)]
      rfl
    · have f : ¬ xs.take i = [] := by
        intro e
        have g : (xs.take i).length = i := by rw [List.length_take]; omega
        rw [e] at g
        exact d g.symm
      rw [if_neg f] at a
      rw [a] at h1 ⊢
      simp only [List.length_append] at h1
      rw [dY, if_pos (by simp; omega), if_pos (by simp; omega), rt (by omega)]
      unfold kZ
      simp only [bS]
      rw [aX c, aG (by omega)]
      simp only [bS]
      rw [rt (by simp only [List.length_append]; omega)]
      rfl
theorem yw {xs : List (List UInt8)} {sep : List UInt8} (a : xs.length ≤ 1000000000) (c : (Lib.join xs sep).length ≤ 1000000000) : vg xs sep = some (Lib.join xs sep) := by
  unfold vg
  rw [if_pos ⟨by omega, by omega⟩]
theorem yk {xs : List (List UInt8)} {sep : List UInt8} {b : Nat} (h : ∀ x ∈ xs, x.length ≤ b) : (Lib.join xs sep).length ≤ (sep.length + b) * xs.length := by
  cases xs with
  | nil => simp [Lib.join_nil]
  | cons x r =>
    rw [Lib.join_cons, List.length_append]
    have c := h x (by simp)
    have : (Lib.joinTail sep r).length ≤ (sep.length + b) * r.length := by
      unfold Lib.joinTail
      have a : ∀ y ∈ r, y.length ≤ b := fun y d => h y (by simp [d])
      clear h c
      induction r with
      | nil => simp
      | cons y r ih =>
        have h1 := a y (by simp)
        have f := ih (fun z e => a z (by simp [e]))
        simp only [List.map_cons, List.flatten_cons, List.length_append, List.length_cons, Nat.mul_succ]
        omega
    simp only [List.length_cons, Nat.mul_succ]
    omega
theorem Fc {p : List Int} {sep : List UInt8} (a : qA p) (f : sep.length ≤ 100) : kP p sep = some (Lib.join (p.map Lib.itoa) sep) ∧ (Lib.join (p.map Lib.itoa) sep).length ≤ 121 * p.length := by
  have g := a.1
  have c : (Lib.join (p.map Lib.itoa) sep).length ≤ 121 * p.length := by
    have := yk (xs := p.map Lib.itoa) (sep := sep) (b := 21) (fun x d => by
      obtain ⟨n, e, rfl⟩ := List.mem_map.1 d
      exact Hb (a.2 n e))
    rw [List.length_map] at this
    exact Nat.le_trans this (Nat.mul_le_mul_right _ (by omega))
  refine ⟨?_, c⟩
  unfold kP
  refine xX (p := p) Lib.itoa (fun k l i => dH p sep k i l) (fun l => (vg l sep).bind fun s => some s) (fun k l => ?_) (fun k l i h j => ?_) (by omega) |>.trans ?_
  · show dH p sep (k + 1) _ l = _
    rw [dH, if_neg (by simp)]
  · show dH p sep (k + 1) _ l = _
    rw [dH, if_pos (by simp; omega), aX h, aG (by omega)]
    simp only [bS]
    rw [wS (a.2 _ (List.getElem_mem h))]
    simp only [bS]
    rw [cJ (by simp; omega)]
    rfl
  · rw [yw (by simp; omega) (by omega)]
    rfl
end Go.Vk
/- A schema's text: alike. -/
namespace Go.Vk
open Go.Proofs
theorem Dec.val {o : Option Bool} {P : Prop} (h : Dec o P) (p : P) : o = some true := by
  rcases h.cases with ⟨e, _⟩ | ⟨_, n⟩
  · exact e
  · exact absurd p n
theorem FM {ws : List (List UInt8)} (h : ur ws) : ∀ w ∈ ws, w.length ≤ 8 := fun w c => by
  obtain ⟨i, a, rfl⟩ := List.getElem_of_mem c
  have := (h i (Nat.zero_le _) a a).1.1
  omega
def dn (a : ap) : List UInt8 := if 0 < a.x_.length then a.D_ ++ [58] ++ Lib.join (a.x_.map Lib.itoa) [44] else a.D_ ++ [61] ++ Lib.join a.F_ [44]
theorem zo {a : ap} (d : iS a) (h : oJ a) : jd a = some (dn a) ∧ je a = some (dn a) ∧ (dn a).length ≤ 400 := by
  have t : a.D_.length ≤ 8 := by have := h.1.1; omega
  unfold jd je dn
  rw [(uZ (vp d)).val h, (yA (vp d)).val h]
  simp only [cS]
  rcases h.2 with ⟨g, u, j⟩ | ⟨g, v, _⟩
  · have m := yk (xs := a.F_) (sep := [44]) (FM j)
    have o : (Lib.join a.F_ [44]).length ≤ 36 := by simp only [List.length_cons, List.length_nil] at m; omega
    rw [if_pos (by simp; omega), if_neg (c := 0 < a.x_.length) (by omega), if_neg (c := decide ((a.x_.length : Int) > 0) = true) (by rw [decide_eq_true_iff]; omega), rt (by simp; omega)]
    simp only [bS]
    rw [yt (by omega) (by omega) (by simp), yw (by omega) (by omega)]
    simp only [bS]
    rw [rt (by simp; omega)]
    exact ⟨rfl, rfl, by simp; omega⟩
  · obtain ⟨q, o⟩ := Fc (sep := [44]) d.2.1 (by simp)
    have r : a.x_.length ≤ 3 := by omega
    have e : mB a.D_ [58] = some (a.D_ ++ [58]) := rt (by simp only [List.length_cons, List.length_nil]; omega)
    have f : mB (a.D_ ++ [58]) (Lib.join (a.x_.map Lib.itoa) [44]) = some (a.D_ ++ [58] ++ Lib.join (a.x_.map Lib.itoa) [44]) := rt (by simp only [List.length_append, List.length_cons, List.length_nil]; omega)
    rw [if_neg (c := decide ((a.F_.length : Int) > 0) = true) (by rw [decide_eq_true_iff]; omega), if_pos (c := 0 < a.x_.length) (by omega), if_pos (c := decide ((a.x_.length : Int) > 0) = true) (by rw [decide_eq_true_iff]; omega), e]
    simp only [bS]
    rw [q]
    simp only [bS]
    rw [f]
    refine ⟨?_, rfl, by simp; omega⟩
    refine (xX (p := a.x_) Lib.itoa (fun k l i => fk a k l i) (fun l => (mB a.D_ [58]).bind fun s => (iz l [44]).bind fun y => (mB s y).bind fun s => some s) (fun k l => ?_) (fun k l i h w => ?_) (by omega)).trans ?_
    · show fk a (k + 1) l _ = _
      rw [fk, if_neg (by simp)]
    · show fk a (k + 1) l _ = _
      rw [fk, if_pos (by simp; omega), aX h, aG (by omega)]
      simp only [bS]
      rw [wY (d.2.1.2 _ (List.getElem_mem h))]
      simp only [bS]
      rw [cJ (by simp; omega)]
      rfl
    · rw [e]
      simp only [bS]
      rw [yt (by simp; omega) (by omega) (by simp)]
      simp only [bS]
      rw [f]; rfl
def ix (s : aj) : List UInt8 := Lib.join (s.d_.map dn) [59] ++ [124] ++ Lib.join s.f_ [44]
theorem sQ {s : aj} (c : bV s) (h : jV s) : lF s = some (ix s) ∧ lV s = some (ix s) ∧ (ix s).length ≤ 3000 := by
  have m := h.1
  have o := h.2.1
  have d : ∀ {i : Nat} (a : i < s.d_.length), jd s.d_[i] = some (dn s.d_[i]) ∧ je s.d_[i] = some (dn s.d_[i]) ∧ (dn s.d_[i]).length ≤ 400 := fun a => zo (c.1.2 _ (List.getElem_mem a)) (h.attr a)
  have h1 : (Lib.join (s.d_.map dn) [59]).length ≤ 2005 := by
    have := yk (xs := s.d_.map dn) (sep := [59]) (b := 400) (fun x g => by
      obtain ⟨y, j, rfl⟩ := List.mem_map.1 g
      obtain ⟨i, a, rfl⟩ := List.getElem_of_mem j
      exact (d a).2.2)
    rw [List.length_map] at this
    simp only [List.length_cons, List.length_nil] at this
    omega
  have q : (Lib.join s.f_ [44]).length ≤ 27 := by
    have := yk (xs := s.f_) (sep := [44]) (FM h.2.2.1)
    simp only [List.length_cons, List.length_nil] at this
    omega
  have e : mB (Lib.join (s.d_.map dn) [59]) [124] = some (Lib.join (s.d_.map dn) [59] ++ [124]) := rt (by simp only [List.length_cons, List.length_nil]; omega)
  have f : mB (Lib.join (s.d_.map dn) [59] ++ [124]) (Lib.join s.f_ [44]) = some (ix s) := rt (by simp only [List.length_append, List.length_cons, List.length_nil]; omega)
  unfold lF lV
  rw [(mE (nM c)).val h, (mG (nM c)).val h]
  simp only [cS]
  refine ⟨?_, ?_, by unfold ix; simp; omega⟩
  · refine (xX (p := s.d_) dn (fun k l i => ei s k l i) (fun l => (iz l [59]).bind fun y => (mB y [124]).bind fun t => (iz s.f_ [44]).bind fun y => (mB t y).bind fun t => some t) (fun k l => ?_) (fun k l i h a => ?_) (by omega)).trans ?_
    · show ei s (k + 1) l _ = _
      rw [ei, if_neg (by simp)]
    · show ei s (k + 1) l _ = _
      rw [ei, if_pos (by simp; omega), aX h, aG (by omega)]
      simp only [bS]
      rw [(d h).1]
      simp only [bS]
      rw [cJ (by simp; omega)]
      rfl
    · rw [yt (by simp; omega) (by omega) (by simp)]
      simp only [bS]
      rw [e]
      simp only [bS]
      rw [yt (by omega) (by omega) (by simp)]
      simp only [bS]
      rw [f]; rfl
  · refine (xX (p := s.d_) dn (fun k l i => ej s k i l) (fun l => (vg l [59]).bind fun y => (mB y [124]).bind fun t => (vg s.f_ [44]).bind fun y => (mB t y).bind fun t => some t) (fun k l => ?_) (fun k l i h a => ?_) (by omega)).trans ?_
    · show ej s (k + 1) _ l = _
      rw [ej, if_neg (by simp)]
    · show ej s (k + 1) _ l = _
      rw [ej, if_pos (by simp; omega), aX h, aG (by omega)]
      simp only [bS]
      rw [(d h).2.1]
      simp only [bS]
      rw [cJ (by simp; omega)]
      rfl
    · rw [yw (by simp; omega) (by omega)]
      simp only [bS]
      rw [e]
      simp only [bS]
      rw [yw (by omega) (by omega)]
      simp only [bS]
      rw [f]; rfl
def pX (w : List UInt8) : List Int := pV w.length ++ byS w
theorem DI {w : List UInt8} (h : w.length ≤ 3000) : pR w = some (pX w) ∧ pr w = some (pX w) ∧ (pX w).length ≤ 3005 := by
  obtain ⟨h1, a, c⟩ := Ej (n := w.length) (by omega)
  have d := ru w
  have e : xm w = some (byS w) := if_pos (by omega)
  unfold pR pr pX
  rw [h1, a, e]
  simp only [bS]
  rw [cJ (by omega)]
  exact ⟨rfl, rfl, by rw [List.length_append]; omega⟩
theorem cV {a b : List Int} (c : dl a) (d : dl b) : dl (a ++ b) := fun x e => (List.mem_append.1 e).elim (c x) (d x)
theorem rJ {α : Type} {p : List α} {B : α → List Int} (h : ∀ x ∈ p, dl (B x)) : dl (p.flatMap B) := fun y a => by
  obtain ⟨x, c, a⟩ := List.mem_flatMap.1 a
  exact h x c y a
theorem JX (s : List UInt8) : dl (byS s) := fun x a => by
  obtain ⟨b, _, rfl⟩ := List.mem_map.1 a
  have := b.toNat_lt
  exact ⟨by omega, by omega⟩
theorem wE : ∀ n : Nat, dl (pV n)
  | n => by
    by_cases h : n < 128
    · rw [xC h]
      intro x hx
      rw [List.mem_singleton.1 hx]
      omega
    · rw [Ba h]
      intro x hx
      rcases List.mem_cons.1 hx with rfl | hx
      · omega
      · exact wE (n / 128) x hx
termination_by n => n
theorem eM (x : Int) : dl (dh x) := by
  unfold dh
  split
  · exact wE _
  · intro x a; cases a
theorem zU (p : List Int) : dl (jL p) := rJ fun x _ => eM x
theorem sN (p : List Int) : dl (iI p) := cV (eM _) (zU _)
theorem tZ (p : List (List Int)) : dl (p.flatMap iI) := rJ fun x _ => sN x
theorem GT (x : az) : dl (qx x) :=
  cV (cV (cV (cV (cV (cV (cV (cV (cV (cV (cV (eM _) (eM _)) (eM _)) (sN _)) (eM _)) (sN _)) (cV (eM _) (tZ _))) (eM _)) (sN _)) (eM _)) (eM _)) (eM _)
end Go.Vk
/- What a right state's bytes need: alike. -/
namespace Go.Vk
theorem sF {α : Type} {p : List α} {f : α → Nat} {b : Nat} (h : ∀ x ∈ p, f x ≤ b) : (p.map f).sum ≤ b * p.length := by
  induction p with
  | nil => simp
  | cons x p ih =>
    have h1 := h x (by simp)
    have c := ih fun y a => h y (by simp [a])
    simp only [List.map_cons, List.sum_cons, List.length_cons, Nat.mul_succ]
    omega
theorem Nf {l : List Int} {n : Nat} (h : ∀ i, 0 ≤ i → i < l.length → ∀ h : i < l.length, (0 ≤ l[i] ∧ l[i] ≤ (n : Int) - 1) ∧ (0 < i → l[i - 1] < l[i])) : l.length ≤ n := by
  have key : ∀ i, ∀ a : i < l.length, (i : Int) ≤ l[i] := by
    intro i
    induction i with
    | zero => intro a; exact (h 0 (Nat.le_refl _) a a).1.1
    | succ i ih =>
      intro a
      have h1 := ih (by omega)
      have c := (h (i + 1) (Nat.zero_le _) a a).2 (Nat.succ_pos i)
      simp only [Nat.add_sub_cancel] at c
      omega
  by_cases d : l.length = 0
  · omega
  · have h1 := key (l.length - 1) (by omega)
    have c := (h (l.length - 1) (Nat.zero_le _) (by omega) (by omega)).1.2
    omega
theorem vZ {l : List Int} (h : ∀ x ∈ l, 0 ≤ x ∧ x ≤ 99999) : ot l := fun x a => by
  have := h x a
  exact ⟨by omega, by omega⟩
theorem QH {s : aj} {f : bD} (h : vw s f) : f.u_ ≤ 4 := by
  have h1 := h.2.2.2
  have d := (Ir (a := atr s f) (by
      obtain ⟨j, c, e⟩ := List.getElem_of_mem (yc h.2.1)
      rw [← e]
      exact h.1.attr c)).2
  unfold FB at h1
  split at h1 <;> omega
theorem Ky {s : aj} {x : bl} (h : ud s x) : ot x.q_ ∧ (∀ y ∈ x.l_, ot y) ∧ x.q_.length + uv x.l_ ≤ 80 ∧ x.q_.sum ≤ 999 := by
  obtain ⟨d, h1, j, k, a⟩ := h
  have q := d.2.1
  have r := d.1
  have g : ∀ y ∈ x.l_, ot y ∧ y.length ≤ 12 := fun y c => by
    rcases a with a | ⟨a, l⟩
    · rw [List.length_eq_zero_iff.1 a] at c; cases c
    · obtain ⟨i, m, rfl⟩ := List.getElem_of_mem c
      obtain ⟨c1, c2, _⟩ := l i m (by omega)
      have o := (Ir (d.attr (i := i) (by omega))).2
      have := Nat.mul_le_mul o (show s.f_.length ≤ 3 by omega)
      exact ⟨vZ fun z e => by have := c2 z e; omega, by omega⟩
  have t : x.l_.length ≤ 5 := by
    rcases a with a | ⟨a, _⟩ <;> omega
  refine ⟨vZ fun z e => by have := j z e; omega, fun y c => (g y c).1, ?_, k⟩
  have := sF (p := x.l_) (f := List.length) (b := 12) fun y c => (g y c).2
  unfold uv
  omega
theorem Ee {s : aj} {t : ax} (c : zK s t) {i : Nat} (r : i < t.e_.length) : tK t.e_[i] ∧ szM t.e_[i] ≤ 100 := by
  have hL := c.2.1
  have hs := c.2.2.1
  have hA := c.1.1
  obtain ⟨⟨F, G, k, a, l, o⟩, v, w⟩ := c.2.2.2 i r r
  obtain ⟨A, C, H, L⟩ := Ky k
  have M := Nf a.2.2
  have D : ot t.e_[i].d_ := vZ fun z q => by
    obtain ⟨j, E, rfl⟩ := List.getElem_of_mem q
    have := (a.2.2 j (Nat.zero_le _) E E).1
    omega
  have P : -1 ≤ t.e_[i].A_ ∧ t.e_[i].A_ ≤ 31 := by
    by_cases Q : i = 0
    · have := (v Q).1; omega
    · obtain ⟨u, a3, a4, e, _⟩ := w (by omega); omega
  generalize t.e_[i] = n at F G k a l o A C H L M D P
  have hk : ot n.v_ ∧ n.v_.length ≤ 4 ∧ (-1 ≤ n.i_.t_ ∧ n.i_.t_ ≤ 5) ∧ (-1 ≤ n.i_.u_ ∧ n.i_.u_ ≤ 5) ∧ (0 ≤ n.I_ ∧ n.I_ ≤ 5) ∧ (0 ≤ n.J_ ∧ n.J_ ≤ 999) := by
    cases p : n.B_ with
    | true =>
      obtain ⟨⟨R, T⟩, V, X, d⟩ := l p
      refine ⟨?_, by omega, by omega, by omega, by omega, d.1, ?_⟩
      · rw [List.length_eq_zero_iff.1 V]; intro x f; cases f
      · have := d.2
        split at this <;> omega
    | false =>
      obtain ⟨g, R, T, _, X, d⟩ := o p
      have b1 := (KS g).2
      have b2 := QH g
      have b3 := g.2.1
      have b4 := g.2.2.1
      refine ⟨vZ fun z q => ?_, by omega, by omega, by omega, by omega, by omega⟩
      obtain ⟨m, hm, e, _⟩ := d.2 z q
      omega
  obtain ⟨Z, k2, k3, k4, k5, k6⟩ := hk
  have hI : ∀ {x : Int}, -1 ≤ x ∧ x ≤ 99999 → InR x := fun h => ⟨by omega, by omega⟩
  refine ⟨⟨?_, Z, D, A, C⟩, by unfold szM; omega⟩
  intro x f
  simp only [List.mem_cons, List.not_mem_nil, or_false] at f
  rcases f with rfl | rfl | rfl | rfl | rfl | rfl | rfl <;> exact hI (by omega)
def Ce (t : ax) : Prop := szU t ≤ 4000 ∧ t.e_.length ≤ 31 ∧ InR t.y_ ∧ ∀ y ∈ t.e_, tK y
theorem OC {s : aj} {t : ax} (a : zK s t) : Ce t := by
  have e := a.2.1
  have g := a.2.2.1
  have := sF (p := t.e_) (f := szM) (b := 100) fun y c => by
    obtain ⟨i, d, rfl⟩ := List.getElem_of_mem c
    exact (Ee a d).2
  refine ⟨by unfold szU; omega, by omega, ⟨by omega, by omega⟩, fun y c => ?_⟩
  obtain ⟨i, d, rfl⟩ := List.getElem_of_mem c
  exact (Ee a d).1
theorem Nl {t : ax} (h : FE t) : Ce t := by
  have e := List.length_eq_zero_iff.1 h.1
  refine ⟨by unfold szU; rw [e]; simp, by rw [e]; simp, ⟨by have := h.2; omega, by have := h.2; omega⟩, fun y a => ?_⟩
  rw [e] at a; cases a
def rc (t : ax) : List Int := dh t.y_ ++ dh t.e_.length ++ t.e_.flatMap qx
theorem zB {t : ax} (h : Ce t) : (rc t).length ≤ 22000 := by
  have h1 := dd t.y_
  have c := dd t.e_.length
  have d := BC t.e_
  have a := h.1
  have e := h.2.1
  unfold szU at a
  unfold rc
  simp only [List.length_append]
  omega
theorem Ad (t : ax) : dl (rc t) := cV (cV (eM _) (eM _)) (rJ fun x _ => GT x)
theorem Es {t : ax} (h : Ce t) : ls t = some (rc t) := by
  rw [FU (by have := h.1; omega), if_pos h.2.2]; rfl
theorem DO {t : ax} (h : Ce t) {l : List Int} (m : l.length ≤ 1000000) : jk ⟨l, false⟩ t = some ⟨l ++ rc t, false⟩ := by
  have a := zB h
  have h1 := h.2.1
  have o := h.1
  unfold rc at a ⊢
  simp only [List.length_append] at a
  have f : InR (t.e_.length : Int) := vW (by omega)
  have g := mj [t.y_, (t.e_.length : Int)]
  simp only [List.length_cons, List.length_nil] at g
  unfold jk
  rw [gS (by simp) _ _ (by omega)]
  simp only [bS]
  have e : (false || decide (¬ ∀ x ∈ [t.y_, (t.e_.length : Int)], InR x)) = false := by simp [f, h.2.2.1]
  rw [e]
  refine (oY (M := 400000000) (p := t.e_) (σ := Bool) qx (fun q x => q || decide (¬ tK x)) (dJ t) (fun l q => some ⟨l, q⟩)
      (fun k l q => by show (if _ then _ else _) = _; rw [if_neg (by simp)])
      (fun k l q i c d => by
        have j := List.getElem_mem c
        exact CS c (by omega) (by have := EY j; omega) d) (by omega) _ false (by simp only [List.length_append]; omega)).trans ?_
  rw [DK, decide_eq_false (show ¬ ¬ _ from fun n => n h.2.2.2)]
  simp [xb, zd]
def Kv (x : aJ) : Prop := uv x.p_ ≤ 32 ∧ ∀ r ∈ x.p_, ot r
theorem Qv {x : aJ} (h : HO x) : Kv x := by
  have c : ∀ r ∈ x.p_, ot r ∧ r.length ≤ 3 := fun r a => by
    obtain ⟨i, d, rfl⟩ := List.getElem_of_mem a
    obtain ⟨h1, e⟩ := h.2 i d d
    have g := h.1
    have l : 2 ^ i ≤ 2 ^ 8 := Nat.pow_le_pow_right (by omega) (by omega)
    exact ⟨vZ fun z j => by have := e z j; omega, h1.2⟩
  have := sF (p := x.p_) (f := List.length) (b := 3) fun y k => (c y k).2
  have g := h.1
  exact ⟨by unfold uv; omega, fun r a => (c r a).1⟩
def yg (x : aJ) : List Int := dh x.p_.length ++ x.p_.flatMap iI
theorem Gp {x : aJ} (h : Kv x) : (yg x).length ≤ 200 := by
  have h1 := dd x.p_.length
  have a := qa x.p_
  have c := h.1
  unfold yg
  rw [List.length_append]
  omega
theorem BZ (x : aJ) : dl (yg x) := cV (eM _) (tZ _)
theorem FY {x : aJ} (h : Kv x) : jC x = some (yg x) := by
  rw [CR (by have := h.1; omega), if_pos h.2]; rfl
theorem GF {x : aJ} (h : Kv x) {l : List Int} (a : l.length ≤ 1000000) : ij ⟨l, false⟩ x = some ⟨l ++ yg x, false⟩ := by
  have c := h.1
  have d := @ro x.p_
  have e := dd x.p_.length
  unfold ij
  rw [tS (vW (by omega)) _ _ (by omega)]
  simp only [bS]
  rw [yb (p := x.p_) (by omega) (gX x) _ (fun _ _ _ _ => rfl) _ _ (by simp only [List.length_append]; omega), decide_eq_false (show ¬ ¬ _ from fun n => n h.2), List.append_assoc]
  rfl
end Go.Vk
/- The bytes of a state: alike. -/
namespace Go.Vk
def rm (m : au) : List Int := rc m.H_ ++ dh (rT m.T_) ++ rc m.w_ ++ yg m.K_.r_ ++ yg m.K_.s_
def Ms (m : au) : Prop := Ce m.H_ ∧ Ce m.w_ ∧ Kv m.K_.r_ ∧ Kv m.K_.s_
theorem SW {c : aR} {m : au} (h : sW c m) : Ms m := by
  obtain ⟨_, h1, a, e, f⟩ := h
  refine ⟨OC h1.1, ?_, Qv a.1, Qv a.2⟩
  cases d : m.T_ with
  | true => exact OC (e d).1
  | false => exact Nl (f d)
theorem MF {m : au} (h : Ms m) : (rm m).length ≤ 45000 := by
  have h1 := zB h.1
  have a := zB h.2.1
  have c := Gp h.2.2.1
  have d := Gp h.2.2.2
  have e := dd (rT m.T_)
  unfold rm
  simp only [List.length_append]
  omega
theorem Ik (m : au) : dl (rm m) := cV (cV (cV (cV (Ad _) (eM _)) (Ad _)) (BZ _)) (BZ _)
def nX (p : aC) : List Int := dh p.R_ ++ dh p.S_
def jY (st : ao) : List Int := [st.a_.b_.L_, st.a_.b_.N_, st.a_.b_.M_, st.a_.b_.h_, st.a_.b_.e_, st.a_.b_.E_, rT st.a_.b_.Q_]
def ku (st : ao) : List Int := [st.a_.j_, st.a_.O_, st.a_.P_, st.a_.r_, st.a_.s_]
def ux (st : ao) : List Int := [83, 80, 78, 1] ++ pX (ix st.a_.g_)
def pW (st : ao) : List Int := st.m_.o_.flatMap iI ++ dh st.m_.n_.length ++ st.m_.n_.flatMap nX
structure StG (st : ao) : Prop where
  head : (ux st).length ≤ 3009
  numA : ∀ x ∈ jY st, InR x
  numC : ∀ x ∈ ku st, InR x
  mems : st.z_.j_.length ≤ 4
  mem : ∀ m ∈ st.z_.j_, Ms m
  rows : st.m_.o_.length ≤ 3
  row : ∀ r ∈ st.m_.o_, ot r ∧ r.length ≤ 3
  lasts : st.m_.n_.length ≤ 20
  last : ∀ p ∈ st.m_.n_, InR p.R_ ∧ InR p.S_
theorem stG {st : ao} (g : iJ st) (h : nJ st) : StG st := by
  obtain ⟨⟨j, C, k⟩, l⟩ := h
  obtain ⟨h1, o, D, E, F, G, H, _⟩ := j
  obtain ⟨q, L, s, e⟩ := l
  obtain ⟨r1, M, P, Q, R, T⟩ := o
  have V := h1.1
  have c : ∀ {x : Int}, 0 ≤ x ∧ x ≤ 99999 → InR x := fun h => ⟨by omega, by omega⟩
  have d := yu st.a_.b_.Q_
  refine ⟨?_, ?_, ?_, by omega, fun m a => SW (k m a), by omega, ?_, ?_, fun p t => ?_⟩
  · have := (DI (sQ g.1.1 h1).2.2).2.2
    unfold ux
    simp only [List.length_append, List.length_cons, List.length_nil]
    omega
  · intro x a
    simp only [jY, List.mem_cons, List.not_mem_nil, or_false] at a
    rcases a with rfl | rfl | rfl | rfl | rfl | rfl | rfl
    all_goals first | exact d | exact c (by omega)
  · intro x a
    simp only [ku, List.mem_cons, List.not_mem_nil, or_false] at a
    rcases a with rfl | rfl | rfl | rfl | rfl
    all_goals exact c (by omega)
  · intro r u
    obtain ⟨i, f, rfl⟩ := List.getElem_of_mem u
    obtain ⟨v, w⟩ := EZ f (s i f) q.2
    exact ⟨vZ fun z A => by have := w z A; omega, v⟩
  · have := e.2.1
    split at this <;> omega
  · obtain ⟨p1, X⟩ := e.2.2 p t
    exact ⟨c (by omega), c (by omega)⟩
theorem Cj {α : Type} {p : List α} {B : α → List Int} {b : Nat} (h : ∀ x ∈ p, (B x).length ≤ b) : (p.flatMap B).length ≤ b * p.length := by
  rw [List.length_flatMap]
  exact sF (f := fun x => (B x).length) h
theorem xt {st : ao} (h : StG st) : (st.z_.j_.flatMap rm).length ≤ 180000 := by
  have h1 := Cj (p := st.z_.j_) (B := rm) fun m a => MF (h.mem m a)
  have c := h.mems
  omega
theorem FL {st : ao} (h : StG st) : (pW st).length ≤ 300 := by
  have h1 := Cj (p := st.m_.o_) (B := iI) (b := 20) fun r a => by
    have := kN r
    have := (h.row r a).2
    omega
  have c := Cj (p := st.m_.n_) (B := nX) (b := 10) fun p _ => by
    have h1 := dd p.R_
    have c := dd p.S_
    unfold nX
    rw [List.length_append]
    omega
  have d := h.rows
  have e := h.lasts
  have f := dd st.m_.n_.length
  unfold pW
  simp only [List.length_append]
  omega
theorem vF {st : ao} (h : StG st) : (st.m_.n_.flatMap nX).length ≤ 300 ∧ (st.m_.o_.flatMap iI).length ≤ 300 := by
  have := FL h
  unfold pW at this
  simp only [List.length_append] at this
  omega
theorem Iw {n i : Nat} (h : i < n) : decide ((i : Int) < (n : Int)) = true := by rw [decide_eq_true_iff]; exact Int.ofNat_lt.2 h
theorem In {n : Nat} : ¬ decide ((n : Int) < (n : Int)) = true := by simp
theorem JL {st : ao} (h : StG st) (l : List Int) (d : l.length ≤ 400000) :
    fX st aI 0 l = (ga (l ++ st.m_.n_.flatMap nX)).bind fun y => (app (l ++ st.m_.n_.flatMap nX) y).bind fun z => some z := by
  have e := (vF h).1
  have f := h.lasts
  exact oY (M := 1000000) (p := st.m_.n_) (σ := Unit) nX (fun _ _ => ()) (fun k l _ i => fX st k i l) (fun l _ => (ga l).bind fun y => (app l y).bind fun z => some z)
    (fun k l _ => by
      show (if _ then _ else _) = _
      rw [if_neg In])
    (fun k l _ i c a => by
      show (if _ then _ else _) = _
      unfold nX at a ⊢
      rw [List.length_append] at a
      rw [if_pos (Iw c), aX c, aG (by omega)]
      simp only [bS]
      rw [eV.1, eV.1]
      simp only [bS]
      rw [cJ (by omega)]
      simp only [bS]
      rw [cJ (by rw [List.length_append]; omega), List.append_assoc]
      rfl) (by omega) l () (by omega)
theorem Kk {st : ao} (h : StG st) (l : List Int) (g : l.length ≤ 400000) :
    fW st aI 0 l false = (fL (l ++ st.m_.n_.flatMap nX)).bind fun y => (app (l ++ st.m_.n_.flatMap nX) y).bind fun z => some z := by
  have j := (vF h).1
  have m := h.lasts
  exact oY (M := 1000000) (p := st.m_.n_) (σ := Unit) nX (fun _ _ => ()) (fun k l _ i => fW st k i l false) (fun l _ => (fL l).bind fun y => (app l y).bind fun z => some z)
    (fun k l _ => by
      show (if _ then _ else _) = _
      rw [if_neg In])
    (fun k l _ i a f => by
      show (if _ then _ else _) = _
      obtain ⟨c, d⟩ := h.last _ (List.getElem_mem a)
      rw [if_pos (Iw a), aX a, aG (by omega)]
      simp only [bS]
      have e : ∀ x ∈ [st.m_.n_[i].R_, st.m_.n_[i].S_], InR x := by simp [c, d]
      rw [gS (by simp) _ _ (by omega), decide_eq_false (show ¬ ¬ _ from fun n => n e)]
      simp only [Option.bind_some, nX, xb, zd, List.append_nil]
      rfl) (by omega) l () (by omega)
theorem Ku {st : ao} (h : StG st) (l : List Int) (e : l.length ≤ 300000) :
    eX st aI l 0 = (ga (l ++ pW st)).bind fun y => (app (l ++ pW st) y).bind fun z => some z := by
  obtain ⟨f, g⟩ := vF h
  have j := h.rows
  have m := dd st.m_.n_.length
  refine (oY (M := 1000000) (p := st.m_.o_) (σ := Unit) iI (fun _ _ => ()) (fun k l _ i => eX st k l i) (fun l _ => (cP (st.m_.n_.length : Int)).bind fun y => (app l y).bind fun l => fX st aI 0 l)
    (fun k l _ => by
      show (if _ then _ else _) = _
      rw [if_neg In])
    (fun k l _ i a d => by
      show (if _ then _ else _) = _
      obtain ⟨c, o⟩ := h.row _ (List.getElem_mem a)
      rw [if_pos (Iw a), aX a, aG (by omega)]
      simp only [bS]
      rw [qv (by omega) c]
      simp only [bS]
      rw [cJ (by omega)]
      rfl) (by omega) l () (by omega)).trans ?_
  rw [eV.1]
  simp only [bS]
  rw [cJ (by rw [List.length_append]; omega)]
  simp only [bS]
  rw [JL h _ (by simp only [List.length_append]; omega)]
  simp only [pW, List.append_assoc]
theorem Kn {st : ao} (h : StG st) (l : List Int) (e : l.length ≤ 300000) :
    eY st aI 0 l false = (fL (l ++ pW st)).bind fun y => (app (l ++ pW st) y).bind fun z => some z := by
  obtain ⟨f, g⟩ := vF h
  have j := h.rows
  have m := h.lasts
  have o := dd st.m_.n_.length
  refine (oY (M := 1000000) (p := st.m_.o_) (σ := Unit) iI (fun _ _ => ()) (fun k l _ i => eY st k i l false) (fun l _ => (bO ⟨l, false⟩ [(st.m_.n_.length : Int)]).bind fun y => fW st aI 0 y.U_ y.C_)
    (fun k l _ => by
      show (if _ then _ else _) = _
      rw [if_neg In])
    (fun k l _ i a d => by
      show (if _ then _ else _) = _
      obtain ⟨c, q⟩ := h.row _ (List.getElem_mem a)
      rw [if_pos (Iw a), aX a, aG (by omega)]
      simp only [bS]
      rw [ph (by omega) _ _ (by omega), decide_eq_false (show ¬ ¬ _ from fun n => n c)]
      rfl) (by omega) l () (by omega)).trans ?_
  rw [tS (vW (by omega)) _ _ (by rw [List.length_append]; omega)]
  simp only [bS]
  rw [Kk h _ (by simp only [List.length_append]; omega)]
  simp only [pW, List.append_assoc]
theorem JI {st : ao} (h : StG st) (l : List Int) (j : l.length ≤ 10000) :
    ff st aI l 0 = eX st aI (l ++ st.z_.j_.flatMap rm) 0 := by
  have h1 := h.mems
  have o := xt h
  exact oY (M := 1000000) (p := st.z_.j_) (σ := Unit) rm (fun _ _ => ()) (fun k l _ i => ff st k l i) (fun l _ => eX st aI l 0)
    (fun k l _ => by
      show (if _ then _ else _) = _
      rw [if_neg In])
    (fun k l _ i c a => by
      show (if _ then _ else _) = _
      obtain ⟨d, e, f, g⟩ := h.mem _ (List.getElem_mem c)
      rw [if_pos (Iw c), aX c, aG (by omega)]
      generalize st.z_.j_[i] = m at d e f g a
      unfold rm at a ⊢
      simp only [List.length_append] at a
      simp only [bS]
      rw [Es d, Es e, FY f, FY g, (zy _).1]
      simp only [bS]
      rw [eV.1]
      simp only [bS]
      rw [cJ (by omega)]
      simp only [bS]
      rw [cJ (by simp only [List.length_append]; omega)]
      simp only [bS]
      rw [cJ (by simp only [List.length_append]; omega)]
      simp only [bS]
      rw [cJ (by simp only [List.length_append]; omega)]
      simp only [bS]
      rw [cJ (by simp only [List.length_append]; omega)]
      simp only [Option.bind_some, List.append_assoc]) (by omega) l () (by omega)
theorem Kz {st : ao} (h : StG st) (l : List Int) (j : l.length ≤ 10000) :
    fV st aI l false 0 = eY st aI 0 (l ++ st.z_.j_.flatMap rm) false := by
  have h1 := h.mems
  have o := xt h
  exact oY (M := 1000000) (p := st.z_.j_) (σ := Unit) rm (fun _ _ => ()) (fun k l _ i => fV st k l false i) (fun l _ => eY st aI 0 l false)
    (fun k l _ => by
      show (if _ then _ else _) = _
      rw [if_neg In])
    (fun k l _ i c a => by
      show (if _ then _ else _) = _
      obtain ⟨d, e, f, g⟩ := h.mem _ (List.getElem_mem c)
      rw [if_pos (Iw c), aX c, aG (by omega)]
      generalize st.z_.j_[i] = m at d e f g a
      unfold rm at a ⊢
      simp only [List.length_append] at a
      simp only [bS]
      rw [DO d (by omega), (zy _).2]
      simp only [bS]
      rw [tS (yu _) _ _ (by simp only [List.length_append]; omega)]
      simp only [bS]
      rw [DO e (by simp only [List.length_append]; omega)]
      simp only [bS]
      rw [GF f (by simp only [List.length_append]; omega)]
      simp only [bS]
      rw [GF g (by simp only [List.length_append]; omega)]
      simp only [Option.bind_some, List.append_assoc]) (by omega) l () (by omega)
def nE (st : ao) : List Int := ux st ++ jL (jY st ++ ku st) ++ st.z_.j_.flatMap rm ++ pW st
theorem Fs9 {st : ao} (h : StG st) : (nE st).length ≤ 300000 := by
  have h1 := h.head
  have a := mj (jY st ++ ku st)
  have d := xt h
  have e := FL h
  have c : (jY st ++ ku st).length = 12 := rfl
  unfold nE
  simp only [List.length_append] at a c ⊢
  omega
theorem xl (st : ao) : dl (nE st) := by
  refine cV (cV (cV (cV ?_ (cV (wE _) (JX _))) (zU _)) (rJ fun m _ => Ik m)) (cV (cV (tZ _) (eM _)) (rJ fun p _ => cV (eM _) (eM _)))
  intro x a
  simp only [List.mem_cons, List.not_mem_nil, or_false] at a
  omega
theorem Bx {a : ao} (f : iJ a) (g : nJ a) : ∃ s, ga (nE a) = some s ∧ fL (nE a) = some s ∧ s.length = 4 ∧ eA a = some (nE a ++ s) ∧ fi a = some (nE a ++ s) := by
  unfold eA fi
  have e := (tG f).val g
  have e' := (DA f).val g
  have c := stG f g
  obtain ⟨r, t, u⟩ := sQ f.1.1 g.1.1.1
  obtain ⟨x1, x2, _⟩ := DI u
  have w := Fs9 c
  obtain ⟨s, c1, c2, c3⟩ := Ex (xl a) (by omega)
  have j := c.head
  have x := xt c
  have m : (jY a ++ ku a).length = 12 := rfl
  have h := mj (jY a ++ ku a)
  have A := mj (jY a)
  have C : (jY a).length = 7 := rfl
  rw [e, e', r, t]
  simp only [cS]
  rw [x1, x2, (zy _).1, (zy _).2, cJ (xs := [83, 80, 78]) (by simp)]
  simp only [bS]
  have o : app ([83, 80, 78, 1] : List Int) (pX (ix a.a_.g_)) = some (ux a) := cJ (by unfold ux at j; rw [List.length_append] at j; omega)
  have ha' : app ([83, 80, 78] ++ [1] : List Int) (pX (ix a.a_.g_)) = some (ux a) := o
  rw [o, ha']
  simp only [bS]
  have d : app (nE a) s = some (nE a ++ s) := cJ (by omega)
  refine ⟨s, c1, c2, c3, ?_, ?_⟩
  · refine (oY (M := 1000000) (p := jY a ++ ku a) (σ := Unit) dh (fun _ _ => ()) (fun k l _ i => jy a (rT a.a_.b_.Q_) k l i) (fun l _ => ff a aI l 0)
      (fun k l _ => by
        show (if decide (((jY a ++ ku a).length : Int) < ((jY a ++ ku a).length : Int)) then _ else _) = _
        rw [if_neg In])
      (fun k l _ i q v => by
        show (if decide ((i : Int) < ((jY a ++ ku a).length : Int)) then (idx (jY a ++ ku a) i).bind _ else _) = _
        rw [if_pos (Iw q), aX q, aG (by omega)]
        simp only [bS]
        rw [eV.1]
        simp only [bS]
        rw [cJ (by omega)]
        rfl) (by omega) (ux a) () (by unfold jL at h; omega)).trans ?_
    show ff a aI (ux a ++ jL (jY a ++ ku a)) 0 = _
    rw [JI c _ (by rw [List.length_append]; omega), Ku c _ (by simp only [List.length_append] at h m ⊢; omega)]
    show (ga (nE a)).bind _ = _
    rw [c1]
    simp only [bS]
    show (app (nE a) s).bind _ = _
    rw [d]; rfl
  · show (bO ⟨ux a, false⟩ (jY a)).bind _ = _
    rw [gS (by omega) _ _ (by omega), decide_eq_false (show ¬ ¬ _ from fun n => n c.numA)]
    simp only [bS]
    show (bO ⟨_, false⟩ (ku a)).bind _ = _
    rw [gS (show (ku a).length ≤ 1048576 by show 5 ≤ 1048576; omega) _ _ (by rw [List.length_append]; omega), decide_eq_false (show ¬ ¬ _ from fun n => n c.numC)]
    simp only [bS]
    have eP : ux a ++ jL (jY a) ++ jL (ku a) = ux a ++ jL (jY a ++ ku a) := by
      rw [List.append_assoc]
      congr 1
      exact List.flatMap_append.symm
    rw [eP]
    show fV a aI _ false 0 = _
    rw [Kz c _ (by rw [List.length_append]; omega), Kn c _ (by simp only [List.length_append] at h m ⊢; omega)]
    show (fL (nE a)).bind _ = _
    rw [c2]
    simp only [bS]
    show (app (nE a) s).bind _ = _
    rw [d]; rfl
theorem Ep {a : ao} (c : iJ a) (d : ¬ nJ a) : eA a = some [] ∧ fi a = some [] := by
  unfold eA fi
  rcases (tG c).cases with ⟨_, h⟩ | ⟨e, _⟩
  · exact absurd h d
  · have e' : nw a = some false := by rw [(DA c).eq (tG c), e]
    rw [e, e']
    exact ⟨rfl, rfl⟩
end Go.Vk
/- Numbers read from bytes; readers. -/
namespace Go.Vk
theorem yq (x : Int) {y : Int} (h : 0 ≤ y) : shl .i64 x y = some (HB .i64 x y) := by
  unfold shl; rw [if_neg (by omega)]
def EU (p : List Int) (a : Int) (r : Int × Int × Bool) : Prop := (r.2.2 = true ∧ 0 ≤ a ∧ a < r.2.1 ∧ r.2.1 ≤ p.length) ∨ r = (0, 0, false)
theorem MB {p : List Int} {a : Int} (hb : dl p) (hp : p.length ≤ 1048576) (e : 0 ≤ a) (h1 : a ≤ 9223372036854775807) : ∀ (d k i : Nat) (x : Int), 5 - i = d → d < k → i ≤ 5 →
    ∃ r, dW a p k x (i : Int) = some r ∧ jw a p k x (i : Int) = some r ∧ EU p a r := by
  intro d
  induction d with
  | zero =>
    intro k i x f hk g
    obtain ⟨k, rfl⟩ := kS k (by omega)
    unfold dW jw
    rw [if_neg (by simp; omega), if_neg (by simp; omega)]
    exact ⟨_, rfl, rfl, .inr rfl⟩
  | succ d ih =>
    intro k i x f hk g
    obtain ⟨k, rfl⟩ := kS k (by omega)
    unfold dW jw
    rw [if_pos (by simp; omega)]
    have h : IntKind.i64.wrap ((p.length : Int) - (i : Int)) = (p.length : Int) - i := bi (by omega) (by omega)
    rw [h]
    by_cases s : a + i < p.length
    · have l : IntKind.i64.wrap (a + (i : Int)) = a + i := bi (by omega) (by omega)
      rw [l, if_neg (by simp; omega), if_pos (by simp; omega)]
      obtain ⟨j, m⟩ : ∃ j : Nat, a + (i : Int) = (j : Int) := ⟨(a + i).toNat, by omega⟩
      rw [m, aX (show j < p.length by omega)]
      simp only [bS]
      obtain ⟨n, o, q⟩ := zg hb (show j < p.length by omega)
      rw [o, gq (n := n) (by omega), KY n (by omega), show Int.tmod (n : Int) 128 = ((n % 128 : Nat) : Int) from mY n 128]
      rw [yq _ (show 0 ≤ IntKind.i64.wrap (7 * (i : Int)) by rw [bi (by omega) (by omega)]; omega)]
      simp only [bS]
      by_cases t : n < 128
      · rw [if_pos (c := decide ((n : Int) < 128) = true) (by simp; omega), if_neg (c := decide ((n : Int) ≥ 128) = true) (by simp; omega)]
        rw [Bool.and_comm (decide ((i : Int) > 0))]
        generalize ((((n : Int) == 0) && decide ((i : Int) > 0)) || decide (eK .or .i64 x (HB .i64 ((n % 128 : Nat) : Int) (IntKind.i64.wrap (7 * (i : Int)))) > 2147483647)) = b
        cases b
        · refine ⟨_, rfl, rfl, .inl ⟨rfl, e, ?_, ?_⟩⟩
          · show a < IntKind.i64.wrap ((j : Int) + 1)
            rw [bi (by omega) (by omega)]; omega
          · show IntKind.i64.wrap ((j : Int) + 1) ≤ _
            rw [bi (by omega) (by omega)]; omega
        · exact ⟨_, rfl, rfl, .inr rfl⟩
      · rw [if_neg (c := decide ((n : Int) < 128) = true) (by simp; omega), if_pos (c := decide ((n : Int) ≥ 128) = true) (by simp; omega)]
        rw [aG (by omega)]
        exact ih k (i + 1) _ (by omega) (by omega) (by omega)
    · rw [if_pos (by simp; omega), if_neg ?_]
      · exact ⟨_, rfl, rfl, .inr rfl⟩
      · rw [IntKind.wrap_i64]
        simp only [Bool.and_eq_true, decide_eq_true_eq, not_and]
        omega
theorem Ab {p : List Int} {a : Int} (hb : dl p) (hp : p.length ≤ 1048576) (d : I64 a) : ∃ r, lf p a = some r ∧ oW p a = some r ∧ EU p a r := by
  unfold lf oW
  by_cases c : a < 0
  · rw [if_pos (by simpa using c)]
    refine ⟨_, ?_, rfl, .inr rfl⟩
    obtain ⟨k, hk⟩ : ∃ k, aI = k + 1 := ⟨aI - 1, by have := cw (n := 1) (by omega); omega⟩
    rw [hk]
    unfold dW
    rw [if_pos (by simp), if_pos (by simp [c])]
  · rw [if_neg (by simpa using c)]
    exact MB hb hp (by omega) d.2 5 aI 0 0 (by omega) (cw (by omega)) (by omega)
theorem GW {p : List Int} {a : Int} (hb : dl p) (hp : p.length ≤ 1048576) (e : I64 a) : ∃ r, da p a = some r ∧ nf p a = some r ∧ EU p a r ∧ InR r.1 := by
  unfold da nf
  obtain ⟨r, f, g, h⟩ := Ab hb hp e
  rw [f, g]
  simp only [bS]
  have d : ∀ z, ∃ q, (if (!r.2.2) = true then some (0, 0, false) else jG r z) = some q ∧ kR r z = some q ∧ EU p a q ∧ InR q.1 := by
    intro z
    unfold jG kR ba aW
    simp only [bS]
    rcases h with ⟨h1, i, j, k⟩ | rfl
    · rw [h1]
      simp only [Bool.not_true, Bool.false_eq_true, if_false]
      by_cases c : InR z
      · rw [oI c]
        exact ⟨_, rfl, rfl, .inl ⟨rfl, i, j, k⟩, c⟩
      · rw [pU c]
        exact ⟨_, rfl, rfl, .inr rfl, by decide⟩
    · exact ⟨_, rfl, rfl, .inr rfl, by decide⟩
  obtain ⟨q1, l, m, o⟩ := d (IntKind.i64.wrap ((IntKind.i64.wrap (0 - (IntKind.i64.wrap (Int.tdiv r.1 2)))) - 1))
  obtain ⟨s, t, u, v⟩ := d (IntKind.i64.wrap (Int.tdiv r.1 2))
  cases w : (Int.tmod r.1 2 == 1)
  · refine ⟨s, ?_, by simpa using u, v⟩
    rw [← t]; cases r.2.2 <;> simp
  · refine ⟨q1, ?_, by simpa using m, o⟩
    rw [← l]; cases r.2.2 <;> simp
abbrev Pz (α : Type) := Int → Option (α × Int)
def Pz.many {α : Type} (P : Pz α) : Nat → Pz (List α)
  | 0, a => some ([], a)
  | n + 1, a => (P a).bind fun y => (many P n y.2).bind fun z => some (y.1 :: z.1, z.2)
def Pz.map {α β : Type} (f : α → β) (P : Pz α) : Pz β := fun a => (P a).map fun y => (f y.1, y.2)
def rW {α : Type} (p : List Int) (P : Pz α) (sz : α → Nat) : Prop := ∀ a v b, I64 a → P a = some (v, b) → 0 ≤ a ∧ a + sz v ≤ b ∧ b ≤ p.length ∧ 1 ≤ sz v
def Dt {α : Type} (op : Int → Option (α × Int × Bool)) (P : Pz α) (z : α) : Prop := ∀ a, I64 a → op a = some (match P a with | some (v, b) => (v, b, true) | none => (z, 0, false))
def sy {α : Type} (op : ak → Option (α × ak)) (P : Pz α) : Prop :=
  (∀ a, ∃ v a', op ⟨a, true⟩ = some (v, ⟨a', true⟩)) ∧ ∀ a, I64 a → (∀ v b, P a = some (v, b) → op ⟨a, false⟩ = some (v, ⟨b, false⟩)) ∧ (P a = none → ∃ v a', op ⟨a, false⟩ = some (v, ⟨a', true⟩))
theorem rW.i64 {α : Type} {p : List Int} {P : Pz α} {sz : α → Nat} (h : rW p P sz) (hp : p.length ≤ 1048576) {a b : Int} {v : α} (c : I64 a) (e : P a = some (v, b)) : I64 b := by
  obtain ⟨h1, d, f, _⟩ := h a v b c e
  exact ⟨by omega, by omega⟩
theorem vK {α : Type} {p : List Int} {P : Pz α} {sz : α → Nat} (h : rW p P sz) (hp : p.length ≤ 1048576) : ∀ (n : Nat) (a : Int) (vs : List α) (b : Int), 0 ≤ a → a ≤ p.length → P.many n a = some (vs, b) → a + (vs.map sz).sum ≤ b ∧ b ≤ p.length ∧ vs.length = n ∧ n ≤ (vs.map sz).sum := by
  intro n
  induction n with
  | zero =>
    intro a vs b f h1 e
    obtain ⟨rfl, rfl⟩ := Prod.mk.inj (Option.some.inj e)
    exact ⟨by simp, h1, rfl, Nat.zero_le _⟩
  | succ n ih =>
    intro a vs b f h1 e
    unfold Pz.many at e
    cases c : P a with
    | none => rw [c] at e; simp at e
    | some y =>
      rw [c] at e
      simp only [bS] at e
      cases d : P.many n y.2 with
      | none => rw [d] at e; simp at e
      | some z =>
        rw [d] at e
        obtain ⟨rfl, rfl⟩ := Prod.mk.inj (Option.some.inj e)
        obtain ⟨j, k, g, l⟩ := h a y.1 y.2 ⟨by omega, by omega⟩ c
        obtain ⟨m, i, o, q⟩ := ih y.2 z.1 z.2 (by omega) g d
        simp only [List.map_cons, List.sum_cons, List.length_cons]
        exact ⟨by omega, i, by omega, by omega⟩
noncomputable def gI (p : List Int) : Pz Int := fun a => match da p a with
  | some (v, b, true) => some (v, b)
  | _ => none
section
variable {p : List Int} (hb : dl p) (hp : p.length ≤ 1048576)
include hb hp
theorem yI {a : Int} (d : I64 a) : (∃ v b, gI p a = some (v, b) ∧ da p a = some (v, b, true) ∧ nf p a = some (v, b, true) ∧ 0 ≤ a ∧ a < b ∧ b ≤ p.length ∧ InR v) ∨ (gI p a = none ∧ da p a = some (0, 0, false) ∧ nf p a = some (0, 0, false)) := by
  obtain ⟨⟨v, b, q⟩, h1, c, h3, e⟩ := GW hb hp d
  unfold gI
  rcases h3 with ⟨f, g, h, i⟩ | h3
  · obtain rfl : q = true := f
    exact .inl ⟨v, b, by rw [h1], h1, c, g, h, i, e⟩
  · rw [h3] at h1 c
    exact .inr ⟨by rw [h1], h1, c⟩
theorem Eh : Dt (da p) (gI p) 0 := fun a d => by
  rcases yI hb hp d with ⟨v, b, h1, c, _⟩ | ⟨h1, c, _⟩ <;> rw [h1, c]
theorem Ey {a : Int} (c : I64 a) {v b : Int} (h : gI p a = some (v, b)) : InR v := by
  rcases yI hb hp c with ⟨v', b', h1, _, _, _, _, _, d⟩ | ⟨h1, _⟩
  · rw [h] at h1; obtain ⟨rfl, rfl⟩ := Prod.mk.inj (Option.some.inj h1); exact d
  · rw [h] at h1; simp at h1
omit hb hp in
theorem DM (a : Int) : aM p ⟨a, true⟩ = some (0, ⟨a, true⟩) := rfl
theorem zW : sy (aM p) (gI p) := ⟨fun a => ⟨_, _, rfl⟩, fun a d => by
  unfold aM
  simp only [Bool.false_eq_true, if_false]
  rcases yI hb hp d with ⟨v, b, h1, _, c, _⟩ | ⟨h1, _, c⟩ <;> rw [h1, c]
  · refine ⟨fun v' b' e => ?_, fun e => by simp at e⟩
    obtain ⟨rfl, rfl⟩ := Prod.mk.inj (Option.some.inj e)
    rfl
  · exact ⟨fun v' b' e => by simp at e, fun _ => ⟨_, _, rfl⟩⟩⟩
end
theorem gh {p : List Int} (hb : dl p) (hp : p.length ≤ 1048576) : rW p (gI p) (fun _ => 1) := fun a v b c h => by
  rcases yI hb hp c with ⟨v', b', h1, _, _, d, f, e, _⟩ | ⟨h1, _⟩
  · rw [h] at h1; obtain ⟨rfl, rfl⟩ := Prod.mk.inj (Option.some.inj h1); exact ⟨d, by show a + ((1 : Nat) : Int) ≤ b; omega, e, Nat.le_refl _⟩
  · rw [h] at h1; simp at h1
theorem xD {α ρ : Type} {op : Int → Option (α × Int × Bool)} {P : Pz α} {z : α} {sz : α → Nat} {p : List Int} (g : Dt op P z) (j : rW p P sz) (hp : p.length ≤ 1048576) {n : Int} (s : n ≤ 1000000000)
    (Lp : Nat → List α → Int → Int → Option ρ) (fin : List α → Int → Option ρ) (bad : Option ρ)
    (step : ∀ k l i a, Lp (k + 1) l i a = if decide (i < n) then (op a).bind fun y => if (!y.2.2) then bad else (app l [y.1]).bind fun l' => Lp k l' (IntKind.i64.wrap (i + 1)) y.2.1 else fin l a) :
    ∀ (d k : Nat) (i a : Int) (l : List α), (n - i).toNat = d → d < k → 0 ≤ i → (l.length : Int) ≤ i → i ≤ 1000000000 → I64 a → Lp k l i a = match P.many d a with | some (vs, c) => fin (l ++ vs) c | none => bad := by
  intro d
  induction d with
  | zero =>
    intro k i a l m hk o r f e
    obtain ⟨k, rfl⟩ := kS k (by omega)
    rw [step, if_neg (by simp; omega)]
    simp [Pz.many]
  | succ d ih =>
    intro k i a l m hk o r f e
    obtain ⟨k, rfl⟩ := kS k (by omega)
    rw [step, if_pos (by simp; omega), g a e]
    simp only [bS]
    unfold Pz.many
    cases h : P a with
    | none => rfl
    | some y =>
      obtain ⟨v, b⟩ := y
      simp only [cS]
      rw [cJ (by simp; omega)]
      simp only [bS]
      rw [bi (by omega) (by omega), ih k (i + 1) b (l ++ [v]) (by omega) (by omega) (by omega) (by simp; omega) (by omega) (j.i64 hp e h)]
      cases P.many d b with
      | none => rfl
      | some q => simp
theorem ya {α ρ : Type} {op : ak → Option (α × ak)}
    {Lp : Nat → Int → Bool → List α → Int → Option ρ} {fin : List α → ak → Option ρ}
    (step : ∀ k a q l n, Lp (k + 1) a q l n = if (decide (n > 0)) && !q then (op ⟨a, q⟩).bind fun y => (app l [y.1]).bind fun l' => Lp k y.2.c_ y.2.C_ l' (IntKind.i64.wrap (n - 1)) else fin l ⟨a, q⟩)
    {k : Nat} (hk : 0 < k) (a : Int) (l : List α) (n : Int) : Lp k a true l n = fin l ⟨a, true⟩ := by
  obtain ⟨k, rfl⟩ := kS k (by omega)
  rw [step, if_neg (by simp)]
theorem Jn {α ρ : Type} {op : ak → Option (α × ak)} {P : Pz α} {sz : α → Nat} {p : List Int} (i : sy op P) (m : rW p P sz) (hp : p.length ≤ 1048576)
    (Lp : Nat → Int → Bool → List α → Int → Option ρ) (fin : List α → ak → Option ρ)
    (step : ∀ k a q l n, Lp (k + 1) a q l n = if (decide (n > 0)) && !q then (op ⟨a, q⟩).bind fun y => (app l [y.1]).bind fun l' => Lp k y.2.c_ y.2.C_ l' (IntKind.i64.wrap (n - 1)) else fin l ⟨a, q⟩) :
    ∀ (d k : Nat) (n a : Int) (l : List α), n.toNat = d → d + 1 < k → n ≤ 1000000000 → 0 ≤ n → l.length + d ≤ 1000000000 → I64 a →
      (∀ vs c, P.many d a = some (vs, c) → Lp k a false l n = fin (l ++ vs) ⟨c, false⟩) ∧ (P.many d a = none → ∃ l' a', Lp k a false l n = fin l' ⟨a', true⟩) := by
  intro d
  induction d with
  | zero =>
    intro k n a l o hk r j s g
    obtain ⟨k, rfl⟩ := kS k (by omega)
    rw [step, if_neg (by simp; omega)]
    refine ⟨fun vs c e => ?_, fun e => by simp [Pz.many] at e⟩
    obtain ⟨rfl, rfl⟩ := Prod.mk.inj (Option.some.inj e)
    simp
  | succ d ih =>
    intro k n a l o hk r j s g
    obtain ⟨k, rfl⟩ := kS k (by omega)
    rw [step, if_pos (by simp; omega)]
    unfold Pz.many
    cases h : P a with
    | none =>
      refine ⟨fun vs c e => by simp at e, fun _ => ?_⟩
      obtain ⟨v, a', e⟩ := (i.2 a g).2 h
      rw [e]
      simp only [bS]
      rw [cJ (by simp; omega)]
      simp only [bS]
      exact ⟨_, _, ya step (by omega) _ _ _⟩
    | some y =>
      obtain ⟨v, b⟩ := y
      rw [(i.2 a g).1 v b h]
      simp only [bS]
      rw [cJ (by simp; omega)]
      simp only [bS]
      rw [bi (by omega) (by omega)]
      obtain ⟨t, u⟩ := ih k (n - 1) b (l ++ [v]) (by omega) (by omega) (by omega) (by omega) (by simp; omega) (m.i64 hp g h)
      refine ⟨fun vs c e => ?_, fun e => ?_⟩
      · cases f : P.many d b with
        | none => rw [f] at e; simp at e
        | some q =>
          rw [f] at e
          obtain ⟨rfl, rfl⟩ := Prod.mk.inj (Option.some.inj e)
          rw [t q.1 q.2 f]
          simp
      · cases f : P.many d b with
        | none => exact u f
        | some q => rw [f] at e; simp at e
noncomputable def cIr (p : List Int) : Pz Int := fun a => (gI p a).bind fun y => if y.1 < 0 ∨ (p.length : Int) - y.2 < y.1 then none else some y
noncomputable def ca {α : Type} (p : List Int) (P : Pz α) : Pz (List α) := fun a => (gI p a).bind fun y => if y.1 < 0 then none else P.many y.1.toNat y.2
section
variable {p : List Int} (hb : dl p) (hp : p.length ≤ 1048576)
include hb hp
omit hb hp in
theorem FJ {a n b : Int} (h : cIr p a = some (n, b)) : gI p a = some (n, b) ∧ 0 ≤ n ∧ n ≤ p.length - b := by
  unfold cIr at h
  cases c : gI p a with
  | none => rw [c] at h; simp at h
  | some y =>
    rw [c] at h
    simp only [bS] at h
    split at h
    · simp at h
    · rename_i d
      obtain rfl := Option.some.inj h
      exact ⟨rfl, by omega, by omega⟩
theorem Jp {α : Type} {P : Pz α} {sz : α → Nat} (c : rW p P sz) {a : Int} (d : I64 a) : ca p P a = (cIr p a).bind fun y => P.many y.1.toNat y.2 := by
  unfold ca cIr
  cases h : gI p a with
  | none => rfl
  | some y =>
    obtain ⟨i, j, e, _⟩ := gh hb hp a y.1 y.2 d h
    simp only [bS]
    by_cases h1 : y.1 < 0
    · rw [if_pos h1, if_pos (.inl h1)]; rfl
    · rw [if_neg h1]
      by_cases f : (p.length : Int) - y.2 < y.1
      · rw [if_pos (.inr f)]
        cases g : P.many y.1.toNat y.2 with
        | none => rfl
        | some q =>
          obtain ⟨k, l, m, o⟩ := vK c hp _ _ q.1 q.2 (by omega) e g
          exfalso; omega
      · rw [if_neg (by omega)]; rfl
theorem tB {α : Type} {P : Pz α} {sz : α → Nat} (d : rW p P sz) : rW p (ca p P) (fun vs => 1 + (vs.map sz).sum) := fun a vs b e h => by
  unfold ca at h
  cases c : gI p a with
  | none => rw [c] at h; simp at h
  | some y =>
    rw [c] at h
    simp only [bS] at h
    obtain ⟨f, g, i, _⟩ := gh hb hp a y.1 y.2 e c
    have g2' : a + ((1 : Nat) : Int) ≤ y.2 := g
    split at h
    · simp at h
    · obtain ⟨k, j, l, m⟩ := vK d hp _ _ vs b (by omega) i h
      exact ⟨f, by show a + ((1 + (vs.map sz).sum : Nat) : Int) ≤ b; omega, j, by show 1 ≤ 1 + (vs.map sz).sum; omega⟩
theorem xO : sy (bZ p) (cIr p) := ⟨fun a => by
  unfold bZ
  rw [DM]
  simp only [bS]
  split <;> exact ⟨_, _, rfl⟩, fun a c => by
  unfold bZ cIr
  have d := (zW hb hp).2 a c
  cases h : gI p a with
  | none =>
    obtain ⟨v, a', e⟩ := d.2 h
    rw [e]
    simp only [bS]
    refine ⟨fun v b e => by simp at e, fun _ => ?_⟩
    split <;> exact ⟨_, _, rfl⟩
  | some y =>
    obtain ⟨n, b⟩ := y
    obtain ⟨g, i, j, _⟩ := gh hb hp a n b c h
    rw [d.1 n b h]
    simp only [bS]
    rw [bi (n := (p.length : Int) - b) (by omega) (by omega)]
    by_cases f : n < 0 ∨ (p.length : Int) - b < n
    · rw [if_pos f]
      exact ⟨fun v b e => by simp at e, fun _ => ⟨0, b, if_pos (by simp; omega)⟩⟩
    · rw [if_neg f, if_neg (by simp; omega)]
      refine ⟨fun v' b' e => ?_, fun e => by simp at e⟩
      obtain ⟨rfl, rfl⟩ := Prod.mk.inj (Option.some.inj e)
      rfl⟩
end
end Go.Vk
/- Lists and lists of lists, read. -/
namespace Go.Vk
theorem Pz.map_some {α β : Type} {f : α → β} {P : Pz α} {a b : Int} {v : α} (h : P a = some (v, b)) : Pz.map f P a = some (f v, b) := by unfold Pz.map; rw [h]; rfl
theorem Pz.map_none {α β : Type} {f : α → β} {P : Pz α} {a : Int} (h : P a = none) : Pz.map f P a = none := by unfold Pz.map; rw [h]; rfl
theorem Pz.map_id {α : Type} {P : Pz α} : Pz.map id P = P := by funext a; unfold Pz.map; cases P a <;> rfl
section
variable {p : List Int} (hb : dl p) (hp : p.length ≤ 1048576)
include hb hp
theorem Jo {α β : Type} {op : Int → Option (α × Int × Bool)} {P : Pz α} {z : α} {sz : α → Nat} (m : Dt op P z) (o : rW p P sz) (mk : List α → β) (zb : β) {big : Int → Option (β × Int × Bool)}
    (Lp : Int × Int × Bool → Nat → List α → Int → Int → Option (β × Int × Bool))
    (d : ∀ a, big a = (da p a).bind fun y => if ((!y.2.2) || (decide (y.1 < 0))) then some (zb, 0, false) else Lp y aI [] 0 y.2.1)
    (step : ∀ q k l i a, Lp q (k + 1) l i a = if decide (i < q.1) then (op a).bind fun y => if (!y.2.2) then some (zb, 0, false) else (app l [y.1]).bind fun l' => Lp q k l' (IntKind.i64.wrap (i + 1)) y.2.1 else some (mk l, a, true)) :
    Dt big (Pz.map mk (ca p P)) zb := fun a c => by
  rw [d, Eh hb hp a c]
  simp only [bS]
  cases h : gI p a with
  | none =>
    rw [Pz.map_none (by unfold ca; rw [h]; rfl)]
    rfl
  | some y =>
    obtain ⟨n, b⟩ := y
    have f := Ey hb hp c h
    obtain ⟨r, s, t, _⟩ := gh hb hp a n b c h
    by_cases e : n < 0
    · rw [Pz.map_none (by unfold ca; rw [h]; simp [e]), if_pos (by simp [e])]
    · rw [if_neg (by simp; omega)]
      have g : ca p P a = P.many n.toNat b := by unfold ca; rw [h]; simp [e]
      rw [xD m o hp (n := n) f.2 (Lp (n, b, true)) (fun l a => some (mk l, a, true)) (some (zb, 0, false)) (step (n, b, true)) n.toNat aI 0 b [] (by simp) (cw (by have := f.2; omega)) (by omega) (by simp) (by omega) (gh hb hp |>.i64 hp c h)]
      cases j : P.many n.toNat b with
      | none => rw [Pz.map_none (by rw [g, j])]
      | some z => rw [Pz.map_some (by rw [g, j])]; rfl
theorem Fs {α β : Type} {op : ak → Option (α × ak)} {P : Pz α} {sz : α → Nat} (o : sy op P) (j : rW p P sz) (mk : List α → β) {big : ak → Option (β × ak)}
    (Lp : Nat → Int → Bool → List α → Int → Option (β × ak))
    (d : ∀ s, big s = (bZ p s).bind fun y => Lp aI y.2.c_ y.2.C_ [] y.1)
    (step : ∀ k a q l n, Lp (k + 1) a q l n = if (decide (n > 0)) && !q then (op ⟨a, q⟩).bind fun y => (app l [y.1]).bind fun l' => Lp k y.2.c_ y.2.C_ l' (IntKind.i64.wrap (n - 1)) else some (mk l, ⟨a, q⟩)) :
    sy big (Pz.map mk (ca p P)) := ⟨fun a => by
  obtain ⟨v, a', e⟩ := (xO hb hp).1 a
  rw [d, e]
  simp only [bS]
  exact ⟨_, _, ya (Lp := Lp) (fin := fun l s => some (mk l, s)) step (cw (by omega)) _ _ _⟩, fun a f => by
  rw [d]
  have m := (xO hb hp).2 a f
  have c := Jp hb hp j f
  cases h : cIr p a with
  | none =>
    rw [h] at c
    rw [Pz.map_none (by rw [c]; rfl)]
    obtain ⟨v, a', e⟩ := m.2 h
    rw [e]
    simp only [bS]
    exact ⟨fun v b e => by simp at e, fun _ => ⟨_, _, ya (Lp := Lp) (fin := fun l s => some (mk l, s)) step (cw (by omega)) _ _ _⟩⟩
  | some y =>
    obtain ⟨n, b⟩ := y
    rw [h] at c
    rw [m.1 n b h]
    simp only [bS]
    obtain ⟨h1, r, w⟩ := FJ h
    obtain ⟨x, A, C, _⟩ := gh hb hp a n b f h1
    have i := Ey hb hp f h1
    obtain ⟨t, u⟩ := Jn o j hp Lp (fun l s => some (mk l, s)) step n.toNat aI n b [] rfl (cw (by have := i.2; omega)) i.2 r (by have := i.2; simp; omega) (gh hb hp |>.i64 hp f h1)
    simp only [bS] at c
    cases g : P.many n.toNat b with
    | none =>
      rw [Pz.map_none (by rw [c, g])]
      obtain ⟨l', a', e⟩ := u g
      exact ⟨fun v b e => by simp at e, fun _ => ⟨_, _, e⟩⟩
    | some z =>
      rw [Pz.map_some (by rw [c, g])]
      refine ⟨fun v b e => ?_, fun e => by simp at e⟩
      obtain ⟨rfl, rfl⟩ := Prod.mk.inj (Option.some.inj e)
      exact t z.1 z.2 g⟩
theorem Cv : Dt (iX p) (ca p (gI p)) [] := by
  have := Jo hb hp (Eh hb hp) (gh hb hp) id [] (big := iX p) (fun y => lZ y p) (fun _ => rfl) (fun _ _ _ _ _ => rfl)
  rwa [Pz.map_id] at this
theorem lr : rW p (ca p (gI p)) (fun vs => 1 + vs.length) := by
  have := tB hb hp (gh hb hp)
  simpa only [CP] using this
theorem BQ : sy (cK p) (ca p (gI p)) := by
  have := Fs hb hp (zW hb hp) (gh hb hp) id (big := cK p) (iU p) (fun _ => rfl) (fun _ _ _ _ _ => rfl)
  rwa [Pz.map_id] at this
theorem Ew : Dt (jp p) (ca p (ca p (gI p))) [] := by
  have := Jo hb hp (Cv hb hp) (lr hb hp) id [] (big := jp p) (fun y => iQ y p) (fun _ => rfl) (fun _ _ _ _ _ => rfl)
  rwa [Pz.map_id] at this
theorem vm : rW p (ca p (ca p (gI p))) (fun vs => 1 + (vs.map fun v => 1 + v.length).sum) := tB hb hp (lr hb hp)
theorem wW : sy (dF p) (Pz.map aJ.mk (ca p (ca p (gI p)))) :=
  Fs hb hp (BQ hb hp) (lr hb hp) aJ.mk (big := dF p) (eO p) (fun _ => rfl) (fun _ _ _ _ _ => rfl)
end
end Go.Vk
/- Trees, read. -/
namespace Go.Vk
def Pz.bind {α β : Type} (P : Pz α) (Q : α → Pz β) : Pz β := fun a => (P a).bind fun y => Q y.1 y.2
section
variable {p : List Int} (hb : dl p) (hp : p.length ≤ 1048576)
include hb hp
theorem yn : ∀ (d : Nat) (a : Int), (d : Int) ≤ 1000 → I64 a → dB p a d = some (match (gI p).many d a with | some (vs, c) => (vs, c, true) | none => ([], 0, false)) := fun d a f e => by
  unfold dB
  have := xD (Eh hb hp) (gh hb hp) hp (n := (d : Int)) (by omega) (fun k l i a => lI (d : Int) p k a i l) (fun l a => some (l, a, true)) (some ([], 0, false)) (fun _ _ _ _ => rfl) d aI 0 a [] (by simp) (cw (by omega)) (by omega) (by simp) (by omega) e
  refine this.trans ?_
  cases (gI p).many d a with
  | none => rfl
  | some z => rfl
end
noncomputable def tN (p : List Int) : Pz Bool := fun a => (gI p a).bind fun y => if y.1 ≠ 0 ∧ y.1 ≠ 1 then none else some (y.1 == 1, y.2)
noncomputable def qO (p : List Int) : Pz az :=
  Pz.bind (tN p) fun e => Pz.bind (gI p) fun f => Pz.bind (gI p) fun g => Pz.bind (ca p (gI p)) fun h => Pz.bind (gI p) fun i => Pz.bind (ca p (gI p)) fun j =>
  Pz.bind (Pz.map aJ.mk (ca p (ca p (gI p)))) fun k => Pz.bind (gI p) fun l => Pz.bind (ca p (gI p)) fun m => Pz.bind (gI p) fun o => Pz.bind (gI p) fun c => Pz.bind (gI p) fun d =>
  fun a => some (⟨e, ⟨f, g⟩, h, i, ⟨j, k.p_⟩, l, m, o, c, d⟩, a)
theorem PN {α β : Type} (x : α) (f : α → Option β) : (some x).bind f = f x := rfl
theorem ce {α β : Type} {o : Option α} {f : α → Option β} {b : β} (h : o.bind f = some b) : ∃ a, o = some a ∧ f a = some b := by
  cases o with
  | none => cases h
  | some a => exact ⟨a, rfl, h⟩
theorem uo {p : List Int} (hb : dl p) (hp : p.length ≤ 1048576) : rW p (qO p) (fun x => 1 + szM x) := fun a v b c h => by
  unfold qO Pz.bind tN Pz.map at h
  have gg := gh hb hp
  have gl := lr hb hp
  have gL := vm hb hp
  have ig := fun {a b : Int} {v : Int} (c : I64 a) (e : gI p a = some (v, b)) => gg.i64 hp c e
  obtain ⟨z0, e0', h⟩ := ce h
  obtain ⟨y0, f, e0'⟩ := ce e0'
  split at e0'
  · cases e0'
  obtain rfl := Option.some.inj e0'
  obtain ⟨y1, g, h⟩ := ce h
  obtain ⟨y2, i, h⟩ := ce h
  obtain ⟨y3, j, h⟩ := ce h
  obtain ⟨y4, k, h⟩ := ce h
  obtain ⟨y5, l, h⟩ := ce h
  obtain ⟨z6, e6', h⟩ := ce h
  obtain ⟨R, m, e6'⟩ := Option.map_eq_some_iff.1 e6'
  obtain rfl := e6'
  obtain ⟨y7, o, h⟩ := ce h
  obtain ⟨y8, e8, h⟩ := ce h
  obtain ⟨y9, q, h⟩ := ce h
  obtain ⟨d7, d, h⟩ := ce h
  obtain ⟨d8, r, h⟩ := ce h
  obtain ⟨rfl, rfl⟩ := Prod.mk.inj (Option.some.inj h)
  obtain ⟨T, V, c0, _⟩ := gg _ _ _ c f
  have s := gg.i64 hp c f
  obtain ⟨a1, X, c1, _⟩ := gg _ _ _ s g
  have t := gg.i64 hp s g
  obtain ⟨a2, Z, c2, _⟩ := gg _ _ _ t i
  have u := gg.i64 hp t i
  obtain ⟨a3, b3, c3, _⟩ := gl _ _ _ u j
  have w := gl.i64 hp u j
  obtain ⟨a4, b4, c4, _⟩ := gg _ _ _ w k
  have A := gg.i64 hp w k
  obtain ⟨a5, b5, c5, _⟩ := gl _ _ _ A l
  have C := gl.i64 hp A l
  obtain ⟨a6, D, c6, _⟩ := gL _ _ _ C m
  have E := gL.i64 hp C m
  obtain ⟨a7, b7, c7, _⟩ := gg _ _ _ E o
  have F := gg.i64 hp E o
  obtain ⟨a8, b8, c8, _⟩ := gl _ _ _ F e8
  have G := gl.i64 hp F e8
  obtain ⟨a9, b9, c9, _⟩ := gg _ _ _ G q
  have H := gg.i64 hp G q
  obtain ⟨d9, L, f0, _⟩ := gg _ _ _ H d
  have M := gg.i64 hp H d
  obtain ⟨f1, P, Q, _⟩ := gg _ _ _ M r
  have hs := Lt (p := R.1)
  unfold szM
  simp only at V X Z b3 b4 b5 D b7 b8 b9 L P ⊢
  rw [hs] at D
  exact ⟨T, by omega, Q, by omega⟩
def rb {α β : Type} (op : ak → Option (α × ak)) (opk : α → ak → Option (β × ak)) : ak → Option (β × ak) := fun st => (op st).bind fun y => opk y.1 y.2
theorem pf {α β : Type} {op : ak → Option (α × ak)} {opk : α → ak → Option (β × ak)} {P : Pz α} {Q : α → Pz β} (h1 : sy op P) (f : ∀ a v b, I64 a → P a = some (v, b) → I64 b) (c : ∀ v, sy (opk v) (Q v)) : sy (rb op opk) (Pz.bind P Q) := ⟨fun a => by
  obtain ⟨v, a', e⟩ := h1.1 a
  unfold rb
  rw [e]
  exact (c v).1 a', fun a d => by
  unfold rb Pz.bind
  cases h : P a with
  | none =>
    obtain ⟨v, a', e⟩ := (h1.2 a d).2 h
    rw [e]
    exact ⟨fun v b e => (by cases e), fun _ => (c v).1 a'⟩
  | some y =>
    obtain ⟨v, b⟩ := y
    rw [(h1.2 a d).1 v b h]
    exact (c v).2 b (f a v b d h)⟩
theorem Ft {α : Type} (v : α) : sy (fun st => some (v, st)) (fun a => some (v, a)) := ⟨fun a => ⟨_, _, rfl⟩, fun a _ => ⟨fun v' b e => by
  obtain ⟨rfl, rfl⟩ := Prod.mk.inj (Option.some.inj e)
  rfl, fun e => (by cases e)⟩⟩
section
variable {p : List Int} (hb : dl p) (hp : p.length ≤ 1048576)
include hb hp
theorem Ez : sy (eJ p) (tN p) := ⟨fun a => ⟨_, _, rfl⟩, fun a f => by
  unfold eJ tN
  have d := (zW hb hp).2 a f
  cases h : gI p a with
  | none =>
    obtain ⟨v, a', e⟩ := d.2 h
    rw [e]
    exact ⟨fun v b e => (by cases e), fun _ => ⟨_, _, rfl⟩⟩
  | some y =>
    obtain ⟨n, b⟩ := y
    rw [d.1 n b h]
    simp only [Option.bind_some, Bool.false_or]
    by_cases c : n ≠ 0 ∧ n ≠ 1
    · rw [if_pos c, show ((n != 0) && (n != 1)) = true by simp; exact c]
      exact ⟨fun v b e => (by cases e), fun _ => ⟨_, _, rfl⟩⟩
    · rw [if_neg c, show ((n != 0) && (n != 1)) = false by simp; omega]
      exact ⟨fun v b e => by
        obtain ⟨rfl, rfl⟩ := Prod.mk.inj (Option.some.inj e)
        rfl, fun e => (by cases e)⟩⟩
end
noncomputable def Hv (p : List Int) : ak → Option (az × ak) :=
  rb (eJ p) fun d => rb (aM p) fun e => rb (aM p) fun f => rb (cK p) fun g => rb (aM p) fun h => rb (cK p) fun i =>
  rb (dF p) fun j => rb (aM p) fun k => rb (cK p) fun l => rb (aM p) fun m => rb (aM p) fun a => rb (aM p) fun c =>
  fun st => some (⟨d, ⟨e, f⟩, g, h, ⟨i, j.p_⟩, k, l, m, a, c⟩, st)
section
variable {p : List Int} (hb : dl p) (hp : p.length ≤ 1048576)
include hb hp
theorem NK : sy (Hv p) (qO p) := by
  have gg : ∀ a v b, I64 a → gI p a = some (v, b) → I64 b := fun a v b c e => (gh hb hp).i64 hp c e
  have gl : ∀ a v b, I64 a → ca p (gI p) a = some (v, b) → I64 b := fun a v b c e => (lr hb hp).i64 hp c e
  have gf : ∀ a v b, I64 a → tN p a = some (v, b) → I64 b := fun a v b c e => by
    unfold tN at e
    obtain ⟨y, f, d⟩ := ce e
    split at d
    · cases d
    · obtain ⟨rfl, rfl⟩ := Prod.mk.inj (Option.some.inj d); exact gg _ _ _ c f
  have gw : ∀ a v b, I64 a → Pz.map aJ.mk (ca p (ca p (gI p))) a = some (v, b) → I64 b := fun a v b c e => by
    obtain ⟨y, f, d⟩ := Option.map_eq_some_iff.1 e
    obtain ⟨rfl, rfl⟩ := Prod.mk.inj d
    exact (vm hb hp).i64 hp c f
  have ri := zW hb hp
  have rl := BQ hb hp
  exact pf (Ez hb hp) gf fun _ => pf ri gg fun _ => pf ri gg fun _ => pf rl gl fun _ => pf ri gg fun _ => pf rl gl fun _ => pf (wW hb hp) gw fun _ => pf ri gg fun _ => pf rl gl fun _ => pf ri gg fun _ => pf ri gg fun _ => pf ri gg fun _ => Ft _
end
theorem MW (p : List Int) (d : List az) (e : Bool × ak) (f g : Int × ak) (h : (List Int) × ak) (i : Int × ak) (j : (List Int) × ak) (v : Int → Bool → (List az) → Int → Option (ax × ak)) (m : Int) :
    ∀ (k : Nat) (a : Int) (q : Bool) (l : List (List Int)) (n : Int), gM p d e f g h i j v m k a q l n =
      (eO p k a q l n).bind fun w => (aM p w.2).bind fun o => (cK p o.2).bind fun r => (aM p r.2).bind fun s => (aM p s.2).bind fun t => (aM p t.2).bind fun c => (app d [(az.mk e.1 (bD.mk f.1 g.1) h.1 i.1 (bl.mk j.1 w.1.p_) o.1 r.1 s.1 t.1 c.1)]).bind fun u => v c.2.c_ c.2.C_ u (IntKind.i64.wrap (m - 1)) := by
  intro k
  induction k with
  | zero => intro a q l n; rfl
  | succ k ih =>
    intro a q l n
    unfold gM eO
    split
    · cases cK p ⟨a, q⟩ with
      | none => rfl
      | some y =>
        simp only [bS]
        cases app l [y.1] with
        | none => rfl
        | some l' =>
          simp only [bS]
          exact ih _ _ _ _
    · rfl
theorem mC {α β : Type} {o : Option α} {f g : α → Option β} (h : ∀ a, f a = g a) : o.bind f = o.bind g := by cases o; rfl; exact h _
theorem Ks (p : List Int) (c : Int × ak) (k : Nat) (a : Int) (q : Bool) (l : List az) (n : Int) :
    dm p c (k + 1) a q l n = if (decide (n > 0)) && !q then (Hv p ⟨a, q⟩).bind fun y => (app l [y.1]).bind fun l' => dm p c k y.2.c_ y.2.C_ l' (IntKind.i64.wrap (n - 1)) else some (⟨l, c.1⟩, ⟨a, q⟩) := by
  rw [dm]
  split
  · unfold Hv rb
    simp only [Option.bind_assoc]
    refine mC fun d => mC fun e => mC fun y2' => mC fun f => mC fun g => mC fun h => ?_
    unfold dF
    simp only [Option.bind_assoc]
    refine mC fun i => ?_
    rw [MW]
    rfl
  · rfl
end Go.Vk
