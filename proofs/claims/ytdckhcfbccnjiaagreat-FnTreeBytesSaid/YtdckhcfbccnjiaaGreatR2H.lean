/- Trees, put. -/
import Derived.Test.YtdckhcfbccnjiaaGreatPGt
namespace Go.Vk
def vF (b : Bool) : Int := if b then 1 else 0
def lp (x : aG) : List Int :=
  er (vF x.s_) ++ er x.k_.j_ ++ er x.k_.c_ ++ jy x.t_ ++ er x.x_ ++ jy x.m_.d_ ++ (er x.m_.b_.length ++ x.m_.b_.flatMap jy) ++ er x.v_ ++ jy x.f_ ++ er x.l_ ++ er x.p_ ++ er x.q_
def lS (x : aG) : Prop := kj [x.k_.j_, x.k_.c_, x.x_, x.v_, x.l_, x.p_, x.q_] ∧ kj x.t_ ∧ kj x.f_ ∧ kj x.m_.d_ ∧ ∀ y ∈ x.m_.b_, kj y
instance : DecidablePred lS := fun _ => inferInstanceAs (Decidable (_ ∧ _ ∧ _ ∧ _ ∧ _))
theorem wb (x : aG) : (lp x).length ≤ 5 * (12 + szM x) := by
  have a1 := dT (vF x.s_)
  have a2 := dT x.k_.j_
  have a3 := dT x.k_.c_
  have a4 := jV x.t_
  have a5 := dT x.x_
  have a6 := jV x.m_.d_
  have a7 := dT x.m_.b_.length
  have a8 := oE x.m_.b_
  have a9 := dT x.v_
  have b1 := jV x.f_
  have b2 := dT x.l_
  have b3 := dT x.p_
  have b4 := dT x.q_
  unfold lp szM
  simp only [List.length_append]
  omega
theorem Bb (b : Bool) : io b = some (vF b) ∧ qP b = some (vF b) := by cases b <;> exact ⟨rfl, rfl⟩
theorem zp (b : Bool) : InR (vF b) := by cases b <;> decide
theorem qO {p : List Int} (h : p.length < 1000000000000) : eY p = some (decide (kj p)) := rO h
theorem EG {A B C D E : Prop} [Decidable A] [Decidable B] [Decidable C] [Decidable D] [Decidable E] :
    ((if (!decide A) = true then some true else some !decide B).bind fun a => (if a = true then some true else some !decide C).bind fun c => (if c = true then some true else some !decide D).bind fun d => if d = true then some false else some (decide E)) = some (decide (A ∧ B ∧ C ∧ D ∧ E)) := by
  by_cases A <;> by_cases B <;> by_cases C <;> by_cases D <;> by_cases E <;> simp [*]
theorem xz {x : aG} (h : szM x ≤ 1048576) : jS x = some (decide (lS x)) := by
  unfold szM at h
  have h4 := @nK x.m_.b_
  have hL : fg x aY 0 = some (decide (∀ y ∈ x.m_.b_, kj y)) :=
    xD (P := kj) (p := x.m_.b_) (fg x) (fun k => by
      show (if _ then _ else _) = _
      rw [if_neg (by simp)]) (fun k i h => by
      have hm := List.getElem_mem h
      show (if _ then _ else _) = _
      rw [if_pos (by simp; omega), bc h, aI (by omega)]
      simp only [bS]
      rw [qO (by have := pq hm; omega)]
      simp only [bS]
      by_cases hf : kj x.m_.b_[i]
      · rw [if_pos hf, decide_eq_true hf]; rfl
      · rw [if_neg hf, decide_eq_false hf]; rfl) (by omega)
  unfold jS
  rw [qO (by simp), qO (p := x.t_) (by omega), qO (p := x.f_) (by omega), qO (p := x.m_.d_) (by omega), hL]
  simp only [bS]
  exact EG
theorem yz {x : aG} (h : szM x ≤ 1048576) (hf : lS x) : ke x = some (lp x) := by
  have hl := wb x
  unfold szM at h
  have h4 := @nK x.m_.b_
  obtain ⟨f1, f2, f3, f4, f5⟩ := hf
  have a1 := dT (vF x.s_)
  have a2 := dT x.k_.j_
  have a3 := dT x.k_.c_
  have a4 := jV x.t_
  have a5 := dT x.x_
  have a6 := jV x.m_.d_
  have a7 := dT x.m_.b_.length
  have a8 := oE x.m_.b_
  have a9 := dT x.v_
  have b1 := jV x.f_
  have b2 := dT x.l_
  have b3 := dT x.p_
  have b4 := dT x.q_
  unfold ke
  rw [(Bb _).1]
  simp only [Option.bind_some, gC.1]
  rw [bL (by omega)]
  simp only [bS]
  rw [bL (by simp only [List.length_append]; omega)]
  simp only [bS]
  rw [oJ (by omega) f2]
  simp only [bS]
  rw [bL (by simp only [List.length_append]; omega)]
  simp only [bS]
  rw [bL (by simp only [List.length_append]; omega)]
  simp only [bS]
  rw [oJ (by omega) f4]
  simp only [bS]
  rw [bL (by simp only [List.length_append]; omega)]
  simp only [bS]
  rw [qC (by omega) f5]
  simp only [bS]
  rw [bL (by simp only [List.length_append]; omega)]
  simp only [bS]
  rw [bL (by simp only [List.length_append]; omega)]
  simp only [bS]
  rw [oJ (by omega) f3]
  simp only [bS]
  rw [bL (by simp only [List.length_append]; omega)]
  simp only [bS]
  rw [bL (by simp only [List.length_append]; omega)]
  simp only [bS]
  rw [bL (by simp only [List.length_append]; omega)]
  simp only [bS]
  rw [bL (by simp only [List.length_append]; omega)]
  rfl
theorem rA (p : List aG) : (p.flatMap lp).length ≤ 60 * p.length + 5 * (p.map szM).sum := by
  induction p with
  | nil => simp
  | cons x p ih =>
    have := wb x
    simp only [List.flatMap_cons, List.length_append, List.map_cons, List.sum_cons, List.length_cons]
    omega
theorem xI {x : ai} (h : szU x ≤ 1048576) : mr x = some (if InR x.g_ ∧ ∀ y ∈ x.a_, lS y then er x.g_ ++ er x.a_.length ++ x.a_.flatMap lp else []) := by
  have hl : x.a_.length ≤ 1048576 := by unfold szU at h; omega
  have hb := rA x.a_
  have hs : (x.a_.map szM).sum ≤ 1048576 := by unfold szU at h; omega
  unfold mr
  rw [qO (by simp)]
  simp only [bS]
  by_cases h1 : InR x.g_
  · have hF : kj [x.g_] := by intro y hy; rw [List.mem_singleton.1 hy]; exact h1
    rw [decide_eq_true hF]
    simp only [Bool.not_true, Bool.false_eq_true, if_false]
    rw [gC.1, gC.1]
    have a1 := dT x.g_
    have a2 := dT x.a_.length
    simp only [bS]
    rw [bL (by omega)]
    simp only [Option.bind_some, h1, true_and]
    have key : ∀ (d k i : Nat) (l : List Int), x.a_.length - i = d → d < k → i ≤ x.a_.length → l.length + ((x.a_.drop i).flatMap lp).length ≤ 800000000 →
        jl x k l (i : Int) = some (if ∀ y ∈ x.a_.drop i, lS y then l ++ (x.a_.drop i).flatMap lp else []) := by
      intro d
      induction d with
      | zero =>
        intro k i l hd hk hi hll
        obtain ⟨k, rfl⟩ : ∃ q, k = q + 1 := ⟨k - 1, by omega⟩
        have : i = x.a_.length := by omega
        subst this
        show (if _ then _ else _) = _
        rw [if_neg (by simp), List.drop_length]
        simp
      | succ d ih =>
        intro k i l hd hk hi hll
        obtain ⟨k, rfl⟩ : ∃ q, k = q + 1 := ⟨k - 1, by omega⟩
        have hlt : i < x.a_.length := by omega
        have hm := List.getElem_mem hlt
        have hsz : szM x.a_[i] ≤ 1048576 := by have := wU hm; omega
        rw [List.drop_eq_getElem_cons hlt] at hll ⊢
        simp only [List.flatMap_cons, List.length_append] at hll ⊢
        show (if _ then _ else _) = _
        rw [if_pos (by simp; omega), bc hlt]
        simp only [bS]
        rw [xz hsz]
        simp only [bS]
        by_cases hf : lS x.a_[i]
        · rw [decide_eq_true hf]
          simp only [Bool.not_true, Bool.false_eq_true, if_false]
          rw [yz hsz hf]
          simp only [bS]
          rw [bL (by omega)]
          simp only [bS]
          rw [aI (by omega), ih k (i + 1) _ (by omega) (by omega) (by omega) (by simp only [List.length_append]; omega)]
          generalize List.drop (i + 1) x.a_ = D
          simp [hf]
        · rw [decide_eq_false hf]
          generalize List.drop (i + 1) x.a_ = D
          simp [hf]
    have := key x.a_.length aY 0 (er x.g_ ++ er x.a_.length) (by omega) (dl (by omega)) (by omega) (by simp only [List.length_append, List.drop_zero]; omega)
    simpa using this
  · have hF : ¬ kj [x.g_] := fun n => h1 (n _ (List.mem_singleton.2 rfl))
    rw [decide_eq_false hF]
    simp [h1]
theorem vY : mI [] = [] := rfl
theorem uI (x : Int) (xs : List Int) : mI (x :: xs) = er x ++ mI xs := List.flatMap_cons ..
theorem zG {M : Nat} {α σ ρ : Type} {p : List α} (B : α → List Int) (u : σ → α → σ) (Lp : Nat → List Int → σ → Int → Option ρ) (fin : List Int → σ → Option ρ)
    (hz : ∀ k l q, Lp (k + 1) l q (p.length : Int) = fin l q)
    (hs : ∀ k l q (i : Nat) (h : i < p.length), l.length + (B p[i]).length ≤ M → Lp (k + 1) l q (i : Int) = Lp k (l ++ B p[i]) (u q p[i]) ((i + 1 : Nat) : Int))
    (hp : p.length < 1000000000000) (l : List Int) (q : σ) (hl : l.length + (p.flatMap B).length ≤ M) : Lp aY l q 0 = fin (l ++ p.flatMap B) (p.foldl u q) := by
  have key : ∀ (d k i : Nat) (l : List Int) (q : σ), p.length - i = d → d < k → i ≤ p.length → l.length + ((p.drop i).flatMap B).length ≤ M → Lp k l q (i : Int) = fin (l ++ (p.drop i).flatMap B) ((p.drop i).foldl u q) := by
    intro d
    induction d with
    | zero =>
      intro k i l q hd hk hi hl
      obtain ⟨k, rfl⟩ : ∃ q, k = q + 1 := ⟨k - 1, by omega⟩
      have : i = p.length := by omega
      subst this
      rw [hz, List.drop_length]
      simp
    | succ d ih =>
      intro k i l q hd hk hi hl
      obtain ⟨k, rfl⟩ : ∃ q, k = q + 1 := ⟨k - 1, by omega⟩
      have hlt : i < p.length := by omega
      rw [List.drop_eq_getElem_cons hlt] at hl ⊢
      simp only [List.flatMap_cons, List.length_append, List.foldl_cons] at hl ⊢
      rw [hs k l q i hlt (by omega), ih k (i + 1) _ _ (by omega) (by omega) (by omega) (by simp only [List.length_append]; omega), List.append_assoc]
  have := key p.length aY 0 l q (by omega) (dl (by omega)) (by omega) (by simpa using hl)
  simpa using this
theorem pG {q : Bool} {A B : Prop} [Decidable A] [Decidable B] : ((q || decide (¬ A)) || decide (¬ B)) = (q || decide (¬ (A ∧ B))) := by
  by_cases A <;> by_cases B <;> simp [*]
theorem vR {x : ai} {k i : Nat} {l : List Int} {q : Bool} (h : i < x.a_.length) (hh : x.a_.length ≤ 1048576) (hz : szM x.a_[i] ≤ 1048576) (hl : l.length + (lp x.a_[i]).length ≤ 400000000) :
    cT x (k + 1) l q (i : Int) = cT x k (l ++ lp x.a_[i]) (q || decide (¬ lS x.a_[i])) ((i + 1 : Nat) : Int) := by
  show (if _ then _ else _) = _
  rw [if_pos (by simp; omega), bc h]
  generalize x.a_[i] = e at hz hl
  have hz' := hz
  unfold szM at hz'
  have h4 := @nK e.m_.b_
  simp only [bS]
  rw [(Bb _).2]
  simp only [bS]
  have a1 := mS [vF e.s_, e.k_.j_, e.k_.c_]
  have a4 := jV e.t_
  have a5 := mS [e.x_]
  have a6 := jV e.m_.d_
  have a7 := mS [(e.m_.b_.length : Int)]
  have a8 := oE e.m_.b_
  have a9 := mS [e.v_]
  have b1 := jV e.f_
  have b2 := mS [e.l_, e.p_, e.q_]
  simp only [List.length_cons, List.length_nil] at a1 a5 a7 a9 b2
  rw [jo (by simp) _ _ (by omega)]
  simp only [bS]
  rw [nH (by omega) _ _ (by simp only [List.length_append]; omega)]
  simp only [bS]
  rw [jo (by simp) _ _ (by simp only [List.length_append]; omega)]
  simp only [bS]
  rw [nH (by omega) _ _ (by simp only [List.length_append]; omega)]
  simp only [bS]
  rw [jo (by simp) _ _ (by simp only [List.length_append]; omega)]
  simp only [bS]
  rw [se (p := e.m_.b_) (by omega) (gh e (cT x k) i) _ (fun _ _ _ _ => rfl) _ _ (by simp only [List.length_append]; omega)]
  rw [jo (by simp) _ _ (by simp only [List.length_append]; omega)]
  simp only [bS]
  rw [nH (by omega) _ _ (by simp only [List.length_append]; omega)]
  simp only [bS]
  rw [jo (by simp) _ _ (by simp only [List.length_append]; omega)]
  simp only [bS]
  rw [aI (by omega)]
  congr 1
  · simp only [lp, uI, vY, List.append_nil, List.append_assoc]
  · rw [pG, pG, pG, pG, pG, pG, pG, pG]
    congr 1
    refine decide_eq_decide.2 (not_congr ?_)
    have hb := zp e.s_
    have hc : InR (e.m_.b_.length : Int) := ut (by omega)
    unfold lS kj
    simp only [List.forall_mem_cons, hb, hc, true_and]
    constructor
    · rintro ⟨⟨c1, c2, _⟩, c3, ⟨c4, _⟩, c5, _, c6, ⟨c7, _⟩, c8, c9, a, c, _⟩
      exact ⟨⟨c1, c2, c4, c7, c9, a, c, by simp⟩, c3, c8, c5, c6⟩
    · rintro ⟨⟨c1, c2, c4, c7, c9, a, c, _⟩, c3, c8, c5, c6⟩
      exact ⟨⟨c1, c2, by simp⟩, c3, ⟨c4, by simp⟩, c5, by simp, c6, ⟨c7, by simp⟩, c8, c9, a, c, by simp⟩
theorem xZ {x : ai} (h : szU x ≤ 1048576) : mA x = some (if InR x.g_ ∧ ∀ y ∈ x.a_, lS y then er x.g_ ++ er x.a_.length ++ x.a_.flatMap lp else []) := by
  have hl : x.a_.length ≤ 1048576 := by unfold szU at h; omega
  have hb := rA x.a_
  have hs : (x.a_.map szM).sum ≤ 1048576 := by unfold szU at h; omega
  unfold mA li
  rw [jo (by simp) _ _ (by simp)]
  simp only [bS]
  have a1 := mS [x.g_, (x.a_.length : Int)]
  simp only [List.length_cons, List.length_nil] at a1
  have key : ∀ l q, l.length ≤ 10 → cT x aY l q 0 = some ⟨l ++ x.a_.flatMap lp, q || decide (¬ ∀ y ∈ x.a_, lS y)⟩ := fun l q hlq => by
    rw [← wk]
    exact zG (M := 400000000) (p := x.a_) (σ := Bool) lp (fun q x => q || decide (¬ lS x)) (cT x) (fun l q => some ⟨l, q⟩)
      (fun k l q => by show (if _ then _ else _) = _; rw [if_neg (by simp)])
      (fun k l q i hi hll => by
        have hm := List.getElem_mem hi
        exact vR hi hl (by have := wU hm; omega) hll) (by omega) l q (by omega)
  rw [key _ _ (by simp; omega)]
  simp only [Option.bind_some, iQ]
  have hc : InR (x.a_.length : Int) := ut (by omega)
  rw [pG]
  have hiff : ((∀ z ∈ [x.g_, (x.a_.length : Int)], InR z) ∧ ∀ y ∈ x.a_, lS y) ↔ (InR x.g_ ∧ ∀ y ∈ x.a_, lS y) := by
    simp only [List.forall_mem_cons, hc, true_and]
    constructor
    · rintro ⟨⟨c1, _⟩, c2⟩; exact ⟨c1, c2⟩
    · rintro ⟨c1, c2⟩; exact ⟨⟨c1, by simp⟩, c2⟩
  by_cases hf : InR x.g_ ∧ ∀ y ∈ x.a_, lS y
  · rw [if_pos hf, decide_eq_false fun n => n (hiff.2 hf)]
    simp [uI, vY]
  · rw [if_neg hf, decide_eq_true (show ¬ _ from fun n => hf (hiff.1 n))]
    rfl
end Go.Vk
/- Trees, read. -/
namespace Go.Vk
def Pz.bind {α β : Type} (P : Pz α) (Q : α → Pz β) : Pz β := fun a => (P a).bind fun y => Q y.1 y.2
section
variable {p : List Int} (hb : gJ p) (hp : p.length ≤ 1048576)
include hb hp
end
noncomputable def tx (p : List Int) : Pz Bool := fun a => (gI p a).bind fun y => if y.1 ≠ 0 ∧ y.1 ≠ 1 then none else some (y.1 == 1, y.2)
noncomputable def so (p : List Int) : Pz aG :=
  Pz.bind (tx p) fun v0 => Pz.bind (gI p) fun v1 => Pz.bind (gI p) fun v2 => Pz.bind (gA p (gI p)) fun v3 => Pz.bind (gI p) fun v4 => Pz.bind (gA p (gI p)) fun v5 =>
  Pz.bind (Pz.map aE.mk (gA p (gA p (gI p)))) fun v6 => Pz.bind (gI p) fun v7 => Pz.bind (gA p (gI p)) fun v8 => Pz.bind (gI p) fun v9 => Pz.bind (gI p) fun c => Pz.bind (gI p) fun d =>
  fun a => some (⟨v0, ⟨v1, v2⟩, v3, v4, ⟨v5, v6.o_⟩, v7, v8, v9, c, d⟩, a)
theorem ED {α β : Type} (x : α) (f : α → Option β) : (some x).bind f = f x := rfl
theorem dP {α β : Type} {o : Option α} {f : α → Option β} {b : β} (h : o.bind f = some b) : ∃ a, o = some a ∧ f a = some b := by
  cases o with
  | none => cases h
  | some a => exact ⟨a, rfl, h⟩
theorem yK {p : List Int} (hb : gJ p) (hp : p.length ≤ 1048576) : tR p (so p) (fun x => 1 + szM x) := fun a v b ha h => by
  unfold so Pz.bind tx Pz.map at h
  have gg := mY hb hp
  have gl := pE hb hp
  have gL := tw hb hp
  have ig := fun {a b : Int} {v : Int} (ha : I64 a) (e : gI p a = some (v, b)) => gg.i64 hp ha e
  obtain ⟨z0, e0', h⟩ := dP h
  obtain ⟨y0, e0, e0'⟩ := dP e0'
  split at e0'
  · cases e0'
  obtain rfl := Option.some.inj e0'
  obtain ⟨y1, e1, h⟩ := dP h
  obtain ⟨y2, e2, h⟩ := dP h
  obtain ⟨y3, e3, h⟩ := dP h
  obtain ⟨y4, e4, h⟩ := dP h
  obtain ⟨y5, e5, h⟩ := dP h
  obtain ⟨z6, e6', h⟩ := dP h
  obtain ⟨y6, e6, e6'⟩ := Option.map_eq_some_iff.1 e6'
  obtain rfl := e6'
  obtain ⟨y7, e7, h⟩ := dP h
  obtain ⟨y8, e8, h⟩ := dP h
  obtain ⟨y9, e9, h⟩ := dP h
  obtain ⟨k, c, h⟩ := dP h
  obtain ⟨l, d, h⟩ := dP h
  obtain ⟨rfl, rfl⟩ := Prod.mk.inj (Option.some.inj h)
  obtain ⟨a0, b0, c0, _⟩ := gg _ _ _ ha e0
  have i0 := gg.i64 hp ha e0
  obtain ⟨a1, b1, c1, _⟩ := gg _ _ _ i0 e1
  have i1 := gg.i64 hp i0 e1
  obtain ⟨a2, b2, c2, _⟩ := gg _ _ _ i1 e2
  have i2 := gg.i64 hp i1 e2
  obtain ⟨a3, b3, c3, _⟩ := gl _ _ _ i2 e3
  have i3 := gl.i64 hp i2 e3
  obtain ⟨a4, b4, c4, _⟩ := gg _ _ _ i3 e4
  have i4 := gg.i64 hp i3 e4
  obtain ⟨a5, b5, c5, _⟩ := gl _ _ _ i4 e5
  have i5 := gl.i64 hp i4 e5
  obtain ⟨a6, b6, c6, _⟩ := gL _ _ _ i5 e6
  have i6 := gL.i64 hp i5 e6
  obtain ⟨a7, b7, c7, _⟩ := gg _ _ _ i6 e7
  have i7 := gg.i64 hp i6 e7
  obtain ⟨a8, b8, c8, _⟩ := gl _ _ _ i7 e8
  have i8 := gl.i64 hp i7 e8
  obtain ⟨a9, b9, c9, _⟩ := gg _ _ _ i8 e9
  have i9 := gg.i64 hp i8 e9
  obtain ⟨m, f, o, _⟩ := gg _ _ _ i9 c
  have g := gg.i64 hp i9 c
  obtain ⟨q, i, j, _⟩ := gg _ _ _ g d
  have hs := BM (p := y6.1)
  unfold szM
  simp only at b0 b1 b2 b3 b4 b5 b6 b7 b8 b9 f i ⊢
  rw [hs] at b6
  exact ⟨a0, by omega, j, by omega⟩
def rb {α β : Type} (op : aF → Option (α × aF)) (opk : α → aF → Option (β × aF)) : aF → Option (β × aF) := fun st => (op st).bind fun y => opk y.1 y.2
theorem pT {α β : Type} {op : aF → Option (α × aF)} {opk : α → aF → Option (β × aF)} {P : Pz α} {Q : α → Pz β} (h1 : rM op P) (hi : ∀ a v b, I64 a → P a = some (v, b) → I64 b) (h2 : ∀ v, rM (opk v) (Q v)) : rM (rb op opk) (Pz.bind P Q) := ⟨fun a => by
  obtain ⟨v, a', e⟩ := h1.1 a
  unfold rb
  rw [e]
  exact (h2 v).1 a', fun a ha => by
  unfold rb Pz.bind
  cases h : P a with
  | none =>
    obtain ⟨v, a', e⟩ := (h1.2 a ha).2 h
    rw [e]
    exact ⟨fun v b e => (by cases e), fun _ => (h2 v).1 a'⟩
  | some y =>
    obtain ⟨v, b⟩ := y
    rw [(h1.2 a ha).1 v b h]
    exact (h2 v).2 b (hi a v b ha h)⟩
theorem Dg {α : Type} (v : α) : rM (fun st => some (v, st)) (fun a => some (v, a)) := ⟨fun a => ⟨_, _, rfl⟩, fun a _ => ⟨fun v' b e => by
  obtain ⟨rfl, rfl⟩ := Prod.mk.inj (Option.some.inj e)
  rfl, fun e => (by cases e)⟩⟩
section
variable {p : List Int} (hb : gJ p) (hp : p.length ≤ 1048576)
include hb hp
theorem Dj : rM (iO p) (tx p) := ⟨fun a => ⟨_, _, rfl⟩, fun a ha => by
  unfold iO tx
  have hr := (xK hb hp).2 a ha
  cases h : gI p a with
  | none =>
    obtain ⟨v, a', e⟩ := hr.2 h
    rw [e]
    exact ⟨fun v b e => (by cases e), fun _ => ⟨_, _, rfl⟩⟩
  | some y =>
    obtain ⟨n, b⟩ := y
    rw [hr.1 n b h]
    simp only [Option.bind_some, Bool.false_or]
    by_cases hc : n ≠ 0 ∧ n ≠ 1
    · rw [if_pos hc, show ((n != 0) && (n != 1)) = true by simp; exact hc]
      exact ⟨fun v b e => (by cases e), fun _ => ⟨_, _, rfl⟩⟩
    · rw [if_neg hc, show ((n != 0) && (n != 1)) = false by simp; omega]
      exact ⟨fun v b e => by
        obtain ⟨rfl, rfl⟩ := Prod.mk.inj (Option.some.inj e)
        rfl, fun e => (by cases e)⟩⟩
end
noncomputable def yC (p : List Int) : aF → Option (aG × aF) :=
  rb (iO p) fun v0 => rb (bH p) fun v1 => rb (bH p) fun v2 => rb (cP p) fun v3 => rb (bH p) fun v4 => rb (cP p) fun v5 =>
  rb (fD p) fun v6 => rb (bH p) fun v7 => rb (cP p) fun v8 => rb (bH p) fun v9 => rb (bH p) fun a => rb (bH p) fun c =>
  fun st => some (⟨v0, ⟨v1, v2⟩, v3, v4, ⟨v5, v6.o_⟩, v7, v8, v9, a, c⟩, st)
section
variable {p : List Int} (hb : gJ p) (hp : p.length ≤ 1048576)
include hb hp
theorem CM : rM (yC p) (so p) := by
  have gg : ∀ a v b, I64 a → gI p a = some (v, b) → I64 b := fun a v b ha e => (mY hb hp).i64 hp ha e
  have gl : ∀ a v b, I64 a → gA p (gI p) a = some (v, b) → I64 b := fun a v b ha e => (pE hb hp).i64 hp ha e
  have gf : ∀ a v b, I64 a → tx p a = some (v, b) → I64 b := fun a v b ha e => by
    unfold tx at e
    obtain ⟨y, e1, e2⟩ := dP e
    split at e2
    · cases e2
    · obtain ⟨rfl, rfl⟩ := Prod.mk.inj (Option.some.inj e2); exact gg _ _ _ ha e1
  have gw : ∀ a v b, I64 a → Pz.map aE.mk (gA p (gA p (gI p))) a = some (v, b) → I64 b := fun a v b ha e => by
    obtain ⟨y, e1, e2⟩ := Option.map_eq_some_iff.1 e
    obtain ⟨rfl, rfl⟩ := Prod.mk.inj e2
    exact (tw hb hp).i64 hp ha e1
  have ri := xK hb hp
  have rl := xq hb hp
  exact pT (Dj hb hp) gf fun _ => pT ri gg fun _ => pT ri gg fun _ => pT rl gl fun _ => pT ri gg fun _ => pT rl gl fun _ => pT (vh hb hp) gw fun _ => pT ri gg fun _ => pT rl gl fun _ => pT ri gg fun _ => pT ri gg fun _ => pT ri gg fun _ => Dg _
end
theorem CA (p : List Int) (d : List aG) (e : Bool × aF) (f g : Int × aF) (h : (List Int) × aF) (i : Int × aF) (j : (List Int) × aF) (R1 : Int → Bool → (List aG) → Int → Option (ai × aF)) (m : Int) :
    ∀ (k : Nat) (a : Int) (q : Bool) (l : List (List Int)) (n : Int), ff p d e f g h i j R1 m k a q l n =
      (dy p k a q l n).bind fun w => (bH p w.2).bind fun o => (cP p o.2).bind fun r => (bH p r.2).bind fun s => (bH p s.2).bind fun t => (bH p t.2).bind fun c => (app d [(aG.mk e.1 (au.mk f.1 g.1) h.1 i.1 (ar.mk j.1 w.1.o_) o.1 r.1 s.1 t.1 c.1)]).bind fun u => R1 c.2.e_ c.2.C_ u (IntKind.i64.wrap (m - 1)) := by
  intro k
  induction k with
  | zero => intro a q l n; rfl
  | succ k ih =>
    intro a q l n
    unfold ff dy
    split
    · cases cP p ⟨a, q⟩ with
      | none => rfl
      | some y =>
        simp only [bS]
        cases app l [y.1] with
        | none => rfl
        | some l' =>
          simp only [bS]
          exact ih _ _ _ _
    · rfl
theorem kA {α β : Type} {o : Option α} {f g : α → Option β} (h : ∀ a, f a = g a) : o.bind f = o.bind g := by cases o; rfl; exact h _
theorem Aj (p : List Int) (y2 : Int × aF) (k : Nat) (a : Int) (q : Bool) (l : List aG) (n : Int) :
    cU p y2 (k + 1) a q l n = if (decide (n > 0)) && !q then (yC p ⟨a, q⟩).bind fun y => (app l [y.1]).bind fun l' => cU p y2 k y.2.e_ y.2.C_ l' (IntKind.i64.wrap (n - 1)) else some (⟨l, y2.1⟩, ⟨a, q⟩) := by
  rw [cU]
  split
  · unfold yC rb
    simp only [Option.bind_assoc]
    refine kA fun y0 => kA fun y1 => kA fun y2' => kA fun y3 => kA fun y4 => kA fun y5 => ?_
    unfold fD
    simp only [Option.bind_assoc]
    refine kA fun y6 => ?_
    rw [CA]
    rfl
  · rfl
end Go.Vk
/- Trees, read by both. -/
namespace Go.Vk
section
variable {p : List Int} (hb : gJ p) (hp : p.length ≤ 1048576)
include hb hp
end
noncomputable def zq (p : List Int) : Pz ai := fun a => (gI p a).bind fun y => Pz.map (fun ns => ai.mk ns y.1) (gA p (so p)) y.2
section
variable {p : List Int} (hb : gJ p) (hp : p.length ≤ 1048576)
include hb hp
theorem Du : rM (iR p) (zq p) := by
  have big : ∀ y2 : Int × aF, rM (fun st => (du p st).bind fun y8 => cU p y2 aY y8.2.e_ y8.2.C_ [] y8.1) (Pz.map (fun ns => ai.mk ns y2.1) (gA p (so p))) := fun y2 =>
    wZ hb hp (CM hb hp) (yK hb hp) (fun ns => ai.mk ns y2.1) (cU p y2) (fun _ => rfl) (fun k a q l n => Aj p y2 k a q l n)
  refine ⟨fun a => ?_, fun a ha => ?_⟩
  · unfold iR
    rw [vU]
    exact (big (0, ⟨a, true⟩)).1 a
  · unfold iR zq
    have hr := (xK hb hp).2 a ha
    cases h : gI p a with
    | none =>
      obtain ⟨v, a', e⟩ := hr.2 h
      rw [e]
      exact ⟨fun v b e => (by cases e), fun _ => (big (v, ⟨a', true⟩)).1 a'⟩
    | some y =>
      obtain ⟨n, b⟩ := y
      rw [hr.1 n b h]
      exact (big (n, ⟨b, false⟩)).2 b ((mY hb hp).i64 hp ha h)
end
end Go.Vk
/- What is put is read again. -/
namespace Go.Vk
theorem vp {m i : Nat} (hm : m < 128) (hi : i < 5) : yN .i64 (m : Int) (IntKind.i64.wrap (7 * (i : Int))) = ((m * 128 ^ i : Nat) : Int) := by
  have hi' : i = 0 ∨ i = 1 ∨ i = 2 ∨ i = 3 ∨ i = 4 := by omega
  rw [bg (by omega) (by omega)]
  rcases hi' with rfl | rfl | rfl | rfl | rfl
  · show IntKind.i64.wrap ((m : Int) * 1) = ((m * 1 : Nat) : Int); rw [bg (by omega) (by omega)]; omega
  · show IntKind.i64.wrap ((m : Int) * 128) = ((m * 128 : Nat) : Int); rw [bg (by omega) (by omega)]; omega
  · show IntKind.i64.wrap ((m : Int) * 16384) = ((m * 16384 : Nat) : Int); rw [bg (by omega) (by omega)]; omega
  · show IntKind.i64.wrap ((m : Int) * 2097152) = ((m * 2097152 : Nat) : Int); rw [bg (by omega) (by omega)]; omega
  · show IntKind.i64.wrap ((m : Int) * 268435456) = ((m * 268435456 : Nat) : Int); rw [bg (by omega) (by omega)]; omega
theorem BD {a m i : Nat} (ha : a < 128 ^ i) (hm : m < 128) (hi : i < 5) : el .or .i64 (a : Int) ((m * 128 ^ i : Nat) : Int) = ((a + m * 128 ^ i : Nat) : Int) := by
  have c : (128 : Nat) ^ i = 2 ^ (7 * i) := by rw [Nat.pow_mul]
  have hp : 128 ^ i ≤ 128 ^ 4 := Nat.pow_le_pow_right (by omega) (by omega)
  have hq : m * 128 ^ i ≤ 127 * 128 ^ 4 := Nat.mul_le_mul (by omega) hp
  rw [BS a (m * 128 ^ i) (by omega) (by omega)]
  congr 1
  rw [Nat.or_comm, c, Nat.mul_comm, ← Nat.two_pow_add_eq_or_of_lt (by rw [← c]; exact ha), Nat.add_comm]
theorem ym {p : List Int} {a : Nat} (hp : p.length ≤ 1048576) {n : Nat} (hn : n ≤ 2147483647) : ∀ (d k i : Nat), d + i = 5 → d < k → i ≤ 5 → (0 < i → 1 ≤ n / 128 ^ i) → (∃ post, p.drop (a + i) = qb (n / 128 ^ i) ++ post) →
    gT (a : Int) p k ((n % 128 ^ i : Nat) : Int) (i : Int) = some ((n : Int), ((a + i + (qb (n / 128 ^ i)).length : Nat) : Int), true) := by
  intro d
  induction d with
  | zero =>
    intro k i hd hk hi h1 hx
    obtain rfl : i = 5 := by omega
    have := h1 (by omega)
    omega
  | succ d ih =>
    intro k i hd hk hi h1 ⟨post, hx⟩
    obtain ⟨k, rfl⟩ : ∃ q, k = q + 1 := ⟨k - 1, by omega⟩
    have hlen : 0 < (p.drop (a + i)).length := by
      rw [hx]
      by_cases hc : n / 128 ^ i < 128
      · rw [pJ hc]; simp
      · rw [su hc]; simp
    rw [List.length_drop] at hlen
    show (if _ then _ else _) = _
    rw [if_pos (by simp; omega), bg (n := (p.length : Int) - (i : Int)) (by omega) (by omega), if_neg (by simp; omega), bg (n := (a : Int) + (i : Int)) (by omega) (by omega)]
    rw [show (a : Int) + (i : Int) = ((a + i : Nat) : Int) by omega, bc (show a + i < p.length by omega)]
    simp only [bS]
    have hhead : ∀ (x : Int) (q : List Int), p.drop (a + i) = x :: q → p[a + i]'(by omega) = x := fun x q e => by
      have := congrArg (fun l => l[0]?) e
      simp only [List.getElem?_drop, Nat.add_zero, List.getElem?_cons_zero] at this
      rw [List.getElem?_eq_getElem (by omega)] at this
      exact Option.some.inj this
    have hmul : n % 128 ^ i + n / 128 ^ i % 128 * 128 ^ i = n % 128 ^ (i + 1) := by
      rw [Nat.pow_succ, Nat.mod_mul, Nat.mul_comm]
    have hsmall : n / 128 ^ i % 128 < 128 := Nat.mod_lt _ (by omega)
    have hacc : n % 128 ^ i < 128 ^ i := Nat.mod_lt _ (Nat.pow_pos (by omega))
    by_cases hc : n / 128 ^ i < 128
    · rw [pJ hc] at hx ⊢
      rw [hhead _ _ hx, fJ (by omega), show (128 : Int) = ((128 : Nat) : Int) from rfl, pi, Nat.mod_eq_of_lt hc]
      rw [vk _ (by rw [bg (by omega) (by omega)]; omega), vp hc (by omega)]
      simp only [bS]
      rw [BD hacc hc (by omega)]
      have hfull : n % 128 ^ i + n / 128 ^ i * 128 ^ i = n := by rw [Nat.mul_comm]; exact Nat.mod_add_div ..
      rw [hfull, if_pos (decide_eq_true (by omega)), if_neg ?_]
      · rw [aI (by omega)]; rfl
      · simp only [Bool.or_eq_true, Bool.and_eq_true, decide_eq_true_eq, beq_iff_eq]
        rintro (⟨h2, h3⟩ | h2)
        · have := h1 (by omega); omega
        · omega
    · rw [su hc] at hx ⊢
      have hdd : n / 128 ^ i / 128 = n / 128 ^ (i + 1) := by rw [Nat.div_div_eq_div_mul, Nat.pow_succ]
      rw [hhead _ _ hx, fJ (by omega), show (128 : Int) = ((128 : Nat) : Int) from rfl, pi, Nat.add_mod_right, Nat.mod_mod]
      rw [vk _ (by rw [bg (by omega) (by omega)]; omega), vp hsmall (by omega)]
      simp only [bS]
      rw [BD hacc hsmall (by omega), hmul, if_neg (by simp; omega), aI (by omega)]
      rw [ih k (i + 1) (by omega) (by omega) (by omega) (fun _ => by rw [← hdd]; omega) ⟨post, by
        rw [← hdd]
        have := congrArg (List.drop 1) hx
        rw [List.drop_drop] at this
        simpa [Nat.add_assoc] using this⟩, ← hdd]
      simp only [List.length_cons]
      congr 3
      omega
theorem yq {pre post : List Int} {x : Int} (hx : InR x) (hp : (pre ++ er x ++ post).length ≤ 1048576) : kH (pre ++ er x ++ post) (pre.length : Int) = some (x, ((pre.length + (er x).length : Nat) : Int), true) := by
  have hz := wJ hx
  unfold kH oK
  have hB : er x = qb (zig x) := by unfold er; rw [if_pos hx]
  have := ym (p := pre ++ er x ++ post) (a := pre.length) hp (n := zig x) (by omega) 5 aY 0 (by omega) (dl (by omega)) (by omega) (by omega) ⟨post, by rw [hB]; simp⟩
  simp only [Nat.pow_zero, Nat.mod_one, Nat.div_one] at this
  have h0 : gT (pre.length : Int) (pre ++ er x ++ post) aY 0 0 = some ((zig x : Int), ((pre.length + 0 + (qb (zig x)).length : Nat) : Int), true) := this
  rw [h0, hB]
  simp only [Option.bind_some, Bool.not_true, Bool.false_eq_true, if_false]
  rw [show (2 : Int) = ((2 : Nat) : Int) from rfl, pi, vt, fJ (n := zig x / 2) (by omega)]
  unfold kC bd
  by_cases hn : x < 0
  · have e : ((zig x % 2 : Nat) : Int) = 1 := by unfold zig; rw [if_pos hn]; omega
    have e2 : ((zig x / 2 : Nat) : Int) = -x - 1 := by unfold zig; rw [if_pos hn]; omega
    rw [e, e2, if_pos (by simp)]
    have hr := hx.1
    rw [bg (n := 0 - (-x - 1)) (by omega) (by omega), bg (by omega) (by omega), show 0 - (-x - 1) - 1 = x by omega, nA hx]
    rfl
  · have e : ((zig x % 2 : Nat) : Int) = 0 := by unfold zig; rw [if_neg hn]; omega
    have e2 : ((zig x / 2 : Nat) : Int) = x := by unfold zig; rw [if_neg hn]; omega
    rw [e, e2, if_neg (by simp), nA hx]
    rfl
end Go.Vk
/- Trees and windows are read as they were put. -/
namespace Go.Vk
theorem yJ : ∀ (d n : Nat), n < 128 ^ (d + 1) → gJ (qb n) := by
  intro d
  induction d with
  | zero =>
    intro n h x hx
    rw [pJ (by simpa using h)] at hx
    rw [List.mem_singleton.1 hx]
    simp at h; omega
  | succ d ih =>
    intro n h x hx
    by_cases hc : n < 128
    · rw [pJ hc] at hx
      rw [List.mem_singleton.1 hx]; omega
    · rw [su hc] at hx
      rcases List.mem_cons.1 hx with rfl | hx
      · omega
      · exact ih (n / 128) (by rw [Nat.div_lt_iff_lt_mul (by omega), ← Nat.pow_succ]; exact h) x hx
theorem gb (x : Int) : gJ (er x) := by
  unfold er
  split
  · rename_i h
    exact yJ 4 _ (by have := wJ h; omega)
  · intro y hy; cases hy
theorem gJ.append {a b : List Int} (ha : gJ a) (hb : gJ b) : gJ (a ++ b) := fun x hx => by
  rcases List.mem_append.1 hx with h | h
  · exact ha x h
  · exact hb x h
theorem gJ.flat {α : Type} {xs : List α} {f : α → List Int} (h : ∀ x ∈ xs, gJ (f x)) : gJ (xs.flatMap f) := fun y hy => by
  obtain ⟨x, hm, hx⟩ := List.mem_flatMap.1 hy
  exact h x hm y hx
theorem nk (xs : List Int) : gJ (jy xs) := (gb _).append (gJ.flat fun x _ => gb x)
theorem xH (x : aG) : gJ (lp x) := by
  unfold lp
  exact (((((((((((gb _).append (gb _)).append (gb _)).append (nk _)).append (gb _)).append (nk _)).append ((gb _).append (gJ.flat fun y _ => nk y))).append (gb _)).append (nk _)).append (gb _)).append (gb _)).append (gb _)
def nC (x : ai) : List Int := er x.g_ ++ er x.a_.length ++ x.a_.flatMap lp
def sH (x : aE) : List Int := er x.o_.length ++ x.o_.flatMap jy
theorem tG (x : ai) : gJ (nC x) := ((gb _).append (gb _)).append (gJ.flat fun y _ => xH y)
theorem vr (x : aE) : gJ (sH x) := (gb _).append (gJ.flat fun y _ => nk y)
def pA {α : Type} (l : List Int) (P : Pz α) (B : List Int) (x : α) : Prop := ∀ pre post, l = pre ++ B ++ post → P (pre.length : Int) = some (x, ((pre.length + B.length : Nat) : Int))
section
variable {l : List Int}
theorem Bt {α : Type} (x : α) : pA l (fun a => some (x, a)) [] x := fun _ _ _ => rfl
theorem ju {α β : Type} {P : Pz α} {Q : α → Pz β} {B C : List Int} {x : α} {y : β} (h : pA l P B x) (k : pA l (Q x) C y) : pA l (Pz.bind P Q) (B ++ C) y := fun pre post e => by
  unfold Pz.bind
  rw [h pre (C ++ post) (by rw [e]; simp)]
  simp only [bS]
  have := k (pre ++ B) post (by rw [e]; simp)
  rw [List.length_append] at this
  rw [this, List.length_append, Nat.add_assoc]
theorem wG {α β : Type} {P : Pz α} {B : List Int} {x : α} (f : α → β) (h : pA l P B x) : pA l (Pz.map f P) B (f x) := fun pre post e => by
  unfold Pz.map
  rw [h pre post e]
  rfl
theorem Bd {α : Type} {P : Pz α} {B : α → List Int} : ∀ (xs : List α), (∀ x ∈ xs, pA l P (B x) x) → pA l (P.many xs.length) (xs.flatMap B) xs := by
  intro xs
  induction xs with
  | nil => intro _ pre post _; simp [Pz.many]
  | cons x xs ih =>
    intro h pre post e
    rw [List.flatMap_cons] at e ⊢
    show (P (pre.length : Int)).bind _ = _
    rw [h x (List.mem_cons_self ..) pre (xs.flatMap B ++ post) (by rw [e]; simp)]
    simp only [bS]
    have := ih (fun y hy => h y (List.mem_cons_of_mem _ hy)) (pre ++ B x) post (by rw [e]; simp)
    rw [List.length_append] at this
    rw [this]
    simp only [Option.bind_some, List.length_append, Nat.add_assoc]
variable (hp : l.length ≤ 1048576)
include hp
theorem qn {x : Int} (hx : InR x) : pA l (gI l) (er x) x := fun pre post e => by
  subst e
  unfold gI
  rw [yq hx hp]
theorem sy {α : Type} {P : Pz α} {B : α → List Int} {xs : List α} (hn : xs.length ≤ 1000000) (h : ∀ x ∈ xs, pA l P (B x) x) : pA l (gA l P) (er xs.length ++ xs.flatMap B) xs := fun pre post e => by
  have hk : pA l (P.many ((xs.length : Int)).toNat) (xs.flatMap B) xs := by rw [Int.toNat_natCast]; exact Bd xs h
  have := ju (P := gI l) (Q := fun v => if v < 0 then (fun _ => none) else P.many v.toNat) (qn hp (ut (by omega))) (by rw [if_neg (by omega)]; exact hk) pre post e
  rw [← this]
  unfold gA Pz.bind
  cases gI l pre.length with
  | none => rfl
  | some y =>
    simp only [bS]
    split <;> rfl
theorem qj {xs : List Int} (hn : xs.length ≤ 1000000) (h : kj xs) : pA l (gA l (gI l)) (jy xs) xs := sy hp hn fun x hx => qn hp (h x hx)
theorem AE (b : Bool) : pA l (tx l) (er (vF b)) b := fun pre post e => by
  unfold tx
  rw [qn hp (zp b) pre post e]
  cases b <;> rfl
theorem AR {x : aG} (h : lS x) (hz : szM x ≤ 1000000) : pA l (so l) (lp x) x := by
  have h4 := @nK x.m_.b_
  have hz' := hz
  unfold szM at hz'
  obtain ⟨h1, h2, h3, h5, h6⟩ := h
  have m : ∀ y, y ∈ [x.k_.j_, x.k_.c_, x.x_, x.v_, x.l_, x.p_, x.q_] → InR y := h1
  have key : pA l (so l) (er (vF x.s_) ++ (er x.k_.j_ ++ (er x.k_.c_ ++ (jy x.t_ ++ (er x.x_ ++ (jy x.m_.d_ ++ ((er x.m_.b_.length ++ x.m_.b_.flatMap jy) ++ (er x.v_ ++ (jy x.f_ ++ (er x.l_ ++ (er x.p_ ++ (er x.q_ ++ ([]))))))))))))) x := by
    unfold so
    refine ju (AE hp x.s_) ?_
    refine ju (qn hp (m x.k_.j_ (by simp))) ?_
    refine ju (qn hp (m x.k_.c_ (by simp))) ?_
    refine ju (qj hp (by omega) h2) ?_
    refine ju (qn hp (m x.x_ (by simp))) ?_
    refine ju (qj hp (by omega) h5) ?_
    refine ju (wG aE.mk (sy hp (by omega) fun y hy => qj hp (by have := pq hy; omega) (h6 y hy))) ?_
    refine ju (qn hp (m x.v_ (by simp))) ?_
    refine ju (qj hp (by omega) h3) ?_
    refine ju (qn hp (m x.l_ (by simp))) ?_
    refine ju (qn hp (m x.p_ (by simp))) ?_
    refine ju (qn hp (m x.q_ (by simp))) ?_
    exact Bt x
  intro pre post e
  have eb : lp x = er (vF x.s_) ++ (er x.k_.j_ ++ (er x.k_.c_ ++ (jy x.t_ ++ (er x.x_ ++ (jy x.m_.d_ ++ ((er x.m_.b_.length ++ x.m_.b_.flatMap jy) ++ (er x.v_ ++ (jy x.f_ ++ (er x.l_ ++ (er x.p_ ++ (er x.q_ ++ ([])))))))))))) := by unfold lp; simp only [List.append_assoc, List.append_nil]
  rw [eb] at e ⊢
  exact key pre post e
theorem Cg {x : ai} (h0 : InR x.g_) (h : ∀ y ∈ x.a_, lS y) (hz : szU x ≤ 1000000) : pA l (zq l) (nC x) x := by
  have hl : x.a_.length ≤ 1000000 := by unfold szU at hz; omega
  have key : pA l (zq l) (er x.g_ ++ (er x.a_.length ++ x.a_.flatMap lp)) x :=
    ju (Q := fun v => Pz.map (fun ns => ai.mk ns v) (gA l (so l))) (qn hp h0) (wG (fun ns => ai.mk ns x.g_) (sy hp hl fun y hy => AR hp (h y hy) (by have := wU hy; omega)))
  intro pre post e
  unfold nC at e ⊢
  rw [List.append_assoc] at e ⊢
  rw [List.append_assoc] at e
  exact key pre post (by rw [e]; simp only [List.append_assoc])
theorem Dx {x : aE} (h : ∀ r ∈ x.o_, kj r) (hz : oG x.o_ ≤ 1000000) : pA l (Pz.map aE.mk (gA l (gA l (gI l)))) (sH x) x := by
  have h4 := @nK x.o_
  exact wG aE.mk (sy hp (by omega) fun y hy => qj hp (by have := pq hy; omega) (h y hy))
end
theorem tO {l pre post : List Int} {x : ai} (hb : gJ l) (hp : l.length ≤ 1048576) (h0 : InR x.g_) (h : ∀ y ∈ x.a_, lS y) (hz : szU x ≤ 1000000) (e : l = pre ++ nC x ++ post) :
    lh l (pre.length : Int) = some (x, ((pre.length + (nC x).length : Nat) : Int), true) := by
  have hl : pre.length ≤ l.length := by rw [e]; simp only [List.length_append]; omega
  unfold lh
  rw [((Du hb hp).2 _ ⟨by omega, by omega⟩).1 _ _ (Cg hp h0 h hz pre post e)]
  rfl
theorem rP {l pre post : List Int} {x : aE} (hb : gJ l) (hp : l.length ≤ 1048576) (h : ∀ y ∈ x.o_, kj y) (hz : oG x.o_ ≤ 1000000) (e : l = pre ++ sH x ++ post) :
    kM l (pre.length : Int) = some (x, ((pre.length + (sH x).length : Nat) : Int), true) := by
  have hl : pre.length ≤ l.length := by rw [e]; simp only [List.length_append]; omega
  unfold kM
  rw [((vh hb hp).2 _ ⟨by omega, by omega⟩).1 _ _ (Dx hp h hz pre post e)]
  rfl
theorem zH {x : ai} (hz : szU x ≤ 10000) : (nC x).length ≤ 700000 := by
  have h1 := rA x.a_
  have h2 := dT x.g_
  have h3 := dT x.a_.length
  unfold szU at hz
  unfold nC
  simp only [List.length_append]
  omega
theorem xS {x : aE} (hz : oG x.o_ ≤ 10000) : (sH x).length ≤ 100010 := by
  have h3 := dT x.o_.length
  have : ∀ p : List (List Int), (p.flatMap jy).length ≤ 5 * oG p := by
    intro p
    induction p with
    | nil => simp
    | cons y p ih =>
      have := jV y
      unfold oG at ih ⊢
      simp only [List.flatMap_cons, List.length_append, List.length_cons, List.map_cons, List.sum_cons]
      omega
  have := this x.o_
  unfold sH
  simp only [List.length_append]
  omega
end Go.Vk
/- Trees and windows decode as they were, wherever they stand. -/
namespace Go.Vk
theorem xa {o : Option Bool} (h : Tot o (fun b => b = true)) : o = some true := by
  obtain ⟨b, rfl, rfl⟩ := h
  rfl
theorem pl {l : List Int} (h : l.length ≤ 1048576) : fx l l = some true := by
  rcases (Cm (q := l) h).cases with ⟨e, _⟩ | ⟨_, g⟩
  · exact e
  · exact absurd rfl g
theorem xd {w : aE} (h : ia 100 1000 w.o_) : kh w w = some true := by
  have h0 := h.1
  unfold kh
  rw [if_neg (by simp)]
  refine xa (cD (fun k (_ : Unit) i => dw w w k i) w.o_.length (fun _ _ => True) (fun k _ _ => ?_) (fun k _ i hi _ hk => ?_) (by omega) (s := ()) trivial)
  · show Tot (dw _ _ (k + 1) _) _
    rw [dw, if_neg (by simp)]
    exact aD rfl
  · show Tot (dw _ _ (k + 1) _) _
    have hr := h.2 _ (List.getElem_mem hi)
    rw [dw, if_pos (by simp; omega), bc hi, aI (by omega)]
    simp only [bS]
    rw [pl (by omega)]
    exact hk () trivial
theorem vv {t : ar} (h : fo t) : kx t t = some true := by
  have h0 := h.2.1
  unfold kx
  rw [pl h.1.1]
  simp only [bS]
  rw [if_neg (by simp)]
  refine xa (cD (fun k (_ : Unit) i => dN t t k i) t.b_.length (fun _ _ => True) (fun k _ _ => ?_) (fun k _ i hi _ hk => ?_) (by omega) (s := ()) trivial)
  · show Tot (dN _ _ (k + 1) _) _
    rw [dN, if_neg (by simp)]
    exact aD rfl
  · show Tot (dN _ _ (k + 1) _) _
    have hr := (h.2.2 _ (List.getElem_mem hi)).1
    rw [dN, if_pos (by simp; omega), bc hi, aI (by omega)]
    simp only [bS]
    rw [pl (by omega)]
    exact hk () trivial
theorem vG {n : aG} (h : ot n) : ls n n = some true := by
  unfold ls
  rw [pl h.2.2.1.1, vv h.2.2.2.2.1, pl h.2.2.2.2.2.2.1.1]
  simp
theorem vz {t : ai} (h : kv t) : ly t t = some true := by
  have h0 := h.1.1
  unfold ly
  rw [if_neg (by simp)]
  refine xa (cD (fun k (_ : Unit) i => eg t t k i) t.a_.length (fun _ _ => True) (fun k _ _ => ?_) (fun k _ i hi _ hk => ?_) (by omega) (s := ()) trivial)
  · show Tot (eg _ _ (k + 1) _) _
    rw [eg, if_neg (by simp)]
    exact aD rfl
  · show Tot (eg _ _ (k + 1) _) _
    rw [eg, if_pos (by simp; omega), bc hi, aI (by omega)]
    simp only [bS]
    rw [vG (h.1.2 _ (List.getElem_mem hi))]
    exact hk () trivial
theorem yA {a b : Nat} {l : List (List Int)} (h1 : l.length ≤ a) (h2 : ∀ r ∈ l, r.length ≤ b) : oG l ≤ a + b * a := by
  have := rr (f := List.length) (b := b) (l := l) h2
  have hm : b * l.length ≤ b * a := Nat.mul_le_mul_left _ h1
  unfold oG
  omega
theorem Fe {n : aG} (h : oQ 1 n) : szM n ≤ 207 := by
  obtain ⟨_, g2, _, g4, _, g6, _⟩ := h
  have h1 := yA (a := 9) (b := 17) g4.2.1 (fun r hr => (g4.2.2 r hr).1)
  have h2 := g2.1
  have h3 := g4.1.1
  have h4 := g6.1
  unfold szM
  omega
theorem FN {t : ai} (h : fP 1 t) : szU t ≤ 10000 := by
  have h1 := h.1.1
  have h2 := rr (f := szM) (b := 207) (l := t.a_) (fun n hn => Fe (h.1.2 n hn))
  unfold szU
  omega
theorem yn {p : List Int} (hp : p.length ≤ 1048576) : Tot (jK p) (fP 1) := by
  have z : V 0 := ed ⟨by omega, by omega⟩
  unfold jK nL
  refine (DG hp).bind fun c hc => ?_
  refine Tot.bind (P := fun y => fP 1 y.1) ?_ (fun y hy => aD hy)
  exact (Az hp hc).bind fun s hs => (mT hp hs.1 4).bind fun o ho => bl (fun _ => aD ⟨⟨by simp, fun x hx => by cases hx⟩, z⟩) (fun _ => (Bn hp ho.1 hs.2.1).bind fun y hy => aD hy.2)
theorem xB {w : aE} {pre b : List Int} (hw : ia 10 13 w.o_) (hpre : gJ pre) (hl : pre.length ≤ 800000) (hb : b = if ∀ r ∈ w.o_, kj r then sH w else []) :
    gd w b (pre ++ b) (pre.length : Int) = some true := by
  have hz : oG w.o_ ≤ 140 := by have := yA hw.1 hw.2; omega
  unfold gd
  rw [vO (by omega)]
  have e0 : (if ∀ r ∈ w.o_, kj r then er w.o_.length ++ w.o_.flatMap jy else []) = b := hb.symm
  rw [e0]
  simp only [bS]
  by_cases h0 : b.length = 0
  · rw [show ((b.length : Int) == 0) = true by simpa using h0]
    rfl
  · rw [show ((b.length : Int) == 0) = false by simpa using h0]
    simp only [sS]
    have hf : ∀ r ∈ w.o_, kj r := Classical.byContradiction fun n => h0 (by rw [hb, if_neg n]; rfl)
    rw [if_pos hf] at hb
    subst hb
    have hlen := xS (x := w) (by omega)
    rw [rP (x := w) (pre := pre) (post := []) (hpre.append (vr w)) (by simp; omega) hf (by omega) (by simp)]
    simp only [sS]
    rw [xd (hw.mono (by omega) (by omega))]
    simp
theorem tL {p : List Int} : kX p = some true := by
  unfold kX sh
  simp only [bS]
  by_cases hp : p.length ≤ 1048576
  · rw [if_neg (by simp; omega)]
    obtain ⟨t, et, ht⟩ := yn hp
    obtain ⟨w, ew, hw⟩ := Ac hp
    have hz := FN ht
    have hzw : oG w.o_ ≤ 140 := by have := yA hw.1 hw.2; omega
    rw [et, ew]
    simp only [bS]
    rw [xZ (by omega), vy (by omega), xI (by omega)]
    simp only [bS]
    have eT : (if InR t.g_ ∧ ∀ y ∈ t.a_, lS y then er t.g_ ++ er t.a_.length ++ t.a_.flatMap lp else []) = (if InR t.g_ ∧ ∀ y ∈ t.a_, lS y then nC t else []) := rfl
    have eW : (if ∀ r ∈ w.o_, kj r then er w.o_.length ++ w.o_.flatMap jy else []) = (if ∀ r ∈ w.o_, kj r then sH w else []) := rfl
    rw [eT, eW]
    have hbl : (if ∀ r ∈ w.o_, kj r then sH w else []).length ≤ 100010 := by
      split
      · exact xS (by omega)
      · simp
    have hbb : gJ (if ∀ r ∈ w.o_, kj r then sH w else []) := by
      split
      · exact vr w
      · intro x hx; cases hx
    have b5 : gJ [5] := fun x hx => by rw [List.mem_singleton.1 hx]; omega
    have tl := zH hz
    by_cases hf : InR t.g_ ∧ ∀ y ∈ t.a_, lS y
    · rw [if_pos hf, bL (by simp; omega)]
      simp only [bS]
      rw [bL (by simp only [List.length_append, List.length_singleton]; omega)]
      simp only [bS]
      have hpos : 0 < (nC t).length := by
        unfold nC
        have hz := wJ hf.1
        simp only [List.length_append]
        have : 0 < (er t.g_).length := by
          unfold er
          rw [if_pos hf.1]
          by_cases h : zig t.g_ < 128
          · rw [pJ h]; simp
          · rw [su h]; simp
        omega
      rw [if_pos (by simp; omega)]
      have hg := tO (l := [5] ++ nC t ++ (if ∀ r ∈ w.o_, kj r then sH w else [])) (pre := [5]) (post := (if ∀ r ∈ w.o_, kj r then sH w else [])) (x := t) ((b5.append (tG t)).append hbb) (by simp only [List.length_append, List.length_singleton]; omega) hf.1 hf.2 (by omega) rfl
      have hg1 : lh ([5] ++ nC t ++ (if ∀ r ∈ w.o_, kj r then sH w else [])) 1 = some (t, ((1 + (nC t).length : Nat) : Int), true) := hg
      rw [hg1]
      simp only [sS]
      rw [vz (ht.sml (by omega))]
      simp only [sS]
      rw [show (1 : Int) + ((nC t).length : Int) = ((1 + (nC t).length : Nat) : Int) by omega, fJ (by omega), if_neg (by simp)]
      have hJ := xB (w := w) (pre := [5] ++ nC t) hw (b5.append (tG t)) (by simp only [List.length_append, List.length_singleton]; omega) rfl
      rw [List.length_append, List.length_singleton] at hJ
      exact hJ
    · rw [if_neg hf, bL (by simp)]
      simp only [Option.bind_some, List.append_nil]
      rw [bL (by simp only [List.length_singleton]; omega)]
      simp only [bS]
      rw [if_neg (by simp), if_neg (by simp)]
      exact xB (w := w) (pre := [5]) hw b5 (by simp) rfl
  · rw [if_pos (by simp; omega)]
end Go.Vk
