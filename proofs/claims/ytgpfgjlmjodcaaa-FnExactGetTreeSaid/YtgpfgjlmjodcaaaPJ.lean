/- Trees, read. -/
import Derived.Test.YtgpfgjlmjodcaaaPG
namespace Go.Vk
/-! ### readers in a row -/
def Pz.bind {α β : Type} (P : Pz α) (Q : α → Pz β) : Pz β := fun a => (P a).bind fun y => Q y.1 y.2
section
variable {p : List Int} (hb : Bytes p) (hp : p.length ≤ 1048576)
include hb hp
theorem some_eq : ∀ (d : Nat) (a : Int), (d : Int) ≤ 1000 → I64 a → spec_l27Some p a d = some (match (gI p).many d a with | some (vs, c) => (vs, c, true) | none => ([], 0, false)) := fun d a hd ha => by
  unfold spec_l27Some
  have := sp_many (gI_sp hb hp) (gI_good hb hp) hp (n := (d : Int)) (by omega) (fun k l i a => spec_l27Some_L1 (d : Int) p k a i l) (fun l a => some (l, a, true)) (some ([], 0, false)) (fun _ _ _ _ => rfl) d Fuel 0 a [] (by simp) (fuel_gt (by omega)) (by omega) (by simp) (by omega) ha
  refine this.trans ?_
  cases (gI p).many d a with
  | none => rfl
  | some z => rfl
end
noncomputable def gFlag (p : List Int) : Pz Bool := fun a => (gI p a).bind fun y => if y.1 ≠ 0 ∧ y.1 ≠ 1 then none else some (y.1 == 1, y.2)
/-- the reads of a node -/
noncomputable def gNode (p : List Int) : Pz Timpl_Node :=
  Pz.bind (gFlag p) fun v0 => Pz.bind (gI p) fun v1 => Pz.bind (gI p) fun v2 => Pz.bind (listOf p (gI p)) fun v3 => Pz.bind (gI p) fun v4 => Pz.bind (listOf p (gI p)) fun v5 =>
  Pz.bind (Pz.map Timpl_Window.mk (listOf p (listOf p (gI p)))) fun v6 => Pz.bind (gI p) fun v7 => Pz.bind (listOf p (gI p)) fun v8 => Pz.bind (gI p) fun v9 => Pz.bind (gI p) fun v10 => Pz.bind (gI p) fun v11 =>
  fun a => some (⟨v0, ⟨v1, v2⟩, v3, v4, ⟨v5, v6.Rows_⟩, v7, v8, v9, v10, v11⟩, a)
theorem bind_some {α β : Type} (x : α) (f : α → Option β) : (some x).bind f = f x := rfl
theorem bind_some_iff {α β : Type} {o : Option α} {f : α → Option β} {b : β} (h : o.bind f = some b) : ∃ a, o = some a ∧ f a = some b := by
  cases o with
  | none => cases h
  | some a => exact ⟨a, rfl, h⟩
theorem gNode_good {p : List Int} (hb : Bytes p) (hp : p.length ≤ 1048576) : Good p (gNode p) (fun x => 1 + szM x) := fun a v b ha h => by
  unfold gNode Pz.bind gFlag Pz.map at h
  have gg := gI_good hb hp
  have gl := gInts_good hb hp
  have gL := gLists_good hb hp
  have ig := fun {a b : Int} {v : Int} (ha : I64 a) (e : gI p a = some (v, b)) => gg.i64 hp ha e
  obtain ⟨z0, e0', h⟩ := bind_some_iff h
  obtain ⟨y0, e0, e0'⟩ := bind_some_iff e0'
  split at e0'
  · cases e0'
  obtain rfl := Option.some.inj e0'
  obtain ⟨y1, e1, h⟩ := bind_some_iff h
  obtain ⟨y2, e2, h⟩ := bind_some_iff h
  obtain ⟨y3, e3, h⟩ := bind_some_iff h
  obtain ⟨y4, e4, h⟩ := bind_some_iff h
  obtain ⟨y5, e5, h⟩ := bind_some_iff h
  obtain ⟨z6, e6', h⟩ := bind_some_iff h
  obtain ⟨y6, e6, e6'⟩ := Option.map_eq_some_iff.1 e6'
  obtain rfl := e6'
  obtain ⟨y7, e7, h⟩ := bind_some_iff h
  obtain ⟨y8, e8, h⟩ := bind_some_iff h
  obtain ⟨y9, e9, h⟩ := bind_some_iff h
  obtain ⟨y10, e10, h⟩ := bind_some_iff h
  obtain ⟨y11, e11, h⟩ := bind_some_iff h
  obtain ⟨rfl, rfl⟩ := Prod.mk.inj (Option.some.inj h)
  obtain ⟨a0, b0, c0, _⟩ := gg _ _ _ ha e0
  have i0 := gg.i64 hp ha e0
  obtain ⟨a1, b1, c1, _⟩ := gg _ _ _ i0 e1
  have i1 := gg.i64 hp i0 e1
  obtain ⟨a2, b2, c2, _⟩ := gg _ _ _ i1 e2
  have i2 := gg.i64 hp i1 e2
  obtain ⟨a3, b3, c3, _⟩ := gl _ _ _ i2 e3
  have i3 := gl.i64 hp i2 e3
  obtain ⟨a4, b4, c4, _⟩ := gg _ _ _ i3 e4
  have i4 := gg.i64 hp i3 e4
  obtain ⟨a5, b5, c5, _⟩ := gl _ _ _ i4 e5
  have i5 := gl.i64 hp i4 e5
  obtain ⟨a6, b6, c6, _⟩ := gL _ _ _ i5 e6
  have i6 := gL.i64 hp i5 e6
  obtain ⟨a7, b7, c7, _⟩ := gg _ _ _ i6 e7
  have i7 := gg.i64 hp i6 e7
  obtain ⟨a8, b8, c8, _⟩ := gl _ _ _ i7 e8
  have i8 := gl.i64 hp i7 e8
  obtain ⟨a9, b9, c9, _⟩ := gg _ _ _ i8 e9
  have i9 := gg.i64 hp i8 e9
  obtain ⟨a10, b10, c10, _⟩ := gg _ _ _ i9 e10
  have i10 := gg.i64 hp i9 e10
  obtain ⟨a11, b11, c11, _⟩ := gg _ _ _ i10 e11
  have hs := sum_len (p := y6.1)
  unfold szM
  simp only at b0 b1 b2 b3 b4 b5 b6 b7 b8 b9 b10 b11 ⊢
  rw [hs] at b6
  exact ⟨a0, by omega, c11, by omega⟩
/-! ### the reader's side -/
def rb {α β : Type} (op : Timpl_reader → Option (α × Timpl_reader)) (opk : α → Timpl_reader → Option (β × Timpl_reader)) : Timpl_reader → Option (β × Timpl_reader) := fun st => (op st).bind fun y => opk y.1 y.2
theorem rd_rb {α β : Type} {op : Timpl_reader → Option (α × Timpl_reader)} {opk : α → Timpl_reader → Option (β × Timpl_reader)} {P : Pz α} {Q : α → Pz β} (h1 : RdOk op P) (hi : ∀ a v b, I64 a → P a = some (v, b) → I64 b) (h2 : ∀ v, RdOk (opk v) (Q v)) : RdOk (rb op opk) (Pz.bind P Q) := ⟨fun a => by
  obtain ⟨v, a', e⟩ := h1.1 a
  unfold rb
  rw [e]
  exact (h2 v).1 a', fun a ha => by
  unfold rb Pz.bind
  cases h : P a with
  | none =>
    obtain ⟨v, a', e⟩ := (h1.2 a ha).2 h
    rw [e]
    exact ⟨fun v b e => (by cases e), fun _ => (h2 v).1 a'⟩
  | some y =>
    obtain ⟨v, b⟩ := y
    rw [(h1.2 a ha).1 v b h]
    exact (h2 v).2 b (hi a v b ha h)⟩
theorem rd_pure {α : Type} (v : α) : RdOk (fun st => some (v, st)) (fun a => some (v, a)) := ⟨fun a => ⟨_, _, rfl⟩, fun a _ => ⟨fun v' b e => by
  obtain ⟨rfl, rfl⟩ := Prod.mk.inj (Option.some.inj e)
  rfl, fun e => (by cases e)⟩⟩
section
variable {p : List Int} (hb : Bytes p) (hp : p.length ≤ 1048576)
include hb hp
theorem flag_rd : RdOk (impl_reader_flag p) (gFlag p) := ⟨fun a => ⟨_, _, rfl⟩, fun a ha => by
  unfold impl_reader_flag gFlag
  have hr := (gI_rd hb hp).2 a ha
  cases h : gI p a with
  | none =>
    obtain ⟨v, a', e⟩ := hr.2 h
    rw [e]
    exact ⟨fun v b e => (by cases e), fun _ => ⟨_, _, rfl⟩⟩
  | some y =>
    obtain ⟨n, b⟩ := y
    rw [hr.1 n b h]
    simp only [Option.bind_some, Bool.false_or]
    by_cases hc : n ≠ 0 ∧ n ≠ 1
    · rw [if_pos hc, show ((n != 0) && (n != 1)) = true by simp; exact hc]
      exact ⟨fun v b e => (by cases e), fun _ => ⟨_, _, rfl⟩⟩
    · rw [if_neg hc, show ((n != 0) && (n != 1)) = false by simp; omega]
      exact ⟨fun v b e => by
        obtain ⟨rfl, rfl⟩ := Prod.mk.inj (Option.some.inj e)
        rfl, fun e => (by cases e)⟩⟩
end
noncomputable def opNode (p : List Int) : Timpl_reader → Option (Timpl_Node × Timpl_reader) :=
  rb (impl_reader_flag p) fun v0 => rb (impl_reader_int p) fun v1 => rb (impl_reader_int p) fun v2 => rb (impl_reader_list p) fun v3 => rb (impl_reader_int p) fun v4 => rb (impl_reader_list p) fun v5 =>
  rb (impl_reader_window p) fun v6 => rb (impl_reader_int p) fun v7 => rb (impl_reader_list p) fun v8 => rb (impl_reader_int p) fun v9 => rb (impl_reader_int p) fun v10 => rb (impl_reader_int p) fun v11 =>
  fun st => some (⟨v0, ⟨v1, v2⟩, v3, v4, ⟨v5, v6.Rows_⟩, v7, v8, v9, v10, v11⟩, st)
section
variable {p : List Int} (hb : Bytes p) (hp : p.length ≤ 1048576)
include hb hp
theorem node_rd : RdOk (opNode p) (gNode p) := by
  have gg : ∀ a v b, I64 a → gI p a = some (v, b) → I64 b := fun a v b ha e => (gI_good hb hp).i64 hp ha e
  have gl : ∀ a v b, I64 a → listOf p (gI p) a = some (v, b) → I64 b := fun a v b ha e => (gInts_good hb hp).i64 hp ha e
  have gf : ∀ a v b, I64 a → gFlag p a = some (v, b) → I64 b := fun a v b ha e => by
    unfold gFlag at e
    obtain ⟨y, e1, e2⟩ := bind_some_iff e
    split at e2
    · cases e2
    · obtain ⟨rfl, rfl⟩ := Prod.mk.inj (Option.some.inj e2); exact gg _ _ _ ha e1
  have gw : ∀ a v b, I64 a → Pz.map Timpl_Window.mk (listOf p (listOf p (gI p))) a = some (v, b) → I64 b := fun a v b ha e => by
    obtain ⟨y, e1, e2⟩ := Option.map_eq_some_iff.1 e
    obtain ⟨rfl, rfl⟩ := Prod.mk.inj e2
    exact (gLists_good hb hp).i64 hp ha e1
  have ri := gI_rd hb hp
  have rl := gInts_rd hb hp
  exact rd_rb (flag_rd hb hp) gf fun _ => rd_rb ri gg fun _ => rd_rb ri gg fun _ => rd_rb rl gl fun _ => rd_rb ri gg fun _ => rd_rb rl gl fun _ => rd_rb (gWindow_rd hb hp) gw fun _ => rd_rb ri gg fun _ => rd_rb rl gl fun _ => rd_rb ri gg fun _ => rd_rb ri gg fun _ => rd_rb ri gg fun _ => rd_pure _
end
theorem tree_L2 (p : List Int) (l214 : List Timpl_Node) (y416 : Bool × Timpl_reader) (y422 y427 : Int × Timpl_reader) (y432 : (List Int) × Timpl_reader) (y441 : Int × Timpl_reader) (y446 : (List Int) × Timpl_reader) (R1 : Int → Bool → (List Timpl_Node) → Int → Option (Timpl_Tree × Timpl_reader)) (i218 : Int) :
    ∀ (k : Nat) (a : Int) (q : Bool) (l : List (List Int)) (n : Int), impl_reader_tree_L2 p l214 y416 y422 y427 y432 y441 y446 R1 i218 k a q l n =
      (impl_reader_window_L1 p k a q l n).bind fun w => (impl_reader_int p w.2).bind fun y566 => (impl_reader_list p y566.2).bind fun y571 => (impl_reader_int p y571.2).bind fun y580 => (impl_reader_int p y580.2).bind fun y585 => (impl_reader_int p y585.2).bind fun y590 => (app l214 [(Timpl_Node.mk y416.1 (Timpl_Fork.mk y422.1 y427.1) y432.1 y441.1 (Timpl_Stats.mk y446.1 w.1.Rows_) y566.1 y571.1 y580.1 y585.1 y590.1)]).bind fun l597 => R1 y590.2.at_ y590.2.bad_ l597 (IntKind.i64.wrap (i218 - 1)) := by
  intro k
  induction k with
  | zero => intro a q l n; rfl
  | succ k ih =>
    intro a q l n
    unfold impl_reader_tree_L2 impl_reader_window_L1
    split
    · cases impl_reader_list p ⟨a, q⟩ with
      | none => rfl
      | some y =>
        simp only [Option.bind_some]
        cases app l [y.1] with
        | none => rfl
        | some l' =>
          simp only [Option.bind_some]
          exact ih _ _ _ _
    · rfl
theorem bind_congr2 {α β : Type} {o : Option α} {f g : α → Option β} (h : ∀ a, f a = g a) : o.bind f = o.bind g := by cases o; rfl; exact h _
theorem tree_step (p : List Int) (y2 : Int × Timpl_reader) (k : Nat) (a : Int) (q : Bool) (l : List Timpl_Node) (n : Int) :
    impl_reader_tree_L1 p y2 (k + 1) a q l n = if (decide (n > 0)) && !q then (opNode p ⟨a, q⟩).bind fun y => (app l [y.1]).bind fun l' => impl_reader_tree_L1 p y2 k y.2.at_ y.2.bad_ l' (IntKind.i64.wrap (n - 1)) else some (⟨l, y2.1⟩, ⟨a, q⟩) := by
  rw [impl_reader_tree_L1]
  split
  · unfold opNode rb
    simp only [Option.bind_assoc]
    refine bind_congr2 fun y0 => bind_congr2 fun y1 => bind_congr2 fun y2' => bind_congr2 fun y3 => bind_congr2 fun y4 => bind_congr2 fun y5 => ?_
    unfold impl_reader_window
    simp only [Option.bind_assoc]
    refine bind_congr2 fun y6 => ?_
    rw [tree_L2]
    rfl
  · rfl
end Go.Vk
