/- Trees, read by both. -/
import Derived.Test.YtckmlpmehdpmiaaGreatDoorR2H
import Derived.Test.YtckmlpmehdpmiaaGreatDoorPTr
import Derived.Test.YtckmlpmehdpmiaaGreatDoorPSpl
import Derived.Test.YtckmlpmehdpmiaaGreatDoorVkBr
import Derived.Test.YtckmlpmehdpmiaaGreatDoorVkCu
namespace Go.Vk
theorem Nq {α : Type} (x : α) (l : List α) : idx (x :: l) 0 = some x := by simp [idx]
theorem Nh {α : Type} (x y : α) (l : List α) : idx (x :: y :: l) 1 = some y := by simp [idx]
theorem Rf {α : Type} (x y z : α) (l : List α) : idx (x :: y :: z :: l) 2 = some z := by simp [idx]
def zN : az := az.mk false (bD.mk 0 0) ([] : List Int) 0 (bl.mk ([] : List Int) ([] : List (List Int))) 0 ([] : List Int) 0 0 0
section
variable {p : List Int} (hb : dl p) (hp : p.length ≤ 1048576)
include hb hp
theorem OE {a : Int} (f : I64 a) : dA p a 3 = some (((gI p a).bind fun c => (gI p c.2).bind fun d => (gI p d.2).bind fun e => some ([c.1, d.1, e.1], e.2, true)).getD ([], 0, false)) := by
  rw [show dA p a 3 = _ from xx hb hp 3 a (by omega) f]
  simp only [Pz.many, Option.bind_some]
  cases gI p a with
  | none => rfl
  | some c =>
    simp only [bS]
    cases gI p c.2 with
    | none => rfl
    | some d =>
      simp only [bS]
      cases gI p d.2 with
      | none => rfl
      | some e => rfl
theorem PR {a : Int} (e : I64 a) : dA p a 2 = some (((gI p a).bind fun c => (gI p c.2).bind fun d => some ([c.1, d.1], d.2, true)).getD ([], 0, false)) := by
  rw [show dA p a 2 = _ from xx hb hp 2 a (by omega) e]
  simp only [Pz.many, Option.bind_some]
  cases gI p a with
  | none => rfl
  | some c =>
    simp only [bS]
    cases gI p c.2 with
    | none => rfl
    | some d => rfl
theorem NL : Dl (lW p) (qw p) zN := fun a e => by
  have gg := gi hb hp
  have gl := lz hb hp
  have gL := vq hb hp
  have sI := DF hb hp
  have sl := Cs hb hp
  have sL := Er hb hp
  unfold lW qw Pz.bind tx Pz.map
  rw [OE hb hp e]
  simp only [bS]
  cases r : gI p a with
  | none => rfl
  | some c =>
  have s := gg.i64 hp e r
  simp only [bS]
  by_cases f : c.1 ≠ 0 ∧ c.1 ≠ 1
  · rw [if_pos f]
    cases h1 : gI p c.2 with
    | none => rfl
    | some d =>
      simp only [bS]
      cases g : gI p d.2 with
      | none => rfl
      | some h =>
        simp only [Option.getD_some, Nq, Option.bind_some, Bool.not_true, Bool.false_eq_true, if_false, ba]
        rw [pU (by omega)]
        rfl
  · rw [if_neg f]
    simp only [bS]
    cases h1 : gI p c.2 with
    | none => rfl
    | some d =>
    have t := gg.i64 hp s h1
    simp only [bS]
    cases g : gI p d.2 with
    | none => rfl
    | some h =>
    have i := gg.i64 hp t g
    simp only [Option.getD_some, Nq, Nh, Rf, Option.bind_some, Bool.not_true, Bool.false_eq_true, if_false, ba]
    rw [oD (by omega)]
    simp only [Bool.not_true, Bool.false_eq_true, if_false]
    rw [sl _ i]
    cases u : ca p (gI p) h.2 with
    | none => rfl
    | some v =>
    have j := gl.i64 hp i u
    simp only [cS]
    rw [sI _ j]
    cases w : gI p v.2 with
    | none => rfl
    | some x =>
    have k := gg.i64 hp j w
    simp only [cS]
    rw [sl _ k]
    cases A : ca p (gI p) x.2 with
    | none => rfl
    | some C =>
    have l := gl.i64 hp k A
    simp only [cS]
    rw [sL _ l]
    cases D : ca p (ca p (gI p)) C.2 with
    | none => rfl
    | some E =>
    have m := gL.i64 hp l D
    simp only [Option.bind_some, Option.map_some, Bool.not_true, Bool.false_eq_true, if_false]
    rw [sI _ m]
    cases F : gI p E.2 with
    | none => rfl
    | some G =>
    have o := gg.i64 hp m F
    simp only [cS]
    rw [sl _ o]
    cases H : ca p (gI p) G.2 with
    | none => rfl
    | some L =>
    have M := gl.i64 hp o H
    simp only [cS]
    rw [OE hb hp M]
    cases V : gI p L.2 with
    | none => rfl
    | some P =>
    simp only [bS]
    cases Q : gI p P.2 with
    | none => rfl
    | some q =>
    simp only [bS]
    cases R : gI p q.2 with
    | none => rfl
    | some T =>
    simp only [Option.getD_some, Nq, Nh, Rf, Option.bind_some, Bool.not_true, Bool.false_eq_true, if_false]
end
noncomputable def sG (p : List Int) : Pz ax := fun a => (gI p a).bind fun y => Pz.map (fun ns => ax.mk ns y.1) (ca p (qw p)) y.2
section
variable {p : List Int} (hb : dl p) (hp : p.length ≤ 1048576)
include hb hp
theorem Jb : sy (fv p) (sG p) := by
  have big : ∀ c : Int × ak, sy (fun st => (bZ p st).bind fun d => dm p c aI d.2.c_ d.2.C_ [] d.1) (Pz.map (fun ns => ax.mk ns c.1) (ca p (qw p))) := fun c =>
    FB hb hp (Nz hb hp) (ue hb hp) (fun ns => ax.mk ns c.1) (dm p c) (fun _ => rfl) (fun k a q l n => JK p c k a q l n)
  refine ⟨fun a => ?_, fun a f => ?_⟩
  · unfold fv
    rw [DV]
    exact (big (0, ⟨a, true⟩)).1 a
  · unfold fv sG
    have g := (Ag hb hp).2 a f
    cases h : gI p a with
    | none =>
      obtain ⟨v, a', e⟩ := g.2 h
      rw [e]
      exact ⟨fun v b e => (by cases e), fun _ => (big (v, ⟨a', true⟩)).1 a'⟩
    | some y =>
      obtain ⟨n, b⟩ := y
      rw [g.1 n b h]
      exact (big (n, ⟨b, false⟩)).2 b ((gi hb hp).i64 hp f h)
theorem Js : Dl (nx p) (sG p) ⟨[], 0⟩ := fun a f => by
  have gg := gi hb hp
  unfold nx sG
  rw [PR hb hp f]
  simp only [bS]
  cases o : gI p a with
  | none => rfl
  | some d =>
  have g := gg.i64 hp f o
  simp only [bS]
  cases h1 : gI p d.2 with
  | none => rw [Pz.map_none (by unfold ca; rw [h1]; rfl)]; rfl
  | some c =>
  have q := gg.i64 hp g h1
  simp only [Option.getD_some, Nq, Nh, Option.bind_some, Bool.not_true, Bool.false_eq_true, if_false]
  by_cases e : c.1 < 0
  · rw [Pz.map_none (by unfold ca; rw [h1]; simp [e])]
    rw [decide_eq_true e]
    rfl
  · rw [decide_eq_false e]
    simp only [Bool.false_eq_true, if_false]
    have h : ca p (qw p) d.2 = (qw p).many c.1.toNat c.2 := by unfold ca; rw [h1]; simp [e]
    have j := FE hb hp g (v := c.1) (b := c.2) h1
    refine (yl (NL hb hp) (ue hb hp) hp (n := c.1) j.2 (fun k l i a => lJ ([d.1, c.1], c.2, true) p d.1 k l i a) (fun l a => some (⟨l, d.1⟩, a, true)) (some (⟨[], 0⟩, 0, false)) (fun k l i a => ?_) c.1.toNat aI 0 c.2 [] (by simp) (cw (by have := j.2; omega)) (by omega) (by simp) (by omega) q).trans ?_
    · show (idx [d.1, c.1] 1).bind _ = _
      rw [Nh]
      rfl
    · cases m : (qw p).many c.1.toNat c.2 with
      | none => rw [Pz.map_none (by rw [h, m])]
      | some z => rw [Pz.map_some (v := z.1) (b := z.2) (by rw [h, m])]; rfl
end
end Go.Vk
/- What is put is read again. -/
namespace Go.Vk
theorem wS {m i : Nat} (a : m < 128) (c : i < 5) : HG .i64 (m : Int) (IntKind.i64.wrap (7 * (i : Int))) = ((m * 128 ^ i : Nat) : Int) := by
  have hi' : i = 0 ∨ i = 1 ∨ i = 2 ∨ i = 3 ∨ i = 4 := by omega
  rw [bj (by omega) (by omega)]
  rcases hi' with rfl | rfl | rfl | rfl | rfl
  · show IntKind.i64.wrap ((m : Int) * 1) = ((m * 1 : Nat) : Int); rw [bj (by omega) (by omega)]; omega
  · show IntKind.i64.wrap ((m : Int) * 128) = ((m * 128 : Nat) : Int); rw [bj (by omega) (by omega)]; omega
  · show IntKind.i64.wrap ((m : Int) * 16384) = ((m * 16384 : Nat) : Int); rw [bj (by omega) (by omega)]; omega
  · show IntKind.i64.wrap ((m : Int) * 2097152) = ((m * 2097152 : Nat) : Int); rw [bj (by omega) (by omega)]; omega
  · show IntKind.i64.wrap ((m : Int) * 268435456) = ((m * 268435456 : Nat) : Int); rw [bj (by omega) (by omega)]; omega
theorem Hx {a m i : Nat} (d : a < 128 ^ i) (f : m < 128) (g : i < 5) : eK .or .i64 (a : Int) ((m * 128 ^ i : Nat) : Int) = ((a + m * 128 ^ i : Nat) : Int) := by
  have c : (128 : Nat) ^ i = 2 ^ (7 * i) := by rw [Nat.pow_mul]
  have e : 128 ^ i ≤ 128 ^ 4 := Nat.pow_le_pow_right (by omega) (by omega)
  have h : m * 128 ^ i ≤ 127 * 128 ^ 4 := Nat.mul_le_mul (by omega) e
  rw [LH a (m * 128 ^ i) (by omega) (by omega)]
  congr 1
  rw [Nat.or_comm, c, Nat.mul_comm, ← Nat.two_pow_add_eq_or_of_lt (by rw [← c]; exact d), Nat.add_comm]
theorem Bk {p : List Int} {a : Nat} (v : p.length ≤ 1048576) {n : Nat} (w : n ≤ 2147483647) : ∀ (d k i : Nat), d + i = 5 → d < k → i ≤ 5 → (0 < i → 1 ≤ n / 128 ^ i) → (∃ post, p.drop (a + i) = pV (n / 128 ^ i) ++ post) →
    dT (a : Int) p k ((n % 128 ^ i : Nat) : Int) (i : Int) = some ((n : Int), ((a + i + (pV (n / 128 ^ i)).length : Nat) : Int), true) := by
  intro d
  induction d with
  | zero =>
    intro k i s hk t h1 f
    obtain rfl : i = 5 := by omega
    have := h1 (by omega)
    omega
  | succ d ih =>
    intro k i s hk t h1 ⟨post, f⟩
    obtain ⟨k, rfl⟩ := kS k (by omega)
    have o : 0 < (p.drop (a + i)).length := by
      rw [f]
      by_cases c : n / 128 ^ i < 128
      · rw [yx c]; simp
      · rw [Bb c]; simp
    rw [List.length_drop] at o
    show (if _ then _ else _) = _
    rw [if_pos (by simp; omega), bj (n := (p.length : Int) - (i : Int)) (by omega) (by omega), if_neg (by simp; omega), bj (n := (a : Int) + (i : Int)) (by omega) (by omega)]
    rw [show (a : Int) + (i : Int) = ((a + i : Nat) : Int) by omega, aY (show a + i < p.length by omega)]
    simp only [bS]
    have g : ∀ (x : Int) (q : List Int), p.drop (a + i) = x :: q → p[a + i]'(by omega) = x := fun x q e => by
      have := congrArg (fun l => l[0]?) e
      simp only [List.getElem?_drop, Nat.add_zero, List.getElem?_cons_zero] at this
      rw [List.getElem?_eq_getElem (by omega)] at this
      exact Option.some.inj this
    have r : n % 128 ^ i + n / 128 ^ i % 128 * 128 ^ i = n % 128 ^ (i + 1) := by
      rw [Nat.pow_succ, Nat.mod_mul, Nat.mul_comm]
    have hsmall : n / 128 ^ i % 128 < 128 := Nat.mod_lt _ (by omega)
    have h : n % 128 ^ i < 128 ^ i := Nat.mod_lt _ (Nat.pow_pos (by omega))
    by_cases c : n / 128 ^ i < 128
    · rw [yx c] at f ⊢
      rw [g _ _ f, gq (by omega), show (128 : Int) = ((128 : Nat) : Int) from rfl, mV, Nat.mod_eq_of_lt c]
      rw [xD _ (by rw [bj (by omega) (by omega)]; omega), wS c (by omega)]
      simp only [bS]
      rw [Hx h c (by omega)]
      have m : n % 128 ^ i + n / 128 ^ i * 128 ^ i = n := by rw [Nat.mul_comm]; exact Nat.mod_add_div ..
      rw [m, if_pos (decide_eq_true (by omega)), if_neg ?_]
      · rw [aG (by omega)]; rfl
      · simp only [Bool.or_eq_true, Bool.and_eq_true, decide_eq_true_eq, beq_iff_eq]
        rintro (⟨u, A⟩ | u)
        · have := h1 (by omega); omega
        · omega
    · rw [Bb c] at f ⊢
      have j : n / 128 ^ i / 128 = n / 128 ^ (i + 1) := by rw [Nat.div_div_eq_div_mul, Nat.pow_succ]
      rw [g _ _ f, gq (by omega), show (128 : Int) = ((128 : Nat) : Int) from rfl, mV, Nat.add_mod_right, Nat.mod_mod]
      rw [xD _ (by rw [bj (by omega) (by omega)]; omega), wS hsmall (by omega)]
      simp only [bS]
      rw [Hx h hsmall (by omega), r, if_neg (by simp; omega), aG (by omega)]
      rw [ih k (i + 1) (by omega) (by omega) (by omega) (fun _ => by rw [← j]; omega) ⟨post, by
        rw [← j]
        have := congrArg (List.drop 1) f
        rw [List.drop_drop] at this
        simpa [Nat.add_assoc] using this⟩, ← j]
      simp only [List.length_cons]
      congr 3
      omega
theorem HW {pre post : List Int} {x : Int} (c : InR x) (h : (pre ++ dh x ++ post).length ≤ 1048576) : dc (pre ++ dh x ++ post) (pre.length : Int) = some (x, ((pre.length + (dh x).length : Nat) : Int), true) := by
  have j := Mf c
  unfold dc lc
  have g : dh x = pV (zig x) := by unfold dh; rw [if_pos c]
  have := Bk (p := pre ++ dh x ++ post) (a := pre.length) h (n := zig x) (by omega) 5 aI 0 (by omega) (cw (by omega)) (by omega) (by omega) ⟨post, by rw [g]; simp⟩
  simp only [Nat.pow_zero, Nat.mod_one, Nat.div_one] at this
  have i : dT (pre.length : Int) (pre ++ dh x ++ post) aI 0 0 = some ((zig x : Int), ((pre.length + 0 + (pV (zig x)).length : Nat) : Int), true) := this
  rw [i, g]
  simp only [cS]
  rw [show (2 : Int) = ((2 : Nat) : Int) from rfl, mV, rV, gq (n := zig x / 2) (by omega)]
  unfold js ba
  by_cases d : x < 0
  · have e : ((zig x % 2 : Nat) : Int) = 1 := by unfold zig; rw [if_pos d]; omega
    have f : ((zig x / 2 : Nat) : Int) = -x - 1 := by unfold zig; rw [if_pos d]; omega
    rw [e, f, if_pos (by simp)]
    have k := c.1
    rw [bj (n := 0 - (-x - 1)) (by omega) (by omega), bj (by omega) (by omega), show 0 - (-x - 1) - 1 = x by omega, oD c]
    rfl
  · have e : ((zig x % 2 : Nat) : Int) = 0 := by unfold zig; rw [if_neg d]; omega
    have f : ((zig x / 2 : Nat) : Int) = x := by unfold zig; rw [if_neg d]; omega
    rw [e, f, if_neg (by simp), oD c]
    rfl
end Go.Vk
/- Trees and windows are read as they were put. -/
namespace Go.Vk
theorem dl.append {a b : List Int} (c : dl a) (d : dl b) : dl (a ++ b) := fun x e => by
  rcases List.mem_append.1 e with h | h
  · exact c x h
  · exact d x h
theorem dl.flat {α : Type} {xs : List α} {f : α → List Int} (h : ∀ x ∈ xs, dl (f x)) : dl (xs.flatMap f) := fun y a => by
  obtain ⟨x, c, d⟩ := List.mem_flatMap.1 a
  exact h x c y d
def po {α : Type} (l : List Int) (P : Pz α) (B : List Int) (x : α) : Prop := ∀ pre post, l = pre ++ B ++ post → P (pre.length : Int) = some (x, ((pre.length + B.length : Nat) : Int))
section
variable {l : List Int}
theorem xK {α : Type} (x : α) : po l (fun a => some (x, a)) [] x := fun _ _ _ => rfl
theorem ef {α β : Type} {P : Pz α} {Q : α → Pz β} {B C : List Int} {x : α} {y : β} (h : po l P B x) (k : po l (Q x) C y) : po l (Pz.bind P Q) (B ++ C) y := fun pre post e => by
  unfold Pz.bind
  rw [h pre (C ++ post) (by rw [e]; simp)]
  simp only [bS]
  have := k (pre ++ B) post (by rw [e]; simp)
  rw [List.length_append] at this
  rw [this, List.length_append, Nat.add_assoc]
theorem Fx {α β : Type} {P : Pz α} {B : List Int} {x : α} (f : α → β) (h : po l P B x) : po l (Pz.map f P) B (f x) := fun pre post e => by
  unfold Pz.map
  rw [h pre post e]
  rfl
theorem vn {α : Type} {P : Pz α} {B : α → List Int} : ∀ (xs : List α), (∀ x ∈ xs, po l P (B x) x) → po l (P.many xs.length) (xs.flatMap B) xs := by
  intro xs
  induction xs with
  | nil => intro _ pre post _; simp [Pz.many]
  | cons x xs ih =>
    intro h pre post e
    rw [List.flatMap_cons] at e ⊢
    show (P (pre.length : Int)).bind _ = _
    rw [h x (List.mem_cons_self ..) pre (xs.flatMap B ++ post) (by rw [e]; simp)]
    simp only [bS]
    have := ih (fun y a => h y (List.mem_cons_of_mem _ a)) (pre ++ B x) post (by rw [e]; simp)
    rw [List.length_append] at this
    rw [this]
    simp only [Option.bind_some, List.length_append, Nat.add_assoc]
variable (hp : l.length ≤ 1048576)
include hp
theorem ku {x : Int} (a : InR x) : po l (gI l) (dh x) x := fun pre post e => by
  subst e
  unfold gI
  rw [HW a hp]
theorem vA {α : Type} {P : Pz α} {B : α → List Int} {xs : List α} (a : xs.length ≤ 1000000) (h : ∀ x ∈ xs, po l P (B x) x) : po l (ca l P) (dh xs.length ++ xs.flatMap B) xs := fun pre post e => by
  have hk : po l (P.many ((xs.length : Int)).toNat) (xs.flatMap B) xs := by rw [Int.toNat_natCast]; exact vn xs h
  have := ef (P := gI l) (Q := fun v => if v < 0 then (fun _ => none) else P.many v.toNat) (ku hp (vY (by omega))) (by rw [if_neg (by omega)]; exact hk) pre post e
  rw [← this]
  unfold ca Pz.bind
  cases gI l pre.length with
  | none => rfl
  | some y =>
    simp only [bS]
    split <;> rfl
theorem tH {xs : List Int} (a : xs.length ≤ 1000000) (h : og xs) : po l (ca l (gI l)) (iJ xs) xs := vA hp a fun x c => ku hp (h x c)
theorem BT (b : Bool) : po l (tx l) (dh (sd b)) b := fun pre post e => by
  unfold tx
  rw [ku hp (yy b) pre post e]
  cases b <;> rfl
theorem LF {x : az} (h : tK x) (c : szM x ≤ 1000000) : po l (qw l) (qF x) x := by
  have j := @rk x.l_.k_
  have hz' := c
  unfold szM at hz'
  obtain ⟨h1, d, f, g, i⟩ := h
  have m : ∀ y, y ∈ [x.i_.t_, x.i_.u_, x.I_, x.J_, x.h_, x.A_, x.G_] → InR y := h1
  have key : po l (qw l) (dh (sd x.B_) ++ (dh x.i_.t_ ++ (dh x.i_.u_ ++ (iJ x.v_ ++ (dh x.I_ ++ (iJ x.l_.q_ ++ ((dh x.l_.k_.length ++ x.l_.k_.flatMap iJ) ++ (dh x.J_ ++ (iJ x.d_ ++ (dh x.h_ ++ (dh x.A_ ++ (dh x.G_ ++ ([]))))))))))))) x := by
    unfold qw
    refine ef (BT hp x.B_) ?_
    refine ef (ku hp (m x.i_.t_ (by simp))) ?_
    refine ef (ku hp (m x.i_.u_ (by simp))) ?_
    refine ef (tH hp (by omega) d) ?_
    refine ef (ku hp (m x.I_ (by simp))) ?_
    refine ef (tH hp (by omega) g) ?_
    refine ef (Fx aJ.mk (vA hp (by omega) fun y a => tH hp (by have := tF a; omega) (i y a))) ?_
    refine ef (ku hp (m x.J_ (by simp))) ?_
    refine ef (tH hp (by omega) f) ?_
    refine ef (ku hp (m x.h_ (by simp))) ?_
    refine ef (ku hp (m x.A_ (by simp))) ?_
    refine ef (ku hp (m x.G_ (by simp))) ?_
    exact xK x
  intro pre post e
  have eb : qF x = dh (sd x.B_) ++ (dh x.i_.t_ ++ (dh x.i_.u_ ++ (iJ x.v_ ++ (dh x.I_ ++ (iJ x.l_.q_ ++ ((dh x.l_.k_.length ++ x.l_.k_.flatMap iJ) ++ (dh x.J_ ++ (iJ x.d_ ++ (dh x.h_ ++ (dh x.A_ ++ (dh x.G_ ++ ([])))))))))))) := by unfold qF; simp only [List.append_assoc, List.append_nil]
  rw [eb] at e ⊢
  exact key pre post e
theorem yD {x : ax} (c : InR x.y_) (h : ∀ y ∈ x.e_, tK y) (d : szU x ≤ 1000000) : po l (sG l) (rc x) x := by
  have f : x.e_.length ≤ 1000000 := by unfold szU at d; omega
  have key : po l (sG l) (dh x.y_ ++ (dh x.e_.length ++ x.e_.flatMap qF)) x :=
    ef (Q := fun v => Pz.map (fun ns => ax.mk ns v) (ca l (qw l))) (ku hp c) (Fx (fun ns => ax.mk ns x.y_) (vA hp f fun y a => LF hp (h y a) (by have := Fl a; omega)))
  intro pre post e
  unfold rc at e ⊢
  rw [List.append_assoc] at e ⊢
  rw [List.append_assoc] at e
  exact key pre post (by rw [e]; simp only [List.append_assoc])
theorem Bc {x : aJ} (h : ∀ r ∈ x.p_, og r) (c : ua x.p_ ≤ 1000000) : po l (Pz.map aJ.mk (ca l (ca l (gI l)))) (xQ x) x := by
  have d := @rk x.p_
  exact Fx aJ.mk (vA hp (by omega) fun y a => tH hp (by have := tF a; omega) (h y a))
end
end Go.Vk
/- Readers: a fixed number of things, read on whether or not something was bad. -/
namespace Go.Vk
section
theorem LR {α ρ : Type} {op : ak → Option (α × ak)} {P : Pz α} (g : sy op P) (s : ∀ a v b, I64 a → P a = some (v, b) → I64 b) (N : Int)
    (Lp : Nat → Int → Bool → List α → Int → Option ρ) (fin : List α → ak → Option ρ)
    (step : ∀ k a q l i, Lp (k + 1) a q l i = if decide (i < N) then (op ⟨a, q⟩).bind fun y => (app l [y.1]).bind fun l' => Lp k y.2.c_ y.2.C_ l' (IntKind.i64.wrap (i + 1)) else fin l ⟨a, q⟩) :
    ∀ (d k : Nat) (i a : Int) (l : List α), (N - i).toNat = d → d < k → 0 ≤ i → N ≤ 1000000 → (l.length : Int) = i →
      (∃ l' a', Lp k a true l i = fin l' ⟨a', true⟩) ∧ (I64 a → (∀ vs c, P.many d a = some (vs, c) → Lp k a false l i = fin (l ++ vs) ⟨c, false⟩) ∧ (P.many d a = none → ∃ l' a', Lp k a false l i = fin l' ⟨a', true⟩)) := by
  intro d
  induction d with
  | zero =>
    intro k i a l t hk u j w
    obtain ⟨k, rfl⟩ := kS k (by omega)
    rw [step, if_neg (by rw [decide_eq_true_iff]; omega), step, if_neg (by rw [decide_eq_true_iff]; omega)]
    refine ⟨⟨_, _, rfl⟩, fun _ => ⟨fun vs c e => ?_, fun e => by simp [Pz.many] at e⟩⟩
    obtain ⟨rfl, rfl⟩ := Prod.mk.inj (Option.some.inj e)
    simp
  | succ d ih =>
    intro k i a l t hk u j w
    obtain ⟨k, rfl⟩ := kS k (by omega)
    have p : ∀ v : α, ((l ++ [v]).length : Int) = i + 1 := fun v => by simp; omega
    have m : ∀ v : α, app l [v] = some (l ++ [v]) := fun v => cK (by simp; omega)
    have r : ∀ (v : α) (a : Int), ∃ l' a', Lp k a true (l ++ [v]) (i + 1) = fin l' ⟨a', true⟩ := fun v a => (ih k (i + 1) a (l ++ [v]) (by omega) (by omega) (by omega) j (p v)).1
    refine ⟨?_, fun o => ?_⟩
    · obtain ⟨v, a', e⟩ := g.1 a
      rw [step, if_pos (by rw [decide_eq_true_iff]; omega), e]
      simp only [bS]
      rw [m]
      simp only [bS]
      rw [bj (by omega) (by omega)]
      exact r v a'
    · rw [step, if_pos (by rw [decide_eq_true_iff]; omega)]
      unfold Pz.many
      cases h : P a with
      | none =>
        refine ⟨fun vs c e => by simp at e, fun _ => ?_⟩
        obtain ⟨v, a', e⟩ := (g.2 a o).2 h
        rw [e]
        simp only [bS]
        rw [m]
        simp only [bS]
        rw [bj (by omega) (by omega)]
        exact r v a'
      | some y =>
        obtain ⟨v, b⟩ := y
        rw [(g.2 a o).1 v b h]
        simp only [bS]
        rw [m]
        simp only [bS]
        rw [bj (by omega) (by omega)]
        obtain ⟨x, A⟩ := (ih k (i + 1) b (l ++ [v]) (by omega) (by omega) (by omega) j (p v)).2 (s a v b o h)
        refine ⟨fun vs c e => ?_, fun e => ?_⟩
        · cases f : P.many d b with
          | none => rw [f] at e; simp at e
          | some q =>
            rw [f] at e
            obtain ⟨rfl, rfl⟩ := Prod.mk.inj (Option.some.inj e)
            rw [x q.1 q.2 f]
            simp
        · cases f : P.many d b with
          | none => exact A f
          | some q => rw [f] at e; simp at e
end
def Sat {α : Type} (P : Pz α) (Q : α → Prop) : Prop := ∀ a v b, I64 a → P a = some (v, b) → I64 b ∧ Q v
theorem ey {α β : Type} {P : Pz α} {R : α → Pz β} {Q : α → Prop} {S : β → Prop} (h : Sat P Q) (k : ∀ v, Q v → Sat (R v) S) : Sat (Pz.bind P R) S := fun a v b c e => by
  unfold Pz.bind at e
  obtain ⟨y, d, f⟩ := cd e
  obtain ⟨i, q⟩ := h a y.1 y.2 c d
  exact k y.1 q y.2 v b i f
theorem vz {α : Type} {x : α} {Q : α → Prop} (h : Q x) : Sat (fun a => some (x, a)) Q := fun a v b c e => by
  obtain ⟨rfl, rfl⟩ := Prod.mk.inj (Option.some.inj e)
  exact ⟨c, h⟩
theorem IW {α β : Type} {P : Pz α} {f : α → β} {Q : α → Prop} {S : β → Prop} (h : Sat P Q) (k : ∀ v, Q v → S (f v)) : Sat (Pz.map f P) S := fun a v b c e => by
  obtain ⟨y, d, g⟩ := Option.map_eq_some_iff.1 e
  obtain ⟨rfl, rfl⟩ := Prod.mk.inj g
  obtain ⟨i, q⟩ := h a y.1 y.2 c d
  exact ⟨i, k _ q⟩
theorem mU {α : Type} {P : Pz α} {Q : α → Prop} (h : Sat P Q) : ∀ n, Sat (P.many n) (fun vs => vs.length = n ∧ ∀ x ∈ vs, Q x)
  | 0 => vz ⟨rfl, by simp⟩
  | n + 1 => fun a v b d e => by
    unfold Pz.many at e
    obtain ⟨y, f, e⟩ := cd e
    obtain ⟨z, g, e⟩ := cd e
    obtain ⟨i, q⟩ := h a y.1 y.2 d f
    obtain ⟨j, k, l⟩ := mU h n y.2 z.1 z.2 i g
    obtain ⟨rfl, rfl⟩ := Prod.mk.inj (Option.some.inj e)
    refine ⟨j, by simp [k], fun x c => ?_⟩
    rcases List.mem_cons.1 c with rfl | c
    · exact q
    · exact l x c
section
variable {p : List Int} (hb : dl p) (hp : p.length ≤ 1048576)
include hb hp
theorem pH : Sat (gI p) InR := fun a v b c e => ⟨(gi hb hp).i64 hp c e, FE hb hp c e⟩
theorem xG {α : Type} {P : Pz α} {sz : α → Nat} {Q : α → Prop} (f : sn p P sz) (h : Sat P Q) : Sat (ca p P) (fun vs => vs.length ≤ 1048576 ∧ ∀ x ∈ vs, Q x) := fun a v b c e => by
  have g := tw hb hp f
  obtain ⟨h1, j, l, m⟩ := g a v b c e
  refine ⟨g.i64 hp c e, ?_⟩
  unfold ca at e
  obtain ⟨y, i, e⟩ := cd e
  have k := (pH hb hp) a y.1 y.2 c i
  split at e
  · cases e
  · have d := gi hb hp a y.1 y.2 c i
    simp only at d
    obtain ⟨o, q, r, s⟩ := vI f hp _ _ v b (by omega) d.2.2.1 e
    refine ⟨?_, (mU h _ y.2 v b k.1 e).2.2⟩
    simp only at j
    omega
theorem vp : Sat (ca p (gI p)) (fun vs => vs.length ≤ 1048576 ∧ ∀ x ∈ vs, InR x) := xG hb hp (gi hb hp) (pH hb hp)
theorem JC : Sat (ca p (ca p (gI p))) (fun vs => vs.length ≤ 1048576 ∧ ∀ x ∈ vs, x.length ≤ 1048576 ∧ ∀ y ∈ x, InR y) := xG hb hp (lz hb hp) (vp hb hp)
end
end Go.Vk
/- Texts taken apart; numbers read. -/
namespace Go.Vk
open Go.Proofs
theorem DL {α : Type} {s : List α} {f i : Nat} (c : f ≤ i) (d : i < s.length) : (s.drop f).take (i + 1 - f) = (s.drop f).take (i - f) ++ [s[i]] := by
  have h1 : i + 1 - f = (i - f) + 1 := by omega
  have a : i - f < (s.drop f).length := by rw [List.length_drop]; omega
  rw [h1, List.take_succ_eq_append_getElem a, List.getElem_drop]
  congr 3
  omega
theorem Mz {α : Type} {s : List α} {f i : Nat} (a : f ≤ i) : s.drop f = (s.drop f).take (i - f) ++ s.drop i := by
  have h := List.take_append_drop (i - f) (s.drop f)
  rw [List.drop_drop] at h
  have e : f + (i - f) = i := by omega
  rw [e] at h
  exact h.symm
theorem tf {α : Type} {xs : List α} {f i : Nat} (h : f ≤ i) (h' : i ≤ xs.length) : sub xs (f : Int) (i : Int) = some ((xs.drop f).take (i - f)) := by
  unfold sub
  rw [if_pos ⟨by omega, by omega, by omega⟩]
  simp
theorem Je {x c : UInt8} : ((x.toNat : Int) == (c.toNat : Int)) = decide (x = c) := by
  rw [Bool.eq_iff_iff, beq_iff_eq, decide_eq_true_iff]
  constructor
  · intro h; exact UInt8.toNat_inj.1 (by omega)
  · rintro rfl; rfl
theorem ET {s : List UInt8} {c : UInt8} (t : s.length ≤ 1048576) : ∀ (d k i f : Nat) (out : List (List UInt8)), s.length - i = d → d < k → f ≤ i → i ≤ s.length → out.length ≤ i → c ∉ (s.drop f).take (i - f) →
    je s (c.toNat : Int) k out (f : Int) (i : Int) = some (out ++ fb c (s.drop f)) := by
  intro d
  induction d with
  | zero =>
    intro k i f out p hk j m q a
    obtain ⟨k, rfl⟩ := kS k (by omega)
    have e : i = s.length := by omega
    have o : (s.drop f).take (i - f) = s.drop f := by rw [List.take_of_length_le]; rw [List.length_drop]; omega
    rw [je, if_neg (by rw [decide_eq_true_iff]; omega), tf (by omega) (Nat.le_refl _), ← e, o]
    simp only [bS]
    rw [cK (by simp; omega)]
    rw [o] at a
    rw [oE a]
    rfl
  | succ d ih =>
    intro k i f out p hk j m q a
    obtain ⟨k, rfl⟩ := kS k (by omega)
    have g : i < s.length := by omega
    rw [je, if_pos (by rw [decide_eq_true_iff]; omega), aY g]
    simp only [bS]
    rw [Je, aG (by omega)]
    by_cases l : s[i] = c
    · rw [if_pos (by simpa using l), tf j m]
      simp only [bS]
      rw [cK (by simp; omega)]
      simp only [bS]
      rw [ih k (i + 1) (i + 1) _ (by omega) (by omega) (Nat.le_refl _) (by omega) (by simp; omega) (by simp)]
      have e : fb c (s.drop f) = (s.drop f).take (i - f) :: fb c (s.drop (i + 1)) := by
        conv => lhs; rw [Mz j, List.drop_eq_getElem_cons g, l]
        exact qg a
      rw [e]
      simp
    · rw [if_neg (by simpa using l)]
      refine ih k (i + 1) f out (by omega) (by omega) (by omega) (by omega) (by omega) ?_
      rw [DL j g]
      intro r
      rcases List.mem_append.1 r with h | h
      · exact a h
      · exact l (List.mem_singleton.1 h).symm
theorem EG {s : List UInt8} {c : UInt8} (u : s.length ≤ 1048576) : ∀ (d k i f : Nat) (out : List (List UInt8)), s.length - i = d → d + 1 < k → f ≤ i → i ≤ s.length → out.length ≤ i → c ∉ (s.drop f).take (i - f) →
    ir s (c.toNat : Int) k out (f : Int) (i : Int) = some (out ++ fb c (s.drop f)) := by
  intro d
  induction d with
  | zero =>
    intro k i f out p hk j m r a
    obtain ⟨k, rfl⟩ : ∃ q, k = q + 2 := ⟨k - 2, by omega⟩
    have e : i = s.length := by omega
    have o : (s.drop f).take (i - f) = s.drop f := by rw [List.take_of_length_le]; rw [List.length_drop]; omega
    rw [ir, if_pos (by rw [decide_eq_true_iff]; omega), if_pos (by rw [beq_iff_eq]; omega)]
    simp only [Option.bind_some, if_true]
    rw [tf (by omega) (by omega), o]
    simp only [bS]
    rw [cK (by simp; omega)]
    simp only [bS]
    rw [aG (by omega), ir, if_neg (by rw [decide_eq_true_iff]; omega)]
    rw [o] at a
    rw [oE a]
  | succ d ih =>
    intro k i f out p hk j m r a
    obtain ⟨k, rfl⟩ := kS k (by omega)
    have g : i < s.length := by omega
    rw [ir, if_pos (by rw [decide_eq_true_iff]; omega), if_neg (by rw [beq_iff_eq]; omega), aY g]
    simp only [bS]
    rw [Je, aG (by omega)]
    by_cases l : s[i] = c
    · rw [if_pos (by simpa using l), tf j m]
      simp only [bS]
      rw [cK (by simp; omega)]
      simp only [bS]
      rw [ih k (i + 1) (i + 1) _ (by omega) (by omega) (Nat.le_refl _) (by omega) (by simp; omega) (by simp)]
      have e : fb c (s.drop f) = (s.drop f).take (i - f) :: fb c (s.drop (i + 1)) := by
        conv => lhs; rw [Mz j, List.drop_eq_getElem_cons g, l]
        exact qg a
      rw [e]
      simp
    · rw [if_neg (by simpa using l)]
      refine ih k (i + 1) f out (by omega) (by omega) (by omega) (by omega) (by omega) ?_
      rw [DL j g]
      intro t
      rcases List.mem_append.1 t with h | h
      · exact a h
      · exact l (List.mem_singleton.1 h).symm
theorem fx {s : List UInt8} (a : s.length ≤ 1048576) (c : UInt8) {p : Int} (d : (c.toNat : Int) = p) : gB s p = some (fb c s) ∧ oB s p = some (fb c s) := by
  subst d
  exact ⟨EG a s.length aI 0 0 [] (by omega) (cw (by omega)) (Nat.le_refl _) (by omega) (by simp) (by simp), ET a s.length aI 0 0 [] (by omega) (cw (by omega)) (Nat.le_refl _) (by omega) (by simp) (by simp)⟩
theorem rA {c : UInt8} : ∀ (s : List UInt8), (fb c s).length ≤ s.length + 1 ∧ ∀ w ∈ fb c s, w.length ≤ s.length
  | [] => by simp [fb]
  | x :: r => by
    obtain ⟨h1, d⟩ := rA (c := c) r
    unfold fb
    split
    · refine ⟨by simp; omega, fun w a => ?_⟩
      rcases List.mem_cons.1 a with rfl | a
      · simp
      · have := d w a
        simp only [List.length_cons]; omega
    · split
      · simp
      · rename_i h t e
        rw [e] at h1 d
        refine ⟨by simp only [List.length_cons] at h1 ⊢; omega, fun w a => ?_⟩
        rcases List.mem_cons.1 a with rfl | a
        · have := d h (by simp)
          simp only [List.length_cons]; omega
        · have := d w (by simp [a])
          simp only [List.length_cons]; omega
theorem FP (n : Int) : I64 (IntKind.i64.wrap n) := by
  show I64 (if (true && decide (n % (18446744073709551616 : Int) ≥ (9223372036854775808 : Int))) = true then n % (18446744073709551616 : Int) - (18446744073709551616 : Int) else n % (18446744073709551616 : Int))
  unfold I64
  split
  · rename_i h
    simp only [Bool.true_and, decide_eq_true_iff] at h
    constructor <;> omega
  · rename_i h
    simp only [Bool.true_and, decide_eq_true_iff] at h
    constructor <;> omega
def NP (l : List UInt8) (a : Nat) : Nat := l.foldl (fun a b => 10 * a + (b.toNat - 48)) a
theorem GT : ∀ (u : Nat), NP (Lib.decDigits u) 0 = u
  | u => by
    by_cases h1 : u < 10
    · rw [Lib.decDigits_one h1]
      show 10 * 0 + ((UInt8.ofNat (48 + u)).toNat - 48) = u
      rw [rH h1]; omega
    · have a : u % 10 < 10 := Nat.mod_lt _ (by omega)
      rw [Lib.decDigits.eq_def u, dif_neg h1]
      unfold NP
      rw [List.foldl_append]
      have := GT (u / 10)
      unfold NP at this
      rw [this]
      show 10 * (u / 10) + ((UInt8.ofNat (48 + u % 10)).toNat - 48) = u
      rw [rH a]; omega
termination_by u => u
theorem qt : ∀ (d u : Nat), u < 10 ^ (d + 1) → (Lib.decDigits u).length ≤ d + 1
  | 0, u, h => by rw [Lib.decDigits_one (by simpa using h)]; simp
  | d + 1, u, h => by
    by_cases h1 : u < 10
    · rw [Lib.decDigits_one h1]; simp
    · rw [Lib.decDigits.eq_def u, dif_neg h1]
      have := qt d (u / 10) (by rw [Nat.div_lt_iff_lt_mul (by omega), ← Nat.pow_succ]; exact h)
      simp; omega
theorem Ch {s : List UInt8} (f : s.length ≤ 1048576) : Tot (lh s) (fun v => I64 v.1) := by
  have c : I64 0 := ⟨by omega, by omega⟩
  unfold lh
  refine kl (fun _ => cx c) (fun g => ?_)
  refine xJ (σ := Int) (fun k a i => ep s k a i) s.length (fun _ a => I64 a) (fun k a d => ?_) (fun k a i e d ih => ?_) (by omega) ((⟨by omega, by omega⟩ : I64 0))
  · show Tot (ep s (k + 1) a _) _
    rw [ep, if_neg (by simp), wF d]
    exact kl (fun _ => cx c) (fun _ => cx d)
  · show Tot (ep s (k + 1) a _) _
    rw [ep, if_pos (by rw [decide_eq_true_iff]; omega), aY e]
    simp only [bS]
    refine Tot.bind (P := fun _ => True) (kl (fun _ => cx trivial) (fun _ => cx trivial)) fun v _ => ?_
    refine kl (fun _ => cx c) (fun _ => ?_)
    rw [aG (by omega)]
    exact ih _ (FP _)
theorem Bz {u : Nat} (h : u ≤ 9999) : lh (Lib.decDigits u) = some ((u : Int), true) := by
  have p := qt 3 u (by omega)
  have g := mp u
  have q : 0 < (Lib.decDigits u).length := List.length_pos_iff.2 (pG u)
  unfold lh
  rw [if_neg (by simp; omega)]
  have key : ∀ (d k i : Nat) (a : Nat), (Lib.decDigits u).length - i = d → d < k → i ≤ (Lib.decDigits u).length → a < 10 ^ i → NP ((Lib.decDigits u).drop i) a = u → ep (Lib.decDigits u) k (a : Int) (i : Int) = some ((u : Int), true) := by
    intro d
    induction d with
    | zero =>
      intro k i a hd' hk j l c
      obtain ⟨k, rfl⟩ := kS k (by omega)
      have e : (Lib.decDigits u).drop i = [] := List.drop_eq_nil_iff.2 (by omega)
      rw [e] at c
      have c : a = u := c
      subst c
      rw [ep, if_neg (by rw [decide_eq_true_iff]; omega), wF ⟨by omega, by omega⟩]
      have m : Lib.itoa (a : Int) = Lib.decDigits a := by
        unfold Lib.itoa
        rw [if_neg (by omega), Int.toNat_natCast]
      rw [m]
      simp
    | succ d ih =>
      intro k i a hd' hk j l c
      obtain ⟨k, rfl⟩ := kS k (by omega)
      have f : i < (Lib.decDigits u).length := by omega
      have o := g _ (List.getElem_mem f)
      rw [List.drop_eq_getElem_cons f] at c
      have r : (10 : Nat) ^ i ≤ 10 ^ 4 := Nat.pow_le_pow_right (by omega) (by omega)
      rw [ep, if_pos (by rw [decide_eq_true_iff]; omega), aY f]
      generalize (Lib.decDigits u)[i] = x at o c
      simp only [bS]
      rw [if_neg (by rw [decide_eq_true_iff]; omega), decide_eq_false (by omega)]
      simp only [Option.bind_some, Bool.false_eq_true, if_false]
      rw [bj (n := 10 * (a : Int)) (by omega) (by omega), gq (n := x.toNat) (by omega), bj (n := 10 * (a : Int) + x.toNat) (by omega) (by omega), bj (by omega) (by omega), aG (by omega)]
      have e : 10 * (a : Int) + x.toNat - 48 = ((10 * a + (x.toNat - 48) : Nat) : Int) := by omega
      rw [e]
      exact ih k (i + 1) _ (by omega) (by omega) (by omega) (by rw [Nat.pow_succ]; omega) c
  exact key (Lib.decDigits u).length aI 0 0 (by omega) (cw (by omega)) (by omega) (by simp) (GT u)
theorem CG {s : List UInt8} (k : s.length ≤ 1048576) : Tot (lg s) (fun v => I64 v.1) ∧ Tot (lj s) (fun v => I64 v.1) := by
  have c : I64 0 := ⟨by omega, by omega⟩
  refine ⟨?_, ?_⟩
  · unfold lg
    refine kl (fun _ => cx c) (fun l => ?_)
    have hl' : 0 < s.length := by simp at l; omega
    rw [show (0 : Int) = ((0 : Nat) : Int) from rfl, aY hl']
    simp only [bS]
    refine kl (fun _ => (Ch k).bind fun v a => kl (fun _ => cx c) (fun _ => cx a)) (fun _ => ?_)
    have := tf (xs := s) (f := 1) (i := s.length) hl' (Nat.le_refl _)
    have m : ((1 : Nat) : Int) = 1 := rfl
    rw [m] at this
    rw [this]
    simp only [bS]
    exact (Ch (by simp; omega)).bind fun v a => kl (fun _ => cx c) (fun _ => cx (FP _))
  · have o : Tot (En s) (fun v => v.2 = true → I64 v.1) := by
      unfold En
      rw [if_pos (by omega)]
      refine cx ?_
      cases e : Lib.atoiAll s with
      | ok v => exact fun _ => Lib.atoiAll_bounds e
      | range => intro h; cases h
      | _ => intro h; cases h
    unfold lj pB
    refine Tot.bind (P := fun v => I64 v.1) ?_ fun v a => cx a
    refine o.bind fun v a => ?_
    refine Tot.bind (P := fun b => b = false → I64 v.1) (kl (fun _ => cx (by simp)) fun d => ?_) fun b g => ?_
    · have h2' : v.2 = true := by simpa using d
      refine Tot.bind (P := fun _ => True) ⟨_, rfl, trivial⟩ fun _ _ => cx fun _ => a h2'
    · refine Tot.bind (P := fun b => b = false → I64 v.1) (kl (fun _ => cx (by simp)) fun d => ?_) fun b g => kl (fun _ => cx c) fun p => cx (g (by simpa using p))
      have j := g (by simpa using d)
      rw [xa j]
      exact cx fun _ => j
theorem GO {n : Int} (h : -9999 ≤ n ∧ n ≤ 9999) : lg (Lib.itoa n) = some (n, true) ∧ lj (Lib.itoa n) = some (n, true) := by
  have c : I64 n := ⟨by omega, by omega⟩
  refine ⟨?_, ?_⟩
  · unfold lg Lib.itoa
    by_cases d : n < 0
    · obtain ⟨u, rfl⟩ : ∃ u : Nat, n = -(u : Int) := ⟨n.natAbs, by omega⟩
      have eu : (-(u : Int)).natAbs = u := by omega
      rw [if_pos d, eu]
      have e := qt 3 u (by omega)
      have a : 0 < (Lib.decDigits u).length := List.length_pos_iff.2 (pG u)
      rw [if_neg (by simp; omega)]
      show (some (45 : UInt8)).bind _ = _
      simp only [bS]
      rw [if_neg (by decide)]
      have g := tf (xs := (45 : UInt8) :: Lib.decDigits u) (f := 1) (i := ((45 : UInt8) :: Lib.decDigits u).length) (by simp) (Nat.le_refl _)
      have j : ((1 : Nat) : Int) = 1 := rfl
      rw [j] at g
      rw [g]
      simp only [bS]
      have k : (((45 : UInt8) :: Lib.decDigits u).drop 1).take (((45 : UInt8) :: Lib.decDigits u).length - 1) = Lib.decDigits u := by simp
      rw [k, Bz (by omega)]
      simp only [bS]
      rw [if_neg (by simp; omega), bj (by omega) (by omega)]
      simp
    · obtain ⟨u, rfl⟩ : ∃ u : Nat, n = (u : Int) := ⟨n.toNat, by omega⟩
      rw [if_neg d, Int.toNat_natCast]
      have e := qt 3 u (by omega)
      have a : 0 < (Lib.decDigits u).length := List.length_pos_iff.2 (pG u)
      have l := mp u
      rw [if_neg (by simp; omega), show (0 : Int) = ((0 : Nat) : Int) from rfl, aY a]
      simp only [bS]
      have := l _ (List.getElem_mem a)
      rw [if_pos (by simp; omega), Bz (by omega)]
      simp only [bS]
      rw [if_neg (by simp; omega)]
  · unfold lj pB En
    have e := Gr c
    rw [if_pos (by omega), Kh (by omega)]
    simp only [cS]
    unfold aW
    rw [decide_eq_true (by omega), decide_eq_true (by omega)]
    simp only [Option.bind_some, Bool.and_self, Bool.not_true, Bool.false_eq_true, if_false]
    rw [xa c]
    simp
end Go.Vk
/- Attributes and schemas out of their texts. -/
namespace Go.Vk
open Go.Proofs
abbrev zA : ap := ⟨[], [], []⟩
abbrev zS : aj := ⟨[], []⟩
theorem Bd {w : List UInt8} (h : yF w) {c : UInt8} (e : c.toNat < 97 ∨ 122 < c.toNat) : c ∉ w := fun a => by
  obtain ⟨i, d, rfl⟩ := List.getElem_of_mem a
  have := h.2 i (Nat.zero_le _) d
  omega
theorem vB {ws : List (List UInt8)} (h : un ws) {c : UInt8} (d : c.toNat < 97 ∨ 122 < c.toNat) : ∀ w ∈ ws, c ∉ w := fun w e => by
  obtain ⟨i, a, rfl⟩ := List.getElem_of_mem e
  exact Bd (h i (Nat.zero_le _) a a).1 d
theorem Np {n : Int} {c : UInt8} (d : c.toNat ≠ 45 ∧ (c.toNat < 48 ∨ 57 < c.toNat)) : c ∉ Lib.itoa n := fun a => by
  unfold Lib.itoa at a
  split at a
  · rcases List.mem_cons.1 a with rfl | a
    · exact d.1 rfl
    · have := mp _ _ a
      omega
  · have := mp _ _ a
    omega
theorem sK {ws : List (List UInt8)} {c s : UInt8} (a : c ≠ s) (h : ∀ w ∈ ws, c ∉ w) : c ∉ Lib.join ws [s] := fun d => by
  rcases Lj d with h1 | ⟨w, e, h1⟩
  · exact a (List.mem_singleton.1 h1)
  · exact h w e h1
theorem yC {l : List Int} {c : UInt8} (a : c.toNat ≠ 45 ∧ (c.toNat < 48 ∨ 57 < c.toNat)) : ∀ w ∈ l.map Lib.itoa, c ∉ w := fun w d => by
  obtain ⟨n, _, rfl⟩ := List.mem_map.1 d
  exact Np a
open Classical in
noncomputable def uK (a : ap) (p : List UInt8) : ap × Bool := if oV a ∧ dn a = p then (a, true) else (zA, false)
theorem FI {a : ap} (d : iN a) {p : List UInt8} (h : (uK a p).2 = true) : oV (uK a p).1 ∧ iN (uK a p).1 := by
  unfold uK at h ⊢
  split at h
  · rename_i c
    rw [if_pos c]
    exact ⟨c.1, d⟩
  · cases h
theorem IR {a : ap} (c : iN a) (p : List UInt8) : gp p a.D_ a.w_ a.F_ = some (uK a p) ∧ gF p a.D_ a.w_ a.F_ = some (uK a p) := by
  unfold gp gF
  show (jY a).bind _ = _ ∧ (kh a).bind _ = _
  rcases (vu (uT c)).cases with ⟨e, d⟩ | ⟨e, d⟩
  · obtain ⟨g, i, _⟩ := zF c d
    rw [e, (xv (uT c)).val d]
    have t1' : jd (ap.mk a.D_ a.w_ a.F_) = some (dn a) := g
    have t2' : jh (ap.mk a.D_ a.w_ a.F_) = some (dn a) := i
    simp only [cS]
    rw [t1', t2']
    simp only [bS]
    by_cases f : dn a = p
    · rw [show uK a p = (a, true) from if_pos ⟨d, f⟩, if_neg (by simp [f])]
      exact ⟨rfl, rfl⟩
    · rw [show uK a p = (zA, false) from if_neg fun h => f h.2, if_pos (by simp [f])]
      exact ⟨rfl, rfl⟩
  · have e' : kh a = some false := by rw [(xv (uT c)).eq (vu (uT c)), e]
    rw [e, e', show uK a p = (zA, false) from if_neg fun h => d h.1]
    exact ⟨rfl, rfl⟩
theorem IS : iN zA := ⟨by simp, ⟨by simp, by simp⟩, ⟨by simp, by simp⟩⟩
def DA (v : ap × Bool) : Prop := v.2 = true → oV v.1 ∧ iN v.1
theorem wa {a : ap} (c : iN a) (p : List UInt8) : Tot (gp p a.D_ a.w_ a.F_) DA ∧ Tot (gF p a.D_ a.w_ a.F_) DA := by
  rw [(IR c p).1, (IR c p).2]
  exact ⟨cx fun h => FI c h, cx fun h => FI c h⟩
theorem rC {s : List UInt8} (e : s.length ≤ 1048575) (c : UInt8) : mJ (fb c s) := by
  obtain ⟨h1, a⟩ := rA (c := c) s
  exact ⟨by omega, fun y d => by have := a y d; omega⟩
def Jo (i : Nat) (l : List Int) : Prop := l.length = i ∧ ∀ y ∈ l, I64 y
theorem Bw {i : Nat} {l : List Int} {x : Int} (h : Jo i l) (a : I64 x) : Jo (i + 1) (l ++ [x]) := ⟨by simp [h.1], fun y c => by
  rcases List.mem_append.1 c with h1 | h1
  · exact h.2 y h1
  · rw [List.mem_singleton.1 h1]; exact a⟩
theorem CM {ws : List (List UInt8)} (c : mJ ws) {nm : List UInt8} (e : nm.length ≤ 1048576) (p : List UInt8) : Tot (cY ws p nm aI [] 0) DA := by
  have g := c.1
  refine xJ (σ := List Int) (fun k l i => cY ws p nm k l i) ws.length Jo (fun k l h => ?_) (fun k l i d h ih => ?_) (by omega) ⟨rfl, by simp⟩
  · show Tot (cY ws p nm (k + 1) l _) _
    rw [cY, if_neg (by simp)]
    exact (wa (a := ⟨nm, l, []⟩) ⟨e, ⟨by show l.length ≤ _; have := h.1; omega, h.2⟩, ⟨by simp, by simp⟩⟩ p).1
  · show Tot (cY ws p nm (k + 1) l _) _
    rw [cY, if_pos (by rw [decide_eq_true_iff]; omega), aY d]
    simp only [bS]
    refine (CG (c.2 _ (List.getElem_mem d))).1.bind fun v f => kl (fun _ => cx fun h => by cases h) (fun _ => ?_)
    rw [cK (by have := h.1; simp; omega)]
    simp only [bS]
    rw [aG (by omega)]
    exact ih _ (Bw h f)
theorem Cc {ws : List (List UInt8)} (c : mJ ws) {nm : List UInt8 × List UInt8 × Bool} (e : nm.1.length ≤ 1048576) (p : List UInt8) : Tot (cX ws p nm aI 0 []) DA := by
  have g := c.1
  refine xJ (σ := List Int) (fun k l i => cX ws p nm k i l) ws.length Jo (fun k l h => ?_) (fun k l i d h ih => ?_) (by omega) ⟨rfl, by simp⟩
  · show Tot (cX ws p nm (k + 1) _ l) _
    rw [cX, if_neg (by simp)]
    exact (wa (a := ⟨nm.1, l, []⟩) ⟨e, ⟨by show l.length ≤ _; have := h.1; omega, h.2⟩, ⟨by simp, by simp⟩⟩ p).2
  · show Tot (cX ws p nm (k + 1) _ l) _
    rw [cX, if_pos (by rw [decide_eq_true_iff]; omega), aY d]
    simp only [bS]
    refine (CG (c.2 _ (List.getElem_mem d))).2.bind fun v f => kl (fun _ => cx fun h => by cases h) (fun _ => ?_)
    rw [cK (by have := h.1; simp; omega)]
    simp only [bS]
    rw [aG (by omega)]
    exact ih _ (Bw h f)
theorem HD (s : List UInt8) (c : UInt8) : (Lib.cut s [c]).1.length ≤ s.length ∧ (Lib.cut s [c]).2.1.length ≤ s.length := by
  unfold Lib.cut
  split
  · simp; omega
  · simp
theorem wd {s : List UInt8} (a : s.length ≤ 1048576) (c : UInt8) : KB s [c] = some (Lib.cut s [c]) := if_pos (by omega)
theorem BO {s : List UInt8} (j : s.length ≤ 1048575) : Tot (lm s) DA ∧ Tot (lk s) DA := by
  refine ⟨?_, ?_⟩
  · unfold lm
    rw [(fx (p := 61) (s := s) (by omega) 61 rfl).1, (fx (p := 58) (s := s) (by omega) 58 rfl).1]
    simp only [bS]
    have d := rA (c := 61) s
    have e := rA (c := 58) s
    refine kl (fun h => ?_) fun _ => kl (fun h => ?_) fun _ => (wa IS s).1
    · rw [beq_iff_eq] at h
      refine (vE (by omega)).bind fun v f => (vE (by omega)).bind fun w g => ?_
      have h1 := d.2 v f.1
      have i := d.2 w g.1
      rw [(fx (p := 44) (s := w) (by omega) 44 rfl).1]
      simp only [bS]
      exact (wa (a := ⟨v, [], fb 44 w⟩) ⟨by show v.length ≤ _; omega, ⟨by simp, by simp⟩, rC (by omega) 44⟩ s).1
    · rw [beq_iff_eq] at h
      refine (vE (by omega)).bind fun v f => (vE (by omega)).bind fun w g => ?_
      have h1 := e.2 v f.1
      have i := e.2 w g.1
      rw [(fx (p := 44) (s := w) (by omega) 44 rfl).1]
      simp only [bS]
      exact CM (rC (by omega) 44) (by omega) s
  · unfold lk
    rw [wd (s := s) (by omega) 61, wd (s := s) (by omega) 58]
    simp only [bS]
    have d := HD s 61
    have e := HD s 58
    refine kl (fun h => ?_) fun _ => kl (fun h => ?_) fun _ => (wa IS s).2
    · rw [(fx (p := 44) (s := (Lib.cut s [61]).2.1) (by omega) 44 rfl).2]
      simp only [bS]
      exact (wa (a := ⟨(Lib.cut s [61]).1, [], fb 44 (Lib.cut s [61]).2.1⟩) ⟨by show (Lib.cut s [61]).1.length ≤ _; omega, ⟨by simp, by simp⟩, rC (by omega) 44⟩ s).2
    · rw [(fx (p := 44) (s := (Lib.cut s [58]).2.1) (by omega) 44 rfl).2]
      simp only [bS]
      exact Cc (rC (by omega) 44) (by omega) s
theorem HX {l : List Int} (u : l.length ≤ 3) (g : Ji l) {a : ap} (j : a.w_ = l) (m : a.F_ = []) (o : iN a) (p : List UInt8) (x : List UInt8 × List UInt8 × Bool) (q : x.1 = a.D_) :
    cY (l.map Lib.itoa) p a.D_ aI [] 0 = some (uK a p) ∧ cX (l.map Lib.itoa) p x aI 0 [] = some (uK a p) := by
  have d : (List.range (l.map Lib.itoa).length).map (fun i => l.getD i 0) = l := by
    apply List.ext_getElem (by simp)
    intro i h1 s
    simp [s]
  have f : ∀ i, (h : i < (l.map Lib.itoa).length) → lg (l.map Lib.itoa)[i] = some (l.getD i 0, true) ∧ lj (l.map Lib.itoa)[i] = some (l.getD i 0, true) := fun i h => by
    have h' : i < l.length := by simpa using h
    rw [List.getElem_map]
    have := (g i (Nat.zero_le _) h' h').1
    have e : l.getD i 0 = l[i] := by simp [h']
    rw [e]
    exact GO (by omega)
  have c := IR o p
  rw [j, m] at c
  refine ⟨?_, ?_⟩
  · refine (se (n := (l.map Lib.itoa).length) (fun i => l.getD i 0) (fun k r i => cY (l.map Lib.itoa) p a.D_ k r i) (fun r => gp p a.D_ r []) (fun k r => ?_) (fun k r i h t => ?_) (by simp; omega)).trans ?_
    · show cY _ p _ (k + 1) r _ = _
      rw [cY, if_neg (by simp)]
    · show cY _ p _ (k + 1) r _ = _
      rw [cY, if_pos (by rw [decide_eq_true_iff]; omega), aY h]
      simp only [bS]
      rw [(f i h).1]
      simp only [cS]
      rw [cK (by simp at h ⊢; omega), aG (by simp at h; omega)]
      rfl
    · rw [d]; exact c.1
  · refine (se (n := (l.map Lib.itoa).length) (fun i => l.getD i 0) (fun k r i => cX (l.map Lib.itoa) p x k i r) (fun r => gF p x.1 r []) (fun k r => ?_) (fun k r i h t => ?_) (by simp; omega)).trans ?_
    · show cX _ p _ (k + 1) _ r = _
      rw [cX, if_neg (by simp)]
    · show cX _ p _ (k + 1) _ r = _
      rw [cX, if_pos (by rw [decide_eq_true_iff]; omega), aY h]
      simp only [bS]
      rw [(f i h).2]
      simp only [cS]
      rw [cK (by simp at h ⊢; omega), aG (by simp at h; omega)]
      rfl
    · rw [d, q]; exact c.2
theorem BA {a : ap} (h : oV a) : uK a (dn a) = (a, true) := if_pos ⟨h, rfl⟩
theorem HE {a : ap} (o : iN a) (h : oV a) : lm (dn a) = some (a, true) ∧ lk (dn a) = some (a, true) := by
  have j := (zF o h).2.2
  have k := IR o (dn a)
  rw [BA h] at k
  unfold lm lk
  rw [(fx (p := 61) (s := dn a) (by omega) 61 rfl).1, (fx (p := 58) (s := dn a) (by omega) 58 rfl).1, wd (s := dn a) (by omega) 61, wd (s := dn a) (by omega) 58]
  simp only [bS]
  have d : (61 : UInt8) ∉ a.D_ := Bd h.1 (.inl (by decide))
  have l : (58 : UInt8) ∉ a.D_ := Bd h.1 (.inl (by decide))
  rcases h.2 with ⟨q, u, v⟩ | ⟨q, w, A⟩
  · have e : dn a = a.D_ ++ 61 :: Lib.join a.F_ [44] := by
      unfold dn
      rw [if_neg (by omega)]; simp
    have f : (61 : UInt8) ∉ Lib.join a.F_ [44] := sK (by decide) (vB v (.inl (by decide)))
    have r : fb 61 (dn a) = [a.D_, Lib.join a.F_ [44]] := by rw [e, qg d, oE f]
    have t : Lib.cut (dn a) [61] = (a.D_, Lib.join a.F_ [44], true) := by rw [e, Cn d]
    have g : (Lib.join a.F_ [44]).length ≤ 1048576 := by rw [e] at j; simp at j; omega
    have i : fb 44 (Lib.join a.F_ [44]) = a.F_ := qR (fun h => by rw [h] at u; simp at u) (vB v (.inl (by decide)))
    have ec : a.w_ = [] := List.length_eq_zero_iff.1 q
    rw [ec] at k
    rw [r, t]
    simp only [if_true]
    refine ⟨?_, ?_⟩
    · rw [if_pos (by simp)]
      show (gB (Lib.join a.F_ [44]) 44).bind _ = _
      rw [(fx (p := 44) g 44 rfl).1, i]
      exact k.1
    · rw [(fx (p := 44) g 44 rfl).2, i]
      exact k.2
  · have e : dn a = a.D_ ++ 58 :: Lib.join (a.w_.map Lib.itoa) [44] := by
      unfold dn
      rw [if_pos (by omega)]; simp
    have f : (61 : UInt8) ∉ Lib.join (a.w_.map Lib.itoa) [44] := sK (by decide) (yC (by decide))
    have x : (58 : UInt8) ∉ Lib.join (a.w_.map Lib.itoa) [44] := sK (by decide) (yC (by decide))
    have m : (61 : UInt8) ∉ dn a := by
      rw [e]
      intro c
      rcases List.mem_append.1 c with c | c
      · exact d c
      · rcases List.mem_cons.1 c with c | c
        · exact absurd c (by decide)
        · exact f c
    have r : fb 61 (dn a) = [dn a] := oE m
    have e1' : fb 58 (dn a) = [a.D_, Lib.join (a.w_.map Lib.itoa) [44]] := by rw [e, qg l, oE x]
    have t : Lib.cut (dn a) [61] = (dn a, [], false) := Kq m
    have e2' : Lib.cut (dn a) [58] = (a.D_, Lib.join (a.w_.map Lib.itoa) [44], true) := by rw [e, Cn l]
    have g : (Lib.join (a.w_.map Lib.itoa) [44]).length ≤ 1048576 := by rw [e] at j; simp at j; omega
    have i : fb 44 (Lib.join (a.w_.map Lib.itoa) [44]) = a.w_.map Lib.itoa := qR (fun h => by
      have := congrArg List.length h
      simp at this
      rw [this] at w
      simp at w) (yC (by decide))
    have ev : a.F_ = [] := List.length_eq_zero_iff.1 q
    rw [r, e1', t, e2']
    simp only [if_true, Bool.false_eq_true, if_false]
    obtain ⟨c1, c2⟩ := HX (by omega) A rfl ev o (dn a) (a.D_, Lib.join (a.w_.map Lib.itoa) [44], true) rfl
    rw [BA h] at c1 c2
    refine ⟨?_, ?_⟩
    · rw [if_neg (by simp), if_pos (by simp)]
      show (gB (Lib.join (a.w_.map Lib.itoa) [44]) 44).bind _ = _
      rw [(fx (p := 44) g 44 rfl).1, i]
      exact c1
    · rw [(fx (p := 44) g 44 rfl).2, i]
      exact c2
end Go.Vk
/- Schemas out of their texts. -/
namespace Go.Vk
open Go.Proofs
def vQ (v : aj × Bool) : Prop := v.2 = true → jV v.1 ∧ bV v.1
def EO (i : Nat) (l : List ap) : Prop := l.length = i ∧ ∀ y ∈ l, iN y
theorem Ab {i : Nat} {l : List ap} {x : ap} (h : EO i l) (a : iN x) : EO (i + 1) (l ++ [x]) := ⟨by simp [h.1], fun y c => by
  rcases List.mem_append.1 c with h1 | h1
  · exact h.2 y h1
  · rw [List.mem_singleton.1 h1]; exact a⟩
theorem CN {s : aj} (c : bV s) : Tot ((ea s).bind fun y => if (!y) then some (zS, false) else some (s, true)) vQ ∧ Tot ((ed s).bind fun y => if (!y) then some (zS, false) else some (s, true)) vQ := by
  refine ⟨?_, ?_⟩
  · rcases (mT (nG c)).cases with ⟨e, a⟩ | ⟨e, a⟩
    · rw [e]; exact cx fun _ => ⟨a, c⟩
    · rw [e]; exact cx fun h => by cases h
  · rcases (mZ (nG c)).cases with ⟨e, a⟩ | ⟨e, a⟩
    · rw [e]; exact cx fun _ => ⟨a, c⟩
    · rw [e]; exact cx fun h => by cases h
theorem zW {ws cs : List (List UInt8)} (c : ws.length ≤ 1048576 ∧ ∀ w ∈ ws, w.length ≤ 1048575) (f : mJ cs) : Tot (cL ws cs aI [] 0) vQ ∧ Tot (cJ ws cs aI 0 []) vQ := by
  have g := c.1
  refine ⟨?_, ?_⟩
  · refine xJ (σ := List ap) (fun k l i => cL ws cs k l i) ws.length EO (fun k l h => ?_) (fun k l i a h ih => ?_) (by omega) ⟨rfl, by simp⟩
    · show Tot (cL ws cs (k + 1) l _) _
      rw [cL, if_neg (by simp)]
      exact (CN (s := ⟨l, cs⟩) ⟨⟨by show l.length ≤ _; have := h.1; omega, h.2⟩, f⟩).1
    · show Tot (cL ws cs (k + 1) l _) _
      rw [cL, if_pos (by rw [decide_eq_true_iff]; omega), aY a]
      simp only [bS]
      refine (BO (c.2 _ (List.getElem_mem a))).1.bind fun v d => kl (fun _ => cx fun h => by cases h) (fun e => ?_)
      rw [cK (by have := h.1; simp; omega)]
      simp only [bS]
      rw [aG (by omega)]
      exact ih _ (Ab h (d (by simpa using e)).2)
  · refine xJ (σ := List ap) (fun k l i => cJ ws cs k i l) ws.length EO (fun k l h => ?_) (fun k l i a h ih => ?_) (by omega) ⟨rfl, by simp⟩
    · show Tot (cJ ws cs (k + 1) _ l) _
      rw [cJ, if_neg (by simp)]
      exact (CN (s := ⟨l, cs⟩) ⟨⟨by show l.length ≤ _; have := h.1; omega, h.2⟩, f⟩).2
    · show Tot (cJ ws cs (k + 1) _ l) _
      rw [cJ, if_pos (by rw [decide_eq_true_iff]; omega), aY a]
      simp only [bS]
      refine (BO (c.2 _ (List.getElem_mem a))).2.bind fun v d => kl (fun _ => cx fun h => by cases h) (fun e => ?_)
      rw [cK (by have := h.1; simp; omega)]
      simp only [bS]
      rw [aG (by omega)]
      exact ih _ (Ab h (d (by simpa using e)).2)
theorem FY {s : List UInt8} (e : s.length ≤ 1048575) (c : UInt8) : (fb c s).length ≤ 1048576 ∧ ∀ w ∈ fb c s, w.length ≤ 1048575 := by
  obtain ⟨h1, a⟩ := rA (c := c) s
  exact ⟨by omega, fun w d => by have := a w d; omega⟩
theorem xH {s : List UInt8} (f : s.length ≤ 1048575) : Tot (jg s) vQ ∧ Tot (jc s) vQ := by
  refine ⟨?_, ?_⟩
  · unfold jg
    rw [(fx (p := 124) (s := s) (by omega) 124 rfl).1]
    simp only [bS]
    have a := rA (c := 124) s
    refine kl (fun _ => cx fun h => by cases h) (fun h => ?_)
    have h : (fb 124 s).length = 2 := by simp at h; omega
    refine (vE (by omega)).bind fun v d => ?_
    have h1 := a.2 v d.1
    rw [(fx (p := 44) (s := v) (by omega) 44 rfl).1]
    simp only [bS]
    refine (vE (by omega)).bind fun w e => ?_
    have g := a.2 w e.1
    rw [(fx (p := 59) (s := w) (by omega) 59 rfl).1]
    simp only [bS]
    exact (zW (FY (by omega) 59) (rC (by omega) 44)).1
  · unfold jc
    rw [wd (s := s) (by omega) 124]
    simp only [bS]
    have a := HD s 124
    refine kl (fun _ => cx fun h => by cases h) (fun h => ?_)
    rw [(fx (p := 44) (s := (Lib.cut s [124]).2.1) (by omega) 44 rfl).2, (fx (p := 59) (s := (Lib.cut s [124]).1) (by omega) 59 rfl).2]
    simp only [bS]
    exact (zW (FY (by omega) 59) (rC (by omega) 44)).2
theorem Gp {a : ap} (h : oV a) {c : UInt8} (f : c = 59 ∨ c = 124) : c ∉ dn a := by
  have i : c.toNat < 97 ∨ 122 < c.toNat := by rcases f with rfl | rfl <;> decide
  have k : c.toNat ≠ 45 ∧ (c.toNat < 48 ∨ 57 < c.toNat) := by rcases f with rfl | rfl <;> decide
  have e : c ≠ 44 ∧ c ≠ 58 ∧ c ≠ 61 := by rcases f with rfl | rfl <;> decide
  have j : c ∉ a.D_ := Bd h.1 i
  have l : c ∉ Lib.join a.F_ [44] := by
    rcases h.2 with ⟨_, _, g⟩ | ⟨g, _⟩
    · exact sK e.1 (vB g i)
    · rw [List.length_eq_zero_iff.1 g]
      exact sK e.1 (by simp)
  have m : c ∉ Lib.join (a.w_.map Lib.itoa) [44] := sK e.1 (yC k)
  unfold dn
  split
  · intro d
    rcases List.mem_append.1 d with d | d
    · rcases List.mem_append.1 d with d | d
      · exact j d
      · exact e.2.1 (List.mem_singleton.1 d)
    · exact m d
  · intro d
    rcases List.mem_append.1 d with d | d
    · rcases List.mem_append.1 d with d | d
      · exact j d
      · exact e.2.2 (List.mem_singleton.1 d)
    · exact l d
theorem Fs {s : aj} (f : bV s) (h : jV s) : jg (iq s) = some (s, true) ∧ jc (iq s) = some (s, true) := by
  have m := (sQ f h).2.2
  have g := h.1
  have o : ∀ w ∈ s.d_.map dn, (124 : UInt8) ∉ w ∧ (59 : UInt8) ∉ w := fun w d => by
    obtain ⟨a, g, rfl⟩ := List.mem_map.1 d
    obtain ⟨i, c, rfl⟩ := List.getElem_of_mem g
    exact ⟨Gp (h.attr c) (.inr rfl), Gp (h.attr c) (.inl rfl)⟩
  have e : iq s = Lib.join (s.d_.map dn) [59] ++ 124 :: Lib.join s.f_ [44] := by unfold iq; simp
  have nA : (124 : UInt8) ∉ Lib.join (s.d_.map dn) [59] := sK (by decide) fun w d => (o w d).1
  have nC : (124 : UInt8) ∉ Lib.join s.f_ [44] := sK (by decide) (vB h.2.2.1 (.inr (by decide)))
  have x : fb 124 (iq s) = [Lib.join (s.d_.map dn) [59], Lib.join s.f_ [44]] := by rw [e, qg nA, oE nC]
  have A : Lib.cut (iq s) [124] = (Lib.join (s.d_.map dn) [59], Lib.join s.f_ [44], true) := by rw [e, Cn nA]
  have j : (Lib.join (s.d_.map dn) [59]).length ≤ 1048576 ∧ (Lib.join s.f_ [44]).length ≤ 1048576 := by rw [e] at m; simp at m; omega
  have q : fb 44 (Lib.join s.f_ [44]) = s.f_ := qR (fun l => by have := h.2.1; rw [l] at this; simp at this) (vB h.2.2.1 (.inl (by decide)))
  have t : fb 59 (Lib.join (s.d_.map dn) [59]) = s.d_.map dn := qR (fun l => by
    have := congrArg List.length l
    simp at this
    rw [this] at g
    simp at g) fun w d => (o w d).2
  have u : (List.range (s.d_.map dn).length).map (fun i => s.d_.getD i zA) = s.d_ := by
    apply List.ext_getElem (by simp)
    intro i h1 C
    simp [C]
  have v : ∀ i, (c : i < (s.d_.map dn).length) → lm (s.d_.map dn)[i] = some (s.d_.getD i zA, true) ∧ lk (s.d_.map dn)[i] = some (s.d_.getD i zA, true) := fun i c => by
    have hi' : i < s.d_.length := by simpa using c
    rw [List.getElem_map]
    have e : s.d_.getD i zA = s.d_[i] := by simp [hi']
    rw [e]
    exact HE (f.1.2 _ (List.getElem_mem hi')) (h.attr hi')
  have E : (s.d_.map dn).length ≤ 5 := by simp; omega
  unfold jg jc
  rw [(fx (p := 124) (s := iq s) (by omega) 124 rfl).1, wd (s := iq s) (by omega) 124, x, A]
  simp only [cS]
  refine ⟨?_, ?_⟩
  · rw [if_neg (by simp)]
    show (gB (Lib.join s.f_ [44]) 44).bind _ = _
    rw [(fx (p := 44) j.2 44 rfl).1, q]
    simp only [bS]
    show (gB (Lib.join (s.d_.map dn) [59]) 59).bind _ = _
    rw [(fx (p := 59) j.1 59 rfl).1, t]
    simp only [bS]
    refine (se (n := (s.d_.map dn).length) (fun i => s.d_.getD i zA) (fun k r i => cL (s.d_.map dn) s.f_ k r i) (fun r => (ea (aj.mk r s.f_)).bind fun y => if (!y) then some (zS, false) else some (⟨r, s.f_⟩, true)) (fun k r => ?_) (fun k r i c D => ?_) (by omega)).trans ?_
    · show cL _ _ (k + 1) r _ = _
      rw [cL, if_neg (by simp)]
    · show cL _ _ (k + 1) r _ = _
      rw [cL, if_pos (by rw [decide_eq_true_iff]; omega), aY c]
      simp only [bS]
      rw [(v i c).1]
      simp only [cS]
      rw [cK (by simp; omega), aG (by omega)]
      rfl
    · rw [u]
      show (ea s).bind _ = _
      rw [(mT (nG f)).val h]
      rfl
  · rw [(fx (p := 44) j.2 44 rfl).2, q]
    simp only [bS]
    rw [(fx (p := 59) j.1 59 rfl).2, t]
    simp only [bS]
    refine (se (n := (s.d_.map dn).length) (fun i => s.d_.getD i zA) (fun k r i => cJ (s.d_.map dn) s.f_ k i r) (fun r => (ed (aj.mk r s.f_)).bind fun y => if (!y) then some (zS, false) else some (⟨r, s.f_⟩, true)) (fun k r => ?_) (fun k r i c D => ?_) (by omega)).trans ?_
    · show cJ _ _ (k + 1) _ r = _
      rw [cJ, if_neg (by simp)]
    · show cJ _ _ (k + 1) _ r = _
      rw [cJ, if_pos (by rw [decide_eq_true_iff]; omega), aY c]
      simp only [bS]
      rw [(v i c).2]
      simp only [cS]
      rw [cK (by simp; omega), aG (by omega)]
      rfl
    · rw [u]
      show (ed s).bind _ = _
      rw [(mZ (nG f)).val h]
      rfl
end Go.Vk
/- States, read: what is read, and that it answers. -/
namespace Go.Vk
abbrev zT : ao := ⟨⟨⟨[], []⟩, ⟨0, 0, 0, 0, 0, 0, false⟩, 0, 0, 0, 0, 0⟩, ⟨[]⟩, ⟨[], []⟩⟩
def Db {α : Type} (p : List Int) (P : Pz α) : Prop := ∀ (a : Int) v (b : Int), 0 ≤ a → a ≤ p.length → P a = some (v, b) → a ≤ b ∧ b ≤ p.length
theorem sn.mono {α : Type} {p : List Int} (hp : p.length ≤ 1048576) {P : Pz α} {sz : α → Nat} (h : sn p P sz) : Db p P := fun a v b d h1 e => by
  obtain ⟨f, g, c, i⟩ := h a v b ⟨by omega, by omega⟩ e
  exact ⟨by omega, c⟩
theorem Ek {α : Type} {p : List Int} (x : α) : Db p (fun a => some (x, a)) := fun a v b c h1 e => by
  obtain ⟨rfl, rfl⟩ := Prod.mk.inj (Option.some.inj e)
  exact ⟨Int.le_refl _, h1⟩
theorem tP {α β : Type} {p : List Int} {P : Pz α} {Q : α → Pz β} (h : Db p P) (k : ∀ v, Db p (Q v)) : Db p (Pz.bind P Q) := fun a v b c h1 e => by
  unfold Pz.bind at e
  obtain ⟨y, d, f⟩ := cd e
  obtain ⟨j, g⟩ := h a y.1 y.2 c h1 d
  obtain ⟨l, i⟩ := k y.1 y.2 v b (by omega) g f
  exact ⟨by omega, i⟩
theorem GH {α β : Type} {p : List Int} {P : Pz α} (f : α → β) (h : Db p P) : Db p (Pz.map f P) := fun a v b c h1 e => by
  obtain ⟨y, d, g⟩ := Option.map_eq_some_iff.1 e
  obtain ⟨rfl, rfl⟩ := Prod.mk.inj g
  exact h a y.1 y.2 c h1 d
theorem zg {α β : Type} {p : List Int} {P : Pz α} {Q : α → Pz β} {sz : α → Nat} (h : sn p P sz) (k : ∀ v, Db p (Q v)) : sn p (Pz.bind P Q) (fun _ => 1) := fun a v b c e => by
  unfold Pz.bind at e
  obtain ⟨y, d, f⟩ := cd e
  obtain ⟨g, l, i, m⟩ := h a y.1 y.2 c d
  obtain ⟨o, j⟩ := k y.1 y.2 v b (by omega) i f
  exact ⟨g, by show a + ((1 : Nat) : Int) ≤ b; omega, j, Nat.le_refl _⟩
noncomputable abbrev CY (p : List Int) : Pz aJ := Pz.map aJ.mk (ca p (ca p (gI p)))
noncomputable def uE (p : List Int) : Pz au := Pz.bind (sG p) fun t => Pz.bind (gI p) fun h => Pz.bind (sG p) fun y => Pz.bind (CY p) fun w => Pz.bind (CY p) fun d => fun a => some (⟨t, h == 1, y, ⟨w, d⟩⟩, a)
noncomputable def FV (p : List Int) : Pz au := Pz.bind (sG p) fun t => Pz.bind (tx p) fun h => Pz.bind (sG p) fun y => Pz.bind (CY p) fun w => Pz.bind (CY p) fun d => fun a => some (⟨t, h, y, ⟨w, d⟩⟩, a)
noncomputable def wn (p : List Int) : Pz aC := Pz.bind (gI p) fun t => Pz.bind (gI p) fun s => fun a => some (⟨t, s⟩, a)
theorem lN {x : Int} (h : InR x) : -9223372036854775808 ≤ x ∧ x ≤ 9223372036854775807 := by
  unfold InR at h
  exact ⟨by omega, by omega⟩
theorem CO {x : List Int} (h : x.length ≤ 1048576 ∧ ∀ y ∈ x, InR y) : qB x := ⟨h.1, fun y a => lN (h.2 y a)⟩
section
variable {p : List Int} (hb : dl p) (hp : p.length ≤ 1048576)
include hb hp
theorem BD : sn p (sG p) (fun _ => 1) := zg (Q := fun v => Pz.map (fun ns => ax.mk ns v) (ca p (qw p))) (gi hb hp) fun v => GH (fun ns => ax.mk ns v) ((tw hb hp (ue hb hp)).mono hp)
theorem Ev : Db p (CY p) := GH _ ((tw hb hp (lz hb hp)).mono hp)
theorem IC : Db p (gI p) := (gi hb hp).mono hp
theorem HH : sn p (uE p) (fun _ => 1) := zg (BD hb hp) fun _ => tP (IC hb hp) fun _ => tP ((BD hb hp).mono hp) fun _ => tP (Ev hb hp) fun _ => tP (Ev hb hp) fun _ => Ek _
theorem BN : sn p (wn p) (fun _ => 1) := zg (gi hb hp) fun _ => tP (IC hb hp) fun _ => Ek _
theorem vd : Sat (tx p) (fun _ => True) := fun a v b d e => by
  unfold tx at e
  obtain ⟨y, f, c⟩ := cd e
  split at c
  · cases c
  · obtain ⟨rfl, rfl⟩ := Prod.mk.inj (Option.some.inj c)
    exact ⟨(pH hb hp a y.1 y.2 d f).1, trivial⟩
theorem sE : Sat (CY p) rU := IW (JC hb hp) fun v h => ⟨h.1, fun y a => CO (h.2 y a)⟩
theorem MC : Sat (qw p) rI := by
  have i := pH hb hp
  have l := vp hb hp
  exact ey (vd hb hp) fun r _ => ey i fun s h1 => ey i fun t d => ey l fun u e => ey i fun v f => ey l fun w g => ey (sE hb hp) fun x h => ey i fun A j => ey l fun C k => ey i fun D m => ey i fun o a => ey i fun q c =>
    vz ⟨trivial, ⟨lN h1, lN d⟩, CO e, lN f, ⟨CO g, h⟩, lN j, CO k, lN m, lN a, lN c⟩
theorem sh : Sat (sG p) lO := ey (Q := InR) (R := fun v => Pz.map (fun ns => ax.mk ns v) (ca p (qw p))) (pH hb hp) fun v a => IW (xG hb hp (ue hb hp) (MC hb hp)) fun ns h => ⟨h, lN a⟩
theorem Hn : Sat (uE p) oG := ey (sh hb hp) fun _ h1 => ey (pH hb hp) fun _ _ => ey (sh hb hp) fun _ a => ey (sE hb hp) fun _ c => ey (sE hb hp) fun _ d => vz ⟨h1, trivial, a, c, d⟩
theorem Hm : Sat (FV p) oG := ey (sh hb hp) fun _ h1 => ey (vd hb hp) fun _ _ => ey (sh hb hp) fun _ a => ey (sE hb hp) fun _ c => ey (sE hb hp) fun _ d => vz ⟨h1, trivial, a, c, d⟩
theorem MD : Sat (wn p) GJ := ey (pH hb hp) fun _ h1 => ey (pH hb hp) fun _ a => vz ⟨lN h1, lN a⟩
omit hb hp in
theorem Sat.i64 {α : Type} {P : Pz α} {Q : α → Prop} (h : Sat P Q) : ∀ a v b, I64 a → P a = some (v, b) → I64 b := fun a v b c e => (h a v b c e).1
noncomputable def Oj (p : List Int) : ak → Option (au × ak) := rb (fv p) fun t => rb (eJ p) fun h => rb (fv p) fun y => rb (dD p) fun w => rb (dD p) fun d => fun s => some (⟨t, h, y, ⟨w, d⟩⟩, s)
theorem Pd : sy (Oj p) (FV p) := pp (Jb hb hp) (sh hb hp).i64 fun _ => pp (FH hb hp) (vd hb hp).i64 fun _ => pp (Jb hb hp) (sh hb hp).i64 fun _ => pp (wK hb hp) (sE hb hp).i64 fun _ => pp (wK hb hp) (sE hb hp).i64 fun _ => Fh _
noncomputable def Mv (p : List Int) : ak → Option (aC × ak) := rb (aM p) fun t => rb (aM p) fun u => fun s => some (⟨t, u⟩, s)
theorem Ng : sy (Mv p) (wn p) := pp (Ag hb hp) (pH hb hp).i64 fun _ => pp (Ag hb hp) (pH hb hp).i64 fun _ => Fh _
end
def Con (K : ak → Option (ao × Bool)) (G : Int → Option ao) : Prop :=
  (∀ a, ∃ v, K ⟨a, true⟩ = some (v, false)) ∧ ∀ a, I64 a → (∀ st, G a = some st → K ⟨a, false⟩ = some (st, true)) ∧ (G a = none → ∃ v, K ⟨a, false⟩ = some (v, false))
theorem KI {α : Type} {op : ak → Option (α × ak)} {P : Pz α} {K : ak → α × ak → Option (ao × Bool)} {G : α → Int → Option ao} (h : sy op P) (f : ∀ a v b, I64 a → P a = some (v, b) → I64 b)
    (k : ∀ g v, Con (fun s => K g (v, s)) (G v)) : Con (fun s => (op s).bind (K s)) (fun a => (P a).bind fun y => G y.1 y.2) := by
  refine ⟨fun a => ?_, fun a c => ?_⟩
  · obtain ⟨v, a', e⟩ := h.1 a
    show ∃ v, (op ⟨a, true⟩).bind _ = _
    rw [e]
    exact (k _ v).1 a'
  · show (∀ st, ((P a).bind fun y => G y.1 y.2) = some st → (op ⟨a, false⟩).bind (K ⟨a, false⟩) = some (st, true)) ∧ (((P a).bind fun y => G y.1 y.2) = none → ∃ v, (op ⟨a, false⟩).bind (K ⟨a, false⟩) = some (v, false))
    cases d : P a with
    | none =>
      obtain ⟨v, a', e⟩ := (h.2 a c).2 d
      rw [e]
      exact ⟨fun st e => (by cases e), fun _ => (k _ v).1 a'⟩
    | some y =>
      obtain ⟨v, b⟩ := y
      rw [(h.2 a c).1 v b d]
      exact (k _ v).2 b (f a v b c d)
theorem MS (st : ao) : Con (fun s => some (st, !s.C_)) (fun _ => some st) := ⟨fun a => ⟨_, rfl⟩, fun a _ => ⟨fun st' e => by cases e; rfl, fun e => by cases e⟩⟩
theorem DH {α : Type} {op : ak → Option (α × ak)} {P : Pz α} (g : sy op P) (f : ∀ a v b, I64 a → P a = some (v, b) → I64 b) {N : Int} (h : N ≤ 1000000)
    (Lp : Nat → Int → Bool → List α → Int → Option (ao × Bool)) (fin : List α → ak → Option (ao × Bool)) {G : List α → Int → Option ao}
    (step : ∀ k a q l i, Lp (k + 1) a q l i = if decide (i < N) then (op ⟨a, q⟩).bind fun y => (app l [y.1]).bind fun l' => Lp k y.2.c_ y.2.C_ l' (IntKind.i64.wrap (i + 1)) else fin l ⟨a, q⟩)
    (k : ∀ l, Con (fin l) (G l)) : Con (fun s => Lp aI s.c_ s.C_ [] 0) (fun a => (P.many N.toNat a).bind fun y => G y.1 y.2) := by
  have H := fun a => LR g f N Lp fin step N.toNat aI 0 a [] (by simp) (cw (by omega)) (by omega) h rfl
  have j : ∀ (n : Nat) a v b, I64 a → P.many n a = some (v, b) → I64 b := fun n a v b c e => (mU (P := P) (Q := fun _ => True) (fun a v b c e => ⟨f a v b c e, trivial⟩) n a v b c e).1
  refine ⟨fun a => ?_, fun a c => ?_⟩
  · obtain ⟨l', a', e⟩ := (H a).1
    show ∃ v, Lp aI a true [] 0 = _
    rw [e]
    exact (k l').1 a'
  · show (∀ st, ((P.many N.toNat a).bind fun y => G y.1 y.2) = some st → Lp aI a false [] 0 = some (st, true)) ∧ (((P.many N.toNat a).bind fun y => G y.1 y.2) = none → ∃ v, Lp aI a false [] 0 = some (v, false))
    cases d : P.many N.toNat a with
    | none =>
      obtain ⟨l', a', e⟩ := ((H a).2 c).2 d
      rw [e]
      exact ⟨fun st e => (by cases e), fun _ => (k l').1 a'⟩
    | some y =>
      obtain ⟨v, b⟩ := y
      rw [((H a).2 c).1 v b d]
      exact (k v).2 b (j _ a v b c d)
theorem Ml {α : Type} {p : List Int} (hb : dl p) (hp : p.length ≤ 1048576) {op : ak → Option (α × ak)} {P : Pz α} {sz : α → Nat} (m : sy op P) (f : sn p P sz)
    (Lp : Nat → Int → Bool → List α → Int → Option (ao × Bool)) (fin : List α → ak → Option (ao × Bool)) {G : List α → Int → Option ao}
    (step : ∀ k a q l n, Lp (k + 1) a q l n = if (decide (n > 0)) && !q then (op ⟨a, q⟩).bind fun y => (app l [y.1]).bind fun l' => Lp k y.2.c_ y.2.C_ l' (IntKind.i64.wrap (n - 1)) else fin l ⟨a, q⟩)
    (k : ∀ l, Con (fin l) (G l)) : Con (fun s => (bZ p s).bind fun y => Lp aI y.2.c_ y.2.C_ [] y.1) (fun a => (ca p P a).bind fun y => G y.1 y.2) := by
  refine ⟨fun a => ?_, fun a d => ?_⟩
  · obtain ⟨v, a', e⟩ := (xW hb hp).1 a
    show ∃ v, (bZ p ⟨a, true⟩).bind _ = _
    rw [e]
    simp only [bS]
    rw [yq (Lp := Lp) (fin := fin) step (cw (by omega))]
    exact (k []).1 a'
  · show (∀ st, ((ca p P a).bind fun y => G y.1 y.2) = some st → ((bZ p ⟨a, false⟩).bind fun y => Lp aI y.2.c_ y.2.C_ [] y.1) = some (st, true)) ∧ (((ca p P a).bind fun y => G y.1 y.2) = none → ∃ v, ((bZ p ⟨a, false⟩).bind fun y => Lp aI y.2.c_ y.2.C_ [] y.1) = some (v, false))
    have i := (xW hb hp).2 a d
    rw [IL hb hp f d]
    cases h : cIr p a with
    | none =>
      obtain ⟨v, a', e⟩ := i.2 h
      rw [e]
      simp only [Option.bind_some, Option.bind_none]
      rw [yq (Lp := Lp) (fin := fin) step (cw (by omega))]
      exact ⟨fun st e => (by cases e), fun _ => (k []).1 a'⟩
    | some y =>
      obtain ⟨n, b⟩ := y
      rw [i.1 n b h]
      simp only [bS]
      obtain ⟨h1, o, u⟩ := Gw h
      obtain ⟨w, x, r, _⟩ := gi hb hp a n b d h1
      have j := (gi hb hp).i64 hp d h1
      obtain ⟨r1, t⟩ := IU m f hp Lp fin step n.toNat aI n b [] rfl (cw (by omega)) (by omega) o (by simp; omega) j
      cases g : P.many n.toNat b with
      | none =>
        obtain ⟨l', a', e⟩ := t g
        rw [e]
        exact ⟨fun st e => (by cases e), fun _ => (k l').1 a'⟩
      | some z =>
        obtain ⟨vs, c⟩ := z
        rw [r1 vs c g]
        obtain ⟨A, C, D, E⟩ := vI f hp _ _ vs c (by omega) r g
        exact (k ([] ++ vs)).2 c ⟨by omega, by omega⟩
end Go.Vk
/- States, read by the program: alike what is read. -/
namespace Go.Vk
open Classical in
theorem Pb {c : aR} {K : ak → Option (ao × Bool)} {G : Int → Option ao} {X : Option Bool} (d : Dec X (qZ c)) (k : qZ c → Con K G) :
    Con (fun s => (if s.C_ then some true else X.bind fun y => some (!y)).bind fun u => if u then some (zT, false) else K s) (fun a => if qZ c then G a else none) := by
  refine ⟨fun a => ⟨_, rfl⟩, fun a f => ?_⟩
  rcases d.cases with ⟨e, h⟩ | ⟨e, h⟩
  · have hk := (k h).2 a f
    rw [e]
    refine ⟨fun st e => hk.1 st ?_, fun e => hk.2 ?_⟩
    · have e : (if qZ c then G a else none) = some st := e
      rwa [if_pos h] at e
    · have e : (if qZ c then G a else none) = none := e
      rwa [if_pos h] at e
  · rw [e]
    refine ⟨fun st e => ?_, fun _ => ⟨_, rfl⟩⟩
    have e : (if qZ c then G a else none) = some st := e
    rw [if_neg h] at e
    cases e
theorem jR {α : Type} {op : ak → Option (α × ak)} {P : Pz α} {K : ak → α × ak → Option (ao × Bool)} {G : α × Int → Option ao} (h : sy op P) (c : ∀ a v b, I64 a → P a = some (v, b) → I64 b)
    (k : ∀ d v, Con (fun s => K d (v, s)) (fun b => G (v, b))) : Con (fun s => (op s).bind (K s)) (fun a => (P a).bind G) := KI (G := fun v b => G (v, b)) h c k
theorem Ny {F : ak → ak → Option (ao × Bool)} {G : Int → Option ao} (h : ∀ c, Con (F c) G) : Con (fun s => F s s) G := ⟨fun a => (h ⟨a, true⟩).1 a, fun a d => (h ⟨a, false⟩).2 a d⟩
noncomputable def uD (p : List Int) (M : Pz au) (L : Pz (List aC)) (c : aR) : Int → Option ao := fun a =>
  (M.many c.j_.toNat a).bind fun d => ((ca p (gI p)).many (((c.g_.f_.length : Nat) : Int)).toNat d.2).bind fun e => (L e.2).bind fun f => some ⟨c, ⟨d.1⟩, ⟨e.1, f.1⟩⟩
open Classical in
noncomputable def ug (c : aR) (G : Int → Option ao) : Int → Option ao := fun a => if qZ c then G a else none
noncomputable def EQ (p : List Int) (s : aj) : Int → Option ao := fun a =>
  (gI p a).bind fun e => (gI p e.2).bind fun f => (gI p f.2).bind fun g => (gI p g.2).bind fun h => (gI p h.2).bind fun i => (gI p i.2).bind fun j => (tx p j.2).bind fun k => (gI p k.2).bind fun l => (gI p l.2).bind fun m => (gI p m.2).bind fun o => (gI p o.2).bind fun c => (gI p c.2).bind fun d =>
    ug ⟨s, ⟨e.1, f.1, g.1, h.1, i.1, j.1, k.1⟩, l.1, m.1, o.1, c.1, d.1⟩ (uD p (FV p) (ca p (wn p)) ⟨s, ⟨e.1, f.1, g.1, h.1, i.1, j.1, k.1⟩, l.1, m.1, o.1, c.1, d.1⟩) d.2
section
variable {p : List Int} (hb : dl p) (hp : p.length ≤ 1048576)
include hb hp
theorem PI (c : aj × Bool) (d e f g h i : Int × ak) (j : Bool × ak) (m o r t u : Int × ak) (ms : List au) (rows : List (List Int)) :
    Con (fun s => (bZ p s).bind fun y => eR p c d e f g h i j m o r t u ms rows aI y.1 [] y.2.c_ y.2.C_)
      (fun a => (ca p (wn p) a).bind fun v => some ⟨⟨c.1, ⟨d.1, e.1, f.1, g.1, h.1, i.1, j.1⟩, m.1, o.1, r.1, t.1, u.1⟩, ⟨ms⟩, ⟨rows, v.1⟩⟩) :=
  Ml hb hp (Ng hb hp) (BN hb hp) (fun k a q l n => eR p c d e f g h i j m o r t u ms rows k n l a q) (fun l s => some (⟨⟨c.1, ⟨d.1, e.1, f.1, g.1, h.1, i.1, j.1⟩, m.1, o.1, r.1, t.1, u.1⟩, ⟨ms⟩, ⟨rows, l⟩⟩, !s.C_))
    (fun k a q l n => by
      show eR p c d e f g h i j m o r t u ms rows (k + 1) n l a q = _
      rw [eR]
      unfold Mv rb
      simp only [Option.bind_assoc, Option.bind_some]) (fun l => MS _)
theorem OS (c : aj × Bool) (A : c.1.f_.length ≤ 1000000) (d e f g h j : Int × ak) (m : Bool × ak) (o r t u v : Int × ak) (ms : List au) :
    Con (fun s => eQ c p d e f g h j m o r t u v ms aI 0 [] s.c_ s.C_)
      (fun a => ((ca p (gI p)).many (((c.1.f_.length : Nat) : Int)).toNat a).bind fun x => (ca p (wn p) x.2).bind fun w => some ⟨⟨c.1, ⟨d.1, e.1, f.1, g.1, h.1, j.1, m.1⟩, o.1, r.1, t.1, u.1, v.1⟩, ⟨ms⟩, ⟨x.1, w.1⟩⟩) :=
  DH (Co hb hp) (vp hb hp).i64 (by omega) (fun k a q l i => eQ c p d e f g h j m o r t u v ms k i l a q) (fun l s => (bZ p s).bind fun y => eR p c d e f g h j m o r t u v ms l aI y.1 [] y.2.c_ y.2.C_)
    (G := fun rows a => (ca p (wn p) a).bind fun w => some ⟨⟨c.1, ⟨d.1, e.1, f.1, g.1, h.1, j.1, m.1⟩, o.1, r.1, t.1, u.1, v.1⟩, ⟨ms⟩, ⟨rows, w.1⟩⟩)
    (fun k a q l i => by
      show eQ c p d e f g h j m o r t u v ms (k + 1) i l a q = _
      rw [eQ]) (fun l => PI hb hp c d e f g h j m o r t u v ms l)
theorem OO (c : aj × Bool) (x : c.1.f_.length ≤ 1000000) (e f g h j m : Int × ak) (o : Bool × ak) (d r t u v : Int × ak) (A : d.1 ≤ 1000000) :
    Con (fun s => ee d p c e f g h j m o r t u v aI 0 [] s.c_ s.C_)
      (uD p (FV p) (ca p (wn p)) ⟨c.1, ⟨e.1, f.1, g.1, h.1, j.1, m.1, o.1⟩, d.1, r.1, t.1, u.1, v.1⟩) :=
  DH (Pd hb hp) (Hm hb hp).i64 A (fun k a q l i => ee d p c e f g h j m o r t u v k i l a q) (fun l s => eQ c p e f g h j m o d r t u v l aI 0 [] s.c_ s.C_)
    (G := fun ms a => ((ca p (gI p)).many (((c.1.f_.length : Nat) : Int)).toNat a).bind fun w => (ca p (wn p) w.2).bind fun C => some ⟨⟨c.1, ⟨e.1, f.1, g.1, h.1, j.1, m.1, o.1⟩, d.1, r.1, t.1, u.1, v.1⟩, ⟨ms⟩, ⟨w.1, C.1⟩⟩)
    (fun k a q l i => by
      show ee d p c e f g h j m o r t u v (k + 1) i l a q = _
      rw [ee]
      unfold Oj rb
      simp only [Option.bind_assoc, Option.bind_some]) (fun l => OS hb hp c x e f g h j m o d r t u v l)
noncomputable def Mm (p : List Int) (o : aj × Bool) : ak → Option (ao × Bool) := fun s =>
  (aM p s).bind fun c => (aM p c.2).bind fun d => (aM p d.2).bind fun e => (aM p e.2).bind fun f => (aM p f.2).bind fun g => (aM p g.2).bind fun h => (eJ p h.2).bind fun i => (aM p i.2).bind fun j => (aM p j.2).bind fun k => (aM p k.2).bind fun l => (aM p l.2).bind fun m => (aM p m.2).bind fun a =>
    (if a.2.C_ then some true else (lf (aR.mk o.1 (bw.mk c.1 d.1 e.1 f.1 g.1 h.1 i.1) j.1 k.1 l.1 m.1 a.1)).bind fun q => some (!q)).bind fun r => if r then some (zT, false) else ee j p o c d e f g h i k l m a aI 0 [] a.2.c_ a.2.C_
theorem LU (a : aj × Bool) (M : bV a.1) : Con (Mm p a) (EQ p a.1) := by
  have ri := Ag hb hp
  have si := (pH hb hp).i64
  unfold Mm EQ
  refine jR ri si fun Q i => ?_
  dsimp only
  refine jR ri si fun v j => ?_
  dsimp only
  refine jR ri si fun w k => ?_
  dsimp only
  refine jR ri si fun x l => ?_
  dsimp only
  refine jR ri si fun A m => ?_
  dsimp only
  refine jR ri si fun C o => ?_
  dsimp only
  refine jR (FH hb hp) (vd hb hp).i64 fun D q => ?_
  dsimp only
  refine jR ri si fun E d => ?_
  dsimp only
  refine jR ri si fun G t => ?_
  dsimp only
  refine jR ri si fun H u => ?_
  dsimp only
  refine jR ri si fun g e => ?_
  dsimp only
  refine jR ri si fun h f => ?_
  dsimp only
  refine Pb (c := ⟨a.1, ⟨i, j, k, l, m, o, q⟩, d, t, u, e, f⟩) (Ca M) fun L => ?_
  have h1 : a.1.f_.length ≤ 1000000 := by have : (a.1.f_.length : Int) ≤ 3 := L.1.2.1.2; omega
  have P : d ≤ 1000000 := by have : d ≤ 4 := L.2.2.1.2; omega
  exact Ny (F := fun r s => ee (d, G) p a (i, v) (j, w) (k, x) (l, A) (m, C) (o, D) (q, E) (t, H) (u, g) (e, h) (f, r) aI 0 [] s.c_ s.C_) fun r => OO hb hp a h1 (i, v) (j, w) (k, x) (l, A) (m, C) (o, D) (q, E) (d, G) (t, H) (u, g) (e, h) (f, r) P
end
end Go.Vk
/- States, read by the reference: what is read. -/
namespace Go.Vk
abbrev zM : au := ⟨⟨[], 0⟩, false, ⟨[], 0⟩, ⟨⟨[]⟩, ⟨[]⟩⟩⟩
def out (o : Option ao) : ao × Bool := match o with | some st => (st, true) | none => (zT, false)
def us (n : Nat) (l : List Int) : List aC := (List.range n).map fun i => ⟨l.getD (2 * i) 0, l.getD (2 * i + 1) 0⟩
noncomputable def sr (p : List Int) : Pz (List aC) := fun a => (gI p a).bind fun y => if 0 ≤ y.1 ∧ y.1 ≤ 20 then ((gI p).many (2 * y.1.toNat) y.2).bind fun z => some (us y.1.toNat z.1, z.2) else none
def cfL (s : aj) (l : List Int) : aR := ⟨s, ⟨l.getD 0 0, l.getD 1 0, l.getD 2 0, l.getD 3 0, l.getD 4 0, l.getD 5 0, l.getD 6 0 == 1⟩, l.getD 7 0, l.getD 8 0, l.getD 9 0, l.getD 10 0, l.getD 11 0⟩
noncomputable def HL (p : List Int) (s : aj) : Int → Option ao := fun a => ((gI p).many 12 a).bind fun y => ug (cfL s y.1) (uD p (uE p) (sr p) (cfL s y.1)) y.2
section
variable {p : List Int} (hb : dl p) (hp : p.length ≤ 1048576)
include hb hp
theorem Mt : Dl (kH p) (CY p) ⟨[]⟩ := fun a c => by
  unfold kH CY Pz.map
  rw [Er hb hp a c]
  cases ca p (ca p (gI p)) a with
  | none => rfl
  | some y => rfl
theorem Pc : Dl (mK p) (uE p) zM := fun a c => by
  have st := (sh hb hp).i64
  have sw := (sE hb hp).i64
  unfold mK uE Pz.bind
  rw [Js hb hp a c]
  simp only [bS]
  cases g : sG p a with
  | none => rfl
  | some h =>
  have d := st a _ _ c g
  simp only [cS]
  rw [DF hb hp _ d]
  simp only [bS]
  cases h1 : gI p h.2 with
  | none => rfl
  | some i =>
  have e := (pH hb hp).i64 _ _ _ d h1
  simp only [cS]
  rw [Js hb hp _ e]
  simp only [bS]
  cases j : sG p i.2 with
  | none => rfl
  | some k =>
  have f := st _ _ _ e j
  simp only [cS]
  rw [Mt hb hp _ f]
  simp only [bS]
  cases l : CY p k.2 with
  | none => rfl
  | some m =>
  have o := sw _ _ _ f l
  simp only [cS]
  rw [Mt hb hp _ o]
  simp only [bS]
  cases q : CY p m.2 with
  | none => rfl
  | some r => rfl
omit hb hp in
theorem NH {n : Int} {s t : Int} {u q1 : Bool} {vs : List Int} (C : 0 ≤ n ∧ n ≤ 20) (D : vs.length = 2 * n.toNat) (a : aj × Bool) (c d e f g h j m o p q r : Int) (ms : List au) (rows : List (List Int)) :
    dM (n, s, u) (vs, t, q1) a c d e f g h j m o p q r ms rows aI [] 0 = some (⟨⟨a.1, ⟨c, d, e, f, g, h, j == 1⟩, m, o, p, q, r⟩, ⟨ms⟩, ⟨rows, us n.toNat vs⟩⟩, true) := by
  refine se (n := n.toNat) (fun i => (⟨vs.getD (2 * i) 0, vs.getD (2 * i + 1) 0⟩ : aC)) (fun k l i => dM (n, s, u) (vs, t, q1) a c d e f g h j m o p q r ms rows k l i) (fun l => some (⟨⟨a.1, ⟨c, d, e, f, g, h, j == 1⟩, m, o, p, q, r⟩, ⟨ms⟩, ⟨rows, l⟩⟩, true)) (fun k l => ?_) (fun k l i E A => ?_) (by omega)
  · show dM (n, s, u) (vs, t, q1) a c d e f g h j m o p q r ms rows (k + 1) l _ = _
    rw [dM, if_neg (by rw [decide_eq_true_iff]; show ¬ ((n.toNat : Int) < n); omega)]
  · show dM (n, s, u) (vs, t, q1) a c d e f g h j m o p q r ms rows (k + 1) l _ = _
    have x : IntKind.i64.wrap (2 * (i : Int)) = ((2 * i : Nat) : Int) := by rw [bj (by omega) (by omega)]; omega
    have v : 2 * i < vs.length := by omega
    have w : 2 * i + 1 < vs.length := by omega
    rw [dM, if_pos (by rw [decide_eq_true_iff]; show (i : Int) < n; omega), x, aG (by omega), aY v, aY w]
    simp only [bS]
    rw [cK (by simp; omega), aG (by omega)]
    simp [v, w]
theorem Ie (e : aj × Bool) (f g i j k l m o q r s t : Int) (ms : List au) (rows : List (List Int)) {a : Int} (D : I64 a) :
    ((dc p a).bind fun d => (if (!d.2.2) then some true else (ba d.1 0 20).bind fun x => some (!x)).bind fun A => if A then some (zT, false) else (dA p d.2.1 (IntKind.i64.wrap (2 * d.1))).bind fun u => if (!u.2.2) then some (zT, false) else dM d u e f g i j k l m o q r s t ms rows aI [] 0) =
      some (out ((sr p a).bind fun F => some ⟨⟨e.1, ⟨f, g, i, j, k, l, m == 1⟩, o, q, r, s, t⟩, ⟨ms⟩, ⟨rows, F.1⟩⟩)) := by
  unfold sr
  rw [DF hb hp a D]
  simp only [bS]
  cases G : gI p a with
  | none => rfl
  | some y =>
  obtain ⟨n, b⟩ := y
  have E := (pH hb hp).i64 _ _ _ D G
  simp only [cS]
  by_cases v : 0 ≤ n ∧ n ≤ 20
  · have C : ba n 0 20 = some true := by unfold ba; rw [decide_eq_true v.1, decide_eq_true v.2]; rfl
    have w : IntKind.i64.wrap (2 * n) = ((2 * n.toNat : Nat) : Int) := by rw [bj (by omega) (by omega)]; omega
    rw [C, if_pos v, w]
    simp only [cS]
    rw [xx hb hp (2 * n.toNat) b (by omega) E]
    simp only [bS]
    cases H : (gI p).many (2 * n.toNat) b with
    | none => rfl
    | some z =>
    obtain ⟨vs, c⟩ := z
    obtain ⟨M, L, P⟩ := mU (pH hb hp) _ _ _ _ E H
    simp only [cS]
    exact NH v L e f g i j k l m o q r s t ms rows
  · have C : ba n 0 20 = some false := by
      unfold ba
      congr 1
      rw [Bool.eq_false_iff]
      intro h
      simp at h
      omega
    rw [C, if_neg v]
    rfl
theorem MZ (c : aj × Bool) (G : c.1.f_.length ≤ 1000000) (e f g h j m o q r s t u : Int) (ms : List au) {a : Int} (A : I64 a) :
    fR c p e f g h j m o q r s t u ms aI [] 0 a =
      some (out (((ca p (gI p)).many (((c.1.f_.length : Nat) : Int)).toNat a).bind fun C => (sr p C.2).bind fun D => some ⟨⟨c.1, ⟨e, f, g, h, j, m, o == 1⟩, q, r, s, t, u⟩, ⟨ms⟩, ⟨C.1, D.1⟩⟩)) := by
  have := yl (Cs hb hp) (lz hb hp) hp (n := (c.1.f_.length : Int)) (by omega) (fun k l i a => fR c p e f g h j m o q r s t u ms k l i a)
    (fun l a => (dc p a).bind fun d => (if (!d.2.2) then some true else (ba d.1 0 20).bind fun w => some (!w)).bind fun x => if x then some (zT, false) else (dA p d.2.1 (IntKind.i64.wrap (2 * d.1))).bind fun v => if (!v.2.2) then some (zT, false) else dM d v c e f g h j m o q r s t u ms l aI [] 0) (some (zT, false)) (fun k l i a => by
      show fR c p e f g h j m o q r s t u ms (k + 1) l i a = _
      rw [fR]) (((c.1.f_.length : Nat) : Int)).toNat aI 0 a [] (by omega) (cw (by omega)) (by omega) (by simp) (by omega) A
  refine this.trans ?_
  cases E : (ca p (gI p)).many (((c.1.f_.length : Nat) : Int)).toNat a with
  | none => rfl
  | some z =>
  have F := (mU (vp hb hp) _ _ _ _ A E).1
  exact Ie hb hp c e f g h j m o q r s t u ms ([] ++ z.1) F
theorem Nr (d : aj × Bool) (w : d.1.f_.length ≤ 1000000) (e f g h j m o c q r s t : Int) (u : c ≤ 1000000) {a : Int} (v : I64 a) :
    fP c p d e f g h j m o q r s t aI [] 0 a = some (out (uD p (uE p) (sr p) ⟨d.1, ⟨e, f, g, h, j, m, o == 1⟩, c, q, r, s, t⟩ a)) := by
  have := yl (Pc hb hp) (HH hb hp) hp (n := c) (by omega) (fun k l i a => fP c p d e f g h j m o q r s t k l i a)
    (fun l a => fR d p e f g h j m o c q r s t l aI [] 0 a) (some (zT, false)) (fun k l i a => by
      show fP c p d e f g h j m o q r s t (k + 1) l i a = _
      rw [fP]) c.toNat aI 0 a [] (by omega) (cw (by omega)) (by omega) (by simp) (by omega) v
  refine this.trans ?_
  unfold uD
  cases u : (uE p).many c.toNat a with
  | none => rfl
  | some z =>
  have x := (mU (Hn hb hp) _ _ _ _ v u).1
  exact MZ hb hp d w e f g h j m o c q r s t ([] ++ z.1) x
theorem Jw (a : aj × Bool) (C : bV a.1) {vs : List Int} {b : Int} (V : vs.length = 12) (hb' : I64 b) :
    ((idx vs 0).bind fun g => (idx vs 1).bind fun j => (idx vs 2).bind fun k => (idx vs 3).bind fun l => (idx vs 4).bind fun m => (idx vs 5).bind fun o => (idx vs 6).bind fun q => (idx vs 7).bind fun r => (idx vs 8).bind fun s => (idx vs 9).bind fun t => (idx vs 10).bind fun u => (idx vs 11).bind fun v => (kc (aR.mk a.1 (bw.mk g j k l m o (q == 1)) r s t u v)).bind fun w => if (!w) then some (zT, false) else fP r p a g j k l m o q s t u v aI [] 0 b) =
      some (out (ug (cfL a.1 vs) (uD p (uE p) (sr p) (cfL a.1 vs)) b)) := by
  have d : ∀ i : Nat, i < 12 → idx vs (i : Int) = some (vs.getD i 0) := fun i X => by
    have h : i < vs.length := by omega
    rw [aY h]
    simp [h]
  have D : idx vs 0 = some (vs.getD 0 0) := d 0 (by omega)
  have h1 : idx vs 1 = some (vs.getD 1 0) := d 1 (by omega)
  have E : idx vs 2 = some (vs.getD 2 0) := d 2 (by omega)
  have F : idx vs 3 = some (vs.getD 3 0) := d 3 (by omega)
  have G : idx vs 4 = some (vs.getD 4 0) := d 4 (by omega)
  have H : idx vs 5 = some (vs.getD 5 0) := d 5 (by omega)
  have L : idx vs 6 = some (vs.getD 6 0) := d 6 (by omega)
  have M : idx vs 7 = some (vs.getD 7 0) := d 7 (by omega)
  have P : idx vs 8 = some (vs.getD 8 0) := d 8 (by omega)
  have Q : idx vs 9 = some (vs.getD 9 0) := d 9 (by omega)
  have x : idx vs 10 = some (vs.getD 10 0) := d 10 (by omega)
  have A : idx vs 11 = some (vs.getD 11 0) := d 11 (by omega)
  rw [D, h1, E, F, G, H, L, M, P, Q, x, A]
  simp only [bS]
  show (kc (cfL a.1 vs)).bind _ = _
  unfold ug
  rcases (CE (c := cfL a.1 vs) C).cases with ⟨e, f⟩ | ⟨e, f⟩
  · rw [e, if_pos f]
    simp only [cS]
    have R : a.1.f_.length ≤ 1000000 := by have : (a.1.f_.length : Int) ≤ 3 := f.1.2.1.2; omega
    have T : vs.getD 7 0 ≤ 1000000 := by have : vs.getD 7 0 ≤ 4 := f.2.2.1.2; omega
    exact Nr hb hp a R _ _ _ _ _ _ _ _ _ _ _ _ T hb'
  · rw [e, if_neg f]
    rfl
end
end Go.Vk
