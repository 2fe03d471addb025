/- Trees, read by both. -/
import Derived.Test.YtckmlpmehdpmiaaGreatDoorR2H
import Derived.Test.YtckmlpmehdpmiaaGreatDoorPTr
import Derived.Test.YtckmlpmehdpmiaaGreatDoorPSpl
import Derived.Test.YtckmlpmehdpmiaaGreatDoorVkBr
import Derived.Test.YtckmlpmehdpmiaaGreatDoorVkCu
namespace Go.Vk
theorem NH {α : Type} (x : α) (l : List α) : idx (x :: l) 0 = some x := by simp [idx]
theorem Nj {α : Type} (x y : α) (l : List α) : idx (x :: y :: l) 1 = some y := by simp [idx]
theorem Sa {α : Type} (x y z : α) (l : List α) : idx (x :: y :: z :: l) 2 = some z := by simp [idx]
def zN : az := az.mk false (bD.mk 0 0) ([] : List Int) 0 (bl.mk ([] : List Int) ([] : List (List Int))) 0 ([] : List Int) 0 0 0
section
variable {p : List Int} (hb : dl p) (hp : p.length ≤ 1048576)
include hb hp
theorem Oi {a : Int} (f : I64 a) : dB p a 3 = some (((gI p a).bind fun c => (gI p c.2).bind fun d => (gI p d.2).bind fun e => some ([c.1, d.1, e.1], e.2, true)).getD ([], 0, false)) := by
  rw [show dB p a 3 = _ from yn hb hp 3 a (by omega) f]
  simp only [Pz.many, Option.bind_some]
  cases gI p a with
  | none => rfl
  | some c =>
    simp only [bS]
    cases gI p c.2 with
    | none => rfl
    | some d =>
      simp only [bS]
      cases gI p d.2 with
      | none => rfl
      | some e => rfl
theorem Rr {a : Int} (e : I64 a) : dB p a 2 = some (((gI p a).bind fun c => (gI p c.2).bind fun d => some ([c.1, d.1], d.2, true)).getD ([], 0, false)) := by
  rw [show dB p a 2 = _ from yn hb hp 2 a (by omega) e]
  simp only [Pz.many, Option.bind_some]
  cases gI p a with
  | none => rfl
  | some c =>
    simp only [bS]
    cases gI p c.2 with
    | none => rfl
    | some d => rfl
theorem NE : Dt (mf p) (qO p) zN := fun a e => by
  have gg := gh hb hp
  have gl := lr hb hp
  have gL := vm hb hp
  have sI := Eh hb hp
  have sl := Cv hb hp
  have sL := Ew hb hp
  unfold mf qO Pz.bind tN Pz.map
  rw [Oi hb hp e]
  simp only [bS]
  cases r : gI p a with
  | none => rfl
  | some c =>
  have s := gg.i64 hp e r
  simp only [bS]
  by_cases f : c.1 ≠ 0 ∧ c.1 ≠ 1
  · rw [if_pos f]
    cases h1 : gI p c.2 with
    | none => rfl
    | some d =>
      simp only [bS]
      cases g : gI p d.2 with
      | none => rfl
      | some h =>
        simp only [Option.getD_some, NH, Option.bind_some, Bool.not_true, Bool.false_eq_true, if_false, ba]
        rw [pU (by omega)]
        rfl
  · rw [if_neg f]
    simp only [bS]
    cases h1 : gI p c.2 with
    | none => rfl
    | some d =>
    have t := gg.i64 hp s h1
    simp only [bS]
    cases g : gI p d.2 with
    | none => rfl
    | some h =>
    have i := gg.i64 hp t g
    simp only [Option.getD_some, NH, Nj, Sa, Option.bind_some, Bool.not_true, Bool.false_eq_true, if_false, ba]
    rw [oI (by omega)]
    simp only [Bool.not_true, Bool.false_eq_true, if_false]
    rw [sl _ i]
    cases u : ca p (gI p) h.2 with
    | none => rfl
    | some v =>
    have j := gl.i64 hp i u
    simp only [cS]
    rw [sI _ j]
    cases w : gI p v.2 with
    | none => rfl
    | some x =>
    have k := gg.i64 hp j w
    simp only [cS]
    rw [sl _ k]
    cases A : ca p (gI p) x.2 with
    | none => rfl
    | some C =>
    have l := gl.i64 hp k A
    simp only [cS]
    rw [sL _ l]
    cases D : ca p (ca p (gI p)) C.2 with
    | none => rfl
    | some E =>
    have m := gL.i64 hp l D
    simp only [Option.bind_some, Option.map_some, Bool.not_true, Bool.false_eq_true, if_false]
    rw [sI _ m]
    cases F : gI p E.2 with
    | none => rfl
    | some G =>
    have o := gg.i64 hp m F
    simp only [cS]
    rw [sl _ o]
    cases H : ca p (gI p) G.2 with
    | none => rfl
    | some L =>
    have M := gl.i64 hp o H
    simp only [cS]
    rw [Oi hb hp M]
    cases V : gI p L.2 with
    | none => rfl
    | some P =>
    simp only [bS]
    cases Q : gI p P.2 with
    | none => rfl
    | some q =>
    simp only [bS]
    cases R : gI p q.2 with
    | none => rfl
    | some T =>
    simp only [Option.getD_some, NH, Nj, Sa, Option.bind_some, Bool.not_true, Bool.false_eq_true, if_false]
end
noncomputable def sU (p : List Int) : Pz ax := fun a => (gI p a).bind fun y => Pz.map (fun ns => ax.mk ns y.1) (ca p (qO p)) y.2
section
variable {p : List Int} (hb : dl p) (hp : p.length ≤ 1048576)
include hb hp
theorem Jq : sy (fq p) (sU p) := by
  have big : ∀ c : Int × ak, sy (fun st => (bZ p st).bind fun d => dm p c aI d.2.c_ d.2.C_ [] d.1) (Pz.map (fun ns => ax.mk ns c.1) (ca p (qO p))) := fun c =>
    Fs hb hp (NK hb hp) (uo hb hp) (fun ns => ax.mk ns c.1) (dm p c) (fun _ => rfl) (fun k a q l n => Ks p c k a q l n)
  refine ⟨fun a => ?_, fun a f => ?_⟩
  · unfold fq
    rw [DM]
    exact (big (0, ⟨a, true⟩)).1 a
  · unfold fq sU
    have g := (zW hb hp).2 a f
    cases h : gI p a with
    | none =>
      obtain ⟨v, a', e⟩ := g.2 h
      rw [e]
      exact ⟨fun v b e => (by cases e), fun _ => (big (v, ⟨a', true⟩)).1 a'⟩
    | some y =>
      obtain ⟨n, b⟩ := y
      rw [g.1 n b h]
      exact (big (n, ⟨b, false⟩)).2 b ((gh hb hp).i64 hp f h)
theorem Jt : Dt (nu p) (sU p) ⟨[], 0⟩ := fun a f => by
  have gg := gh hb hp
  unfold nu sU
  rw [Rr hb hp f]
  simp only [bS]
  cases o : gI p a with
  | none => rfl
  | some d =>
  have g := gg.i64 hp f o
  simp only [bS]
  cases h1 : gI p d.2 with
  | none => rw [Pz.map_none (by unfold ca; rw [h1]; rfl)]; rfl
  | some c =>
  have q := gg.i64 hp g h1
  simp only [Option.getD_some, NH, Nj, Option.bind_some, Bool.not_true, Bool.false_eq_true, if_false]
  by_cases e : c.1 < 0
  · rw [Pz.map_none (by unfold ca; rw [h1]; simp [e])]
    rw [decide_eq_true e]
    rfl
  · rw [decide_eq_false e]
    simp only [Bool.false_eq_true, if_false]
    have h : ca p (qO p) d.2 = (qO p).many c.1.toNat c.2 := by unfold ca; rw [h1]; simp [e]
    have j := Ey hb hp g (v := c.1) (b := c.2) h1
    refine (xD (NE hb hp) (uo hb hp) hp (n := c.1) j.2 (fun k l i a => lL ([d.1, c.1], c.2, true) p d.1 k l i a) (fun l a => some (⟨l, d.1⟩, a, true)) (some (⟨[], 0⟩, 0, false)) (fun k l i a => ?_) c.1.toNat aI 0 c.2 [] (by simp) (cw (by have := j.2; omega)) (by omega) (by simp) (by omega) q).trans ?_
    · show (idx [d.1, c.1] 1).bind _ = _
      rw [Nj]
      rfl
    · cases m : (qO p).many c.1.toNat c.2 with
      | none => rw [Pz.map_none (by rw [h, m])]
      | some z => rw [Pz.map_some (v := z.1) (b := z.2) (by rw [h, m])]; rfl
end
end Go.Vk
/- What is put is read again. -/
namespace Go.Vk
theorem xa {m i : Nat} (a : m < 128) (c : i < 5) : HB .i64 (m : Int) (IntKind.i64.wrap (7 * (i : Int))) = ((m * 128 ^ i : Nat) : Int) := by
  have hi' : i = 0 ∨ i = 1 ∨ i = 2 ∨ i = 3 ∨ i = 4 := by omega
  rw [bi (by omega) (by omega)]
  rcases hi' with rfl | rfl | rfl | rfl | rfl
  · show IntKind.i64.wrap ((m : Int) * 1) = ((m * 1 : Nat) : Int); rw [bi (by omega) (by omega)]; omega
  · show IntKind.i64.wrap ((m : Int) * 128) = ((m * 128 : Nat) : Int); rw [bi (by omega) (by omega)]; omega
  · show IntKind.i64.wrap ((m : Int) * 16384) = ((m * 16384 : Nat) : Int); rw [bi (by omega) (by omega)]; omega
  · show IntKind.i64.wrap ((m : Int) * 2097152) = ((m * 2097152 : Nat) : Int); rw [bi (by omega) (by omega)]; omega
  · show IntKind.i64.wrap ((m : Int) * 268435456) = ((m * 268435456 : Nat) : Int); rw [bi (by omega) (by omega)]; omega
theorem HR {a m i : Nat} (d : a < 128 ^ i) (f : m < 128) (g : i < 5) : eK .or .i64 (a : Int) ((m * 128 ^ i : Nat) : Int) = ((a + m * 128 ^ i : Nat) : Int) := by
  have c : (128 : Nat) ^ i = 2 ^ (7 * i) := by rw [Nat.pow_mul]
  have e : 128 ^ i ≤ 128 ^ 4 := Nat.pow_le_pow_right (by omega) (by omega)
  have h : m * 128 ^ i ≤ 127 * 128 ^ 4 := Nat.mul_le_mul (by omega) e
  rw [Lu a (m * 128 ^ i) (by omega) (by omega)]
  congr 1
  rw [Nat.or_comm, c, Nat.mul_comm, ← Nat.two_pow_add_eq_or_of_lt (by rw [← c]; exact d), Nat.add_comm]
theorem BH {p : List Int} {a : Nat} (u : p.length ≤ 1048576) {n : Nat} (v : n ≤ 2147483647) : ∀ (d k i : Nat), d + i = 5 → d < k → i ≤ 5 → (0 < i → 1 ≤ n / 128 ^ i) → (∃ post, p.drop (a + i) = pV (n / 128 ^ i) ++ post) →
    dW (a : Int) p k ((n % 128 ^ i : Nat) : Int) (i : Int) = some ((n : Int), ((a + i + (pV (n / 128 ^ i)).length : Nat) : Int), true) := by
  intro d
  induction d with
  | zero =>
    intro k i s hk t h1 f
    obtain rfl : i = 5 := by omega
    have := h1 (by omega)
    omega
  | succ d ih =>
    intro k i s hk t h1 ⟨post, f⟩
    obtain ⟨k, rfl⟩ := kS k (by omega)
    have o : 0 < (p.drop (a + i)).length := by
      rw [f]
      by_cases c : n / 128 ^ i < 128
      · rw [xC c]; simp
      · rw [Ba c]; simp
    rw [List.length_drop] at o
    show (if _ then _ else _) = _
    rw [if_pos (by simp; omega), bi (n := (p.length : Int) - (i : Int)) (by omega) (by omega), if_neg (by simp; omega), bi (n := (a : Int) + (i : Int)) (by omega) (by omega)]
    rw [show (a : Int) + (i : Int) = ((a + i : Nat) : Int) by omega, aX (show a + i < p.length by omega)]
    simp only [bS]
    have g : ∀ (x : Int) (q : List Int), p.drop (a + i) = x :: q → p[a + i]'(by omega) = x := fun x q e => by
      have := congrArg (fun l => l[0]?) e
      simp only [List.getElem?_drop, Nat.add_zero, List.getElem?_cons_zero] at this
      rw [List.getElem?_eq_getElem (by omega)] at this
      exact Option.some.inj this
    have r : n % 128 ^ i + n / 128 ^ i % 128 * 128 ^ i = n % 128 ^ (i + 1) := by
      rw [Nat.pow_succ, Nat.mod_mul, Nat.mul_comm]
    have hsmall : n / 128 ^ i % 128 < 128 := Nat.mod_lt _ (by omega)
    have h : n % 128 ^ i < 128 ^ i := Nat.mod_lt _ (Nat.pow_pos (by omega))
    by_cases c : n / 128 ^ i < 128
    · rw [xC c] at f ⊢
      rw [g _ _ f, gq (by omega), show (128 : Int) = ((128 : Nat) : Int) from rfl, mY, Nat.mod_eq_of_lt c]
      rw [yq _ (by rw [bi (by omega) (by omega)]; omega), xa c (by omega)]
      simp only [bS]
      rw [HR h c (by omega)]
      have m : n % 128 ^ i + n / 128 ^ i * 128 ^ i = n := by rw [Nat.mul_comm]; exact Nat.mod_add_div ..
      rw [m, if_pos (decide_eq_true (by omega)), if_neg ?_]
      · rw [aG (by omega)]; rfl
      · simp only [Bool.or_eq_true, Bool.and_eq_true, decide_eq_true_eq, beq_iff_eq]
        rintro (⟨h2, w⟩ | h2)
        · have := h1 (by omega); omega
        · omega
    · rw [Ba c] at f ⊢
      have j : n / 128 ^ i / 128 = n / 128 ^ (i + 1) := by rw [Nat.div_div_eq_div_mul, Nat.pow_succ]
      rw [g _ _ f, gq (by omega), show (128 : Int) = ((128 : Nat) : Int) from rfl, mY, Nat.add_mod_right, Nat.mod_mod]
      rw [yq _ (by rw [bi (by omega) (by omega)]; omega), xa hsmall (by omega)]
      simp only [bS]
      rw [HR h hsmall (by omega), r, if_neg (by simp; omega), aG (by omega)]
      rw [ih k (i + 1) (by omega) (by omega) (by omega) (fun _ => by rw [← j]; omega) ⟨post, by
        rw [← j]
        have := congrArg (List.drop 1) f
        rw [List.drop_drop] at this
        simpa [Nat.add_assoc] using this⟩, ← j]
      simp only [List.length_cons]
      congr 3
      omega
theorem Ie {pre post : List Int} {x : Int} (c : InR x) (h : (pre ++ dh x ++ post).length ≤ 1048576) : da (pre ++ dh x ++ post) (pre.length : Int) = some (x, ((pre.length + (dh x).length : Nat) : Int), true) := by
  have j := Mf c
  unfold da lf
  have g : dh x = pV (zig x) := by unfold dh; rw [if_pos c]
  have := BH (p := pre ++ dh x ++ post) (a := pre.length) h (n := zig x) (by omega) 5 aI 0 (by omega) (cw (by omega)) (by omega) (by omega) ⟨post, by rw [g]; simp⟩
  simp only [Nat.pow_zero, Nat.mod_one, Nat.div_one] at this
  have i : dW (pre.length : Int) (pre ++ dh x ++ post) aI 0 0 = some ((zig x : Int), ((pre.length + 0 + (pV (zig x)).length : Nat) : Int), true) := this
  rw [i, g]
  simp only [cS]
  rw [show (2 : Int) = ((2 : Nat) : Int) from rfl, mY, rU, gq (n := zig x / 2) (by omega)]
  unfold jG ba
  by_cases d : x < 0
  · have e : ((zig x % 2 : Nat) : Int) = 1 := by unfold zig; rw [if_pos d]; omega
    have f : ((zig x / 2 : Nat) : Int) = -x - 1 := by unfold zig; rw [if_pos d]; omega
    rw [e, f, if_pos (by simp)]
    have k := c.1
    rw [bi (n := 0 - (-x - 1)) (by omega) (by omega), bi (by omega) (by omega), show 0 - (-x - 1) - 1 = x by omega, oI c]
    rfl
  · have e : ((zig x % 2 : Nat) : Int) = 0 := by unfold zig; rw [if_neg d]; omega
    have f : ((zig x / 2 : Nat) : Int) = x := by unfold zig; rw [if_neg d]; omega
    rw [e, f, if_neg (by simp), oI c]
    rfl
end Go.Vk
/- Trees and windows are read as they were put. -/
namespace Go.Vk
theorem dl.append {a b : List Int} (c : dl a) (d : dl b) : dl (a ++ b) := fun x e => by
  rcases List.mem_append.1 e with h | h
  · exact c x h
  · exact d x h
theorem dl.flat {α : Type} {xs : List α} {f : α → List Int} (h : ∀ x ∈ xs, dl (f x)) : dl (xs.flatMap f) := fun y a => by
  obtain ⟨x, c, d⟩ := List.mem_flatMap.1 a
  exact h x c y d
def pT {α : Type} (l : List Int) (P : Pz α) (B : List Int) (x : α) : Prop := ∀ pre post, l = pre ++ B ++ post → P (pre.length : Int) = some (x, ((pre.length + B.length : Nat) : Int))
section
variable {l : List Int}
theorem ye {α : Type} (x : α) : pT l (fun a => some (x, a)) [] x := fun _ _ _ => rfl
theorem ef {α β : Type} {P : Pz α} {Q : α → Pz β} {B C : List Int} {x : α} {y : β} (h : pT l P B x) (k : pT l (Q x) C y) : pT l (Pz.bind P Q) (B ++ C) y := fun pre post e => by
  unfold Pz.bind
  rw [h pre (C ++ post) (by rw [e]; simp)]
  simp only [bS]
  have := k (pre ++ B) post (by rw [e]; simp)
  rw [List.length_append] at this
  rw [this, List.length_append, Nat.add_assoc]
theorem EH {α β : Type} {P : Pz α} {B : List Int} {x : α} (f : α → β) (h : pT l P B x) : pT l (Pz.map f P) B (f x) := fun pre post e => by
  unfold Pz.map
  rw [h pre post e]
  rfl
theorem vB {α : Type} {P : Pz α} {B : α → List Int} : ∀ (xs : List α), (∀ x ∈ xs, pT l P (B x) x) → pT l (P.many xs.length) (xs.flatMap B) xs := by
  intro xs
  induction xs with
  | nil => intro _ pre post _; simp [Pz.many]
  | cons x xs ih =>
    intro h pre post e
    rw [List.flatMap_cons] at e ⊢
    show (P (pre.length : Int)).bind _ = _
    rw [h x (List.mem_cons_self ..) pre (xs.flatMap B ++ post) (by rw [e]; simp)]
    simp only [bS]
    have := ih (fun y a => h y (List.mem_cons_of_mem _ a)) (pre ++ B x) post (by rw [e]; simp)
    rw [List.length_append] at this
    rw [this]
    simp only [Option.bind_some, List.length_append, Nat.add_assoc]
variable (hp : l.length ≤ 1048576)
include hp
theorem kv {x : Int} (a : InR x) : pT l (gI l) (dh x) x := fun pre post e => by
  subst e
  unfold gI
  rw [Ie a hp]
theorem uT {α : Type} {P : Pz α} {B : α → List Int} {xs : List α} (a : xs.length ≤ 1000000) (h : ∀ x ∈ xs, pT l P (B x) x) : pT l (ca l P) (dh xs.length ++ xs.flatMap B) xs := fun pre post e => by
  have hk : pT l (P.many ((xs.length : Int)).toNat) (xs.flatMap B) xs := by rw [Int.toNat_natCast]; exact vB xs h
  have := ef (P := gI l) (Q := fun v => if v < 0 then (fun _ => none) else P.many v.toNat) (kv hp (vW (by omega))) (by rw [if_neg (by omega)]; exact hk) pre post e
  rw [← this]
  unfold ca Pz.bind
  cases gI l pre.length with
  | none => rfl
  | some y =>
    simp only [bS]
    split <;> rfl
theorem tL {xs : List Int} (a : xs.length ≤ 1000000) (h : ot xs) : pT l (ca l (gI l)) (iI xs) xs := uT hp a fun x c => kv hp (h x c)
theorem Bu (b : Bool) : pT l (tN l) (dh (rT b)) b := fun pre post e => by
  unfold tN
  rw [kv hp (yu b) pre post e]
  cases b <;> rfl
theorem Ll {x : az} (h : tK x) (c : szM x ≤ 1000000) : pT l (qO l) (qx x) x := by
  have j := @ro x.k_.l_
  have hz' := c
  unfold szM at hz'
  obtain ⟨h1, d, f, g, i⟩ := h
  have m : ∀ y, y ∈ [x.i_.t_, x.i_.u_, x.I_, x.J_, x.h_, x.A_, x.G_] → InR y := h1
  have key : pT l (qO l) (dh (rT x.B_) ++ (dh x.i_.t_ ++ (dh x.i_.u_ ++ (iI x.v_ ++ (dh x.I_ ++ (iI x.k_.q_ ++ ((dh x.k_.l_.length ++ x.k_.l_.flatMap iI) ++ (dh x.J_ ++ (iI x.d_ ++ (dh x.h_ ++ (dh x.A_ ++ (dh x.G_ ++ ([]))))))))))))) x := by
    unfold qO
    refine ef (Bu hp x.B_) ?_
    refine ef (kv hp (m x.i_.t_ (by simp))) ?_
    refine ef (kv hp (m x.i_.u_ (by simp))) ?_
    refine ef (tL hp (by omega) d) ?_
    refine ef (kv hp (m x.I_ (by simp))) ?_
    refine ef (tL hp (by omega) g) ?_
    refine ef (EH aJ.mk (uT hp (by omega) fun y a => tL hp (by have := tD a; omega) (i y a))) ?_
    refine ef (kv hp (m x.J_ (by simp))) ?_
    refine ef (tL hp (by omega) f) ?_
    refine ef (kv hp (m x.h_ (by simp))) ?_
    refine ef (kv hp (m x.A_ (by simp))) ?_
    refine ef (kv hp (m x.G_ (by simp))) ?_
    exact ye x
  intro pre post e
  have eb : qx x = dh (rT x.B_) ++ (dh x.i_.t_ ++ (dh x.i_.u_ ++ (iI x.v_ ++ (dh x.I_ ++ (iI x.k_.q_ ++ ((dh x.k_.l_.length ++ x.k_.l_.flatMap iI) ++ (dh x.J_ ++ (iI x.d_ ++ (dh x.h_ ++ (dh x.A_ ++ (dh x.G_ ++ ([])))))))))))) := by unfold qx; simp only [List.append_assoc, List.append_nil]
  rw [eb] at e ⊢
  exact key pre post e
theorem yf {x : ax} (c : InR x.y_) (h : ∀ y ∈ x.e_, tK y) (d : szU x ≤ 1000000) : pT l (sU l) (rc x) x := by
  have f : x.e_.length ≤ 1000000 := by unfold szU at d; omega
  have key : pT l (sU l) (dh x.y_ ++ (dh x.e_.length ++ x.e_.flatMap qx)) x :=
    ef (Q := fun v => Pz.map (fun ns => ax.mk ns v) (ca l (qO l))) (kv hp c) (EH (fun ns => ax.mk ns x.y_) (uT hp f fun y a => Ll hp (h y a) (by have := EY a; omega)))
  intro pre post e
  unfold rc at e ⊢
  rw [List.append_assoc] at e ⊢
  rw [List.append_assoc] at e
  exact key pre post (by rw [e]; simp only [List.append_assoc])
theorem Bc {x : aJ} (h : ∀ r ∈ x.p_, ot r) (c : uv x.p_ ≤ 1000000) : pT l (Pz.map aJ.mk (ca l (ca l (gI l)))) (yg x) x := by
  have d := @ro x.p_
  exact EH aJ.mk (uT hp (by omega) fun y a => tL hp (by have := tD a; omega) (h y a))
end
end Go.Vk
/- Readers: a fixed number of things, read on whether or not something was bad. -/
namespace Go.Vk
section
theorem KV {α ρ : Type} {op : ak → Option (α × ak)} {P : Pz α} (g : sy op P) (s : ∀ a v b, I64 a → P a = some (v, b) → I64 b) (N : Int)
    (Lp : Nat → Int → Bool → List α → Int → Option ρ) (fin : List α → ak → Option ρ)
    (step : ∀ k a q l i, Lp (k + 1) a q l i = if decide (i < N) then (op ⟨a, q⟩).bind fun y => (app l [y.1]).bind fun l' => Lp k y.2.c_ y.2.C_ l' (IntKind.i64.wrap (i + 1)) else fin l ⟨a, q⟩) :
    ∀ (d k : Nat) (i a : Int) (l : List α), (N - i).toNat = d → d < k → 0 ≤ i → N ≤ 1000000 → (l.length : Int) = i →
      (∃ l' a', Lp k a true l i = fin l' ⟨a', true⟩) ∧ (I64 a → (∀ vs c, P.many d a = some (vs, c) → Lp k a false l i = fin (l ++ vs) ⟨c, false⟩) ∧ (P.many d a = none → ∃ l' a', Lp k a false l i = fin l' ⟨a', true⟩)) := by
  intro d
  induction d with
  | zero =>
    intro k i a l t hk u j w
    obtain ⟨k, rfl⟩ := kS k (by omega)
    rw [step, if_neg (by rw [decide_eq_true_iff]; omega), step, if_neg (by rw [decide_eq_true_iff]; omega)]
    refine ⟨⟨_, _, rfl⟩, fun _ => ⟨fun vs c e => ?_, fun e => by simp [Pz.many] at e⟩⟩
    obtain ⟨rfl, rfl⟩ := Prod.mk.inj (Option.some.inj e)
    simp
  | succ d ih =>
    intro k i a l t hk u j w
    obtain ⟨k, rfl⟩ := kS k (by omega)
    have p : ∀ v : α, ((l ++ [v]).length : Int) = i + 1 := fun v => by simp; omega
    have m : ∀ v : α, app l [v] = some (l ++ [v]) := fun v => cJ (by simp; omega)
    have r : ∀ (v : α) (a : Int), ∃ l' a', Lp k a true (l ++ [v]) (i + 1) = fin l' ⟨a', true⟩ := fun v a => (ih k (i + 1) a (l ++ [v]) (by omega) (by omega) (by omega) j (p v)).1
    refine ⟨?_, fun o => ?_⟩
    · obtain ⟨v, a', e⟩ := g.1 a
      rw [step, if_pos (by rw [decide_eq_true_iff]; omega), e]
      simp only [bS]
      rw [m]
      simp only [bS]
      rw [bi (by omega) (by omega)]
      exact r v a'
    · rw [step, if_pos (by rw [decide_eq_true_iff]; omega)]
      unfold Pz.many
      cases h : P a with
      | none =>
        refine ⟨fun vs c e => by simp at e, fun _ => ?_⟩
        obtain ⟨v, a', e⟩ := (g.2 a o).2 h
        rw [e]
        simp only [bS]
        rw [m]
        simp only [bS]
        rw [bi (by omega) (by omega)]
        exact r v a'
      | some y =>
        obtain ⟨v, b⟩ := y
        rw [(g.2 a o).1 v b h]
        simp only [bS]
        rw [m]
        simp only [bS]
        rw [bi (by omega) (by omega)]
        obtain ⟨x, A⟩ := (ih k (i + 1) b (l ++ [v]) (by omega) (by omega) (by omega) j (p v)).2 (s a v b o h)
        refine ⟨fun vs c e => ?_, fun e => ?_⟩
        · cases f : P.many d b with
          | none => rw [f] at e; simp at e
          | some q =>
            rw [f] at e
            obtain ⟨rfl, rfl⟩ := Prod.mk.inj (Option.some.inj e)
            rw [x q.1 q.2 f]
            simp
        · cases f : P.many d b with
          | none => exact A f
          | some q => rw [f] at e; simp at e
end
def Sat {α : Type} (P : Pz α) (Q : α → Prop) : Prop := ∀ a v b, I64 a → P a = some (v, b) → I64 b ∧ Q v
theorem er {α β : Type} {P : Pz α} {R : α → Pz β} {Q : α → Prop} {S : β → Prop} (h : Sat P Q) (k : ∀ v, Q v → Sat (R v) S) : Sat (Pz.bind P R) S := fun a v b c e => by
  unfold Pz.bind at e
  obtain ⟨y, d, f⟩ := ce e
  obtain ⟨i, q⟩ := h a y.1 y.2 c d
  exact k y.1 q y.2 v b i f
theorem ve {α : Type} {x : α} {Q : α → Prop} (h : Q x) : Sat (fun a => some (x, a)) Q := fun a v b c e => by
  obtain ⟨rfl, rfl⟩ := Prod.mk.inj (Option.some.inj e)
  exact ⟨c, h⟩
theorem Jf {α β : Type} {P : Pz α} {f : α → β} {Q : α → Prop} {S : β → Prop} (h : Sat P Q) (k : ∀ v, Q v → S (f v)) : Sat (Pz.map f P) S := fun a v b c e => by
  obtain ⟨y, d, g⟩ := Option.map_eq_some_iff.1 e
  obtain ⟨rfl, rfl⟩ := Prod.mk.inj g
  obtain ⟨i, q⟩ := h a y.1 y.2 c d
  exact ⟨i, k _ q⟩
theorem mI {α : Type} {P : Pz α} {Q : α → Prop} (h : Sat P Q) : ∀ n, Sat (P.many n) (fun vs => vs.length = n ∧ ∀ x ∈ vs, Q x)
  | 0 => ve ⟨rfl, by simp⟩
  | n + 1 => fun a v b c e => by
    unfold Pz.many at e
    obtain ⟨y, d, e⟩ := ce e
    obtain ⟨z, f, e⟩ := ce e
    obtain ⟨i, q⟩ := h a y.1 y.2 c d
    obtain ⟨j, g, k⟩ := mI h n y.2 z.1 z.2 i f
    obtain ⟨rfl, rfl⟩ := Prod.mk.inj (Option.some.inj e)
    refine ⟨j, by simp [g], fun x hx => ?_⟩
    rcases List.mem_cons.1 hx with rfl | hx
    · exact q
    · exact k x hx
section
variable {p : List Int} (hb : dl p) (hp : p.length ≤ 1048576)
include hb hp
theorem pw : Sat (gI p) InR := fun a v b c e => ⟨(gh hb hp).i64 hp c e, Ey hb hp c e⟩
theorem xU {α : Type} {P : Pz α} {sz : α → Nat} {Q : α → Prop} (f : rW p P sz) (h : Sat P Q) : Sat (ca p P) (fun vs => vs.length ≤ 1048576 ∧ ∀ x ∈ vs, Q x) := fun a v b c e => by
  have g := tB hb hp f
  obtain ⟨h1, j, l, m⟩ := g a v b c e
  refine ⟨g.i64 hp c e, ?_⟩
  unfold ca at e
  obtain ⟨y, i, e⟩ := ce e
  have k := (pw hb hp) a y.1 y.2 c i
  split at e
  · cases e
  · have d := gh hb hp a y.1 y.2 c i
    simp only at d
    obtain ⟨o, q, r, s⟩ := vK f hp _ _ v b (by omega) d.2.2.1 e
    refine ⟨?_, (mI h _ y.2 v b k.1 e).2.2⟩
    simp only at j
    omega
theorem vh : Sat (ca p (gI p)) (fun vs => vs.length ≤ 1048576 ∧ ∀ x ∈ vs, InR x) := xU hb hp (gh hb hp) (pw hb hp)
theorem Kh : Sat (ca p (ca p (gI p))) (fun vs => vs.length ≤ 1048576 ∧ ∀ x ∈ vs, x.length ≤ 1048576 ∧ ∀ y ∈ x, InR y) := xU hb hp (lr hb hp) (vh hb hp)
end
end Go.Vk
/- Texts taken apart; numbers read. -/
namespace Go.Vk
open Go.Proofs
theorem DS {α : Type} {s : List α} {f i : Nat} (c : f ≤ i) (d : i < s.length) : (s.drop f).take (i + 1 - f) = (s.drop f).take (i - f) ++ [s[i]] := by
  have h1 : i + 1 - f = (i - f) + 1 := by omega
  have a : i - f < (s.drop f).length := by rw [List.length_drop]; omega
  rw [h1, List.take_succ_eq_append_getElem a, List.getElem_drop]
  congr 3
  omega
theorem Mj {α : Type} {s : List α} {f i : Nat} (a : f ≤ i) : s.drop f = (s.drop f).take (i - f) ++ s.drop i := by
  have h := List.take_append_drop (i - f) (s.drop f)
  rw [List.drop_drop] at h
  have e : f + (i - f) = i := by omega
  rw [e] at h
  exact h.symm
theorem tq {α : Type} {xs : List α} {f i : Nat} (h : f ≤ i) (h' : i ≤ xs.length) : sub xs (f : Int) (i : Int) = some ((xs.drop f).take (i - f)) := by
  unfold sub
  rw [if_pos ⟨by omega, by omega, by omega⟩]
  simp
theorem IE {x c : UInt8} : ((x.toNat : Int) == (c.toNat : Int)) = decide (x = c) := by
  rw [Bool.eq_iff_iff, beq_iff_eq, decide_eq_true_iff]
  constructor
  · intro h; exact UInt8.toNat_inj.1 (by omega)
  · rintro rfl; rfl
theorem EG {s : List UInt8} {c : UInt8} (t : s.length ≤ 1048576) : ∀ (d k i f : Nat) (out : List (List UInt8)), s.length - i = d → d < k → f ≤ i → i ≤ s.length → out.length ≤ i → c ∉ (s.drop f).take (i - f) →
    jh s (c.toNat : Int) k out (f : Int) (i : Int) = some (out ++ eZ c (s.drop f)) := by
  intro d
  induction d with
  | zero =>
    intro k i f out p hk j m q a
    obtain ⟨k, rfl⟩ := kS k (by omega)
    have e : i = s.length := by omega
    have o : (s.drop f).take (i - f) = s.drop f := by rw [List.take_of_length_le]; rw [List.length_drop]; omega
    rw [jh, if_neg (by rw [decide_eq_true_iff]; omega), tq (by omega) (Nat.le_refl _), ← e, o]
    simp only [bS]
    rw [cJ (by simp; omega)]
    rw [o] at a
    rw [oF a]
    rfl
  | succ d ih =>
    intro k i f out p hk j m q a
    obtain ⟨k, rfl⟩ := kS k (by omega)
    have g : i < s.length := by omega
    rw [jh, if_pos (by rw [decide_eq_true_iff]; omega), aX g]
    simp only [bS]
    rw [IE, aG (by omega)]
    by_cases l : s[i] = c
    · rw [if_pos (by simpa using l), tq j m]
      simp only [bS]
      rw [cJ (by simp; omega)]
      simp only [bS]
      rw [ih k (i + 1) (i + 1) _ (by omega) (by omega) (Nat.le_refl _) (by omega) (by simp; omega) (by simp)]
      have e : eZ c (s.drop f) = (s.drop f).take (i - f) :: eZ c (s.drop (i + 1)) := by
        conv => lhs; rw [Mj j, List.drop_eq_getElem_cons g, l]
        exact qf a
      rw [e]
      simp
    · rw [if_neg (by simpa using l)]
      refine ih k (i + 1) f out (by omega) (by omega) (by omega) (by omega) (by omega) ?_
      rw [DS j g]
      intro r
      rcases List.mem_append.1 r with h | h
      · exact a h
      · exact l (List.mem_singleton.1 h).symm
theorem Fj {s : List UInt8} {c : UInt8} (u : s.length ≤ 1048576) : ∀ (d k i f : Nat) (out : List (List UInt8)), s.length - i = d → d + 1 < k → f ≤ i → i ≤ s.length → out.length ≤ i → c ∉ (s.drop f).take (i - f) →
    iq s (c.toNat : Int) k out (f : Int) (i : Int) = some (out ++ eZ c (s.drop f)) := by
  intro d
  induction d with
  | zero =>
    intro k i f out p hk j m r a
    obtain ⟨k, rfl⟩ : ∃ q, k = q + 2 := ⟨k - 2, by omega⟩
    have e : i = s.length := by omega
    have o : (s.drop f).take (i - f) = s.drop f := by rw [List.take_of_length_le]; rw [List.length_drop]; omega
    rw [iq, if_pos (by rw [decide_eq_true_iff]; omega), if_pos (by rw [beq_iff_eq]; omega)]
    simp only [Option.bind_some, if_true]
    rw [tq (by omega) (by omega), o]
    simp only [bS]
    rw [cJ (by simp; omega)]
    simp only [bS]
    rw [aG (by omega), iq, if_neg (by rw [decide_eq_true_iff]; omega)]
    rw [o] at a
    rw [oF a]
  | succ d ih =>
    intro k i f out p hk j m r a
    obtain ⟨k, rfl⟩ := kS k (by omega)
    have g : i < s.length := by omega
    rw [iq, if_pos (by rw [decide_eq_true_iff]; omega), if_neg (by rw [beq_iff_eq]; omega), aX g]
    simp only [bS]
    rw [IE, aG (by omega)]
    by_cases l : s[i] = c
    · rw [if_pos (by simpa using l), tq j m]
      simp only [bS]
      rw [cJ (by simp; omega)]
      simp only [bS]
      rw [ih k (i + 1) (i + 1) _ (by omega) (by omega) (Nat.le_refl _) (by omega) (by simp; omega) (by simp)]
      have e : eZ c (s.drop f) = (s.drop f).take (i - f) :: eZ c (s.drop (i + 1)) := by
        conv => lhs; rw [Mj j, List.drop_eq_getElem_cons g, l]
        exact qf a
      rw [e]
      simp
    · rw [if_neg (by simpa using l)]
      refine ih k (i + 1) f out (by omega) (by omega) (by omega) (by omega) (by omega) ?_
      rw [DS j g]
      intro t
      rcases List.mem_append.1 t with h | h
      · exact a h
      · exact l (List.mem_singleton.1 h).symm
theorem fx {s : List UInt8} (a : s.length ≤ 1048576) (c : UInt8) {p : Int} (d : (c.toNat : Int) = p) : gn s p = some (eZ c s) ∧ oB s p = some (eZ c s) := by
  subst d
  exact ⟨Fj a s.length aI 0 0 [] (by omega) (cw (by omega)) (Nat.le_refl _) (by omega) (by simp) (by simp), EG a s.length aI 0 0 [] (by omega) (cw (by omega)) (Nat.le_refl _) (by omega) (by simp) (by simp)⟩
theorem rB {c : UInt8} : ∀ (s : List UInt8), (eZ c s).length ≤ s.length + 1 ∧ ∀ w ∈ eZ c s, w.length ≤ s.length
  | [] => by simp [eZ]
  | x :: r => by
    obtain ⟨h1, a⟩ := rB (c := c) r
    unfold eZ
    split
    · refine ⟨by simp; omega, fun w hw => ?_⟩
      rcases List.mem_cons.1 hw with rfl | hw
      · simp
      · have := a w hw
        simp only [List.length_cons]; omega
    · split
      · simp
      · rename_i h t e
        rw [e] at h1 a
        refine ⟨by simp only [List.length_cons] at h1 ⊢; omega, fun w hw => ?_⟩
        rcases List.mem_cons.1 hw with rfl | hw
        · have := a h (by simp)
          simp only [List.length_cons]; omega
        · have := a w (by simp [hw])
          simp only [List.length_cons]; omega
theorem He (n : Int) : I64 (IntKind.i64.wrap n) := by
  show I64 (if (true && decide (n % (18446744073709551616 : Int) ≥ (9223372036854775808 : Int))) = true then n % (18446744073709551616 : Int) - (18446744073709551616 : Int) else n % (18446744073709551616 : Int))
  unfold I64
  split
  · rename_i h
    simp only [Bool.true_and, decide_eq_true_iff] at h
    constructor <;> omega
  · rename_i h
    simp only [Bool.true_and, decide_eq_true_iff] at h
    constructor <;> omega
def MV (l : List UInt8) (a : Nat) : Nat := l.foldl (fun a b => 10 * a + (b.toNat - 48)) a
theorem Gb : ∀ (u : Nat), MV (Lib.decDigits u) 0 = u
  | u => by
    by_cases h1 : u < 10
    · rw [Lib.decDigits_one h1]
      show 10 * 0 + ((UInt8.ofNat (48 + u)).toNat - 48) = u
      rw [rG h1]; omega
    · have a : u % 10 < 10 := Nat.mod_lt _ (by omega)
      rw [Lib.decDigits.eq_def u, dif_neg h1]
      unfold MV
      rw [List.foldl_append]
      have := Gb (u / 10)
      unfold MV at this
      rw [this]
      show 10 * (u / 10) + ((UInt8.ofNat (48 + u % 10)).toNat - 48) = u
      rw [rG a]; omega
termination_by u => u
theorem qu : ∀ (d u : Nat), u < 10 ^ (d + 1) → (Lib.decDigits u).length ≤ d + 1
  | 0, u, h => by rw [Lib.decDigits_one (by simpa using h)]; simp
  | d + 1, u, h => by
    by_cases h1 : u < 10
    · rw [Lib.decDigits_one h1]; simp
    · rw [Lib.decDigits.eq_def u, dif_neg h1]
      have := qu d (u / 10) (by rw [Nat.div_lt_iff_lt_mul (by omega), ← Nat.pow_succ]; exact h)
      simp; omega
theorem Bm {s : List UInt8} (f : s.length ≤ 1048576) : Tot (lh s) (fun v => I64 v.1) := by
  have c : I64 0 := ⟨by omega, by omega⟩
  unfold lh
  refine kl (fun _ => cx c) (fun g => ?_)
  refine xK (σ := Int) (fun k a i => eD s k a i) s.length (fun _ a => I64 a) (fun k a d => ?_) (fun k a i e d ih => ?_) (by omega) ((⟨by omega, by omega⟩ : I64 0))
  · show Tot (eD s (k + 1) a _) _
    rw [eD, if_neg (by simp), wY d]
    exact kl (fun _ => cx c) (fun _ => cx d)
  · show Tot (eD s (k + 1) a _) _
    rw [eD, if_pos (by rw [decide_eq_true_iff]; omega), aX e]
    simp only [bS]
    refine Tot.bind (P := fun _ => True) (kl (fun _ => cx trivial) (fun _ => cx trivial)) fun v _ => ?_
    refine kl (fun _ => cx c) (fun _ => ?_)
    rw [aG (by omega)]
    exact ih _ (He _)
theorem Cd {u : Nat} (h : u ≤ 9999) : lh (Lib.decDigits u) = some ((u : Int), true) := by
  have p := qu 3 u (by omega)
  have g := ml u
  have q : 0 < (Lib.decDigits u).length := List.length_pos_iff.2 (pM u)
  unfold lh
  rw [if_neg (by simp; omega)]
  have key : ∀ (d k i : Nat) (a : Nat), (Lib.decDigits u).length - i = d → d < k → i ≤ (Lib.decDigits u).length → a < 10 ^ i → MV ((Lib.decDigits u).drop i) a = u → eD (Lib.decDigits u) k (a : Int) (i : Int) = some ((u : Int), true) := by
    intro d
    induction d with
    | zero =>
      intro k i a hd' hk j l c
      obtain ⟨k, rfl⟩ := kS k (by omega)
      have e : (Lib.decDigits u).drop i = [] := List.drop_eq_nil_iff.2 (by omega)
      rw [e] at c
      have c : a = u := c
      subst c
      rw [eD, if_neg (by rw [decide_eq_true_iff]; omega), wY ⟨by omega, by omega⟩]
      have m : Lib.itoa (a : Int) = Lib.decDigits a := by
        unfold Lib.itoa
        rw [if_neg (by omega), Int.toNat_natCast]
      rw [m]
      simp
    | succ d ih =>
      intro k i a hd' hk j l c
      obtain ⟨k, rfl⟩ := kS k (by omega)
      have f : i < (Lib.decDigits u).length := by omega
      have o := g _ (List.getElem_mem f)
      rw [List.drop_eq_getElem_cons f] at c
      have r : (10 : Nat) ^ i ≤ 10 ^ 4 := Nat.pow_le_pow_right (by omega) (by omega)
      rw [eD, if_pos (by rw [decide_eq_true_iff]; omega), aX f]
      generalize (Lib.decDigits u)[i] = x at o c
      simp only [bS]
      rw [if_neg (by rw [decide_eq_true_iff]; omega), decide_eq_false (by omega)]
      simp only [Option.bind_some, Bool.false_eq_true, if_false]
      rw [bi (n := 10 * (a : Int)) (by omega) (by omega), gq (n := x.toNat) (by omega), bi (n := 10 * (a : Int) + x.toNat) (by omega) (by omega), bi (by omega) (by omega), aG (by omega)]
      have e : 10 * (a : Int) + x.toNat - 48 = ((10 * a + (x.toNat - 48) : Nat) : Int) := by omega
      rw [e]
      exact ih k (i + 1) _ (by omega) (by omega) (by omega) (by rw [Nat.pow_succ]; omega) c
  exact key (Lib.decDigits u).length aI 0 0 (by omega) (cw (by omega)) (by omega) (by simp) (Gb u)
theorem BG {s : List UInt8} (k : s.length ≤ 1048576) : Tot (lg s) (fun v => I64 v.1) ∧ Tot (li s) (fun v => I64 v.1) := by
  have c : I64 0 := ⟨by omega, by omega⟩
  refine ⟨?_, ?_⟩
  · unfold lg
    refine kl (fun _ => cx c) (fun l => ?_)
    have hl' : 0 < s.length := by simp at l; omega
    rw [show (0 : Int) = ((0 : Nat) : Int) from rfl, aX hl']
    simp only [bS]
    refine kl (fun _ => (Bm k).bind fun v a => kl (fun _ => cx c) (fun _ => cx a)) (fun _ => ?_)
    have := tq (xs := s) (f := 1) (i := s.length) hl' (Nat.le_refl _)
    have m : ((1 : Nat) : Int) = 1 := rfl
    rw [m] at this
    rw [this]
    simp only [bS]
    exact (Bm (by simp; omega)).bind fun v a => kl (fun _ => cx c) (fun _ => cx (He _))
  · have o : Tot (DC s) (fun v => v.2 = true → I64 v.1) := by
      unfold DC
      rw [if_pos (by omega)]
      refine cx ?_
      cases e : Lib.atoiAll s with
      | ok v => exact fun _ => Lib.atoiAll_bounds e
      | range => intro h; cases h
      | _ => intro h; cases h
    unfold li pB
    refine Tot.bind (P := fun v => I64 v.1) ?_ fun v a => cx a
    refine o.bind fun v a => ?_
    refine Tot.bind (P := fun b => b = false → I64 v.1) (kl (fun _ => cx (by simp)) fun d => ?_) fun b g => ?_
    · have h2' : v.2 = true := by simpa using d
      refine Tot.bind (P := fun _ => True) ⟨_, rfl, trivial⟩ fun _ _ => cx fun _ => a h2'
    · refine Tot.bind (P := fun b => b = false → I64 v.1) (kl (fun _ => cx (by simp)) fun d => ?_) fun b g => kl (fun _ => cx c) fun p => cx (g (by simpa using p))
      have j := g (by simpa using d)
      rw [wS j]
      exact cx fun _ => j
theorem Gw {n : Int} (h : -9999 ≤ n ∧ n ≤ 9999) : lg (Lib.itoa n) = some (n, true) ∧ li (Lib.itoa n) = some (n, true) := by
  have c : I64 n := ⟨by omega, by omega⟩
  refine ⟨?_, ?_⟩
  · unfold lg Lib.itoa
    by_cases d : n < 0
    · obtain ⟨u, rfl⟩ : ∃ u : Nat, n = -(u : Int) := ⟨n.natAbs, by omega⟩
      have eu : (-(u : Int)).natAbs = u := by omega
      rw [if_pos d, eu]
      have e := qu 3 u (by omega)
      have a : 0 < (Lib.decDigits u).length := List.length_pos_iff.2 (pM u)
      rw [if_neg (by simp; omega)]
      show (some (45 : UInt8)).bind _ = _
      simp only [bS]
      rw [if_neg (by decide)]
      have g := tq (xs := (45 : UInt8) :: Lib.decDigits u) (f := 1) (i := ((45 : UInt8) :: Lib.decDigits u).length) (by simp) (Nat.le_refl _)
      have j : ((1 : Nat) : Int) = 1 := rfl
      rw [j] at g
      rw [g]
      simp only [bS]
      have k : (((45 : UInt8) :: Lib.decDigits u).drop 1).take (((45 : UInt8) :: Lib.decDigits u).length - 1) = Lib.decDigits u := by simp
      rw [k, Cd (by omega)]
      simp only [bS]
      rw [if_neg (by simp; omega), bi (by omega) (by omega)]
      simp
    · obtain ⟨u, rfl⟩ : ∃ u : Nat, n = (u : Int) := ⟨n.toNat, by omega⟩
      rw [if_neg d, Int.toNat_natCast]
      have e := qu 3 u (by omega)
      have a : 0 < (Lib.decDigits u).length := List.length_pos_iff.2 (pM u)
      have l := ml u
      rw [if_neg (by simp; omega), show (0 : Int) = ((0 : Nat) : Int) from rfl, aX a]
      simp only [bS]
      have := l _ (List.getElem_mem a)
      rw [if_pos (by simp; omega), Cd (by omega)]
      simp only [bS]
      rw [if_neg (by simp; omega)]
  · unfold li pB DC
    have e := Hb c
    rw [if_pos (by omega), Kq (by omega)]
    simp only [cS]
    unfold aW
    rw [decide_eq_true (by omega), decide_eq_true (by omega)]
    simp only [Option.bind_some, Bool.and_self, Bool.not_true, Bool.false_eq_true, if_false]
    rw [wS c]
    simp
end Go.Vk
/- Attributes and schemas out of their texts. -/
namespace Go.Vk
open Go.Proofs
abbrev zA : ap := ⟨[], [], []⟩
abbrev zS : aj := ⟨[], []⟩
theorem AZ {w : List UInt8} (h : yl w) {c : UInt8} (e : c.toNat < 97 ∨ 122 < c.toNat) : c ∉ w := fun a => by
  obtain ⟨i, d, rfl⟩ := List.getElem_of_mem a
  have := h.2 i (Nat.zero_le _) d
  omega
theorem vc {ws : List (List UInt8)} (h : ur ws) {c : UInt8} (d : c.toNat < 97 ∨ 122 < c.toNat) : ∀ w ∈ ws, c ∉ w := fun w e => by
  obtain ⟨i, a, rfl⟩ := List.getElem_of_mem e
  exact AZ (h i (Nat.zero_le _) a a).1 d
theorem Nd {n : Int} {c : UInt8} (a : c.toNat ≠ 45 ∧ (c.toNat < 48 ∨ 57 < c.toNat)) : c ∉ Lib.itoa n := fun hm => by
  unfold Lib.itoa at hm
  split at hm
  · rcases List.mem_cons.1 hm with rfl | hm
    · exact a.1 rfl
    · have := ml _ _ hm
      omega
  · have := ml _ _ hm
    omega
theorem sM {ws : List (List UInt8)} {c s : UInt8} (a : c ≠ s) (h : ∀ w ∈ ws, c ∉ w) : c ∉ Lib.join ws [s] := fun d => by
  rcases Mb d with h1 | ⟨w, e, h1⟩
  · exact a (List.mem_singleton.1 h1)
  · exact h w e h1
theorem xz {l : List Int} {c : UInt8} (a : c.toNat ≠ 45 ∧ (c.toNat < 48 ∨ 57 < c.toNat)) : ∀ w ∈ l.map Lib.itoa, c ∉ w := fun w d => by
  obtain ⟨n, _, rfl⟩ := List.mem_map.1 d
  exact Nd a
open Classical in
noncomputable def uG (a : ap) (p : List UInt8) : ap × Bool := if oJ a ∧ dn a = p then (a, true) else (zA, false)
theorem FW {a : ap} (d : iS a) {p : List UInt8} (h : (uG a p).2 = true) : oJ (uG a p).1 ∧ iS (uG a p).1 := by
  unfold uG at h ⊢
  split at h
  · rename_i c
    rw [if_pos c]
    exact ⟨c.1, d⟩
  · cases h
theorem IH {a : ap} (c : iS a) (p : List UInt8) : gz p a.D_ a.x_ a.F_ = some (uG a p) ∧ gp p a.D_ a.x_ a.F_ = some (uG a p) := by
  unfold gz gp
  show (jZ a).bind _ = _ ∧ (kb a).bind _ = _
  rcases (uZ (vp c)).cases with ⟨e, d⟩ | ⟨e, d⟩
  · obtain ⟨g, i, _⟩ := zo c d
    rw [e, (yA (vp c)).val d]
    have t1' : jd (ap.mk a.D_ a.x_ a.F_) = some (dn a) := g
    have t2' : je (ap.mk a.D_ a.x_ a.F_) = some (dn a) := i
    simp only [cS]
    rw [t1', t2']
    simp only [bS]
    by_cases f : dn a = p
    · rw [show uG a p = (a, true) from if_pos ⟨d, f⟩, if_neg (by simp [f])]
      exact ⟨rfl, rfl⟩
    · rw [show uG a p = (zA, false) from if_neg fun h => f h.2, if_pos (by simp [f])]
      exact ⟨rfl, rfl⟩
  · have e' : kb a = some false := by rw [(yA (vp c)).eq (uZ (vp c)), e]
    rw [e, e', show uG a p = (zA, false) from if_neg fun h => d h.1]
    exact ⟨rfl, rfl⟩
theorem Jg : iS zA := ⟨by simp, ⟨by simp, by simp⟩, ⟨by simp, by simp⟩⟩
def DY (v : ap × Bool) : Prop := v.2 = true → oJ v.1 ∧ iS v.1
theorem vH {a : ap} (c : iS a) (p : List UInt8) : Tot (gz p a.D_ a.x_ a.F_) DY ∧ Tot (gp p a.D_ a.x_ a.F_) DY := by
  rw [(IH c p).1, (IH c p).2]
  exact ⟨cx fun h => FW c h, cx fun h => FW c h⟩
theorem rF {s : List UInt8} (e : s.length ≤ 1048575) (c : UInt8) : mQ (eZ c s) := by
  obtain ⟨h1, a⟩ := rB (c := c) s
  exact ⟨by omega, fun y d => by have := a y d; omega⟩
def IL (i : Nat) (l : List Int) : Prop := l.length = i ∧ ∀ y ∈ l, I64 y
theorem Bq {i : Nat} {l : List Int} {x : Int} (h : IL i l) (a : I64 x) : IL (i + 1) (l ++ [x]) := ⟨by simp [h.1], fun y c => by
  rcases List.mem_append.1 c with h1 | h1
  · exact h.2 y h1
  · rw [List.mem_singleton.1 h1]; exact a⟩
theorem Cl {ws : List (List UInt8)} (c : mQ ws) {nm : List UInt8} (e : nm.length ≤ 1048576) (p : List UInt8) : Tot (cY ws p nm aI [] 0) DY := by
  have g := c.1
  refine xK (σ := List Int) (fun k l i => cY ws p nm k l i) ws.length IL (fun k l h => ?_) (fun k l i d h ih => ?_) (by omega) ⟨rfl, by simp⟩
  · show Tot (cY ws p nm (k + 1) l _) _
    rw [cY, if_neg (by simp)]
    exact (vH (a := ⟨nm, l, []⟩) ⟨e, ⟨by show l.length ≤ _; have := h.1; omega, h.2⟩, ⟨by simp, by simp⟩⟩ p).1
  · show Tot (cY ws p nm (k + 1) l _) _
    rw [cY, if_pos (by rw [decide_eq_true_iff]; omega), aX d]
    simp only [bS]
    refine (BG (c.2 _ (List.getElem_mem d))).1.bind fun v f => kl (fun _ => cx fun h => by cases h) (fun _ => ?_)
    rw [cJ (by have := h.1; simp; omega)]
    simp only [bS]
    rw [aG (by omega)]
    exact ih _ (Bq h f)
theorem BV {ws : List (List UInt8)} (c : mQ ws) {nm : List UInt8 × List UInt8 × Bool} (e : nm.1.length ≤ 1048576) (p : List UInt8) : Tot (cX ws p nm aI 0 []) DY := by
  have g := c.1
  refine xK (σ := List Int) (fun k l i => cX ws p nm k i l) ws.length IL (fun k l h => ?_) (fun k l i d h ih => ?_) (by omega) ⟨rfl, by simp⟩
  · show Tot (cX ws p nm (k + 1) _ l) _
    rw [cX, if_neg (by simp)]
    exact (vH (a := ⟨nm.1, l, []⟩) ⟨e, ⟨by show l.length ≤ _; have := h.1; omega, h.2⟩, ⟨by simp, by simp⟩⟩ p).2
  · show Tot (cX ws p nm (k + 1) _ l) _
    rw [cX, if_pos (by rw [decide_eq_true_iff]; omega), aX d]
    simp only [bS]
    refine (BG (c.2 _ (List.getElem_mem d))).2.bind fun v f => kl (fun _ => cx fun h => by cases h) (fun _ => ?_)
    rw [cJ (by have := h.1; simp; omega)]
    simp only [bS]
    rw [aG (by omega)]
    exact ih _ (Bq h f)
theorem HU (s : List UInt8) (c : UInt8) : (Lib.cut s [c]).1.length ≤ s.length ∧ (Lib.cut s [c]).2.1.length ≤ s.length := by
  unfold Lib.cut
  split
  · simp; omega
  · simp
theorem vY {s : List UInt8} (a : s.length ≤ 1048576) (c : UInt8) : JS s [c] = some (Lib.cut s [c]) := if_pos (by omega)
theorem BX {s : List UInt8} (j : s.length ≤ 1048575) : Tot (ld s) DY ∧ Tot (lj s) DY := by
  refine ⟨?_, ?_⟩
  · unfold ld
    rw [(fx (p := 61) (s := s) (by omega) 61 rfl).1, (fx (p := 58) (s := s) (by omega) 58 rfl).1]
    simp only [bS]
    have d := rB (c := 61) s
    have e := rB (c := 58) s
    refine kl (fun h => ?_) fun _ => kl (fun h => ?_) fun _ => (vH Jg s).1
    · rw [beq_iff_eq] at h
      refine (wd (by omega)).bind fun v f => (wd (by omega)).bind fun w g => ?_
      have h1 := d.2 v f.1
      have i := d.2 w g.1
      rw [(fx (p := 44) (s := w) (by omega) 44 rfl).1]
      simp only [bS]
      exact (vH (a := ⟨v, [], eZ 44 w⟩) ⟨by show v.length ≤ _; omega, ⟨by simp, by simp⟩, rF (by omega) 44⟩ s).1
    · rw [beq_iff_eq] at h
      refine (wd (by omega)).bind fun v f => (wd (by omega)).bind fun w g => ?_
      have h1 := e.2 v f.1
      have i := e.2 w g.1
      rw [(fx (p := 44) (s := w) (by omega) 44 rfl).1]
      simp only [bS]
      exact Cl (rF (by omega) 44) (by omega) s
  · unfold lj
    rw [vY (s := s) (by omega) 61, vY (s := s) (by omega) 58]
    simp only [bS]
    have d := HU s 61
    have e := HU s 58
    refine kl (fun h => ?_) fun _ => kl (fun h => ?_) fun _ => (vH Jg s).2
    · rw [(fx (p := 44) (s := (Lib.cut s [61]).2.1) (by omega) 44 rfl).2]
      simp only [bS]
      exact (vH (a := ⟨(Lib.cut s [61]).1, [], eZ 44 (Lib.cut s [61]).2.1⟩) ⟨by show (Lib.cut s [61]).1.length ≤ _; omega, ⟨by simp, by simp⟩, rF (by omega) 44⟩ s).2
    · rw [(fx (p := 44) (s := (Lib.cut s [58]).2.1) (by omega) 44 rfl).2]
      simp only [bS]
      exact BV (rF (by omega) 44) (by omega) s
theorem Hz {l : List Int} (u : l.length ≤ 3) (g : Jc l) {a : ap} (j : a.x_ = l) (m : a.F_ = []) (o : iS a) (p : List UInt8) (x : List UInt8 × List UInt8 × Bool) (q : x.1 = a.D_) :
    cY (l.map Lib.itoa) p a.D_ aI [] 0 = some (uG a p) ∧ cX (l.map Lib.itoa) p x aI 0 [] = some (uG a p) := by
  have d : (List.range (l.map Lib.itoa).length).map (fun i => l.getD i 0) = l := by
    apply List.ext_getElem (by simp)
    intro i h1 s
    simp [s]
  have f : ∀ i, (h : i < (l.map Lib.itoa).length) → lg (l.map Lib.itoa)[i] = some (l.getD i 0, true) ∧ li (l.map Lib.itoa)[i] = some (l.getD i 0, true) := fun i h => by
    have h' : i < l.length := by simpa using h
    rw [List.getElem_map]
    have := (g i (Nat.zero_le _) h' h').1
    have e : l.getD i 0 = l[i] := by simp [h']
    rw [e]
    exact Gw (by omega)
  have c := IH o p
  rw [j, m] at c
  refine ⟨?_, ?_⟩
  · refine (sk (n := (l.map Lib.itoa).length) (fun i => l.getD i 0) (fun k r i => cY (l.map Lib.itoa) p a.D_ k r i) (fun r => gz p a.D_ r []) (fun k r => ?_) (fun k r i h t => ?_) (by simp; omega)).trans ?_
    · show cY _ p _ (k + 1) r _ = _
      rw [cY, if_neg (by simp)]
    · show cY _ p _ (k + 1) r _ = _
      rw [cY, if_pos (by rw [decide_eq_true_iff]; omega), aX h]
      simp only [bS]
      rw [(f i h).1]
      simp only [cS]
      rw [cJ (by simp at h ⊢; omega), aG (by simp at h; omega)]
      rfl
    · rw [d]; exact c.1
  · refine (sk (n := (l.map Lib.itoa).length) (fun i => l.getD i 0) (fun k r i => cX (l.map Lib.itoa) p x k i r) (fun r => gp p x.1 r []) (fun k r => ?_) (fun k r i h t => ?_) (by simp; omega)).trans ?_
    · show cX _ p _ (k + 1) _ r = _
      rw [cX, if_neg (by simp)]
    · show cX _ p _ (k + 1) _ r = _
      rw [cX, if_pos (by rw [decide_eq_true_iff]; omega), aX h]
      simp only [bS]
      rw [(f i h).2]
      simp only [cS]
      rw [cJ (by simp at h ⊢; omega), aG (by simp at h; omega)]
      rfl
    · rw [d, q]; exact c.2
theorem BF {a : ap} (h : oJ a) : uG a (dn a) = (a, true) := if_pos ⟨h, rfl⟩
theorem Ix {a : ap} (m : iS a) (h : oJ a) : ld (dn a) = some (a, true) ∧ lj (dn a) = some (a, true) := by
  have i := (zo m h).2.2
  have j := IH m (dn a)
  rw [BF h] at j
  unfold ld lj
  rw [(fx (p := 61) (s := dn a) (by omega) 61 rfl).1, (fx (p := 58) (s := dn a) (by omega) 58 rfl).1, vY (s := dn a) (by omega) 61, vY (s := dn a) (by omega) 58]
  simp only [bS]
  have c : (61 : UInt8) ∉ a.D_ := AZ h.1 (.inl (by decide))
  have k : (58 : UInt8) ∉ a.D_ := AZ h.1 (.inl (by decide))
  rcases h.2 with ⟨o, t, u⟩ | ⟨o, v, x⟩
  · have e : dn a = a.D_ ++ 61 :: Lib.join a.F_ [44] := by
      unfold dn
      rw [if_neg (by omega)]; simp
    have d : (61 : UInt8) ∉ Lib.join a.F_ [44] := sM (by decide) (vc u (.inl (by decide)))
    have q : eZ 61 (dn a) = [a.D_, Lib.join a.F_ [44]] := by rw [e, qf c, oF d]
    have r : Lib.cut (dn a) [61] = (a.D_, Lib.join a.F_ [44], true) := by rw [e, Ci c]
    have f : (Lib.join a.F_ [44]).length ≤ 1048576 := by rw [e] at i; simp at i; omega
    have g : eZ 44 (Lib.join a.F_ [44]) = a.F_ := qz (fun h => by rw [h] at t; simp at t) (vc u (.inl (by decide)))
    have ec : a.x_ = [] := List.length_eq_zero_iff.1 o
    rw [ec] at j
    rw [q, r]
    simp only [if_true]
    refine ⟨?_, ?_⟩
    · rw [if_pos (by simp)]
      show (gn (Lib.join a.F_ [44]) 44).bind _ = _
      rw [(fx (p := 44) f 44 rfl).1, g]
      exact j.1
    · rw [(fx (p := 44) f 44 rfl).2, g]
      exact j.2
  · have e : dn a = a.D_ ++ 58 :: Lib.join (a.x_.map Lib.itoa) [44] := by
      unfold dn
      rw [if_pos (by omega)]; simp
    have d : (61 : UInt8) ∉ Lib.join (a.x_.map Lib.itoa) [44] := sM (by decide) (xz (by decide))
    have w : (58 : UInt8) ∉ Lib.join (a.x_.map Lib.itoa) [44] := sM (by decide) (xz (by decide))
    have l : (61 : UInt8) ∉ dn a := by
      rw [e]
      intro hm
      rcases List.mem_append.1 hm with hm | hm
      · exact c hm
      · rcases List.mem_cons.1 hm with hm | hm
        · exact absurd hm (by decide)
        · exact d hm
    have q : eZ 61 (dn a) = [dn a] := oF l
    have e1' : eZ 58 (dn a) = [a.D_, Lib.join (a.x_.map Lib.itoa) [44]] := by rw [e, qf k, oF w]
    have r : Lib.cut (dn a) [61] = (dn a, [], false) := Kw l
    have e2' : Lib.cut (dn a) [58] = (a.D_, Lib.join (a.x_.map Lib.itoa) [44], true) := by rw [e, Ci k]
    have f : (Lib.join (a.x_.map Lib.itoa) [44]).length ≤ 1048576 := by rw [e] at i; simp at i; omega
    have g : eZ 44 (Lib.join (a.x_.map Lib.itoa) [44]) = a.x_.map Lib.itoa := qz (fun h => by
      have := congrArg List.length h
      simp at this
      rw [this] at v
      simp at v) (xz (by decide))
    have ev : a.F_ = [] := List.length_eq_zero_iff.1 o
    rw [q, e1', r, e2']
    simp only [if_true, Bool.false_eq_true, if_false]
    obtain ⟨c1, c2⟩ := Hz (by omega) x rfl ev m (dn a) (a.D_, Lib.join (a.x_.map Lib.itoa) [44], true) rfl
    rw [BF h] at c1 c2
    refine ⟨?_, ?_⟩
    · rw [if_neg (by simp), if_pos (by simp)]
      show (gn (Lib.join (a.x_.map Lib.itoa) [44]) 44).bind _ = _
      rw [(fx (p := 44) f 44 rfl).1, g]
      exact c1
    · rw [(fx (p := 44) f 44 rfl).2, g]
      exact c2
end Go.Vk
/- Schemas out of their texts. -/
namespace Go.Vk
open Go.Proofs
def vT (v : aj × Bool) : Prop := v.2 = true → jV v.1 ∧ bV v.1
def EK (i : Nat) (l : List ap) : Prop := l.length = i ∧ ∀ y ∈ l, iS y
theorem zR {i : Nat} {l : List ap} {x : ap} (h : EK i l) (a : iS x) : EK (i + 1) (l ++ [x]) := ⟨by simp [h.1], fun y c => by
  rcases List.mem_append.1 c with h1 | h1
  · exact h.2 y h1
  · rw [List.mem_singleton.1 h1]; exact a⟩
theorem Bt {s : aj} (c : bV s) : Tot ((dZ s).bind fun y => if (!y) then some (zS, false) else some (s, true)) vT ∧ Tot ((ed s).bind fun y => if (!y) then some (zS, false) else some (s, true)) vT := by
  refine ⟨?_, ?_⟩
  · rcases (mE (nM c)).cases with ⟨e, a⟩ | ⟨e, a⟩
    · rw [e]; exact cx fun _ => ⟨a, c⟩
    · rw [e]; exact cx fun h => by cases h
  · rcases (mG (nM c)).cases with ⟨e, a⟩ | ⟨e, a⟩
    · rw [e]; exact cx fun _ => ⟨a, c⟩
    · rw [e]; exact cx fun h => by cases h
theorem zP {ws cs : List (List UInt8)} (c : ws.length ≤ 1048576 ∧ ∀ w ∈ ws, w.length ≤ 1048575) (f : mQ cs) : Tot (cL ws cs aI [] 0) vT ∧ Tot (cH ws cs aI 0 []) vT := by
  have g := c.1
  refine ⟨?_, ?_⟩
  · refine xK (σ := List ap) (fun k l i => cL ws cs k l i) ws.length EK (fun k l h => ?_) (fun k l i a h ih => ?_) (by omega) ⟨rfl, by simp⟩
    · show Tot (cL ws cs (k + 1) l _) _
      rw [cL, if_neg (by simp)]
      exact (Bt (s := ⟨l, cs⟩) ⟨⟨by show l.length ≤ _; have := h.1; omega, h.2⟩, f⟩).1
    · show Tot (cL ws cs (k + 1) l _) _
      rw [cL, if_pos (by rw [decide_eq_true_iff]; omega), aX a]
      simp only [bS]
      refine (BX (c.2 _ (List.getElem_mem a))).1.bind fun v d => kl (fun _ => cx fun h => by cases h) (fun e => ?_)
      rw [cJ (by have := h.1; simp; omega)]
      simp only [bS]
      rw [aG (by omega)]
      exact ih _ (zR h (d (by simpa using e)).2)
  · refine xK (σ := List ap) (fun k l i => cH ws cs k i l) ws.length EK (fun k l h => ?_) (fun k l i a h ih => ?_) (by omega) ⟨rfl, by simp⟩
    · show Tot (cH ws cs (k + 1) _ l) _
      rw [cH, if_neg (by simp)]
      exact (Bt (s := ⟨l, cs⟩) ⟨⟨by show l.length ≤ _; have := h.1; omega, h.2⟩, f⟩).2
    · show Tot (cH ws cs (k + 1) _ l) _
      rw [cH, if_pos (by rw [decide_eq_true_iff]; omega), aX a]
      simp only [bS]
      refine (BX (c.2 _ (List.getElem_mem a))).2.bind fun v d => kl (fun _ => cx fun h => by cases h) (fun e => ?_)
      rw [cJ (by have := h.1; simp; omega)]
      simp only [bS]
      rw [aG (by omega)]
      exact ih _ (zR h (d (by simpa using e)).2)
theorem GC {s : List UInt8} (e : s.length ≤ 1048575) (c : UInt8) : (eZ c s).length ≤ 1048576 ∧ ∀ w ∈ eZ c s, w.length ≤ 1048575 := by
  obtain ⟨h1, a⟩ := rB (c := c) s
  exact ⟨by omega, fun w d => by have := a w d; omega⟩
theorem xF {s : List UInt8} (f : s.length ≤ 1048575) : Tot (jf s) vT ∧ Tot (ji s) vT := by
  refine ⟨?_, ?_⟩
  · unfold jf
    rw [(fx (p := 124) (s := s) (by omega) 124 rfl).1]
    simp only [bS]
    have a := rB (c := 124) s
    refine kl (fun _ => cx fun h => by cases h) (fun h => ?_)
    have h : (eZ 124 s).length = 2 := by simp at h; omega
    refine (wd (by omega)).bind fun v d => ?_
    have h1 := a.2 v d.1
    rw [(fx (p := 44) (s := v) (by omega) 44 rfl).1]
    simp only [bS]
    refine (wd (by omega)).bind fun w e => ?_
    have g := a.2 w e.1
    rw [(fx (p := 59) (s := w) (by omega) 59 rfl).1]
    simp only [bS]
    exact (zP (GC (by omega) 59) (rF (by omega) 44)).1
  · unfold ji
    rw [vY (s := s) (by omega) 124]
    simp only [bS]
    have a := HU s 124
    refine kl (fun _ => cx fun h => by cases h) (fun h => ?_)
    rw [(fx (p := 44) (s := (Lib.cut s [124]).2.1) (by omega) 44 rfl).2, (fx (p := 59) (s := (Lib.cut s [124]).1) (by omega) 59 rfl).2]
    simp only [bS]
    exact (zP (GC (by omega) 59) (rF (by omega) 44)).2
theorem Gr {a : ap} (h : oJ a) {c : UInt8} (e : c = 59 ∨ c = 124) : c ∉ dn a := by
  have g : c.toNat < 97 ∨ 122 < c.toNat := by rcases e with rfl | rfl <;> decide
  have j : c.toNat ≠ 45 ∧ (c.toNat < 48 ∨ 57 < c.toNat) := by rcases e with rfl | rfl <;> decide
  have d : c ≠ 44 ∧ c ≠ 58 ∧ c ≠ 61 := by rcases e with rfl | rfl <;> decide
  have i : c ∉ a.D_ := AZ h.1 g
  have k : c ∉ Lib.join a.F_ [44] := by
    rcases h.2 with ⟨_, _, f⟩ | ⟨f, _⟩
    · exact sM d.1 (vc f g)
    · rw [List.length_eq_zero_iff.1 f]
      exact sM d.1 (by simp)
  have l : c ∉ Lib.join (a.x_.map Lib.itoa) [44] := sM d.1 (xz j)
  unfold dn
  split
  · intro hm
    rcases List.mem_append.1 hm with hm | hm
    · rcases List.mem_append.1 hm with hm | hm
      · exact i hm
      · exact d.2.1 (List.mem_singleton.1 hm)
    · exact l hm
  · intro hm
    rcases List.mem_append.1 hm with hm | hm
    · rcases List.mem_append.1 hm with hm | hm
      · exact i hm
      · exact d.2.2 (List.mem_singleton.1 hm)
    · exact k hm
theorem FD {s : aj} (f : bV s) (h : jV s) : jf (ix s) = some (s, true) ∧ ji (ix s) = some (s, true) := by
  have m := (sQ f h).2.2
  have g := h.1
  have o : ∀ w ∈ s.d_.map dn, (124 : UInt8) ∉ w ∧ (59 : UInt8) ∉ w := fun w d => by
    obtain ⟨a, g, rfl⟩ := List.mem_map.1 d
    obtain ⟨i, c, rfl⟩ := List.getElem_of_mem g
    exact ⟨Gr (h.attr c) (.inr rfl), Gr (h.attr c) (.inl rfl)⟩
  have e : ix s = Lib.join (s.d_.map dn) [59] ++ 124 :: Lib.join s.f_ [44] := by unfold ix; simp
  have nA : (124 : UInt8) ∉ Lib.join (s.d_.map dn) [59] := sM (by decide) fun w d => (o w d).1
  have nC : (124 : UInt8) ∉ Lib.join s.f_ [44] := sM (by decide) (vc h.2.2.1 (.inr (by decide)))
  have x : eZ 124 (ix s) = [Lib.join (s.d_.map dn) [59], Lib.join s.f_ [44]] := by rw [e, qf nA, oF nC]
  have A : Lib.cut (ix s) [124] = (Lib.join (s.d_.map dn) [59], Lib.join s.f_ [44], true) := by rw [e, Ci nA]
  have j : (Lib.join (s.d_.map dn) [59]).length ≤ 1048576 ∧ (Lib.join s.f_ [44]).length ≤ 1048576 := by rw [e] at m; simp at m; omega
  have q : eZ 44 (Lib.join s.f_ [44]) = s.f_ := qz (fun l => by have := h.2.1; rw [l] at this; simp at this) (vc h.2.2.1 (.inl (by decide)))
  have t : eZ 59 (Lib.join (s.d_.map dn) [59]) = s.d_.map dn := qz (fun l => by
    have := congrArg List.length l
    simp at this
    rw [this] at g
    simp at g) fun w d => (o w d).2
  have u : (List.range (s.d_.map dn).length).map (fun i => s.d_.getD i zA) = s.d_ := by
    apply List.ext_getElem (by simp)
    intro i h1 C
    simp [C]
  have v : ∀ i, (c : i < (s.d_.map dn).length) → ld (s.d_.map dn)[i] = some (s.d_.getD i zA, true) ∧ lj (s.d_.map dn)[i] = some (s.d_.getD i zA, true) := fun i c => by
    have hi' : i < s.d_.length := by simpa using c
    rw [List.getElem_map]
    have e : s.d_.getD i zA = s.d_[i] := by simp [hi']
    rw [e]
    exact Ix (f.1.2 _ (List.getElem_mem hi')) (h.attr hi')
  have E : (s.d_.map dn).length ≤ 5 := by simp; omega
  unfold jf ji
  rw [(fx (p := 124) (s := ix s) (by omega) 124 rfl).1, vY (s := ix s) (by omega) 124, x, A]
  simp only [cS]
  refine ⟨?_, ?_⟩
  · rw [if_neg (by simp)]
    show (gn (Lib.join s.f_ [44]) 44).bind _ = _
    rw [(fx (p := 44) j.2 44 rfl).1, q]
    simp only [bS]
    show (gn (Lib.join (s.d_.map dn) [59]) 59).bind _ = _
    rw [(fx (p := 59) j.1 59 rfl).1, t]
    simp only [bS]
    refine (sk (n := (s.d_.map dn).length) (fun i => s.d_.getD i zA) (fun k r i => cL (s.d_.map dn) s.f_ k r i) (fun r => (dZ (aj.mk r s.f_)).bind fun y => if (!y) then some (zS, false) else some (⟨r, s.f_⟩, true)) (fun k r => ?_) (fun k r i c D => ?_) (by omega)).trans ?_
    · show cL _ _ (k + 1) r _ = _
      rw [cL, if_neg (by simp)]
    · show cL _ _ (k + 1) r _ = _
      rw [cL, if_pos (by rw [decide_eq_true_iff]; omega), aX c]
      simp only [bS]
      rw [(v i c).1]
      simp only [cS]
      rw [cJ (by simp; omega), aG (by omega)]
      rfl
    · rw [u]
      show (dZ s).bind _ = _
      rw [(mE (nM f)).val h]
      rfl
  · rw [(fx (p := 44) j.2 44 rfl).2, q]
    simp only [bS]
    rw [(fx (p := 59) j.1 59 rfl).2, t]
    simp only [bS]
    refine (sk (n := (s.d_.map dn).length) (fun i => s.d_.getD i zA) (fun k r i => cH (s.d_.map dn) s.f_ k i r) (fun r => (ed (aj.mk r s.f_)).bind fun y => if (!y) then some (zS, false) else some (⟨r, s.f_⟩, true)) (fun k r => ?_) (fun k r i c D => ?_) (by omega)).trans ?_
    · show cH _ _ (k + 1) _ r = _
      rw [cH, if_neg (by simp)]
    · show cH _ _ (k + 1) _ r = _
      rw [cH, if_pos (by rw [decide_eq_true_iff]; omega), aX c]
      simp only [bS]
      rw [(v i c).2]
      simp only [cS]
      rw [cJ (by simp; omega), aG (by omega)]
      rfl
    · rw [u]
      show (ed s).bind _ = _
      rw [(mG (nM f)).val h]
      rfl
end Go.Vk
/- States, read: what is read, and that it answers. -/
namespace Go.Vk
abbrev zT : ao := ⟨⟨⟨[], []⟩, ⟨0, 0, 0, 0, 0, 0, false⟩, 0, 0, 0, 0, 0⟩, ⟨[]⟩, ⟨[], []⟩⟩
def Dd {α : Type} (p : List Int) (P : Pz α) : Prop := ∀ (a : Int) v (b : Int), 0 ≤ a → a ≤ p.length → P a = some (v, b) → a ≤ b ∧ b ≤ p.length
theorem rW.mono {α : Type} {p : List Int} (hp : p.length ≤ 1048576) {P : Pz α} {sz : α → Nat} (h : rW p P sz) : Dd p P := fun a v b d h1 e => by
  obtain ⟨f, g, c, i⟩ := h a v b ⟨by omega, by omega⟩ e
  exact ⟨by omega, c⟩
theorem Ei {α : Type} {p : List Int} (x : α) : Dd p (fun a => some (x, a)) := fun a v b c h1 e => by
  obtain ⟨rfl, rfl⟩ := Prod.mk.inj (Option.some.inj e)
  exact ⟨Int.le_refl _, h1⟩
theorem tw {α β : Type} {p : List Int} {P : Pz α} {Q : α → Pz β} (h : Dd p P) (k : ∀ v, Dd p (Q v)) : Dd p (Pz.bind P Q) := fun a v b c h1 e => by
  unfold Pz.bind at e
  obtain ⟨y, d, f⟩ := ce e
  obtain ⟨j, g⟩ := h a y.1 y.2 c h1 d
  obtain ⟨l, i⟩ := k y.1 y.2 v b (by omega) g f
  exact ⟨by omega, i⟩
theorem GH {α β : Type} {p : List Int} {P : Pz α} (f : α → β) (h : Dd p P) : Dd p (Pz.map f P) := fun a v b c h1 e => by
  obtain ⟨y, d, g⟩ := Option.map_eq_some_iff.1 e
  obtain ⟨rfl, rfl⟩ := Prod.mk.inj g
  exact h a y.1 y.2 c h1 d
theorem yP {α β : Type} {p : List Int} {P : Pz α} {Q : α → Pz β} {sz : α → Nat} (h : rW p P sz) (k : ∀ v, Dd p (Q v)) : rW p (Pz.bind P Q) (fun _ => 1) := fun a v b c e => by
  unfold Pz.bind at e
  obtain ⟨y, d, f⟩ := ce e
  obtain ⟨g, l, i, m⟩ := h a y.1 y.2 c d
  obtain ⟨o, j⟩ := k y.1 y.2 v b (by omega) i f
  exact ⟨g, by show a + ((1 : Nat) : Int) ≤ b; omega, j, Nat.le_refl _⟩
noncomputable abbrev Dc (p : List Int) : Pz aJ := Pz.map aJ.mk (ca p (ca p (gI p)))
noncomputable def uJ (p : List Int) : Pz au := Pz.bind (sU p) fun t => Pz.bind (gI p) fun h => Pz.bind (sU p) fun y => Pz.bind (Dc p) fun w => Pz.bind (Dc p) fun d => fun a => some (⟨t, h == 1, y, ⟨w, d⟩⟩, a)
noncomputable def Gt (p : List Int) : Pz au := Pz.bind (sU p) fun t => Pz.bind (tN p) fun h => Pz.bind (sU p) fun y => Pz.bind (Dc p) fun w => Pz.bind (Dc p) fun d => fun a => some (⟨t, h, y, ⟨w, d⟩⟩, a)
noncomputable def wu (p : List Int) : Pz aC := Pz.bind (gI p) fun t => Pz.bind (gI p) fun s => fun a => some (⟨t, s⟩, a)
theorem mb {x : Int} (h : InR x) : -9223372036854775808 ≤ x ∧ x ≤ 9223372036854775807 := by
  unfold InR at h
  exact ⟨by omega, by omega⟩
theorem CQ {x : List Int} (h : x.length ≤ 1048576 ∧ ∀ y ∈ x, InR y) : qA x := ⟨h.1, fun y a => mb (h.2 y a)⟩
section
variable {p : List Int} (hb : dl p) (hp : p.length ≤ 1048576)
include hb hp
theorem Bk : rW p (sU p) (fun _ => 1) := yP (Q := fun v => Pz.map (fun ns => ax.mk ns v) (ca p (qO p))) (gh hb hp) fun v => GH (fun ns => ax.mk ns v) ((tB hb hp (uo hb hp)).mono hp)
theorem Em : Dd p (Dc p) := GH _ ((tB hb hp (lr hb hp)).mono hp)
theorem Jm : Dd p (gI p) := (gh hb hp).mono hp
theorem Hw : rW p (uJ p) (fun _ => 1) := yP (Bk hb hp) fun _ => tw (Jm hb hp) fun _ => tw ((Bk hb hp).mono hp) fun _ => tw (Em hb hp) fun _ => tw (Em hb hp) fun _ => Ei _
theorem Bv : rW p (wu p) (fun _ => 1) := yP (gh hb hp) fun _ => tw (Jm hb hp) fun _ => Ei _
theorem vq : Sat (tN p) (fun _ => True) := fun a v b d e => by
  unfold tN at e
  obtain ⟨y, f, c⟩ := ce e
  split at c
  · cases c
  · obtain ⟨rfl, rfl⟩ := Prod.mk.inj (Option.some.inj c)
    exact ⟨(pw hb hp a y.1 y.2 d f).1, trivial⟩
theorem sD : Sat (Dc p) sc := Jf (Kh hb hp) fun v h => ⟨h.1, fun y a => CQ (h.2 y a)⟩
theorem Ln : Sat (qO p) sh := by
  have i := pw hb hp
  have l := vh hb hp
  exact er (vq hb hp) fun r _ => er i fun s h1 => er i fun t d => er l fun u e => er i fun v f => er l fun w g => er (sD hb hp) fun x h => er i fun A j => er l fun C k => er i fun D m => er i fun o a => er i fun q c =>
    ve ⟨trivial, ⟨mb h1, mb d⟩, CQ e, mb f, ⟨CQ g, h⟩, mb j, CQ k, mb m, mb a, mb c⟩
theorem rP : Sat (sU p) lY := er (Q := InR) (R := fun v => Pz.map (fun ns => ax.mk ns v) (ca p (qO p))) (pw hb hp) fun v a => Jf (xU hb hp (uo hb hp) (Ln hb hp)) fun ns h => ⟨h, mb a⟩
theorem Gk : Sat (uJ p) oE := er (rP hb hp) fun _ h1 => er (pw hb hp) fun _ _ => er (rP hb hp) fun _ a => er (sD hb hp) fun _ c => er (sD hb hp) fun _ d => ve ⟨h1, trivial, a, c, d⟩
theorem FR : Sat (Gt p) oE := er (rP hb hp) fun _ h1 => er (vq hb hp) fun _ _ => er (rP hb hp) fun _ a => er (sD hb hp) fun _ c => er (sD hb hp) fun _ d => ve ⟨h1, trivial, a, c, d⟩
theorem KW : Sat (wu p) GU := er (pw hb hp) fun _ h1 => er (pw hb hp) fun _ a => ve ⟨mb h1, mb a⟩
omit hb hp in
theorem Sat.i64 {α : Type} {P : Pz α} {Q : α → Prop} (h : Sat P Q) : ∀ a v b, I64 a → P a = some (v, b) → I64 b := fun a v b c e => (h a v b c e).1
noncomputable def OG (p : List Int) : ak → Option (au × ak) := rb (fq p) fun t => rb (eJ p) fun h => rb (fq p) fun y => rb (dF p) fun w => rb (dF p) fun d => fun s => some (⟨t, h, y, ⟨w, d⟩⟩, s)
theorem PE : sy (OG p) (Gt p) := pf (Jq hb hp) (rP hb hp).i64 fun _ => pf (Ez hb hp) (vq hb hp).i64 fun _ => pf (Jq hb hp) (rP hb hp).i64 fun _ => pf (wW hb hp) (sD hb hp).i64 fun _ => pf (wW hb hp) (sD hb hp).i64 fun _ => Ft _
noncomputable def KJ (p : List Int) : ak → Option (aC × ak) := rb (aM p) fun t => rb (aM p) fun u => fun s => some (⟨t, u⟩, s)
theorem Nn : sy (KJ p) (wu p) := pf (zW hb hp) (pw hb hp).i64 fun _ => pf (zW hb hp) (pw hb hp).i64 fun _ => Ft _
end
def Con (K : ak → Option (ao × Bool)) (G : Int → Option ao) : Prop :=
  (∀ a, ∃ v, K ⟨a, true⟩ = some (v, false)) ∧ ∀ a, I64 a → (∀ st, G a = some st → K ⟨a, false⟩ = some (st, true)) ∧ (G a = none → ∃ v, K ⟨a, false⟩ = some (v, false))
theorem Mu {α : Type} {op : ak → Option (α × ak)} {P : Pz α} {K : ak → α × ak → Option (ao × Bool)} {G : α → Int → Option ao} (h : sy op P) (f : ∀ a v b, I64 a → P a = some (v, b) → I64 b)
    (k : ∀ g v, Con (fun s => K g (v, s)) (G v)) : Con (fun s => (op s).bind (K s)) (fun a => (P a).bind fun y => G y.1 y.2) := by
  refine ⟨fun a => ?_, fun a c => ?_⟩
  · obtain ⟨v, a', e⟩ := h.1 a
    show ∃ v, (op ⟨a, true⟩).bind _ = _
    rw [e]
    exact (k _ v).1 a'
  · show (∀ st, ((P a).bind fun y => G y.1 y.2) = some st → (op ⟨a, false⟩).bind (K ⟨a, false⟩) = some (st, true)) ∧ (((P a).bind fun y => G y.1 y.2) = none → ∃ v, (op ⟨a, false⟩).bind (K ⟨a, false⟩) = some (v, false))
    cases d : P a with
    | none =>
      obtain ⟨v, a', e⟩ := (h.2 a c).2 d
      rw [e]
      exact ⟨fun st e => (by cases e), fun _ => (k _ v).1 a'⟩
    | some y =>
      obtain ⟨v, b⟩ := y
      rw [(h.2 a c).1 v b d]
      exact (k _ v).2 b (f a v b c d)
theorem Nz (st : ao) : Con (fun s => some (st, !s.C_)) (fun _ => some st) := ⟨fun a => ⟨_, rfl⟩, fun a _ => ⟨fun st' e => by cases e; rfl, fun e => by cases e⟩⟩
theorem Eu {α : Type} {op : ak → Option (α × ak)} {P : Pz α} (g : sy op P) (f : ∀ a v b, I64 a → P a = some (v, b) → I64 b) {N : Int} (h : N ≤ 1000000)
    (Lp : Nat → Int → Bool → List α → Int → Option (ao × Bool)) (fin : List α → ak → Option (ao × Bool)) {G : List α → Int → Option ao}
    (step : ∀ k a q l i, Lp (k + 1) a q l i = if decide (i < N) then (op ⟨a, q⟩).bind fun y => (app l [y.1]).bind fun l' => Lp k y.2.c_ y.2.C_ l' (IntKind.i64.wrap (i + 1)) else fin l ⟨a, q⟩)
    (k : ∀ l, Con (fin l) (G l)) : Con (fun s => Lp aI s.c_ s.C_ [] 0) (fun a => (P.many N.toNat a).bind fun y => G y.1 y.2) := by
  have H := fun a => KV g f N Lp fin step N.toNat aI 0 a [] (by simp) (cw (by omega)) (by omega) h rfl
  have j : ∀ (n : Nat) a v b, I64 a → P.many n a = some (v, b) → I64 b := fun n a v b c e => (mI (P := P) (Q := fun _ => True) (fun a v b c e => ⟨f a v b c e, trivial⟩) n a v b c e).1
  refine ⟨fun a => ?_, fun a c => ?_⟩
  · obtain ⟨l', a', e⟩ := (H a).1
    show ∃ v, Lp aI a true [] 0 = _
    rw [e]
    exact (k l').1 a'
  · show (∀ st, ((P.many N.toNat a).bind fun y => G y.1 y.2) = some st → Lp aI a false [] 0 = some (st, true)) ∧ (((P.many N.toNat a).bind fun y => G y.1 y.2) = none → ∃ v, Lp aI a false [] 0 = some (v, false))
    cases d : P.many N.toNat a with
    | none =>
      obtain ⟨l', a', e⟩ := ((H a).2 c).2 d
      rw [e]
      exact ⟨fun st e => (by cases e), fun _ => (k l').1 a'⟩
    | some y =>
      obtain ⟨v, b⟩ := y
      rw [((H a).2 c).1 v b d]
      exact (k v).2 b (j _ a v b c d)
theorem LP {α : Type} {p : List Int} (hb : dl p) (hp : p.length ≤ 1048576) {op : ak → Option (α × ak)} {P : Pz α} {sz : α → Nat} (m : sy op P) (f : rW p P sz)
    (Lp : Nat → Int → Bool → List α → Int → Option (ao × Bool)) (fin : List α → ak → Option (ao × Bool)) {G : List α → Int → Option ao}
    (step : ∀ k a q l n, Lp (k + 1) a q l n = if (decide (n > 0)) && !q then (op ⟨a, q⟩).bind fun y => (app l [y.1]).bind fun l' => Lp k y.2.c_ y.2.C_ l' (IntKind.i64.wrap (n - 1)) else fin l ⟨a, q⟩)
    (k : ∀ l, Con (fin l) (G l)) : Con (fun s => (bZ p s).bind fun y => Lp aI y.2.c_ y.2.C_ [] y.1) (fun a => (ca p P a).bind fun y => G y.1 y.2) := by
  refine ⟨fun a => ?_, fun a d => ?_⟩
  · obtain ⟨v, a', e⟩ := (xO hb hp).1 a
    show ∃ v, (bZ p ⟨a, true⟩).bind _ = _
    rw [e]
    simp only [bS]
    rw [ya (Lp := Lp) (fin := fin) step (cw (by omega))]
    exact (k []).1 a'
  · show (∀ st, ((ca p P a).bind fun y => G y.1 y.2) = some st → ((bZ p ⟨a, false⟩).bind fun y => Lp aI y.2.c_ y.2.C_ [] y.1) = some (st, true)) ∧ (((ca p P a).bind fun y => G y.1 y.2) = none → ∃ v, ((bZ p ⟨a, false⟩).bind fun y => Lp aI y.2.c_ y.2.C_ [] y.1) = some (v, false))
    have i := (xO hb hp).2 a d
    rw [Jp hb hp f d]
    cases h : cIr p a with
    | none =>
      obtain ⟨v, a', e⟩ := i.2 h
      rw [e]
      simp only [Option.bind_some, Option.bind_none]
      rw [ya (Lp := Lp) (fin := fin) step (cw (by omega))]
      exact ⟨fun st e => (by cases e), fun _ => (k []).1 a'⟩
    | some y =>
      obtain ⟨n, b⟩ := y
      rw [i.1 n b h]
      simp only [bS]
      obtain ⟨h1, o, u⟩ := FJ h
      obtain ⟨w, x, r, _⟩ := gh hb hp a n b d h1
      have j := (gh hb hp).i64 hp d h1
      obtain ⟨r1, t⟩ := Jn m f hp Lp fin step n.toNat aI n b [] rfl (cw (by omega)) (by omega) o (by simp; omega) j
      cases g : P.many n.toNat b with
      | none =>
        obtain ⟨l', a', e⟩ := t g
        rw [e]
        exact ⟨fun st e => (by cases e), fun _ => (k l').1 a'⟩
      | some z =>
        obtain ⟨vs, c⟩ := z
        rw [r1 vs c g]
        obtain ⟨A, C, D, E⟩ := vK f hp _ _ vs c (by omega) r g
        exact (k ([] ++ vs)).2 c ⟨by omega, by omega⟩
end Go.Vk
/- States, read by the program: alike what is read. -/
namespace Go.Vk
open Classical in
theorem Pu {c : aR} {K : ak → Option (ao × Bool)} {G : Int → Option ao} {X : Option Bool} (d : Dec X (ra c)) (k : ra c → Con K G) :
    Con (fun s => (if s.C_ then some true else X.bind fun y => some (!y)).bind fun u => if u then some (zT, false) else K s) (fun a => if ra c then G a else none) := by
  refine ⟨fun a => ⟨_, rfl⟩, fun a f => ?_⟩
  rcases d.cases with ⟨e, h⟩ | ⟨e, h⟩
  · have hk := (k h).2 a f
    rw [e]
    refine ⟨fun st e => hk.1 st ?_, fun e => hk.2 ?_⟩
    · have e : (if ra c then G a else none) = some st := e
      rwa [if_pos h] at e
    · have e : (if ra c then G a else none) = none := e
      rwa [if_pos h] at e
  · rw [e]
    refine ⟨fun st e => ?_, fun _ => ⟨_, rfl⟩⟩
    have e : (if ra c then G a else none) = some st := e
    rw [if_neg h] at e
    cases e
theorem jQ {α : Type} {op : ak → Option (α × ak)} {P : Pz α} {K : ak → α × ak → Option (ao × Bool)} {G : α × Int → Option ao} (h : sy op P) (c : ∀ a v b, I64 a → P a = some (v, b) → I64 b)
    (k : ∀ d v, Con (fun s => K d (v, s)) (fun b => G (v, b))) : Con (fun s => (op s).bind (K s)) (fun a => (P a).bind G) := Mu (G := fun v b => G (v, b)) h c k
theorem MM {F : ak → ak → Option (ao × Bool)} {G : Int → Option ao} (h : ∀ c, Con (F c) G) : Con (fun s => F s s) G := ⟨fun a => (h ⟨a, true⟩).1 a, fun a d => (h ⟨a, false⟩).2 a d⟩
noncomputable def uA (p : List Int) (M : Pz au) (L : Pz (List aC)) (c : aR) : Int → Option ao := fun a =>
  (M.many c.j_.toNat a).bind fun d => ((ca p (gI p)).many (((c.g_.f_.length : Nat) : Int)).toNat d.2).bind fun e => (L e.2).bind fun f => some ⟨c, ⟨d.1⟩, ⟨e.1, f.1⟩⟩
open Classical in
noncomputable def um (c : aR) (G : Int → Option ao) : Int → Option ao := fun a => if ra c then G a else none
noncomputable def Fm (p : List Int) (s : aj) : Int → Option ao := fun a =>
  (gI p a).bind fun e => (gI p e.2).bind fun f => (gI p f.2).bind fun g => (gI p g.2).bind fun h => (gI p h.2).bind fun i => (gI p i.2).bind fun j => (tN p j.2).bind fun k => (gI p k.2).bind fun l => (gI p l.2).bind fun m => (gI p m.2).bind fun o => (gI p o.2).bind fun c => (gI p c.2).bind fun d =>
    um ⟨s, ⟨e.1, f.1, g.1, h.1, i.1, j.1, k.1⟩, l.1, m.1, o.1, c.1, d.1⟩ (uA p (Gt p) (ca p (wu p)) ⟨s, ⟨e.1, f.1, g.1, h.1, i.1, j.1, k.1⟩, l.1, m.1, o.1, c.1, d.1⟩) d.2
section
variable {p : List Int} (hb : dl p) (hp : p.length ≤ 1048576)
include hb hp
theorem OP (c : aj × Bool) (d e f g h i : Int × ak) (j : Bool × ak) (m o r t u : Int × ak) (ms : List au) (rows : List (List Int)) :
    Con (fun s => (bZ p s).bind fun y => eT p c d e f g h i j m o r t u ms rows aI y.1 [] y.2.c_ y.2.C_)
      (fun a => (ca p (wu p) a).bind fun v => some ⟨⟨c.1, ⟨d.1, e.1, f.1, g.1, h.1, i.1, j.1⟩, m.1, o.1, r.1, t.1, u.1⟩, ⟨ms⟩, ⟨rows, v.1⟩⟩) :=
  LP hb hp (Nn hb hp) (Bv hb hp) (fun k a q l n => eT p c d e f g h i j m o r t u ms rows k n l a q) (fun l s => some (⟨⟨c.1, ⟨d.1, e.1, f.1, g.1, h.1, i.1, j.1⟩, m.1, o.1, r.1, t.1, u.1⟩, ⟨ms⟩, ⟨rows, l⟩⟩, !s.C_))
    (fun k a q l n => by
      show eT p c d e f g h i j m o r t u ms rows (k + 1) n l a q = _
      rw [eT]
      unfold KJ rb
      simp only [Option.bind_assoc, Option.bind_some]) (fun l => Nz _)
theorem OV (c : aj × Bool) (A : c.1.f_.length ≤ 1000000) (d e f g h j : Int × ak) (m : Bool × ak) (o r t u v : Int × ak) (ms : List au) :
    Con (fun s => eQ c p d e f g h j m o r t u v ms aI 0 [] s.c_ s.C_)
      (fun a => ((ca p (gI p)).many (((c.1.f_.length : Nat) : Int)).toNat a).bind fun x => (ca p (wu p) x.2).bind fun w => some ⟨⟨c.1, ⟨d.1, e.1, f.1, g.1, h.1, j.1, m.1⟩, o.1, r.1, t.1, u.1, v.1⟩, ⟨ms⟩, ⟨x.1, w.1⟩⟩) :=
  Eu (BQ hb hp) (vh hb hp).i64 (by omega) (fun k a q l i => eQ c p d e f g h j m o r t u v ms k i l a q) (fun l s => (bZ p s).bind fun y => eT p c d e f g h j m o r t u v ms l aI y.1 [] y.2.c_ y.2.C_)
    (G := fun rows a => (ca p (wu p) a).bind fun w => some ⟨⟨c.1, ⟨d.1, e.1, f.1, g.1, h.1, j.1, m.1⟩, o.1, r.1, t.1, u.1, v.1⟩, ⟨ms⟩, ⟨rows, w.1⟩⟩)
    (fun k a q l i => by
      show eQ c p d e f g h j m o r t u v ms (k + 1) i l a q = _
      rw [eQ]) (fun l => OP hb hp c d e f g h j m o r t u v ms l)
theorem Py (c : aj × Bool) (x : c.1.f_.length ≤ 1000000) (e f g h j m : Int × ak) (o : Bool × ak) (d r t u v : Int × ak) (A : d.1 ≤ 1000000) :
    Con (fun s => ee d p c e f g h j m o r t u v aI 0 [] s.c_ s.C_)
      (uA p (Gt p) (ca p (wu p)) ⟨c.1, ⟨e.1, f.1, g.1, h.1, j.1, m.1, o.1⟩, d.1, r.1, t.1, u.1, v.1⟩) :=
  Eu (PE hb hp) (FR hb hp).i64 A (fun k a q l i => ee d p c e f g h j m o r t u v k i l a q) (fun l s => eQ c p e f g h j m o d r t u v l aI 0 [] s.c_ s.C_)
    (G := fun ms a => ((ca p (gI p)).many (((c.1.f_.length : Nat) : Int)).toNat a).bind fun w => (ca p (wu p) w.2).bind fun C => some ⟨⟨c.1, ⟨e.1, f.1, g.1, h.1, j.1, m.1, o.1⟩, d.1, r.1, t.1, u.1, v.1⟩, ⟨ms⟩, ⟨w.1, C.1⟩⟩)
    (fun k a q l i => by
      show ee d p c e f g h j m o r t u v (k + 1) i l a q = _
      rw [ee]
      unfold OG rb
      simp only [Option.bind_assoc, Option.bind_some]) (fun l => OV hb hp c x e f g h j m o d r t u v l)
noncomputable def LZ (p : List Int) (o : aj × Bool) : ak → Option (ao × Bool) := fun s =>
  (aM p s).bind fun c => (aM p c.2).bind fun d => (aM p d.2).bind fun e => (aM p e.2).bind fun f => (aM p f.2).bind fun g => (aM p g.2).bind fun h => (eJ p h.2).bind fun i => (aM p i.2).bind fun j => (aM p j.2).bind fun k => (aM p k.2).bind fun l => (aM p l.2).bind fun m => (aM p m.2).bind fun a =>
    (if a.2.C_ then some true else (ll (aR.mk o.1 (bw.mk c.1 d.1 e.1 f.1 g.1 h.1 i.1) j.1 k.1 l.1 m.1 a.1)).bind fun q => some (!q)).bind fun r => if r then some (zT, false) else ee j p o c d e f g h i k l m a aI 0 [] a.2.c_ a.2.C_
theorem KO (a : aj × Bool) (M : bV a.1) : Con (LZ p a) (Fm p a.1) := by
  have ri := zW hb hp
  have si := (pw hb hp).i64
  unfold LZ Fm
  refine jQ ri si fun Q i => ?_
  dsimp only
  refine jQ ri si fun v j => ?_
  dsimp only
  refine jQ ri si fun w k => ?_
  dsimp only
  refine jQ ri si fun x l => ?_
  dsimp only
  refine jQ ri si fun A m => ?_
  dsimp only
  refine jQ ri si fun C o => ?_
  dsimp only
  refine jQ (Ez hb hp) (vq hb hp).i64 fun D q => ?_
  dsimp only
  refine jQ ri si fun E d => ?_
  dsimp only
  refine jQ ri si fun G t => ?_
  dsimp only
  refine jQ ri si fun H u => ?_
  dsimp only
  refine jQ ri si fun g e => ?_
  dsimp only
  refine jQ ri si fun h f => ?_
  dsimp only
  refine Pu (c := ⟨a.1, ⟨i, j, k, l, m, o, q⟩, d, t, u, e, f⟩) (BA M) fun L => ?_
  have h1 : a.1.f_.length ≤ 1000000 := by have : (a.1.f_.length : Int) ≤ 3 := L.1.2.1.2; omega
  have P : d ≤ 1000000 := by have : d ≤ 4 := L.2.2.1.2; omega
  exact MM (F := fun r s => ee (d, G) p a (i, v) (j, w) (k, x) (l, A) (m, C) (o, D) (q, E) (t, H) (u, g) (e, h) (f, r) aI 0 [] s.c_ s.C_) fun r => Py hb hp a h1 (i, v) (j, w) (k, x) (l, A) (m, C) (o, D) (q, E) (d, G) (t, H) (u, g) (e, h) (f, r) P
end
end Go.Vk
/- States, read by the reference: what is read. -/
namespace Go.Vk
abbrev zM : au := ⟨⟨[], 0⟩, false, ⟨[], 0⟩, ⟨⟨[]⟩, ⟨[]⟩⟩⟩
def out (o : Option ao) : ao × Bool := match o with | some st => (st, true) | none => (zT, false)
def tV (n : Nat) (l : List Int) : List aC := (List.range n).map fun i => ⟨l.getD (2 * i) 0, l.getD (2 * i + 1) 0⟩
noncomputable def sr (p : List Int) : Pz (List aC) := fun a => (gI p a).bind fun y => if 0 ≤ y.1 ∧ y.1 ≤ 20 then ((gI p).many (2 * y.1.toNat) y.2).bind fun z => some (tV y.1.toNat z.1, z.2) else none
def cfL (s : aj) (l : List Int) : aR := ⟨s, ⟨l.getD 0 0, l.getD 1 0, l.getD 2 0, l.getD 3 0, l.getD 4 0, l.getD 5 0, l.getD 6 0 == 1⟩, l.getD 7 0, l.getD 8 0, l.getD 9 0, l.getD 10 0, l.getD 11 0⟩
noncomputable def Hu (p : List Int) (s : aj) : Int → Option ao := fun a => ((gI p).many 12 a).bind fun y => um (cfL s y.1) (uA p (uJ p) (sr p) (cfL s y.1)) y.2
section
variable {p : List Int} (hb : dl p) (hp : p.length ≤ 1048576)
include hb hp
theorem Mi : Dt (kV p) (Dc p) ⟨[]⟩ := fun a c => by
  unfold kV Dc Pz.map
  rw [Ew hb hp a c]
  cases ca p (ca p (gI p)) a with
  | none => rfl
  | some y => rfl
theorem Pf : Dt (mJ p) (uJ p) zM := fun a c => by
  have st := (rP hb hp).i64
  have sw := (sD hb hp).i64
  unfold mJ uJ Pz.bind
  rw [Jt hb hp a c]
  simp only [bS]
  cases g : sU p a with
  | none => rfl
  | some h =>
  have d := st a _ _ c g
  simp only [cS]
  rw [Eh hb hp _ d]
  simp only [bS]
  cases h1 : gI p h.2 with
  | none => rfl
  | some i =>
  have e := (pw hb hp).i64 _ _ _ d h1
  simp only [cS]
  rw [Jt hb hp _ e]
  simp only [bS]
  cases j : sU p i.2 with
  | none => rfl
  | some k =>
  have f := st _ _ _ e j
  simp only [cS]
  rw [Mi hb hp _ f]
  simp only [bS]
  cases l : Dc p k.2 with
  | none => rfl
  | some m =>
  have o := sw _ _ _ f l
  simp only [cS]
  rw [Mi hb hp _ o]
  simp only [bS]
  cases q : Dc p m.2 with
  | none => rfl
  | some r => rfl
omit hb hp in
theorem Ny {n : Int} {s t : Int} {u q1 : Bool} {vs : List Int} (C : 0 ≤ n ∧ n ≤ 20) (D : vs.length = 2 * n.toNat) (a : aj × Bool) (c d e f g h j m o p q r : Int) (ms : List au) (rows : List (List Int)) :
    dK (n, s, u) (vs, t, q1) a c d e f g h j m o p q r ms rows aI [] 0 = some (⟨⟨a.1, ⟨c, d, e, f, g, h, j == 1⟩, m, o, p, q, r⟩, ⟨ms⟩, ⟨rows, tV n.toNat vs⟩⟩, true) := by
  refine sk (n := n.toNat) (fun i => (⟨vs.getD (2 * i) 0, vs.getD (2 * i + 1) 0⟩ : aC)) (fun k l i => dK (n, s, u) (vs, t, q1) a c d e f g h j m o p q r ms rows k l i) (fun l => some (⟨⟨a.1, ⟨c, d, e, f, g, h, j == 1⟩, m, o, p, q, r⟩, ⟨ms⟩, ⟨rows, l⟩⟩, true)) (fun k l => ?_) (fun k l i E A => ?_) (by omega)
  · show dK (n, s, u) (vs, t, q1) a c d e f g h j m o p q r ms rows (k + 1) l _ = _
    rw [dK, if_neg (by rw [decide_eq_true_iff]; show ¬ ((n.toNat : Int) < n); omega)]
  · show dK (n, s, u) (vs, t, q1) a c d e f g h j m o p q r ms rows (k + 1) l _ = _
    have x : IntKind.i64.wrap (2 * (i : Int)) = ((2 * i : Nat) : Int) := by rw [bi (by omega) (by omega)]; omega
    have v : 2 * i < vs.length := by omega
    have w : 2 * i + 1 < vs.length := by omega
    rw [dK, if_pos (by rw [decide_eq_true_iff]; show (i : Int) < n; omega), x, aG (by omega), aX v, aX w]
    simp only [bS]
    rw [cJ (by simp; omega), aG (by omega)]
    simp [v, w]
theorem Ih (e : aj × Bool) (f g i j k l m o q r s t : Int) (ms : List au) (rows : List (List Int)) {a : Int} (D : I64 a) :
    ((da p a).bind fun d => (if (!d.2.2) then some true else (ba d.1 0 20).bind fun x => some (!x)).bind fun A => if A then some (zT, false) else (dB p d.2.1 (IntKind.i64.wrap (2 * d.1))).bind fun u => if (!u.2.2) then some (zT, false) else dK d u e f g i j k l m o q r s t ms rows aI [] 0) =
      some (out ((sr p a).bind fun F => some ⟨⟨e.1, ⟨f, g, i, j, k, l, m == 1⟩, o, q, r, s, t⟩, ⟨ms⟩, ⟨rows, F.1⟩⟩)) := by
  unfold sr
  rw [Eh hb hp a D]
  simp only [bS]
  cases G : gI p a with
  | none => rfl
  | some y =>
  obtain ⟨n, b⟩ := y
  have E := (pw hb hp).i64 _ _ _ D G
  simp only [cS]
  by_cases v : 0 ≤ n ∧ n ≤ 20
  · have C : ba n 0 20 = some true := by unfold ba; rw [decide_eq_true v.1, decide_eq_true v.2]; rfl
    have w : IntKind.i64.wrap (2 * n) = ((2 * n.toNat : Nat) : Int) := by rw [bi (by omega) (by omega)]; omega
    rw [C, if_pos v, w]
    simp only [cS]
    rw [yn hb hp (2 * n.toNat) b (by omega) E]
    simp only [bS]
    cases H : (gI p).many (2 * n.toNat) b with
    | none => rfl
    | some z =>
    obtain ⟨vs, c⟩ := z
    obtain ⟨M, L, P⟩ := mI (pw hb hp) _ _ _ _ E H
    simp only [cS]
    exact Ny v L e f g i j k l m o q r s t ms rows
  · have C : ba n 0 20 = some false := by
      unfold ba
      congr 1
      rw [Bool.eq_false_iff]
      intro h
      simp at h
      omega
    rw [C, if_neg v]
    rfl
theorem ML (c : aj × Bool) (G : c.1.f_.length ≤ 1000000) (e f g h j m o q r s t u : Int) (ms : List au) {a : Int} (A : I64 a) :
    fQ c p e f g h j m o q r s t u ms aI [] 0 a =
      some (out (((ca p (gI p)).many (((c.1.f_.length : Nat) : Int)).toNat a).bind fun C => (sr p C.2).bind fun D => some ⟨⟨c.1, ⟨e, f, g, h, j, m, o == 1⟩, q, r, s, t, u⟩, ⟨ms⟩, ⟨C.1, D.1⟩⟩)) := by
  have := xD (Cv hb hp) (lr hb hp) hp (n := (c.1.f_.length : Int)) (by omega) (fun k l i a => fQ c p e f g h j m o q r s t u ms k l i a)
    (fun l a => (da p a).bind fun d => (if (!d.2.2) then some true else (ba d.1 0 20).bind fun w => some (!w)).bind fun x => if x then some (zT, false) else (dB p d.2.1 (IntKind.i64.wrap (2 * d.1))).bind fun v => if (!v.2.2) then some (zT, false) else dK d v c e f g h j m o q r s t u ms l aI [] 0) (some (zT, false)) (fun k l i a => by
      show fQ c p e f g h j m o q r s t u ms (k + 1) l i a = _
      rw [fQ]) (((c.1.f_.length : Nat) : Int)).toNat aI 0 a [] (by omega) (cw (by omega)) (by omega) (by simp) (by omega) A
  refine this.trans ?_
  cases E : (ca p (gI p)).many (((c.1.f_.length : Nat) : Int)).toNat a with
  | none => rfl
  | some z =>
  have F := (mI (vh hb hp) _ _ _ _ A E).1
  exact Ih hb hp c e f g h j m o q r s t u ms ([] ++ z.1) F
theorem MX (d : aj × Bool) (w : d.1.f_.length ≤ 1000000) (e f g h j m o c q r s t : Int) (u : c ≤ 1000000) {a : Int} (v : I64 a) :
    fR c p d e f g h j m o q r s t aI [] 0 a = some (out (uA p (uJ p) (sr p) ⟨d.1, ⟨e, f, g, h, j, m, o == 1⟩, c, q, r, s, t⟩ a)) := by
  have := xD (Pf hb hp) (Hw hb hp) hp (n := c) (by omega) (fun k l i a => fR c p d e f g h j m o q r s t k l i a)
    (fun l a => fQ d p e f g h j m o c q r s t l aI [] 0 a) (some (zT, false)) (fun k l i a => by
      show fR c p d e f g h j m o q r s t (k + 1) l i a = _
      rw [fR]) c.toNat aI 0 a [] (by omega) (cw (by omega)) (by omega) (by simp) (by omega) v
  refine this.trans ?_
  unfold uA
  cases u : (uJ p).many c.toNat a with
  | none => rfl
  | some z =>
  have x := (mI (Gk hb hp) _ _ _ _ v u).1
  exact ML hb hp d w e f g h j m o c q r s t ([] ++ z.1) x
theorem JM (a : aj × Bool) (C : bV a.1) {vs : List Int} {b : Int} (V : vs.length = 12) (hb' : I64 b) :
    ((idx vs 0).bind fun g => (idx vs 1).bind fun j => (idx vs 2).bind fun k => (idx vs 3).bind fun l => (idx vs 4).bind fun m => (idx vs 5).bind fun o => (idx vs 6).bind fun q => (idx vs 7).bind fun r => (idx vs 8).bind fun s => (idx vs 9).bind fun t => (idx vs 10).bind fun u => (idx vs 11).bind fun v => (jX (aR.mk a.1 (bw.mk g j k l m o (q == 1)) r s t u v)).bind fun w => if (!w) then some (zT, false) else fR r p a g j k l m o q s t u v aI [] 0 b) =
      some (out (um (cfL a.1 vs) (uA p (uJ p) (sr p) (cfL a.1 vs)) b)) := by
  have d : ∀ i : Nat, i < 12 → idx vs (i : Int) = some (vs.getD i 0) := fun i X => by
    have h : i < vs.length := by omega
    rw [aX h]
    simp [h]
  have D : idx vs 0 = some (vs.getD 0 0) := d 0 (by omega)
  have h1 : idx vs 1 = some (vs.getD 1 0) := d 1 (by omega)
  have E : idx vs 2 = some (vs.getD 2 0) := d 2 (by omega)
  have F : idx vs 3 = some (vs.getD 3 0) := d 3 (by omega)
  have G : idx vs 4 = some (vs.getD 4 0) := d 4 (by omega)
  have H : idx vs 5 = some (vs.getD 5 0) := d 5 (by omega)
  have L : idx vs 6 = some (vs.getD 6 0) := d 6 (by omega)
  have M : idx vs 7 = some (vs.getD 7 0) := d 7 (by omega)
  have P : idx vs 8 = some (vs.getD 8 0) := d 8 (by omega)
  have Q : idx vs 9 = some (vs.getD 9 0) := d 9 (by omega)
  have x : idx vs 10 = some (vs.getD 10 0) := d 10 (by omega)
  have A : idx vs 11 = some (vs.getD 11 0) := d 11 (by omega)
  rw [D, h1, E, F, G, H, L, M, P, Q, x, A]
  simp only [bS]
  show (jX (cfL a.1 vs)).bind _ = _
  unfold um
  rcases (Cb (c := cfL a.1 vs) C).cases with ⟨e, f⟩ | ⟨e, f⟩
  · rw [e, if_pos f]
    simp only [cS]
    have R : a.1.f_.length ≤ 1000000 := by have : (a.1.f_.length : Int) ≤ 3 := f.1.2.1.2; omega
    have T : vs.getD 7 0 ≤ 1000000 := by have : vs.getD 7 0 ≤ 4 := f.2.2.1.2; omega
    exact MX hb hp a R _ _ _ _ _ _ _ _ _ _ _ _ T hb'
  · rw [e, if_neg f]
    rfl
end
end Go.Vk
