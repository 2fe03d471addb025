/- States are read as they were written. -/
import Derived.Test.YtckmlpmehdpmiaaGreatDoorR2K
namespace Go.Vk
theorem Km {p : List Int} {a : Int} (hb : dl p) (hp : p.length ≤ 1048576) (t : 0 ≤ a) (h1 : a ≤ 1000000000) : ∀ (d k i u : Nat), 5 - i = d → d < k → i ≤ 5 → u < 128 ^ i → ∀ r, dW a p k (u : Int) (i : Int) = some r → 0 ≤ r.1 := by
  intro d
  induction d with
  | zero =>
    intro k i u g hk h c r e
    obtain ⟨k, rfl⟩ := kS k (by omega)
    rw [dW, if_neg (by simp; omega)] at e
    obtain rfl := Option.some.inj e
    exact Int.le_refl 0
  | succ d ih =>
    intro k i u g hk h c r e
    obtain ⟨k, rfl⟩ := kS k (by omega)
    have l : IntKind.i64.wrap ((p.length : Int) - (i : Int)) = (p.length : Int) - i := bi (by omega) (by omega)
    rw [dW, if_pos (by simp; omega), l] at e
    by_cases v : a + i < p.length
    · have m : IntKind.i64.wrap (a + (i : Int)) = a + i := bi (by omega) (by omega)
      obtain ⟨j, o⟩ : ∃ j : Nat, a + (i : Int) = (j : Int) := ⟨(a + i).toNat, by omega⟩
      rw [m, if_neg (by simp; omega), o, aX (show j < p.length by omega)] at e
      simp only [bS] at e
      obtain ⟨n, q, s⟩ := zg hb (show j < p.length by omega)
      rw [q, gq (n := n) (by omega), show Int.tmod (n : Int) 128 = ((n % 128 : Nat) : Int) from mY n 128, yq _ (show 0 ≤ IntKind.i64.wrap (7 * (i : Int)) by rw [bi (by omega) (by omega)]; omega)] at e
      simp only [bS] at e
      have f : n % 128 < 128 := Nat.mod_lt _ (by omega)
      rw [xa f (by omega), HR c f (by omega)] at e
      split at e
      · split at e
        · obtain rfl := Option.some.inj e
          exact Int.le_refl 0
        · obtain rfl := Option.some.inj e
          exact Int.natCast_nonneg _
      · rw [aG (by omega)] at e
        refine ih k (i + 1) _ (by omega) (by omega) (by omega) ?_ r e
        have : n % 128 * 128 ^ i ≤ 127 * 128 ^ i := Nat.mul_le_mul_right _ (by omega)
        rw [Nat.pow_succ]; omega
    · rw [if_pos (by simp; omega)] at e
      obtain rfl := Option.some.inj e
      exact Int.le_refl 0
theorem Ga (l : List Int) : (dw l).length = l.length := by simp [dw]
theorem Gx (w : List UInt8) : dw (byS w) = w := by
  unfold dw byS
  rw [List.map_map]
  conv => rhs; rw [← List.map_id w]
  refine List.map_congr_left fun b _ => ?_
  show UInt8.ofNat ((b.toNat : Int)).toNat = b
  rw [Int.toNat_natCast]
  simp
theorem Mp {a b : Int} (c : 0 ≤ a ∧ a ≤ 255) (hb : 0 ≤ b ∧ b ≤ 255) (h : UInt8.ofNat a.toNat = UInt8.ofNat b.toNat) : a = b := by
  have := congrArg UInt8.toNat h
  simp only [UInt8.toNat_ofNat'] at this
  omega
theorem zQ : ∀ {a b : List Int}, dl a → dl b → dw a = dw b → a = b
  | [], [], _, _, _ => rfl
  | [], y :: b, _, _, h => by simp [dw] at h
  | x :: a, [], _, _, h => by simp [dw] at h
  | x :: a, y :: b, d, hb, h => by
    simp only [dw, List.map_cons, List.cons.injEq] at h
    rw [Mp (d x (by simp)) (hb y (by simp)) h.1, zQ (fun z c => d z (by simp [c])) (fun z c => hb z (by simp [c])) h.2]
theorem qN {a b : List Int} (c : dl a) (hb : dl b) : (dw a == dw b) = decide (a = b) := by
  rw [Bool.eq_iff_iff, beq_iff_eq, decide_eq_true_iff]
  exact ⟨zQ c hb, fun h => by rw [h]⟩
section
variable {p : List Int} (hb : dl p) (hp : p.length ≤ 1048576)
include hb hp
theorem uq : ∃ r, ke p 4 = some r ∧ np p 4 = some r ∧ (r.2.2 = true → r.1.length ≤ 1048575 ∧ I64 r.2.1) := by
  obtain ⟨y, c, d, h⟩ := Ab hb hp (a := 4) ⟨by omega, by omega⟩
  unfold ke np
  rw [c, d]
  simp only [bS]
  rcases h with ⟨h1, g, i, j⟩ | rfl
  · have k : 0 ≤ y.1 := Km hb hp (a := 4) (by omega) (by omega) 5 aI 0 0 (by omega) (cw (by omega)) (by omega) (by simp) y c
    rw [h1, bi (n := (p.length : Int) - y.2.1) (by omega) (by omega)]
    by_cases f : y.1 > (p.length : Int) - y.2.1
    · rw [if_pos (by simp [f])]
      exact ⟨_, rfl, rfl, fun h => by cases h⟩
    · rw [if_neg (by simp; omega), bi (n := y.2.1 + y.1) (by omega) (by omega)]
      have e : sub p y.2.1 (y.2.1 + y.1) = some ((p.drop y.2.1.toNat).take ((y.2.1 + y.1).toNat - y.2.1.toNat)) := if_pos ⟨by omega, by omega, by omega⟩
      rw [e]
      refine ⟨_, rfl, rfl, fun _ => ⟨?_, ?_, ?_⟩⟩
      · show (dw _).length ≤ _
        rw [Ga, List.length_take, List.length_drop]; omega
      · show -9223372036854775808 ≤ y.2.1 + y.1; omega
      · show y.2.1 + y.1 ≤ _; omega
  · exact ⟨_, rfl, rfl, fun h => by cases h⟩
omit hb in
theorem GL {w : List UInt8} {pre post : List Int} (k : w.length ≤ 3000) (d : pre.length = 4) (e : p = pre ++ pX w ++ post) : ke p 4 = some (w, ((pre.length + (pX w).length : Nat) : Int), true) := by
  have c := congrArg List.length e
  simp only [List.length_append, pX, ru] at c
  have := BH (p := p) (a := pre.length) hp (n := w.length) (by omega) 5 aI 0 (by omega) (cw (by omega)) (by omega) (by omega) ⟨byS w ++ post, by rw [e]; simp [pX]⟩
  simp only [Nat.pow_zero, Nat.mod_one, Nat.div_one, Nat.add_zero] at this
  have f : lf p 4 = some ((w.length : Int), ((pre.length + (pV w.length).length : Nat) : Int), true) := by rw [d] at this ⊢; exact this
  unfold ke
  rw [f]
  simp only [bS]
  rw [bi (by omega) (by omega), if_neg (by simp; omega), bi (by omega) (by omega)]
  have g : ((pre.length + (pV w.length).length : Nat) : Int) + (w.length : Int) = ((pre.length + (pV w.length).length + w.length : Nat) : Int) := by omega
  have h : (p.drop (pre.length + (pV w.length).length)).take (pre.length + (pV w.length).length + w.length - (pre.length + (pV w.length).length)) = byS w := by
    have i : p = (pre ++ pV w.length) ++ (byS w ++ post) := by rw [e]; simp [pX]
    have j : pre.length + (pV w.length).length = (pre ++ pV w.length).length := by rw [List.length_append]
    rw [i, j, List.drop_left, Nat.add_sub_cancel_left, ← ru w, List.take_left]
  rw [g, tq (by omega) (by omega), h]
  simp only [Option.bind_some, pX, List.length_append, ru, Gx, Nat.add_assoc]
end
def RdG (l : List Int) (G : Int → Option ao) (B : List Int) (st : ao) : Prop := ∀ pre post, l = pre ++ B ++ post → G (pre.length : Int) = some st
theorem iV {l : List Int} {α : Type} {P : Pz α} {G : α × Int → Option ao} {B C : List Int} {x : α} {st : ao} (h : pT l P B x) (k : RdG l (fun a => G (x, a)) C st) : RdG l (fun a => (P a).bind G) (B ++ C) st := fun pre post e => by
  show (P _).bind G = _
  rw [h pre (C ++ post) (by rw [e]; simp)]
  simp only [bS]
  have := k (pre ++ B) post (by rw [e]; simp)
  rw [List.length_append] at this
  exact this
theorem Nx {l : List Int} (st : ao) : RdG l (fun _ => some st) [] st := fun _ _ _ => rfl
theorem FV {l B : List Int} {c : aR} {G : Int → Option ao} {st : ao} (a : ra c) (h : RdG l G B st) : RdG l (um c G) B st := fun pre post e => by
  unfold um
  rw [if_pos a]
  exact h pre post e
theorem Im {l : List Int} {α : Type} {P : Pz α} {B C : List Int} {x : α} (e : C = B) (h : pT l P B x) : pT l P C x := by rw [e]; exact h
section
variable {l : List Int} (hp : l.length ≤ 1048576)
include hp
theorem Mh {m : au} (h : Ms m) : pT l (Gt l) (rm m) m := by
  obtain ⟨⟨i, _, a, c⟩, ⟨j, _, d, e⟩, ⟨k, f⟩, ⟨o, g⟩⟩ := h
  refine Im (B := rc m.H_ ++ (dh (rT m.T_) ++ (rc m.w_ ++ (yg m.K_.r_ ++ (yg m.K_.s_ ++ []))))) (by unfold rm; simp) ?_
  exact ef (yf hp a c (by omega)) (ef (Bu hp m.T_) (ef (yf hp d e (by omega)) (ef (Bc hp f (by omega)) (ef (Bc hp g (by omega)) (ye m)))))
theorem Lw {m : au} (h : Ms m) : pT l (uJ l) (rm m) m := by
  obtain ⟨⟨j, _, a, c⟩, ⟨k, _, d, f⟩, ⟨o, g⟩, ⟨p, i⟩⟩ := h
  refine Im (B := rc m.H_ ++ (dh (rT m.T_) ++ (rc m.w_ ++ (yg m.K_.r_ ++ (yg m.K_.s_ ++ []))))) (by unfold rm; simp) ?_
  have e : m = ⟨m.H_, rT m.T_ == 1, m.w_, ⟨m.K_.r_, m.K_.s_⟩⟩ := by
    have : (rT m.T_ == 1) = m.T_ := by cases m.T_ <;> rfl
    rw [this]
  have : pT l (uJ l) (rc m.H_ ++ (dh (rT m.T_) ++ (rc m.w_ ++ (yg m.K_.r_ ++ (yg m.K_.s_ ++ []))))) ⟨m.H_, rT m.T_ == 1, m.w_, ⟨m.K_.r_, m.K_.s_⟩⟩ := by
    unfold uJ
    refine ef (yf hp a c (by omega)) ?_
    refine ef (kv hp (yu m.T_)) ?_
    refine ef (yf hp d f (by omega)) ?_
    refine ef (Bc hp g (by omega)) ?_
    refine ef (Bc hp i (by omega)) ?_
    exact ye _
  rw [← e] at this
  exact this
theorem JP {xs : List aC} (c : xs.length ≤ 1000000) (h : ∀ x ∈ xs, InR x.R_ ∧ InR x.S_) : pT l (ca l (wu l)) (dh xs.length ++ xs.flatMap nX) xs :=
  uT hp c fun x a => Im (B := dh x.R_ ++ (dh x.S_ ++ [])) (by unfold nX; simp) (ef (kv hp (h x a).1) (ef (kv hp (h x a).2) (ye x)))
def tE (xs : List aC) : List Int := xs.flatMap fun x => [x.R_, x.S_]
omit hp in
theorem DX : ∀ (xs : List aC) (i : Nat) (h : i < xs.length), (tE xs).getD (2 * i) 0 = xs[i].R_ ∧ (tE xs).getD (2 * i + 1) 0 = xs[i].S_
  | [], i, h => by simp at h
  | x :: xs, 0, h => ⟨rfl, rfl⟩
  | x :: xs, i + 1, h => by
    have := DX xs i (by simpa using h)
    have e : tE (x :: xs) = x.R_ :: x.S_ :: tE xs := rfl
    rw [e, show 2 * (i + 1) = 2 * i + 1 + 1 by omega]
    exact this
omit hp in
theorem Kl (xs : List aC) : (tE xs).length = 2 * xs.length := by
  induction xs with
  | nil => rfl
  | cons x xs ih =>
    have e : tE (x :: xs) = x.R_ :: x.S_ :: tE xs := rfl
    rw [e]; simp only [List.length_cons, ih]; omega
omit hp in
theorem zZ (xs : List aC) : (tE xs).flatMap dh = xs.flatMap nX := by
  induction xs with
  | nil => rfl
  | cons x xs ih =>
    have e : tE (x :: xs) = x.R_ :: x.S_ :: tE xs := rfl
    rw [e, List.flatMap_cons, List.flatMap_cons, ih, List.flatMap_cons, nX, List.append_assoc]
omit hp in
theorem ED (xs : List aC) : tV xs.length (tE xs) = xs := by
  apply List.ext_getElem (by simp [tV])
  intro i h1 a
  obtain ⟨c, d⟩ := DX xs i a
  simp only [tV, List.getElem_map, List.getElem_range, c, d]
theorem JQ {xs : List aC} (g : xs.length ≤ 20) (h : ∀ x ∈ xs, InR x.R_ ∧ InR x.S_) : pT l (sr l) (dh xs.length ++ xs.flatMap nX) xs := fun pre post e => by
  have f : ∀ x ∈ tE xs, InR x := fun x a => by
    obtain ⟨y, c, a⟩ := List.mem_flatMap.1 a
    simp only [List.mem_cons, List.not_mem_nil, or_false] at a
    rcases a with rfl | rfl
    · exact (h y c).1
    · exact (h y c).2
  have h1 := kv hp (vW (n := xs.length) (by omega)) pre (xs.flatMap nX ++ post) (by rw [e]; simp)
  have d := vB (l := l) (P := gI l) (B := dh) (tE xs) (fun x a => kv hp (f x a)) (pre ++ dh xs.length) post (by rw [e, zZ]; simp)
  rw [Kl, zZ, List.length_append] at d
  unfold sr
  rw [h1]
  simp only [bS]
  rw [if_pos ⟨by omega, by omega⟩, Int.toNat_natCast, d]
  simp only [Option.bind_some, ED, List.length_append, Nat.add_assoc]
theorem Gq {st : ao} (a : nJ st) (h : StG st) {M : Pz au} {L : Pz (List aC)} (d : ∀ m ∈ st.z_.j_, pT l M (rm m) m) (f : pT l L (dh st.m_.n_.length ++ st.m_.n_.flatMap nX) st.m_.n_) :
    RdG l (uA l M L st.a_) (st.z_.j_.flatMap rm ++ pW st) st := by
  have g : st.a_.j_.toNat = st.z_.j_.length := by have := a.1.2.1; omega
  have i : (((st.a_.g_.f_.length : Nat) : Int)).toNat = st.m_.o_.length := by
    have := a.2.2.1
    rw [Int.toNat_natCast]
    omega
  have k : RdG l (uA l M L st.a_) (st.z_.j_.flatMap rm ++ (st.m_.o_.flatMap iI ++ ((dh st.m_.n_.length ++ st.m_.n_.flatMap nX) ++ []))) st := by
    unfold uA
    rw [g, i]
    refine iV (vB _ d) ?_
    dsimp only
    refine iV (vB (B := iI) _ fun r c => tL hp (by have := (h.row r c).2; omega) (h.row r c).1) ?_
    dsimp only
    exact iV f (Nx st)
  have e : pW st = st.m_.o_.flatMap iI ++ ((dh st.m_.n_.length ++ st.m_.n_.flatMap nX) ++ []) := by unfold pW; simp
  rw [e]
  exact k
theorem NF {st : ao} (a : nJ st) (h : StG st) : RdG l (Fm l st.a_.g_) (jL (jY st ++ ku st) ++ (st.z_.j_.flatMap rm ++ pW st)) st := by
  have d := h.numA
  have f := h.numC
  simp only [jY, ku, List.mem_cons, List.not_mem_nil, or_false, forall_eq_or_imp, forall_eq] at d f
  obtain ⟨g, i, j, k, o, p, r⟩ := d
  obtain ⟨c0, c1, c2, c3, c4⟩ := f
  have e : jL (jY st ++ ku st) ++ (st.z_.j_.flatMap rm ++ pW st) = dh st.a_.b_.L_ ++ (dh st.a_.b_.N_ ++ (dh st.a_.b_.M_ ++ (dh st.a_.b_.h_ ++ (dh st.a_.b_.e_ ++ (dh st.a_.b_.E_ ++ (dh (rT st.a_.b_.Q_) ++ (dh st.a_.j_ ++ (dh st.a_.O_ ++ (dh st.a_.P_ ++ (dh st.a_.r_ ++ (dh st.a_.s_ ++ (st.z_.j_.flatMap rm ++ pW st)))))))))))) := by
    simp [jY, ku, jL]
  rw [e]
  unfold Fm
  refine iV (kv hp g) ?_
  dsimp only
  refine iV (kv hp i) ?_
  dsimp only
  refine iV (kv hp j) ?_
  dsimp only
  refine iV (kv hp k) ?_
  dsimp only
  refine iV (kv hp o) ?_
  dsimp only
  refine iV (kv hp p) ?_
  dsimp only
  refine iV (Bu hp st.a_.b_.Q_) ?_
  dsimp only
  refine iV (kv hp c0) ?_
  dsimp only
  refine iV (kv hp c1) ?_
  dsimp only
  refine iV (kv hp c2) ?_
  dsimp only
  refine iV (kv hp c3) ?_
  dsimp only
  refine iV (kv hp c4) ?_
  dsimp only
  exact FV (c := st.a_) a.1.1 (Gq hp a h (fun m q => Mh hp (h.mem m q)) (JP hp (by have := h.lasts; omega) h.last))
theorem NV {st : ao} (c : nJ st) (h : StG st) : RdG l (Hu l st.a_.g_) (jL (jY st ++ ku st) ++ (st.z_.j_.flatMap rm ++ pW st)) st := by
  have e : cfL st.a_.g_ (jY st ++ ku st) = st.a_ := by
    have : (rT st.a_.b_.Q_ == 1) = st.a_.b_.Q_ := by cases st.a_.b_.Q_ <;> rfl
    show (⟨st.a_.g_, ⟨_, _, _, _, _, _, rT st.a_.b_.Q_ == 1⟩, _, _, _, _, _⟩ : aR) = _
    rw [this]
    rfl
  have d : ∀ x ∈ jY st ++ ku st, InR x := fun x a => (List.mem_append.1 a).elim (h.numA x) (h.numC x)
  unfold Hu
  refine iV (vB (B := dh) (jY st ++ ku st) fun x a => kv hp (d x a)) ?_
  show RdG l (um (cfL st.a_.g_ (jY st ++ ku st)) (uA l (uJ l) (sr l) (cfL st.a_.g_ (jY st ++ ku st)))) _ st
  rw [e]
  exact FV c.1.1 (Gq hp c h (fun m f => Lw hp (h.mem m f)) (JQ hp h.lasts h.last))
end
end Go.Vk
/- States out of their bytes: alike. -/
namespace Go.Vk
def Iq (G : Int → Option ao) : Prop := ∀ a st, I64 a → G a = some st → iJ st
theorem gJ {α : Type} {P : Pz α} {Q : α → Prop} {G : α × Int → Option ao} (h : Sat P Q) (k : ∀ v, Q v → Iq (fun b => G (v, b))) : Iq (fun a => (P a).bind G) := fun a st c e => by
  obtain ⟨y, d, f⟩ := ce e
  obtain ⟨i, q⟩ := h a y.1 y.2 c d
  exact k y.1 q y.2 st i f
theorem Ed {c : aR} {G : Int → Option ao} (h : ra c → Iq G) : Iq (um c G) := fun a st d e => by
  unfold um at e
  split at e
  · rename_i f
    exact h f a st d e
  · cases e
theorem DT {p : List Int} (hb : dl p) (hp : p.length ≤ 1048576) {M : Pz au} {L : Pz (List aC)} {c : aR} (g : Ch c) (d : ra c) (h : Sat M oE) (i : Sat L vI) : Iq (uA p M L c) := by
  unfold uA
  refine gJ (mI h _) fun ms h1 => ?_
  dsimp only
  refine gJ (mI (vh hb hp) _) fun rows f => ?_
  dsimp only
  refine gJ i fun last j => fun a st l e => ?_
  obtain rfl := Option.some.inj e
  have m : c.j_ ≤ 4 := d.2.2.1.2
  have o : (c.g_.f_.length : Int) ≤ 3 := d.1.2.1.2
  exact ⟨g, ⟨by show ms.length ≤ _; have := h1.1; omega, h1.2⟩, ⟨by show rows.length ≤ _; have := f.1; omega, fun y k => CQ (f.2 y k)⟩, j⟩
section
variable {p : List Int} (hb : dl p) (hp : p.length ≤ 1048576)
include hb hp
theorem JW : Sat (sr p) vI := fun a v b f e => by
  unfold sr at e
  obtain ⟨y, g, e⟩ := ce e
  have h := (pw hb hp).i64 _ _ _ f g
  split at e
  · rename_i o
    obtain ⟨z, j, e⟩ := ce e
    obtain ⟨rfl, rfl⟩ := Prod.mk.inj (Option.some.inj e)
    obtain ⟨k, h1, l⟩ := mI (pw hb hp) _ _ _ _ h j
    have d : ∀ i, InR (z.1.getD i 0) := fun i => by
      by_cases c : i < z.1.length
      · have e : z.1.getD i 0 = z.1[i] := by simp [c]
        rw [e]; exact l _ (List.getElem_mem c)
      · have e : z.1.getD i 0 = 0 := by simp [c]
        rw [e]; exact ⟨by omega, by omega⟩
    refine ⟨k, by show (tV _ _).length ≤ _; simp [tV]; omega, fun x m => ?_⟩
    obtain ⟨i, _, rfl⟩ := List.mem_map.1 m
    exact ⟨mb (d _), mb (d _)⟩
  · cases e
theorem KX {s : aj} (d : bV s) : Iq (Fm p s) := by
  have i := pw hb hp
  unfold Fm
  refine gJ i fun t e => ?_
  dsimp only
  refine gJ i fun u h1 => ?_
  dsimp only
  refine gJ i fun v f => ?_
  dsimp only
  refine gJ i fun w g => ?_
  dsimp only
  refine gJ i fun x h => ?_
  dsimp only
  refine gJ i fun A j => ?_
  dsimp only
  refine gJ (vq hb hp) fun C _ => ?_
  dsimp only
  refine gJ i fun D k => ?_
  dsimp only
  refine gJ i fun E l => ?_
  dsimp only
  refine gJ i fun F m => ?_
  dsimp only
  refine gJ i fun q a => ?_
  dsimp only
  refine gJ i fun r c => ?_
  dsimp only
  exact Ed fun o => DT hb hp ⟨d, ⟨mb e, mb h1, mb f, mb g, mb h, mb j, trivial⟩, mb k, mb l, mb m, mb a, mb c⟩ o (FR hb hp) (xU hb hp (Bv hb hp) (KW hb hp))
theorem KN {s : aj} (d : bV s) : Iq (Hu p s) := by
  unfold Hu
  refine gJ (mI (pw hb hp) 12) fun vs f => ?_
  dsimp only
  have a : ∀ i, -9223372036854775808 ≤ vs.getD i 0 ∧ vs.getD i 0 ≤ 9223372036854775807 := fun i => by
    by_cases c : i < vs.length
    · have e : vs.getD i 0 = vs[i] := by simp [c]
      rw [e]; exact mb (f.2 _ (List.getElem_mem c))
    · have e : vs.getD i 0 = 0 := by simp [c]
      rw [e]; exact ⟨by omega, by omega⟩
  exact Ed fun g => DT hb hp ⟨d, ⟨a 0, a 1, a 2, a 3, a 4, a 5, trivial⟩, a 7, a 8, a 9, a 10, a 11⟩ g (Gk hb hp) (JW hb hp)
theorem Oa {w : List UInt8} {a : Int} {s : aj} (h1 : ke p 4 = some (w, a, true)) (e : jf w = some (s, true)) (f : bV s) (d : I64 a) : gE p = some (out (Hu p s a)) := by
  have g : dB p a 12 = some (match (gI p).many 12 a with | some (vs, c) => (vs, c, true) | none => ([], 0, false)) := yn hb hp 12 a (by omega) d
  unfold gE Hu
  rw [h1]
  simp only [cS]
  rw [e]
  simp only [Option.bind_some, Bool.not_true, Bool.false_or]
  rw [g]
  simp only [bS]
  cases h : (gI p).many 12 a with
  | none => rfl
  | some z =>
  obtain ⟨vs, c⟩ := z
  obtain ⟨i, j, k⟩ := mI (pw hb hp) _ _ _ _ d h
  exact JM hb hp (s, true) f j i
theorem Kr : Tot (gE p) (fun r => r.2 = true → iJ r.1) := by
  obtain ⟨⟨w, a, q⟩, e, _, h⟩ := uq hb hp
  cases q with
  | false =>
    unfold gE
    rw [e]
    exact cx fun h => by cases h
  | true =>
    obtain ⟨i, f⟩ := h rfl
    obtain ⟨⟨s, q⟩, g, d⟩ := (xF i).1
    cases q with
    | true =>
      have d := (d rfl).2
      rw [Oa hb hp e g d f]
      refine cx ?_
      cases h : Hu p s a with
      | none => intro h; cases h
      | some st => exact fun _ => KN hb hp d a st f h
    | false =>
      unfold gE
      rw [e]
      simp only [cS]
      rw [g]
      simp only [Option.bind_some, Bool.not_false, Bool.true_or, if_true]
      have j : dB p a 12 = some (match (gI p).many 12 a with | some (vs, c) => (vs, c, true) | none => ([], 0, false)) := yn hb hp 12 a (by omega) f
      rw [j]
      exact cx fun h => by cases h
theorem Oy {w : List UInt8} {a : Int} {s : aj} (h1 : np p 4 = some (w, a, true)) (c : ji w = some (s, true)) (d : bV s) (f : I64 a) :
    (∀ st, Fm p s a = some st → dS p = some (st, true)) ∧ (Fm p s a = none → ∃ v, dS p = some (v, false)) := by
  have hk := (KO hb hp (s, true) d).2 a f
  have e : dS p = LZ p (s, true) ⟨a, false⟩ := by
    unfold dS
    rw [h1]
    simp only [cS]
    rw [c]
    simp only [cS]
    rfl
  rw [e]
  exact hk
theorem JC : Tot (dS p) (fun r => r.2 = true → iJ r.1) := by
  obtain ⟨⟨w, a, q⟩, _, d, h⟩ := uq hb hp
  cases q with
  | false =>
    unfold dS
    rw [d]
    exact cx fun h => by cases h
  | true =>
    obtain ⟨i, f⟩ := h rfl
    obtain ⟨⟨s, q⟩, g, c⟩ := (xF i).2
    cases q with
    | true =>
      have c := (c rfl).2
      obtain ⟨j, k⟩ := Oy hb hp d g c f
      cases h : Fm p s a with
      | none =>
        obtain ⟨v, e⟩ := k h
        rw [e]
        exact cx fun h => by cases h
      | some st =>
        rw [j st h]
        exact cx fun _ => KX hb hp c a st f h
    | false =>
      unfold dS
      rw [d]
      simp only [cS]
      rw [g]
      exact cx fun h => by cases h
end
theorem Ia {st : ao} (a : iJ st) (c : nJ st) : gE (nE st) = some (st, true) ∧ dS (nE st) = some (st, true) := by
  have d := stG a c
  have q := Fs9 d
  have hb := xl st
  obtain ⟨_, _, g⟩ := sQ a.1.1 c.1.1.1
  have eB : nE st = [83, 80, 78, 1] ++ pX (ix st.a_.g_) ++ (jL (jY st ++ ku st) ++ (st.z_.j_.flatMap rm ++ pW st)) := by unfold nE ux; simp
  have e := GL (p := nE st) (by omega) g (pre := [83, 80, 78, 1]) rfl eB
  obtain ⟨r, h, i, j⟩ := uq hb (p := nE st) (by omega)
  obtain rfl := Option.some.inj (e.symm.trans h)
  obtain ⟨_, f⟩ := j rfl
  obtain ⟨m, o⟩ := FD a.1.1 c.1.1.1
  have ePos : ([83, 80, 78, 1] ++ pX (ix st.a_.g_)).length = ([83, 80, 78, 1] : List Int).length + (pX (ix st.a_.g_)).length := by rw [List.length_append]
  refine ⟨?_, ?_⟩
  · have k := NV (l := nE st) (by omega) c d ([83, 80, 78, 1] ++ pX (ix st.a_.g_)) [] (by rw [List.append_nil]; exact eB)
    rw [ePos] at k
    rw [Oa hb (by omega) e m a.1.1 f, k]
    rfl
  · have k := NF (l := nE st) (by omega) c d ([83, 80, 78, 1] ++ pX (ix st.a_.g_)) [] (by rw [List.append_nil]; exact eB)
    rw [ePos] at k
    exact (Oy hb (by omega) i o a.1.1 f).1 st k
def Mv (p : List Int) (st : ao) : Prop := iJ st ∧ nJ st ∧ eA st = some p
theorem DH {p : List Int} {st : ao} (h : Mv p st) : p.take (p.length - 4) = nE st ∧ fi st = some p := by
  obtain ⟨s, _, _, a, c, d⟩ := Bx h.1 h.2.1
  obtain rfl := Option.some.inj (c.symm.trans h.2.2)
  refine ⟨?_, d⟩
  rw [List.length_append, a, Nat.add_sub_cancel, List.take_left]
theorem JU {p : List Int} {st : ao} (h : Mv p st) : gE (p.take (p.length - 4)) = some (st, true) ∧ dS (p.take (p.length - 4)) = some (st, true) := by
  rw [(DH h).1]
  exact Ia h.1 h.2.1
theorem yQ {p : List Int} {s : List Int} (h : ga p = some s) : dl s := by
  have c : ∀ n : Int, 0 ≤ IntKind.u8.wrap n ∧ IntKind.u8.wrap n ≤ 255 := fun n => by
    show 0 ≤ (if (false && decide (n % (256 : Int) ≥ (128 : Int))) = true then n % (256 : Int) - (256 : Int) else n % (256 : Int)) ∧ (if (false && decide (n % (256 : Int) ≥ (128 : Int))) = true then n % (256 : Int) - (256 : Int) else n % (256 : Int)) ≤ 255
    simp only [Bool.false_and, Bool.false_eq_true, if_false]
    omega
  unfold ga at h
  obtain ⟨r, _, e⟩ := Option.bind_eq_some_iff.1 h
  obtain rfl := Option.some.inj e
  intro x a
  simp only [List.mem_cons, List.not_mem_nil, or_false] at a
  rcases a with rfl | rfl | rfl | rfl <;> exact c _
theorem Ac {st : ao} (a : iJ st) {m : List Int} (h : eA st = some m) : dl m := by
  by_cases c : nJ st
  · obtain ⟨s, h1, _, _, d, _⟩ := Bx a c
    obtain rfl := Option.some.inj (d.symm.trans h)
    exact cV (xl st) (yQ h1)
  · obtain rfl := Option.some.inj ((Ep a c).1.symm.trans h)
    intro x e; cases e
theorem KA {p : List Int} (hb : dl p) (hp : p.length ≤ 1048576) (v : 8 ≤ p.length) : ∃ m,
    ((gE (p.take (p.length - 4))).bind fun d => (if (!d.2) then some true else (lA d.1).bind fun j => some (!j)).bind fun k => if k then some (zT, (5 : Int)) else (eA d.1).bind fun l => if (!((dw l) == (dw p))) then some (zT, 5) else some (d.1, 0)) = some m ∧
    ((dS (p.take (p.length - 4))).bind fun g => (if (!g.2) then some true else (fi g.1).bind fun w => (gV w p).bind fun o => some (!o)).bind fun A => if A then some (zT, (5 : Int)) else some (g.1, 0)) = some m ∧ (m = (zT, 5) ∨ ∃ st, Mv p st ∧ m = (st, 0)) := by
  have hb' : dl (p.take (p.length - 4)) := fun x F => hb x (List.mem_of_mem_take F)
  have hp' : (p.take (p.length - 4)).length ≤ 1048576 := by rw [List.length_take]; omega
  obtain ⟨r, e, G⟩ := Kr hb' hp'
  obtain ⟨r', e', hr'⟩ := JC hb' hp'
  have fin : ∀ {st : ao}, iJ st → ∃ m, eA st = some m ∧ fi st = some m ∧ (dw m == dw p) = decide (m = p) ∧ (m = p → nJ st) := fun {st} a => by
    by_cases f : nJ st
    · obtain ⟨s, h1, _, R, C, H⟩ := Bx a f
      exact ⟨_, C, H, qN (Ac a C) hb, fun _ => f⟩
    · obtain ⟨h1, L⟩ := Ep a f
      refine ⟨[], h1, L, qN (Ac a h1) hb, fun h => ?_⟩
      rw [← h] at v
      simp at v
  by_cases c : ∃ st, Mv p st
  · obtain ⟨st, c⟩ := c
    obtain ⟨M, P⟩ := JU c
    have Q := (DH c).2
    refine ⟨(st, 0), ?_, ?_, .inr ⟨st, c, rfl⟩⟩
    · rw [M]
      simp only [cS]
      rw [(tG c.1).val c.2.1]
      simp only [cS]
      rw [c.2.2]
      simp
    · rw [P]
      simp only [cS]
      rw [Q]
      simp [gV]
  · refine ⟨(zT, 5), ?_, ?_, .inl rfl⟩
    · rw [e]
      obtain ⟨st, q⟩ := r
      cases q with
      | false => rfl
      | true =>
        have a := G rfl
        simp only [cS]
        rcases (tG a).cases with ⟨t, f⟩ | ⟨t, f⟩
        · obtain ⟨m, i, D, u, E⟩ := fin a
          rw [t]
          simp only [cS]
          rw [i]
          simp only [bS]
          rw [u, decide_eq_false fun h => c ⟨st, a, f, by rw [i, h]⟩]
          rfl
        · rw [t]; rfl
    · rw [e']
      obtain ⟨st, q⟩ := r'
      cases q with
      | false => rfl
      | true =>
        have a := hr' rfl
        simp only [cS]
        obtain ⟨m, i, D, u, E⟩ := fin a
        rw [D]
        simp only [Option.bind_some, gV]
        rw [u, decide_eq_false fun h => c ⟨st, a, E h, by rw [i, h]⟩]
        rfl
theorem Fv {p : List Int} (hb : dl p) (hp : p.length ≤ 1048576) : ∃ m, ly p = some m ∧ kf p = some m ∧ ((m.1 = zT ∧ 1 ≤ m.2 ∧ m.2 ≤ 5) ∨ (Mv p m.1 ∧ m.2 = 0)) := by
  unfold ly kf
  by_cases q : p.length < 8
  · rw [if_pos (by simp; omega), if_pos (by simp; omega)]
    exact ⟨(zT, 1), rfl, rfl, .inl ⟨rfl, by decide, by decide⟩⟩
  rw [if_neg (by simp; omega), if_neg (by simp; omega)]
  have t := KA hb hp (by omega)
  have u : IntKind.i64.wrap ((p.length : Int) - 4) = ((p.length - 4 : Nat) : Int) := by rw [bi (by omega) (by omega)]; omega
  have v : sub p 0 ((p.length - 4 : Nat) : Int) = some (p.take (p.length - 4)) := by
    have := tq (xs := p) (f := 0) (i := p.length - 4) (by omega) (by omega)
    simpa using this
  have w : sub p ((p.length - 4 : Nat) : Int) (p.length : Int) = some (p.drop (p.length - 4)) := by
    rw [tq (by omega) (Nat.le_refl _), List.take_of_length_le (by rw [List.length_drop]; omega)]
  have hb' : dl (p.take (p.length - 4)) := fun x a => hb x (List.mem_of_mem_take a)
  have k : dl (p.drop (p.length - 4)) := fun x a => hb x (List.mem_of_mem_drop a)
  obtain ⟨s, c1, c2, c3⟩ := Ex hb' (by rw [List.length_take]; omega)
  rw [u, v, w]
  simp only [bS]
  rw [c1, c2]
  simp only [Option.bind_some, gV]
  rw [qN (yQ c1) k, qN k (yQ c1)]
  obtain ⟨x0, x1, x2, c, r, a⟩ : ∃ x0 x1 x2 c r, p = x0 :: x1 :: x2 :: c :: r := by
    match p, q with
    | x0 :: x1 :: x2 :: c :: r, _ => exact ⟨x0, x1, x2, c, r, rfl⟩
    | [], h => simp at h
    | [_], h => simp at h
    | [_, _], h => simp at h
    | [_, _, _], h => simp at h
  have A : idx p 0 = some x0 := by rw [a]; rfl
  have C : idx p 1 = some x1 := by rw [a]; rfl
  have D : idx p 2 = some x2 := by rw [a]; rfl
  have E : idx p 3 = some c := by rw [a]; rfl
  have F : sub p 0 3 = some [x0, x1, x2] := by
    have := tq (xs := p) (f := 0) (i := 3) (by omega) (by omega)
    have e : (p.drop 0).take (3 - 0) = [x0, x1, x2] := by rw [a]; rfl
    rw [e] at this
    exact this
  have G : dl [x0, x1, x2] := fun x h => hb x (by rw [a]; simp only [List.mem_cons, List.not_mem_nil, or_false] at h ⊢; rcases h with rfl | rfl | rfl <;> simp)
  have H : (dw [x0, x1, x2] == ([83, 80, 78] : List UInt8)) = decide ([x0, x1, x2] = [83, 80, 78]) := qN (b := [83, 80, 78]) G (fun x h => by simp only [List.mem_cons, List.not_mem_nil, or_false] at h; omega)
  rw [A, C, D, E, F]
  simp only [bS]
  rw [H]
  by_cases l : x0 = 83 ∧ x1 = 80 ∧ x2 = 78
  · obtain ⟨rfl, rfl, rfl⟩ := l
    simp only [bne_self_eq_false, Bool.false_eq_true, if_false, Option.bind_some, decide_true, Bool.not_true]
    by_cases h1 : c = 1
    · subst h1
      simp only [bne_self_eq_false, Bool.false_eq_true, if_false]
      by_cases g : s = p.drop (p.length - 4)
      · rw [decide_eq_true g, decide_eq_true g.symm]
        simp only [Bool.not_true, Bool.false_eq_true, if_false]
        obtain ⟨m, L, M, P⟩ := t
        refine ⟨m, L, M, ?_⟩
        rcases P with rfl | ⟨st, Q, rfl⟩
        · exact .inl ⟨rfl, by decide, by decide⟩
        · exact .inr ⟨Q, rfl⟩
      · rw [decide_eq_false g, decide_eq_false fun h => g h.symm]
        exact ⟨(zT, 4), rfl, rfl, .inl ⟨rfl, by decide, by decide⟩⟩
    · have : (c != 1) = true := by simpa using h1
      rw [this]
      exact ⟨(zT, 3), rfl, rfl, .inl ⟨rfl, by decide, by decide⟩⟩
  · have R : decide ([x0, x1, x2] = [83, 80, 78]) = false := decide_eq_false fun h => l (by simpa using h)
    rw [R]
    refine ⟨(zT, 2), ?_, rfl, .inl ⟨rfl, by decide, by decide⟩⟩
    by_cases j : x0 = 83
    · by_cases o : x1 = 80
      · have d : (x2 != 78) = true := by
          have : x2 ≠ 78 := fun h => l ⟨j, o, h⟩
          simpa using this
        subst j o
        simp only [bne_self_eq_false, Bool.false_eq_true, if_false, Option.bind_some, d, if_true]
      · have d : (x1 != 80) = true := by simpa using o
        subst j
        simp only [bne_self_eq_false, Bool.false_eq_true, if_false, Option.bind_some, d, if_true]
    · have d : (x0 != 83) = true := by simpa using j
      simp only [Option.bind_some, d, if_true]
end Go.Vk
/- States out of their bytes: the statement's own bounds. -/
namespace Go.Vk
theorem vJ (l : List Int) : eU l = l.length := by unfold eU; rw [CP]
theorem EM (l : List (List Int)) : eR l = uv l := by
  unfold eR uv
  induction l with
  | nil => rfl
  | cons x l ih =>
    rw [List.map_cons, List.sum_cons, ih, vJ]
    simp only [List.map_cons, List.sum_cons, List.length_cons]
    omega
theorem Ho {t : ax} (h : szU t ≤ 4000) : iO t.e_ ≤ 32000 := by
  unfold szU at h
  have : ∀ l : List az, iO l = 8 * l.length + (l.map szM).sum := fun l => by
    unfold iO
    induction l with
    | nil => rfl
    | cons x l ih =>
      rw [List.map_cons, List.sum_cons, ih, vJ, vJ, vJ, EM]
      simp only [List.map_cons, List.sum_cons, List.length_cons, szM]
      omega
  rw [this]; omega
theorem IW (l : List (List UInt8)) : jE l = l.length := by unfold jE; rw [CP]
theorem KU {st : ao} (e : iJ st) (f : nJ st) : qL st ≤ 1000000000000000000 := by
  have c := stG e f
  have g := f.1.1.1
  have h1 := c.mems
  have i : oH st.z_.j_ ≤ 70000 * st.z_.j_.length := by
    unfold oH
    refine sF fun m i => ?_
    obtain ⟨t, y, w, d⟩ := c.mem m i
    have h1 := Ho t.1
    have j := Ho y.1
    have l := w.1
    have o := d.1
    rw [EM, EM]
    omega
  have k : sx st.a_.g_.d_ ≤ 3000000 * st.a_.g_.d_.length := by
    unfold sx
    refine sF fun a k => ?_
    have h := e.1.1.1.2 a k
    have h1 := h.2.1.1
    have j := h.2.2.1
    rw [vJ, IW]
    omega
  have q : eR st.m_.o_ ≤ 4 * st.m_.o_.length := by
    unfold eR
    refine sF fun r p => ?_
    have := (c.row r p).2
    rw [vJ]; omega
  have s : uU st.m_.n_ ≤ 2 * st.m_.n_.length := sF fun _ _ => Nat.le_refl _
  have j := c.rows
  have l := c.lasts
  have o := g.1
  have u := g.2.1
  unfold qL wa rA rE tC
  rw [IW]
  omega
theorem Ii {b : List Int} (h : vC b) : ∃ m, ly b = some m ∧ kf b = some m ∧ tx m.1 ∧ qL m.1 ≤ 1000000000000000000 := by
  obtain ⟨m, h1, d, f⟩ := Fv (p := b) h.2 h.1
  refine ⟨m, h1, d, ?_⟩
  rcases f with ⟨e, _⟩ | ⟨c, _⟩
  · rw [e]
    exact ⟨⟨⟨⟨by simp, fun y a => by cases a⟩, by show ([] : List (List UInt8)).length < _; simp⟩, ⟨by simp, fun y a => by cases a⟩, ⟨by simp, fun y a => by cases a⟩, by show ([] : List aC).length < _; simp⟩, by simp [qL, wa, rA, sx, jE, rE, oH, tC, eR, uU]⟩
  · exact ⟨FC c.1, KU c.1 c.2.1⟩
end Go.Vk
