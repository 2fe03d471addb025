/- The laws' types: weighed, copied, compared; the rows' frames. Printed by program. -/
import Derived.Test.YtckmlpmehdpmiaaGreatDoorRF
import Derived.Test.YtckmlpmehdpmiaaGreatDoorVkBr
namespace Go.Vk
theorem Fg {a b : List UInt8} (h : a.length + b.length ≤ 10000) : mB a b = some (a ++ b) := by
  unfold mB
  rw [if_pos (by omega)]
theorem Ah {m : Nat} (h : m + 1 < 4611686018427387905) : ∃ t, ji (m : Int) = some t := by
  have key : ∀ (d k i : Nat) (s : List UInt8), i < 10 ^ d → i < 4611686018427387905 → d < k → s.length + d ≤ 1000 → ∃ t, ie k (i : Int) s = some t := by
    intro d
    induction d with
    | zero =>
      intro k i s a c hk f
      obtain ⟨k, rfl⟩ := kS k (by omega)
      rw [ie, if_neg (by simp at a ⊢; omega), Fg (by simp; omega)]
      exact ⟨_, rfl⟩
    | succ d ih =>
      intro k i s a c hk f
      obtain ⟨k, rfl⟩ := kS k (by omega)
      rw [ie]
      split
      · rw [Fg (by simp [dw]; omega)]
        simp only [bS]
        have g : i / 10 < 10 ^ d := by rw [Nat.pow_succ] at a; omega
        have e : IntKind.i64.wrap (Int.tdiv (i : Int) 10) = ((i / 10 : Nat) : Int) := by
          rw [show (10 : Int) = ((10 : Nat) : Int) from rfl, rV, gq (by omega)]
        rw [e]
        exact ih k _ _ g (by omega) (by omega) (by simp [dw]; omega)
      · rw [Fg (by simp; omega)]
        exact ⟨_, rfl⟩
  unfold ji
  split
  · exact ⟨_, rfl⟩
  · exact key 19 aI m [] (by omega) (by omega) (cw (by omega)) (by simp)
def vV (x : List Int) : Prop := x.length ≤ 1048576 ∧ ∀ y ∈ x, (0 ≤ y ∧ y ≤ 255)
def vG (x : List Int) : Prop := x.length < 1000000000000
theorem xu {x : List Int} (h : vV x) : vG x := by have := h.1; unfold vG; omega
theorem CZ {x : List Int} (h : vG x) : pr x x = some true := by
  unfold pr
  rw [if_neg (by simp)]
  refine oQ (p := x) (mh x x) (fun _ o => o) (fun k i => ?_) h (fun _ _ _ => rfl)
  show (if _ then _ else _) = _
  cases h : idx x i with
  | none => rfl
  | some e => simp only [Option.bind_some, bne_self_eq_false, Bool.false_eq_true, if_false]
def nB (x : List Int) : Nat := x.length
def El (x : List Int) : Prop := x.length ≤ maxLen ∧ ∀ y ∈ x, Ea .u8 y
def nN (x : List Int) : List Int := x
theorem Gy {x : List Int} (h : nB x ≤ 1048576) : kg x = some (nN x) := by
  unfold nB at h
  unfold kg
  rw [Oh _ (by omega)]
  exact (JU (F := some) (g := id) (lX x) (fun _ _ _ => rfl) (by omega) (fun _ _ => rfl) _).trans (by rw [List.map_id]; rfl)
theorem EN {x : List Int} (a : El x) (h : nB x ≤ 1048576) : vV (nN x) := by
  unfold nB at h
  exact ⟨by show x.length ≤ _; omega, fun y c => Qa (a.2 y c)⟩
def qB (x : List Int) : Prop := x.length ≤ 1048576 ∧ ∀ y ∈ x, (-9223372036854775808 ≤ y ∧ y ≤ 9223372036854775807)
def pi (x : List Int) : Prop := x.length < 1000000000000
theorem qL {x : List Int} (h : qB x) : pi x := by have := h.1; unfold pi; omega
theorem pE {x : List Int} (h : pi x) : jf x x = some true := by
  unfold jf
  rw [if_neg (by simp)]
  refine oQ (p := x) (mQ x x) (fun _ o => o) (fun k i => ?_) h (fun _ _ _ => rfl)
  show (if _ then _ else _) = _
  cases h : idx x i with
  | none => rfl
  | some e => simp only [Option.bind_some, bne_self_eq_false, Bool.false_eq_true, if_false]
def mJ (x : List (List UInt8)) : Prop := x.length ≤ 1048576 ∧ ∀ y ∈ x, y.length ≤ 1048576
def oW (x : List (List UInt8)) : Prop := x.length < 1000000000000
theorem vc {x : List (List UInt8)} (h : mJ x) : oW x := by have := h.1; unfold oW; omega
theorem uA {x : List (List UInt8)} (h : oW x) : kF x x = some true := by
  unfold kF
  rw [if_neg (by simp)]
  refine oQ (p := x) (ki x x) (fun _ o => o) (fun k i => ?_) h (fun _ _ _ => rfl)
  show (if _ then _ else _) = _
  cases h : idx x i with
  | none => rfl
  | some e => simp only [Option.bind_some, beq_self_eq_true, Bool.not_true, Bool.false_eq_true, if_false]
def iN (x : ap) : Prop := x.D_.length ≤ 1048576 ∧ qB x.w_ ∧ mJ x.F_
def CQ (x : ap) : Prop := pi x.w_ ∧ oW x.F_
theorem FQ {x : ap} (h : iN x) : CQ x := by
  obtain ⟨_, h1, a⟩ := h
  exact ⟨qL h1, vc a⟩
theorem EE {x : ap} (h : CQ x) : pb x x = some true := by
  obtain ⟨h1, a⟩ := h
  unfold pb
  simp [pE h1, uA a]
def Et (x : List ap) : Prop := x.length ≤ 1048576 ∧ ∀ y ∈ x, iN y
def vU (x : List ap) : Prop := x.length < 1000000000000 ∧ ∀ y ∈ x, CQ y
theorem Ey {x : List ap} (h : Et x) : vU x := ⟨by have := h.1; omega, fun y a => FQ (h.2 y a)⟩
theorem Dk {x : List ap} (h : vU x) : pk x x = some true := by
  unfold pk
  rw [if_neg (by simp)]
  refine oQ (p := x) (me x x) (fun e o => (pb e e).bind fun y => if (!y) then some false else o) (fun k i => ?_) h.1 (fun y a o => by rw [EE (h.2 y a)]; rfl)
  show (if _ then _ else _) = _
  cases h : idx x i with
  | none => rfl
  | some e => rfl
def bV (x : aj) : Prop := Et x.d_ ∧ mJ x.f_
def rK (x : aj) : Prop := vU x.d_ ∧ oW x.f_
theorem Dv {x : aj} (h : bV x) : rK x := by
  obtain ⟨a, h1⟩ := h
  exact ⟨Ey a, vc h1⟩
theorem CJ {x : aj} (h : rK x) : nZ x x = some true := by
  obtain ⟨a, h1⟩ := h
  unfold nZ
  simp [Dk a, uA h1]
def Le (x : bw) : Prop := (-9223372036854775808 ≤ x.M_ ∧ x.M_ ≤ 9223372036854775807) ∧ (-9223372036854775808 ≤ x.N_ ∧ x.N_ ≤ 9223372036854775807) ∧ (-9223372036854775808 ≤ x.L_ ∧ x.L_ ≤ 9223372036854775807) ∧ (-9223372036854775808 ≤ x.h_ ∧ x.h_ ≤ 9223372036854775807) ∧ (-9223372036854775808 ≤ x.e_ ∧ x.e_ ≤ 9223372036854775807) ∧ (-9223372036854775808 ≤ x.E_ ∧ x.E_ ≤ 9223372036854775807) ∧ True
theorem ED {x : bw} : qA x x = some true := by
  unfold qA
  simp
def Bu (x : aR) : Prop := bV x.g_ ∧ Le x.b_ ∧ (-9223372036854775808 ≤ x.j_ ∧ x.j_ ≤ 9223372036854775807) ∧ (-9223372036854775808 ≤ x.O_ ∧ x.O_ ≤ 9223372036854775807) ∧ (-9223372036854775808 ≤ x.P_ ∧ x.P_ ≤ 9223372036854775807) ∧ (-9223372036854775808 ≤ x.s_ ∧ x.s_ ≤ 9223372036854775807) ∧ (-9223372036854775808 ≤ x.r_ ∧ x.r_ ≤ 9223372036854775807)
def yu (x : aR) : Prop := rK x.g_
theorem Gk {x : aR} (h : Bu x) : yu x := by
  obtain ⟨a, _, _, _, _, _, _⟩ := h
  exact Dv a
theorem EA {x : aR} (h : yu x) : qO x x = some true := by
  have a : rK x.g_ := h
  unfold qO
  simp [CJ a, ED (x := x.b_)]
def KZ (x : bD) : Prop := (-9223372036854775808 ≤ x.t_ ∧ x.t_ ≤ 9223372036854775807) ∧ (-9223372036854775808 ≤ x.u_ ∧ x.u_ ≤ 9223372036854775807)
theorem ES {x : bD} : qH x x = some true := by
  unfold qH
  simp
def vX (x : List (List Int)) : Prop := x.length ≤ 1048576 ∧ ∀ y ∈ x, qB y
def qj (x : List (List Int)) : Prop := x.length < 1000000000000 ∧ ∀ y ∈ x, pi y
theorem uf {x : List (List Int)} (h : vX x) : qj x := ⟨by have := h.1; omega, fun y a => qL (h.2 y a)⟩
theorem tq {x : List (List Int)} (h : qj x) : lD x x = some true := by
  unfold lD
  rw [if_neg (by simp)]
  refine oQ (p := x) (ma x x) (fun e o => (jf e e).bind fun y => if (!y) then some false else o) (fun k i => ?_) h.1 (fun y a o => by rw [pE (h.2 y a)]; rfl)
  show (if _ then _ else _) = _
  cases h : idx x i with
  | none => rfl
  | some e => rfl
def oT (x : bl) : Prop := qB x.q_ ∧ vX x.k_
def yV (x : bl) : Prop := pi x.q_ ∧ qj x.k_
theorem EW {x : bl} (h : oT x) : yV x := by
  obtain ⟨a, h1⟩ := h
  exact ⟨qL a, uf h1⟩
theorem Dh {x : bl} (h : yV x) : pz x x = some true := by
  obtain ⟨a, h1⟩ := h
  unfold pz
  simp [pE a, tq h1]
def rI (x : az) : Prop := True ∧ KZ x.i_ ∧ qB x.v_ ∧ (-9223372036854775808 ≤ x.I_ ∧ x.I_ ≤ 9223372036854775807) ∧ oT x.l_ ∧ (-9223372036854775808 ≤ x.J_ ∧ x.J_ ≤ 9223372036854775807) ∧ qB x.d_ ∧ (-9223372036854775808 ≤ x.h_ ∧ x.h_ ≤ 9223372036854775807) ∧ (-9223372036854775808 ≤ x.A_ ∧ x.A_ ≤ 9223372036854775807) ∧ (-9223372036854775808 ≤ x.G_ ∧ x.G_ ≤ 9223372036854775807)
def BW (x : az) : Prop := pi x.v_ ∧ yV x.l_ ∧ pi x.d_
theorem FR {x : az} (h : rI x) : BW x := by
  obtain ⟨_, _, a, _, c, _, d, _, _, _⟩ := h
  exact ⟨qL a, EW c, qL d⟩
theorem EY {x : az} (h : BW x) : oL x x = some true := by
  obtain ⟨a, c, d⟩ := h
  unfold oL
  simp [ES (x := x.i_), pE a, Dh c, pE d]
def Ei (x : List az) : Prop := x.length ≤ 1048576 ∧ ∀ y ∈ x, rI y
def tG (x : List az) : Prop := x.length < 1000000000000 ∧ ∀ y ∈ x, BW y
theorem Fq {x : List az} (h : Ei x) : tG x := ⟨by have := h.1; omega, fun y a => FR (h.2 y a)⟩
theorem Di {x : List az} (h : tG x) : pT x x = some true := by
  unfold pT
  rw [if_neg (by simp)]
  refine oQ (p := x) (lU x x) (fun e o => (oL e e).bind fun y => if (!y) then some false else o) (fun k i => ?_) h.1 (fun y a o => by rw [EY (h.2 y a)]; rfl)
  show (if _ then _ else _) = _
  cases h : idx x i with
  | none => rfl
  | some e => rfl
def lO (x : ax) : Prop := Ei x.e_ ∧ (-9223372036854775808 ≤ x.y_ ∧ x.y_ ≤ 9223372036854775807)
def xC (x : ax) : Prop := tG x.e_
theorem zJ {x : ax} (h : lO x) : xC x := by
  obtain ⟨a, _⟩ := h
  exact Fq a
theorem xE {x : ax} (h : xC x) : oM x x = some true := by
  have a : tG x.e_ := h
  unfold oM
  simp [Di a]
def rU (x : aJ) : Prop := vX x.p_
def tW (x : aJ) : Prop := qj x.p_
theorem wr {x : aJ} (h : rU x) : tW x := by
  have a := h
  exact uf a
theorem uV {x : aJ} (h : tW x) : mi x x = some true := by
  have a : qj x.p_ := h
  unfold mi
  simp [tq a]
def Fn (x : dg) : Prop := rU x.s_ ∧ rU x.r_
def Fo (x : dg) : Prop := tW x.s_ ∧ tW x.r_
theorem Iv {x : dg} (h : Fn x) : Fo x := by
  obtain ⟨a, h1⟩ := h
  exact ⟨wr a, wr h1⟩
theorem GG {x : dg} (h : Fo x) : rR x x = some true := by
  obtain ⟨a, h1⟩ := h
  unfold rR
  simp [uV a, uV h1]
def oG (x : au) : Prop := lO x.H_ ∧ True ∧ lO x.x_ ∧ Fn x.K_
def wA (x : au) : Prop := xC x.H_ ∧ xC x.x_ ∧ Fo x.K_
theorem CX {x : au} (h : oG x) : wA x := by
  obtain ⟨a, _, c, d⟩ := h
  exact ⟨zJ a, zJ c, Iv d⟩
theorem Cp {x : au} (h : wA x) : mo x x = some true := by
  obtain ⟨a, c, d⟩ := h
  unfold mo
  simp [xE a, xE c, GG d]
def zV (x : List au) : Prop := x.length ≤ 1048576 ∧ ∀ y ∈ x, oG y
def qQ (x : List au) : Prop := x.length < 1000000000000 ∧ ∀ y ∈ x, wA y
theorem Cw {x : List au} (h : zV x) : qQ x := ⟨by have := h.1; omega, fun y a => CX (h.2 y a)⟩
theorem AO {x : List au} (h : qQ x) : mE x x = some true := by
  unfold mE
  rw [if_neg (by simp)]
  refine oQ (p := x) (kb x x) (fun e o => (mo e e).bind fun y => if (!y) then some false else o) (fun k i => ?_) h.1 (fun y a o => by rw [Cp (h.2 y a)]; rfl)
  show (if _ then _ else _) = _
  cases h : idx x i with
  | none => rfl
  | some e => rfl
def uq (x : be) : Prop := zV x.j_
def uv (x : be) : Prop := qQ x.j_
theorem Dg {x : be} (h : uq x) : uv x := by
  have a := h
  exact Cw a
theorem BJ {x : be} (h : uv x) : nY x x = some true := by
  have a : qQ x.j_ := h
  unfold nY
  simp [AO a]
def GJ (x : aC) : Prop := (-9223372036854775808 ≤ x.R_ ∧ x.R_ ≤ 9223372036854775807) ∧ (-9223372036854775808 ≤ x.S_ ∧ x.S_ ≤ 9223372036854775807)
theorem EV {x : aC} : oZ x x = some true := by
  unfold oZ
  simp
def vK (x : List aC) : Prop := x.length ≤ 1048576 ∧ ∀ y ∈ x, GJ y
def tE (x : List aC) : Prop := x.length < 1000000000000
theorem EP {x : List aC} (h : vK x) : tE x := by have := h.1; unfold tE; omega
theorem CS {x : List aC} (h : tE x) : pO x x = some true := by
  unfold pO
  rw [if_neg (by simp)]
  refine oQ (p := x) (lH x x) (fun e o => (oZ e e).bind fun y => if (!y) then some false else o) (fun k i => ?_) h (fun y _ o => by rw [EV]; rfl)
  show (if _ then _ else _) = _
  cases h : idx x i with
  | none => rfl
  | some e => rfl
def vD (x : aZ) : Prop := vX x.o_ ∧ vK x.n_
def vT (x : aZ) : Prop := qj x.o_ ∧ tE x.n_
theorem Ez {x : aZ} (h : vD x) : vT x := by
  obtain ⟨a, h1⟩ := h
  exact ⟨uf a, EP h1⟩
theorem Da {x : aZ} (h : vT x) : pt x x = some true := by
  obtain ⟨a, h1⟩ := h
  unfold pt
  simp [tq a, CS h1]
def iG (x : ao) : Prop := Bu x.a_ ∧ uq x.z_ ∧ vD x.m_
def tA (x : ao) : Prop := yu x.a_ ∧ uv x.z_ ∧ vT x.m_
theorem EJ {x : ao} (h : iG x) : tA x := by
  obtain ⟨a, h1, c⟩ := h
  exact ⟨Gk a, Dg h1, Ez c⟩
theorem Do {x : ao} (h : tA x) : lr x x = some true := by
  obtain ⟨a, h1, c⟩ := h
  unfold lr
  simp [EA a, BJ h1, Da c]
def ve (x : List Int) : Nat := (x.map fun _ => 1).sum
theorem Hr {x : List Int} (e : vG x) (_ : ve x ≤ 1000000000000000000) : LV kV (ve x) x := by
  unfold kV
  refine Hy (p := x) (c := fun _ => 1) (gn x) (fun k l m i a => by
    rw [gn, if_neg a]) e (fun x _ m d => ?_)
  · skip
    have d : m + (1) < 4611686018427387904 := d
    have f := aG (i := m) (by omega)
    refine ⟨(m + 1), (IntKind.u8.wrap ((m : Nat) : Int)), fun k l i a h1 => ?_, by omega, by omega⟩
    · rw [gn, if_pos a, h1]
      simp only [Option.bind_some, f]
theorem Ee {x : List Int} : ve (nN x) ≤ 16 * nB x := by
  unfold ve nB nN
  rw [JS]
  omega
def eS (x : List Int) : Nat := (x.map fun _ => 1).sum
theorem rM {x : List Int} (f : pi x) (_ : eS x ≤ 1000000000000000000) : sM iv io (eS x) x := by
  unfold iv io
  refine nf (p := x) (c := fun _ => 1) (ib x) (fun q => hY q) (fun k l m i a => by
    rw [ib, if_neg a]) (fun q k m i a => by rw [hY, if_neg a]) f (fun x _ m d => ?_)
  · skip
    have d : m + (1) < 4611686018427387904 := d
    have e := aG (i := m) (by omega)
    refine ⟨(m + 1), ((m : Nat) : Int), fun k l i a h1 => ?_, fun q k i a h1 => ?_, by omega, by omega⟩
    · rw [ib, if_pos a, h1]
      simp only [Option.bind_some, e]
    · rw [hY, if_pos a]
      simp only [h1, Option.bind_some, bne_self_eq_false, Bool.false_eq_true, if_false, e]
def jw (x : List (List UInt8)) : Nat := (x.map fun _ => 1).sum
theorem wx {x : List (List UInt8)} (g : oW x) (_ : jw x ≤ 1000000000000000000) : sM jl jm (jw x) x := by
  unfold jl jm
  refine nf (p := x) (c := fun _ => 1) (fB x) (fun q => fH q) (fun k l m i a => by
    rw [fB, if_neg a]) (fun q k m i a => by rw [fH, if_neg a]) g (fun x _ m d => ?_)
  · skip
    have d : m + (1) < 4611686018427387904 := d
    obtain ⟨h, e⟩ := Ah (m := m) (by omega)
    have f := aG (i := m) (by omega)
    refine ⟨(m + 1), h, fun k l i a h1 => ?_, fun q k i a h1 => ?_, by omega, by omega⟩
    · rw [fB, if_pos a, h1]
      simp only [Option.bind_some, e, f]
    · rw [fH, if_pos a]
      simp only [h1, Option.bind_some, beq_self_eq_true, Bool.not_true, Bool.false_eq_true, if_false, e, f]
def rJ (x : List ap) : Nat := (x.map fun y => 1 + eS y.w_ + jw y.F_).sum
theorem Kd {x : List ap} {y} (h : y ∈ x) : 1 + eS y.w_ + jw y.F_ ≤ rJ x := vO (f := fun y => 1 + eS y.w_ + jw y.F_) h
theorem Gq {x : List ap} (d : vU x) (h : rJ x ≤ 1000000000000000000) : sM mH mW (rJ x) x := by
  unfold mH mW
  refine nf (p := x) (c := fun y => 1 + eS y.w_ + jw y.F_) (gC x) (fun q => gD q) (fun k l m i a => by
    rw [gC, if_neg a]) (fun q k m i a => by rw [gD, if_neg a]) d.1 (fun x e m f => ?_)
  · have D := Kd e
    have f : m + (1 + eS x.w_ + jw x.F_) < 4611686018427387904 := f
    obtain ⟨o, g⟩ := Ah (m := m) (by omega)
    have j := aG (i := m) (by omega)
    obtain ⟨r, s, t, u, c2, E⟩ := rM (x := x.w_) (d.2 x e).1 (by omega) (m + 1) (by omega)
    obtain ⟨v, w, A, C, c3, F⟩ := wx (x := x.F_) (d.2 x e).2 (by omega) r (by omega)
    refine ⟨v, (ap.mk o s w), fun k l i a h1 => ?_, fun q k i a h1 => ?_, by omega, by omega⟩
    · rw [gC, if_pos a, h1]
      simp only [Option.bind_some, g, j, t, A]
    · rw [gD, if_pos a]
      simp only [h1, Option.bind_some, beq_self_eq_true, Bool.not_true, Bool.false_eq_true, if_false, qq, decide_false, g, j, u, C]
def rF (x : aj) : Nat := rJ x.d_ + jw x.f_
theorem EI {x : aj} (a : rK x) (h : rF x ≤ 1000000000000000000) : sM mg lQ (rF x) x := fun m c => by
  unfold rF at h c ⊢
  obtain ⟨d, e, f, g, c0, o⟩ := Gq (x := x.d_) a.1 (by omega) m (by omega)
  obtain ⟨i, j, k, l, c1, p⟩ := wx (x := x.f_) a.2 (by omega) d (by omega)
  unfold mg lQ
  refine ⟨i, ⟨e, j⟩, ?_, ?_, by omega, by omega⟩
  · simp only [Option.bind_some, f, k]
  · simp only [Option.bind_some, Bool.false_eq_true, if_false, qq, decide_false, g, l]
def vH (x : aR) : Nat := rF x.g_
theorem Ii {x : aR} (a : yu x) (h : vH x ≤ 1000000000000000000) : sM km nO (vH x) x := fun m c => by
  unfold vH at h c ⊢
  obtain ⟨d, e, f, g, c0, i⟩ := EI (x := x.g_) a (by omega) m (by omega)
  unfold km nO
  refine ⟨d, ⟨e, x.b_, x.j_, x.O_, x.P_, x.s_, x.r_⟩, ?_, ?_, by omega, by omega⟩
  · simp only [Option.bind_some, f]
  · simp only [Option.bind_some, Bool.false_eq_true, if_false, qq, decide_false, g]
def eT (x : List (List Int)) : Nat := (x.map fun y => 1 + eS y).sum
theorem JQ {x : List (List Int)} {y} (h : y ∈ x) : 1 + eS y ≤ eT x := vO (f := fun y => 1 + eS y) h
theorem sY {x : List (List Int)} (d : qj x) (h : eT x ≤ 1000000000000000000) : sM iE iD (eT x) x := by
  unfold iE iD
  refine nf (p := x) (c := fun y => 1 + eS y) (gr x) (fun q => gk q) (fun k l m i a => by
    rw [gr, if_neg a]) (fun q k m i a => by rw [gk, if_neg a]) d.1 (fun x e m f => ?_)
  · have s := JQ e
    have f : m + (1 + eS x) < 4611686018427387904 := f
    obtain ⟨g, j, o, r, c1, t⟩ := rM (x := x) (d.2 x e) (by omega) m (by omega)
    refine ⟨g, j, fun k l i a h1 => ?_, fun q k i a h1 => ?_, by omega, by omega⟩
    · rw [gr, if_pos a, h1]
      simp only [Option.bind_some, o]
    · rw [gk, if_pos a]
      simp only [h1, Option.bind_some, Bool.false_eq_true, if_false, qq, decide_false, r]
def iV (x : List az) : Nat := (x.map fun y => 8 + eS y.v_ + eS y.l_.q_ + eT y.l_.k_ + eS y.d_).sum
theorem Kc {x : List az} {y} (h : y ∈ x) : 8 + eS y.v_ + eS y.l_.q_ + eT y.l_.k_ + eS y.d_ ≤ iV x := vO (f := fun y => 8 + eS y.v_ + eS y.l_.q_ + eT y.l_.k_ + eS y.d_) h
theorem zU {x : List az} (e : tG x) (h : iV x ≤ 1000000000000000000) : sM kD kK (iV x) x := by
  unfold kD kK
  refine nf (p := x) (c := fun y => 8 + eS y.v_ + eS y.l_.q_ + eT y.l_.k_ + eS y.d_) (gy x) (fun q => gE q) (fun k l m i a => by
    rw [gy, if_neg a]) (fun q k m i a => by rw [gE, if_neg a]) e.1 (fun x f m t => ?_)
  · have Z := Kc f
    have t : m + (8 + eS x.v_ + eS x.l_.q_ + eT x.l_.k_ + eS x.d_) < 4611686018427387904 := t
    have u := aG (i := m) (by omega)
    have v := aG (i := (m + 1)) (by omega)
    have w := aG (i := ((m + 1) + 1)) (by omega)
    obtain ⟨r, D, E, F, c1, d1⟩ := rM (x := x.v_) (e.2 x f).1 (by omega) (((m + 1) + 1) + 1) (by omega)
    have A := aG (i := r) (by omega)
    obtain ⟨G, H, L, M, c2, d2⟩ := rM (x := x.l_.q_) (e.2 x f).2.1.1 (by omega) (r + 1) (by omega)
    obtain ⟨s, P, Q, R, c3, d3⟩ := sY (x := x.l_.k_) (e.2 x f).2.1.2 (by omega) G (by omega)
    have C := aG (i := s) (by omega)
    obtain ⟨d, T, V, X, c4, d4⟩ := rM (x := x.d_) (e.2 x f).2.2 (by omega) (s + 1) (by omega)
    have g := aG (i := d) (by omega)
    have j := aG (i := (d + 1)) (by omega)
    have o := aG (i := ((d + 1) + 1)) (by omega)
    refine ⟨(((d + 1) + 1) + 1), (az.mk (Int.tmod ((m : Nat) : Int) 3 == 0) (bD.mk (((m + 1) : Nat) : Int) ((((m + 1) + 1) : Nat) : Int)) D ((r : Nat) : Int) (bl.mk H P) ((s : Nat) : Int) T ((d : Nat) : Int) (((d + 1) : Nat) : Int) ((((d + 1) + 1) : Nat) : Int)), fun k l i a h1 => ?_, fun q k i a h1 => ?_, by omega, by omega⟩
    · rw [gy, if_pos a, h1]
      simp only [Option.bind_some, u, v, w, E, A, L, Q, C, V, g, j, o]
    · rw [gE, if_pos a]
      simp only [h1, Option.bind_some, bne_self_eq_false, Bool.false_eq_true, if_false, qq, decide_false, u, v, w, A, C, g, j, o, F, M, R, X]
def oA (x : List au) : Nat := (x.map fun y => 3 + iV y.H_.e_ + iV y.x_.e_ + eT y.K_.s_.p_ + eT y.K_.r_.p_).sum
theorem FS {x : List au} {y} (h : y ∈ x) : 3 + iV y.H_.e_ + iV y.x_.e_ + eT y.K_.s_.p_ + eT y.K_.r_.p_ ≤ oA x := vO (f := fun y => 3 + iV y.H_.e_ + iV y.x_.e_ + eT y.K_.s_.p_ + eT y.K_.r_.p_) h
theorem Ds {x : List au} (d : qQ x) (h : oA x ≤ 1000000000000000000) : sM kM kT (oA x) x := by
  unfold kM kT
  refine nf (p := x) (c := fun y => 3 + iV y.H_.e_ + iV y.x_.e_ + eT y.K_.s_.p_ + eT y.K_.r_.p_) (fA x) (fun q => fC q) (fun k l m i a => by
    rw [fA, if_neg a]) (fun q k m i a => by rw [fC, if_neg a]) d.1 (fun x e m j => ?_)
  · have Q := FS e
    have j : m + (3 + iV x.H_.e_ + iV x.x_.e_ + eT x.K_.s_.p_ + eT x.K_.r_.p_) < 4611686018427387904 := j
    obtain ⟨f, t, u, v, c1, R⟩ := zU (x := x.H_.e_) (d.2 x e).1 (by omega) m (by omega)
    have o := aG (i := f) (by omega)
    have r := aG (i := (f + 1)) (by omega)
    obtain ⟨g, w, A, C, c2, T⟩ := zU (x := x.x_.e_) (d.2 x e).2.1 (by omega) ((f + 1) + 1) (by omega)
    have s := aG (i := g) (by omega)
    obtain ⟨D, E, F, G, c3, V⟩ := sY (x := x.K_.s_.p_) (d.2 x e).2.2.1 (by omega) (g + 1) (by omega)
    obtain ⟨H, L, M, P, c4, X⟩ := sY (x := x.K_.r_.p_) (d.2 x e).2.2.2 (by omega) D (by omega)
    refine ⟨H, (au.mk (ax.mk t ((f : Nat) : Int)) (Int.tmod (((f + 1) : Nat) : Int) 3 == 0) (ax.mk w ((g : Nat) : Int)) (dg.mk (aJ.mk E) (aJ.mk L))), fun k l i a h1 => ?_, fun q k i a h1 => ?_, by omega, by omega⟩
    · rw [fA, if_pos a, h1]
      simp only [Option.bind_some, u, o, r, A, s, F, M]
    · rw [fC, if_pos a]
      simp only [h1, Option.bind_some, bne_self_eq_false, Bool.false_eq_true, if_false, qq, decide_false, o, r, s, v, C, G, P]
def rG (x : be) : Nat := oA x.j_
theorem EB {x : be} (a : uv x) (h : rG x ≤ 1000000000000000000) : sM lG lZ (rG x) x := fun m c => by
  unfold rG at h c ⊢
  obtain ⟨d, e, f, g, c0, i⟩ := Ds (x := x.j_) a (by omega) m (by omega)
  unfold lG lZ
  refine ⟨d, ⟨e⟩, ?_, ?_, by omega, by omega⟩
  · simp only [Option.bind_some, f]
  · simp only [Option.bind_some, Bool.false_eq_true, if_false, qq, decide_false, g]
def vb (x : List aC) : Nat := (x.map fun _ => 2).sum
theorem GW {x : List aC} (g : tE x) (_ : vb x ≤ 1000000000000000000) : sM mX nc (vb x) x := by
  unfold mX nc
  refine nf (p := x) (c := fun _ => 2) (gx x) (fun q => gv q) (fun k l m i a => by
    rw [gx, if_neg a]) (fun q k m i a => by rw [gv, if_neg a]) g (fun x _ m d => ?_)
  · skip
    have d : m + (2) < 4611686018427387904 := d
    have e := aG (i := m) (by omega)
    have f := aG (i := (m + 1)) (by omega)
    refine ⟨((m + 1) + 1), (aC.mk ((m : Nat) : Int) (((m + 1) : Nat) : Int)), fun k l i a h1 => ?_, fun q k i a h1 => ?_, by omega, by omega⟩
    · rw [gx, if_pos a, h1]
      simp only [Option.bind_some, e, f]
    · rw [gv, if_pos a]
      simp only [h1, Option.bind_some, bne_self_eq_false, Bool.false_eq_true, if_false, e, f]
def tD (x : aZ) : Nat := eT x.o_ + vb x.n_
theorem GA {x : aZ} (a : vT x) (h : tD x ≤ 1000000000000000000) : sM mC nh (tD x) x := fun m c => by
  unfold tD at h c ⊢
  obtain ⟨d, e, f, g, c0, o⟩ := sY (x := x.o_) a.1 (by omega) m (by omega)
  obtain ⟨i, j, k, l, c1, p⟩ := GW (x := x.n_) a.2 (by omega) d (by omega)
  unfold mC nh
  refine ⟨i, ⟨e, j⟩, ?_, ?_, by omega, by omega⟩
  · simp only [Option.bind_some, f, k]
  · simp only [Option.bind_some, Bool.false_eq_true, if_false, qq, decide_false, g, l]
theorem My {x z : aR} {m k : Int} (h : km x m = some (k, z)) : z = ⟨z.g_, x.b_, x.j_, x.O_, x.P_, x.s_, x.r_⟩ := by
  unfold km at h
  obtain ⟨_, _, h⟩ := yb h
  obtain ⟨rfl, rfl⟩ := Prod.mk.inj (Option.some.inj h)
  rfl
def qK (x : ao) : Nat := vH x.a_ + rG x.z_ + tD x.m_
theorem FL {x : ao} (a : tA x) (h : qK x ≤ 1000000000000000000) : sM iB jt (qK x) x := fun m d => by
  unfold qK at h d ⊢
  obtain ⟨e, f, c, g, c0, s⟩ := Ii (x := x.a_) a.1 (by omega) m (by omega)
  obtain ⟨i, j, k, l, c1, t⟩ := EB (x := x.z_) a.2.1 (by omega) e (by omega)
  obtain ⟨o, p, q, r, c2, u⟩ := GA (x := x.m_) a.2.2 (by omega) i (by omega)
  unfold iB jt
  refine ⟨o, ⟨f, j, p⟩, ?_, ?_, by omega, by omega⟩
  · simp only [Option.bind_some, c, k, q, ← My c]
  · simp only [Option.bind_some, Bool.false_eq_true, if_false, qq, decide_false, g, l, r]
theorem KC {x z : ao} {m k : Int} (h : iB x m = some (k, z)) : z = ⟨⟨z.a_.g_, x.a_.b_, x.a_.j_, x.a_.O_, x.a_.P_, x.a_.s_, x.a_.r_⟩, z.z_, z.m_⟩ := by
  unfold iB at h
  obtain ⟨_, _, h⟩ := yb h
  obtain ⟨_, _, h⟩ := yb h
  obtain ⟨_, _, h⟩ := yb h
  obtain ⟨rfl, rfl⟩ := Prod.mk.inj (Option.some.inj h)
  rfl
theorem Dz {a : List Int} (h : El a) (i : vV (nN a) → ve (nN a) ≤ 16777216 → ∃ m, lu (nN a) = some m ∧ jW (nN a) = some m ∧ tA m.1 ∧ qK m.1 ≤ 1000000000000000000) : kA a = some true := by
  unfold kA
  by_cases c0 : 1048576 < a.length
  · rw [if_pos (by simp; omega)]
  · rw [if_neg (by simp; omega)]
    have l : nB a ≤ 1048576 := by unfold nB; omega
    have c := EN h (show nB a ≤ 1048576 by omega)
    rw [Gy (x := a) (by omega)]
    simp only [bS]
    obtain ⟨m, e, e', f, o⟩ := i c (by have := Ee (x := a); omega)
    have p := Ee (x := a)
    obtain ⟨j, k, p1, _, _⟩ := Hr (x := nN a) (xu c) (by omega) 1 (by omega)
    have p1 : kV (nN a) 1 = some ((j : Int), k) := p1
    obtain ⟨r1, g, c1, d, _, _⟩ := FL (x := m.1) f (by omega) 1 (by omega)
    have c1 : iB m.1 1 = some ((r1 : Int), g) := c1
    have d : jt g 1 = some (r1 : Int) := d
    rw [e]
    simp only [bS]
    rw [e']
    simp [CZ (xu c), Do f, p1, c1, d, ← KC c1, qq]
end Go.Vk
/- Words, cuts, attributes: tested alike. -/
namespace Go.Vk
def yF (w : List UInt8) : Prop := (1 ≤ (w.length : Int) ∧ (w.length : Int) ≤ 8) ∧ ∀ i, 0 ≤ i → (h : i < w.length) → 97 ≤ (w[i]).toNat ∧ (w[i]).toNat ≤ 122
theorem Gb {w : List UInt8} (e : w.length < 1000000000000) : Dec (oJ w) (yF w) := by
  unfold oJ ba yF
  simp only [bS]
  by_cases h : 1 ≤ (w.length : Int) ∧ (w.length : Int) ≤ 8
  · rw [oD h]
    simp only [Bool.not_true, Bool.false_eq_true, if_false]
    refine (pK (Lp := kE w) (n := w.length) (Q := fun i => ∀ h : i < w.length, 97 ≤ (w[i]).toNat ∧ (w[i]).toNat ≤ 122) 0 (fun k i a => ?_) (fun k i _ a => ?_) e).of_iff ⟨fun g => ⟨h, fun i c h1 => g i c h1 h1⟩, fun g i c h1 _ => g.2 i c h1⟩
    · show (if _ then _ else _) = _
      rw [if_neg (by simp; omega)]
    · rw [kE]
      rw [if_pos (by simp; omega), aY a, aG (by omega)]
      simp only [bS]
      by_cases h1 : ((w[i]).toNat : Int) < 97
      · rw [if_pos (by simpa using h1)]
        exact .inr ⟨fun g => by have := g a; omega, rfl⟩
      · rw [if_neg (by simpa using h1)]
        simp only [bS]
        by_cases d : ((w[i]).toNat : Int) > 122
        · rw [if_pos (by simpa using d)]
          exact .inr ⟨fun g => by have := g a; omega, rfl⟩
        · rw [if_neg (by simpa using d)]
          exact .inl ⟨fun _ => ⟨by omega, by omega⟩, rfl⟩
  · rw [pU h]
    exact bG fun g => h g.1
theorem GS {w : List UInt8} (e : w.length < 1000000000000) : Dec (pc w) (yF w) := by
  unfold pc aW yF
  simp only [bS]
  by_cases h : 1 ≤ (w.length : Int) ∧ (w.length : Int) ≤ 8
  · rw [oD h]
    simp only [Bool.not_true, Bool.false_eq_true, if_false]
    refine (pK (Lp := kZ w) (n := w.length) (Q := fun i => ∀ h : i < w.length, 97 ≤ (w[i]).toNat ∧ (w[i]).toNat ≤ 122) 0 (fun k i a => ?_) (fun k i _ a => ?_) e).of_iff ⟨fun g => ⟨h, fun i c h1 => g i c h1 h1⟩, fun g i c h1 _ => g.2 i c h1⟩
    · show (if _ then _ else _) = _
      rw [if_neg (by simp; omega)]
    · rw [kZ]
      rw [if_pos (by simp; omega), aY a, aG (by omega)]
      simp only [bS]
      by_cases h1 : ((w[i]).toNat : Int) < 97
      · rw [if_pos (by simpa using h1)]
        exact .inr ⟨fun g => by have := g a; omega, rfl⟩
      · rw [if_neg (by simpa using h1)]
        simp only [bS]
        by_cases d : ((w[i]).toNat : Int) > 122
        · rw [if_pos (by simpa using d)]
          exact .inr ⟨fun g => by have := g a; omega, rfl⟩
        · rw [if_neg (by simpa using d)]
          exact .inl ⟨fun _ => ⟨by omega, by omega⟩, rfl⟩
  · rw [pU h]
    exact bG fun g => h g.1
def un (ws : List (List UInt8)) : Prop := ∀ i, 0 ≤ i → i < ws.length → ∀ h : i < ws.length, yF ws[i] ∧ ∀ j, (a : j < i) → ws[i] ≠ ws[j]
theorem Eu {ws : List (List UInt8)} (s : ws.length < 1000000000000) (t : ∀ w ∈ ws, w.length < 1000000000000) : Dec (nD ws) (un ws) := by
  unfold nD
  refine pK (Lp := fi ws) (n := ws.length) (Q := fun i => ∀ h : i < ws.length, yF ws[i] ∧ ∀ j, (l : j < i) → ws[i] ≠ ws[j]) 0 (fun k i c => ?_) (fun k i _ c => ?_) s
  · show (if _ then _ else _) = _
    rw [if_neg (by simp; omega)]
  · rw [fi]
    rw [if_pos (by simp; omega), aY c]
    simp only [bS]
    rcases (Gb (t _ (List.getElem_mem c))).cases with ⟨e, o⟩ | ⟨e, o⟩
    · rw [e]
      simp only [cS]
      have key : ∀ (d q j : Nat), i - j = d → d < q → (l : j ≤ i) → (∀ m, (a : m < j) → ws[i] ≠ ws[m]'(by omega)) →
          ((∀ m, (a : m < i) → ws[i] ≠ ws[m]) ∧ gO i ws (fi ws k) q (j : Int) = fi ws k ((i + 1 : Nat) : Int)) ∨ ((¬ ∀ m, (a : m < i) → ws[i] ≠ ws[m]) ∧ gO i ws (fi ws k) q (j : Int) = some false) := by
        intro d
        induction d with
        | zero =>
          intro q j u v l a
          obtain ⟨q, rfl⟩ : ∃ r, q = r + 1 := ⟨q - 1, by omega⟩
          rw [gO]
          rw [if_neg (by simp; omega), aG (by omega)]
          exact .inl ⟨fun m hm' => a m (by omega), rfl⟩
        | succ d ih =>
          intro q j u v l a
          obtain ⟨q, rfl⟩ : ∃ r, q = r + 1 := ⟨q - 1, by omega⟩
          rw [gO]
          rw [if_pos (by simp; omega), aY c, aY (show j < ws.length by omega)]
          simp only [bS]
          by_cases f : ws[i] = ws[j]
          · rw [if_pos (by simpa using f)]
            exact .inr ⟨fun g => g j (by omega) f, rfl⟩
          · rw [if_neg (by simpa using f), aG (by omega)]
            exact ih q (j + 1) (by omega) (by omega) (by omega) (fun m hm' => by
              by_cases h : m = j
              · subst h; exact f
              · exact a m (by omega))
      rcases key i aI 0 (by omega) (cw (by omega)) (by omega) (fun m a => by omega) with ⟨h1, p⟩ | ⟨h1, p⟩
      · exact .inl ⟨fun _ => ⟨o, h1⟩, p⟩
      · exact .inr ⟨fun g => h1 (g c).2, p⟩
    · rw [e]
      exact .inr ⟨fun g => o (g c).1, rfl⟩
theorem yT {ws : List (List UInt8)} (o : ws.length < 1000000000000) (p : ∀ w ∈ ws, w.length < 1000000000000) : Dec (ff ws) (un ws) := by
  unfold ff
  refine pK (Lp := fK ws) (n := ws.length) (Q := fun i => ∀ h : i < ws.length, yF ws[i] ∧ ∀ j, (a : j < i) → ws[i] ≠ ws[j]) 0 (fun k i d => ?_) (fun k i _ d => ?_) o
  · show (if _ then _ else _) = _
    rw [if_neg (by simp; omega)]
  · rw [fK]
    rw [if_pos (by simp; omega), aY d, aG (by omega)]
    simp only [bS]
    rcases (GS (p _ (List.getElem_mem d))).cases with ⟨e, f⟩ | ⟨e, f⟩
    · rw [e]
      simp only [cS]
      have q : sub ws 0 (i : Int) = some (ws.take i) := by
        unfold sub
        rw [if_pos (by omega)]
        simp
      rw [q]
      simp only [bS]
      unfold dH eH
      have r := qx (Lp := cy (ws.take i) ws[i]) (n := i) (Q := fun j => ∀ a : j < i, ws[i] = ws[j]) (fun k j a => by
        show (if _ then _ else _) = _
        rw [if_neg (by simp; omega)]) (fun k j a => by
        rw [cy]
        rw [if_pos (by simp; omega), aY (show j < (ws.take i).length by simp; omega), aG (by omega)]
        simp only [Option.bind_some, List.getElem_take]
        by_cases c : ws[i] = ws[j]
        · rw [if_pos (by simpa using c)]
          exact .inl ⟨fun _ => c, rfl⟩
        · rw [if_neg (by simpa using c)]
          exact .inr ⟨fun g => c (g a), rfl⟩) (by omega)
      rcases r.cases with ⟨l, j, a, m⟩ | ⟨l, m⟩
      · rw [l]
        exact .inr ⟨fun g => (g d).2 j a (m a), rfl⟩
      · rw [l]
        exact .inl ⟨fun _ => ⟨f, fun j a c => m ⟨j, a, fun _ => c⟩⟩, rfl⟩
    · rw [e]
      exact .inr ⟨fun g => f (g d).1, rfl⟩
def Ji (l : List Int) : Prop := ∀ i, 0 ≤ i → i < l.length → ∀ h : i < l.length, (-9999 ≤ l[i] ∧ l[i] ≤ 9998) ∧ ∀ a : 0 < i, l[i - 1] < l[i]
theorem La {l : List Int} (q : l.length < 1000000000000) : Dec (qC l) ((1 ≤ (l.length : Int) ∧ (l.length : Int) ≤ 3) ∧ Ji l) := by
  unfold qC aW
  simp only [bS]
  by_cases h : 1 ≤ (l.length : Int) ∧ (l.length : Int) ≤ 3
  · rw [oD h]
    simp only [if_true]
    have r : Dec (go l) (∀ i, 1 ≤ i → i < l.length → ∀ (h : i < l.length), l[i - 1] < l[i]) := by
      unfold go
      refine pK (Lp := fI l) (n := l.length) (Q := fun i => ∀ (h : i < l.length), l[i - 1] < l[i]) 1 (fun k i a => ?_) (fun k i h1 a => ?_) q
      · show (if _ then _ else _) = _
        rw [if_neg (by simp; omega)]
      · rw [fI]
        rw [if_pos (by simp; omega), aY a, aG (by omega), bj (by omega) (by omega), show (i : Int) - 1 = ((i - 1 : Nat) : Int) by omega, aY (show i - 1 < l.length by omega)]
        simp only [bS]
        by_cases f : l[i] ≤ l[i - 1]
        · rw [if_pos (by simpa using f)]
          exact .inr ⟨fun g => by have := g a; omega, rfl⟩
        · rw [if_neg (by simpa using f)]
          exact .inl ⟨fun _ => by omega, rfl⟩
    rcases r.cases with ⟨e, m⟩ | ⟨e, m⟩
    · rw [e]
      simp only [Option.bind_some, if_true]
      unfold cz cN
      have s := qx (Lp := bM l) (n := l.length) (Q := fun j => ∀ d : j < l.length, ¬ (-9999 ≤ l[j] ∧ l[j] ≤ 9998)) (fun k j d => by
        show (if _ then _ else _) = _
        rw [if_neg (by simp; omega)]) (fun k j d => by
        rw [bM]
        rw [if_pos (by simp; omega), aY d, aG (by omega)]
        unfold qo uj aW
        simp only [bS]
        by_cases f : -9999 ≤ l[j] ∧ l[j] ≤ 9998
        · rw [oD f]
          exact .inr ⟨fun g => g d f, rfl⟩
        · rw [pU f]
          exact .inl ⟨fun _ => f, rfl⟩) q
      rcases s.cases with ⟨o, j, d, p⟩ | ⟨o, p⟩
      · rw [o]
        exact bG fun g => p d (g.2 j (Nat.zero_le _) d d).1
      · rw [o]
        exact mR ⟨h, fun i _ a _ => ⟨Classical.byContradiction fun c => p ⟨i, a, fun _ => c⟩, fun t => m i t a a⟩⟩
    · rw [e]
      exact bG fun g => m fun i h1 a u => (g.2 i (Nat.zero_le _) a u).2 h1
  · rw [pU h]
    exact bG fun g => h g.1
end Go.Vk
/- Attributes: weighed, copied, compared; FullMask. -/
namespace Go.Vk
def oV (x : ap) : Prop := yF x.D_ ∧ ((x.w_.length = 0 ∧ (2 ≤ (x.F_.length : Int) ∧ (x.F_.length : Int) ≤ 4) ∧ un x.F_) ∨ (x.F_.length = 0 ∧ (1 ≤ (x.w_.length : Int) ∧ (x.w_.length : Int) ≤ 3) ∧ Ji x.w_))
def OkM (x : ap) : Prop := x.D_.length < 1000000000000 ∧ x.w_.length < 1000000000000 ∧ x.F_.length < 1000000000000 ∧ ∀ y ∈ x.F_, y.length < 1000000000000
theorem vu {x : ap} (q : OkM x) : Dec (jY x) (oV x) := by
  obtain ⟨h1, r, s, t⟩ := q
  unfold jY oV
  rcases (Gb h1).cases with ⟨e, c⟩ | ⟨e, c⟩
  · rw [e]
    simp only [cS]
    by_cases p : x.w_.length = 0
    · rw [if_pos (by rw [beq_iff_eq]; omega)]
      unfold ba
      simp only [bS]
      by_cases j : 2 ≤ (x.F_.length : Int) ∧ (x.F_.length : Int) ≤ 4
      · rw [oD j]
        simp only [if_true]
        rcases (Eu s t).cases with ⟨l, m⟩ | ⟨l, m⟩
        · rw [l]; exact mR ⟨c, .inl ⟨p, j, m⟩⟩
        · rw [l]; exact bG fun g => by rcases g.2 with ⟨_, _, g⟩ | ⟨_, g, _⟩ <;> first | exact m g | omega
      · rw [pU j]
        exact bG fun g => by rcases g.2 with ⟨_, g, _⟩ | ⟨_, g, _⟩ <;> omega
    · rw [if_neg (by rw [beq_iff_eq]; omega)]
      by_cases v : 0 < x.F_.length ∨ 3 < x.w_.length
      · rw [if_pos (by simp; omega)]
        exact bG fun g => by rcases g.2 with ⟨g, _, _⟩ | ⟨_, g, _⟩ <;> omega
      · rw [if_neg (by rw [Bool.or_eq_true, decide_eq_true_eq, decide_eq_true_eq]; omega)]
        have u : Dec (ju x aI 0) (Ji x.w_) := by
          refine pK (Lp := ju x) (n := x.w_.length) (Q := fun i => ∀ h : i < x.w_.length, (-9999 ≤ x.w_[i] ∧ x.w_[i] ≤ 9998) ∧ ∀ o : 0 < i, x.w_[i - 1] < x.w_[i]) 0 (fun k i d => ?_) (fun k i _ d => ?_) r
          · show (if _ then _ else _) = _
            rw [if_neg (by simp; omega)]
          · rw [ju]
            rw [if_pos (by simp; omega), aY d, aG (by omega)]
            unfold ba
            simp only [bS]
            by_cases a : -9999 ≤ x.w_[i] ∧ x.w_[i] ≤ 9998
            · rw [oD a]
              simp only [Bool.not_true, Bool.false_eq_true, if_false]
              by_cases o : 0 < i
              · rw [if_pos (by simp; omega), bj (by omega) (by omega), show (i : Int) - 1 = ((i - 1 : Nat) : Int) by omega, aY (show i - 1 < x.w_.length by omega)]
                simp only [bS]
                by_cases f : x.w_[i] ≤ x.w_[i - 1]
                · rw [if_pos (by simpa using f)]
                  exact .inr ⟨fun g => by have := (g d).2 o; omega, rfl⟩
                · rw [if_neg (by simpa using f)]
                  exact .inl ⟨fun _ => ⟨a, fun _ => by omega⟩, rfl⟩
              · rw [if_neg (by simp; omega)]
                exact .inl ⟨fun _ => ⟨a, fun h => absurd h o⟩, rfl⟩
            · rw [pU a]
              exact .inr ⟨fun g => a (g d).1, rfl⟩
        exact u.of_iff ⟨fun g => ⟨c, .inr ⟨by omega, by omega, g⟩⟩, fun g => by rcases g.2 with ⟨g, _, _⟩ | ⟨_, _, g⟩; exact absurd g p; exact g⟩
  · rw [e]
    exact bG fun g => c g.1
theorem xv {x : ap} (j : OkM x) : Dec (kh x) (oV x) := by
  obtain ⟨h1, k, l, m⟩ := j
  unfold kh oV
  rcases (GS h1).cases with ⟨e, c⟩ | ⟨e, c⟩
  · rw [e]
    simp only [cS]
    by_cases i : x.w_.length = 0
    · rw [if_pos (by rw [beq_iff_eq]; omega)]
      unfold aW
      simp only [bS]
      by_cases f : 2 ≤ (x.F_.length : Int) ∧ (x.F_.length : Int) ≤ 4
      · rw [oD f]
        simp only [if_true]
        rcases (yT l m).cases with ⟨a, h⟩ | ⟨a, h⟩
        · rw [a]; exact mR ⟨c, .inl ⟨i, f, h⟩⟩
        · rw [a]; exact bG fun g => by rcases g.2 with ⟨_, _, g⟩ | ⟨_, g, _⟩ <;> first | exact h g | omega
      · rw [pU f]
        exact bG fun g => by rcases g.2 with ⟨_, g, _⟩ | ⟨_, g, _⟩ <;> omega
    · rw [if_neg (by rw [beq_iff_eq]; omega)]
      by_cases o : x.F_.length = 0
      · rw [if_pos (by rw [beq_iff_eq]; omega)]
        rcases (La k).cases with ⟨a, d⟩ | ⟨a, d⟩
        · rw [a]; exact mR ⟨c, .inr ⟨o, d.1, d.2⟩⟩
        · rw [a]; exact bG fun g => by
            rcases g.2 with ⟨g, _, _⟩ | ⟨_, g, g'⟩
            · exact i g
            · exact d ⟨g, g'⟩
      · rw [if_neg (by rw [beq_iff_eq]; omega)]
        exact bG fun g => by rcases g.2 with ⟨g, _, _⟩ | ⟨g, _, _⟩ <;> omega
  · rw [e]
    exact bG fun g => c g.1
end Go.Vk
/- FullMask answers alike. -/
namespace Go.Vk
theorem ND {x : ap} (a : OkM x) (h : oV x) : ∃ n : Nat, nr x = some (n : Int) ∧ nq x = some (n : Int) ∧ 2 ≤ n ∧ n ≤ 4 := by
  unfold nr nq
  rcases (vu a).cases with ⟨e, _⟩ | ⟨_, g⟩
  · rw [e]
    simp only [cS]
    rcases h.2 with ⟨h1, c, _⟩ | ⟨h1, c, _⟩
    · rw [if_neg (fun g => by have := of_decide_eq_true g; omega)]
      exact ⟨_, rfl, rfl, by omega, by omega⟩
    · rw [if_pos (decide_eq_true (by omega)), aG (by omega)]
      exact ⟨_, rfl, rfl, by omega, by omega⟩
  · exact absurd h g
end Go.Vk
/- Schemas: tested, weighed, copied, compared; AllRoom. -/
namespace Go.Vk
def Ij (l : List ap) : Prop := ∀ i, 0 ≤ i → i < l.length → ∀ h : i < l.length, oV l[i] ∧ ∀ j, (a : j < i) → l[i].D_ ≠ l[j].D_
def jV (x : aj) : Prop := (1 ≤ (x.d_.length : Int) ∧ (x.d_.length : Int) ≤ 5) ∧ (2 ≤ (x.f_.length : Int) ∧ (x.f_.length : Int) ≤ 3) ∧ un x.f_ ∧ Ij x.d_
def OkS (x : aj) : Prop := x.d_.length < 1000000000 ∧ (∀ a ∈ x.d_, OkM a) ∧ x.f_.length < 1000000000000 ∧ ∀ y ∈ x.f_, y.length < 1000000000000
theorem JI {x : aj} (s : OkS x) : Dec (dV x aI 0) (Ij x.d_) := by
  obtain ⟨h1, f, _, _⟩ := s
  refine pK (Lp := dV x) (n := x.d_.length) (Q := fun i => ∀ h : i < x.d_.length, oV x.d_[i] ∧ ∀ j, (o : j < i) → x.d_[i].D_ ≠ x.d_[j].D_) 0 (fun k i c => ?_) (fun k i _ c => ?_) (by omega)
  · show (if _ then _ else _) = _
    rw [if_neg (by simp; omega)]
  · rw [dV]
    rw [if_pos (by simp; omega), aY c]
    simp only [bS]
    rcases (vu (f _ (List.getElem_mem c))).cases with ⟨e, p⟩ | ⟨e, p⟩
    · rw [e]
      simp only [cS]
      have key : ∀ (d q j : Nat), i - j = d → d < q → (o : j ≤ i) → (∀ m, (a : m < j) → x.d_[i].D_ ≠ (x.d_[m]'(by omega)).D_) →
          ((∀ m, (a : m < i) → x.d_[i].D_ ≠ x.d_[m].D_) ∧ ga i x (dV x k) q (j : Int) = dV x k ((i + 1 : Nat) : Int)) ∨ ((¬ ∀ m, (a : m < i) → x.d_[i].D_ ≠ x.d_[m].D_) ∧ ga i x (dV x k) q (j : Int) = some false) := by
        intro d
        induction d with
        | zero =>
          intro q j t u o a
          obtain ⟨q, rfl⟩ : ∃ r, q = r + 1 := ⟨q - 1, by omega⟩
          rw [ga]
          rw [if_neg (by simp; omega), aG (by omega)]
          exact .inl ⟨fun m hm' => a m (by omega), rfl⟩
        | succ d ih =>
          intro q j t u o a
          obtain ⟨q, rfl⟩ : ∃ r, q = r + 1 := ⟨q - 1, by omega⟩
          rw [ga]
          rw [if_pos (by simp; omega), aY c, aY (show j < x.d_.length by omega)]
          simp only [bS]
          by_cases l : x.d_[i].D_ = x.d_[j].D_
          · rw [if_pos (by simpa using l)]
            exact .inr ⟨fun g => g j (by omega) l, rfl⟩
          · rw [if_neg (by simpa using l), aG (by omega)]
            exact ih q (j + 1) (by omega) (by omega) (by omega) (fun m hm' => by
              by_cases h : m = j
              · subst h; exact l
              · exact a m (by omega))
      rcases key i aI 0 (by omega) (cw (by omega)) (by omega) (fun m a => by omega) with ⟨h1, f⟩ | ⟨h1, f⟩
      · exact .inl ⟨fun _ => ⟨p, h1⟩, f⟩
      · exact .inr ⟨fun g => h1 (g c).2, f⟩
    · rw [e]
      exact .inr ⟨fun g => p (g c).1, rfl⟩
theorem JB {x : aj} (s : OkS x) : Dec (fm x aI 0 []) (Ij x.d_) := by
  obtain ⟨h1, q, _, _⟩ := s
  have t : Dec (ff (x.d_.map ap.D_)) (un (x.d_.map ap.D_)) := yT (by simp; omega) (fun w l => by
    obtain ⟨a, u, rfl⟩ := List.mem_map.1 l
    exact (q a u).1)
  have key : ∀ (d k i : Nat), x.d_.length - i = d → d < k → i ≤ x.d_.length → Dec (fm x k (i : Int) ((x.d_.take i).map ap.D_)) ((∀ j, i ≤ j → ∀ c : j < x.d_.length, oV x.d_[j]) ∧ un (x.d_.map ap.D_)) := by
    intro d
    induction d with
    | zero =>
      intro k i v hk m
      obtain ⟨k, rfl⟩ := kS k (by omega)
      rw [fm]
      rw [if_neg (by simp; omega), List.take_of_length_le (by omega)]
      have : ∀ o : Option Bool, (o.bind fun y => some y) = o := fun o => by cases o <;> rfl
      rw [this]
      exact t.of_iff ⟨fun g => ⟨fun j r p => by omega, g⟩, fun g => g.2⟩
    | succ d ih =>
      intro k i v hk m
      obtain ⟨k, rfl⟩ := kS k (by omega)
      have f : i < x.d_.length := by omega
      rw [fm]
      rw [if_pos (by simp; omega), aY f]
      simp only [bS]
      rcases (xv (q _ (List.getElem_mem f))).cases with ⟨e, l⟩ | ⟨e, l⟩
      · rw [e]
        simp only [cS]
        rw [cK (by simp; omega)]
        simp only [bS]
        rw [aG (by omega), show (x.d_.take i).map ap.D_ ++ [x.d_[i].D_] = (x.d_.take (i + 1)).map ap.D_ by rw [List.take_succ_eq_append_getElem f, List.map_append]; rfl]
        refine (ih k (i + 1) (by omega) (by omega) (by omega)).of_iff ⟨fun g => ⟨fun j r p => ?_, g.2⟩, fun g => ⟨fun j r p => g.1 j (by omega) p, g.2⟩⟩
        by_cases c : j = i
        · subst c; exact l
        · exact g.1 j (by omega) p
      · rw [e]
        exact bG fun g => l (g.1 i (Nat.le_refl _) f)
  have := key x.d_.length aI 0 (by omega) (cw (by omega)) (by omega)
  have A : Dec (fm x aI 0 []) ((∀ j, 0 ≤ j → ∀ c : j < x.d_.length, oV x.d_[j]) ∧ un (x.d_.map ap.D_)) := this
  refine A.of_iff ⟨fun g i _ _ h => ⟨g.1 i (Nat.zero_le _) h, fun j c C => ?_⟩, fun g => ⟨fun j _ c => (g j (Nat.zero_le _) c c).1, fun i _ _ h => ?_⟩⟩
  · have := (g.2 i (Nat.zero_le _) (by simpa using h) (by simpa using h)).2 j c
    simp at this
    exact this C
  · have m : i < x.d_.length := by simpa using h
    obtain ⟨D, E⟩ := g i (Nat.zero_le _) m m
    exact ⟨by simpa using D.1, fun j c => by simpa using E j c⟩
theorem mT {x : aj} (f : OkS x) : Dec (ea x) (jV x) := by
  have h := JI f
  obtain ⟨h1, k, i, j⟩ := f
  unfold ea ba jV
  simp only [bS]
  by_cases a : 1 ≤ (x.d_.length : Int) ∧ (x.d_.length : Int) ≤ 5
  · rw [oD a]
    simp only [Bool.not_true, Bool.false_eq_true, if_false]
    by_cases c : 2 ≤ (x.f_.length : Int) ∧ (x.f_.length : Int) ≤ 3
    · rw [oD c]
      simp only [cS]
      rcases (Eu i j).cases with ⟨e, d⟩ | ⟨e, d⟩
      · rw [e]
        simp only [cS]
        exact h.of_iff ⟨fun g => ⟨a, c, d, g⟩, fun g => g.2.2.2⟩
      · rw [e]
        exact bG fun g => d g.2.2.1
    · rw [pU c]
      exact bG fun g => c g.2.1
  · rw [pU a]
    exact bG fun g => a g.1
theorem mZ {x : aj} (f : OkS x) : Dec (ed x) (jV x) := by
  have h := JB f
  obtain ⟨h1, k, i, j⟩ := f
  unfold ed aW jV
  simp only [bS]
  by_cases a : 1 ≤ (x.d_.length : Int) ∧ (x.d_.length : Int) ≤ 5
  · rw [oD a]
    simp only [Bool.not_true, Bool.false_eq_true, if_false]
    by_cases c : 2 ≤ (x.f_.length : Int) ∧ (x.f_.length : Int) ≤ 3
    · rw [oD c]
      simp only [cS]
      rcases (yT i j).cases with ⟨e, d⟩ | ⟨e, d⟩
      · rw [e]
        simp only [cS]
        exact h.of_iff ⟨fun g => ⟨a, c, d, g⟩, fun g => g.2.2.2⟩
      · rw [e]
        exact bG fun g => d g.2.2.1
    · rw [pU c]
      exact bG fun g => c g.2.1
  · rw [pU a]
    exact bG fun g => a g.1
end Go.Vk
/- Masks. -/
namespace Go.Vk
end Go.Vk
/- Two texts of data, walked side by side. -/
namespace Go.Vk
def Id {ρ : Type} (a b : Option ρ) (Q : ρ → Prop) : Prop := ∃ m, a = some m ∧ b = some m ∧ Q m
theorem Id.mono {ρ : Type} {a b : Option ρ} {Q R : ρ → Prop} (h : Id a b Q) (f : ∀ m, Q m → R m) : Id a b R := by
  obtain ⟨m, h1, c, d⟩ := h
  exact ⟨m, h1, c, f m d⟩
theorem Id.bind {α ρ : Type} {a b : Option α} {Q : α → Prop} {f g : α → Option ρ} {R : ρ → Prop} (h : Id a b Q) (k : ∀ m, Q m → Id (f m) (g m) R) : Id (a.bind f) (b.bind g) R := by
  obtain ⟨m, h1, c, d⟩ := h
  rw [h1, c]
  exact k m d
end Go.Vk
/- Statistics: tested alike; the greatest of a list. -/
namespace Go.Vk
theorem uT {a : ap} (h : iN a) : OkM a := by
  obtain ⟨h1, d, c⟩ := h
  exact ⟨by omega, by have := d.1; omega, by have := c.1; omega, fun y e => by have := c.2 y e; omega⟩
theorem nG {s : aj} (h : bV s) : OkS s := by
  obtain ⟨h1, c⟩ := h
  exact ⟨by have := h1.1; omega, fun a d => uT (h1.2 a d), by have := c.1; omega, fun y e => by have := c.2 y e; omega⟩
theorem tu {o : Option Bool} {P R : Prop} {f : Bool → Option Bool} (h : Dec o P) (c : P → Dec (f true) R) (d : ¬ P → Dec (f false) R) : Dec (o.bind f) R := by
  rcases h.cases with ⟨e, a⟩ | ⟨e, a⟩
  · rw [e]; exact c a
  · rw [e]; exact d a
theorem LP {c : Prop} [Decidable c] {P R : Prop} {a b : Option Bool} (e : c ↔ P) (f : P → Dec a R) (g : ¬ P → Dec b R) : Dec (if c then a else b) R := by
  by_cases d : c
  · rw [if_pos d]; exact f (e.1 d)
  · rw [if_neg d]; exact g (fun h => d (e.2 h))
theorem fX {x a b : Int} : Dec (aW x a b) (a ≤ x ∧ x ≤ b) := KT
theorem jy {x a b : Int} : Dec (ba x a b) (a ≤ x ∧ x ≤ b) := KT
def nb (a : ap) : Nat := if 0 < a.w_.length then a.w_.length + 1 else a.F_.length
theorem yz {a : ap} (d : iN a) : nq a = some (nb a : Int) := by
  have h1 := d.2.1.1
  unfold nq nb
  by_cases c : 0 < a.w_.length
  · rw [if_pos (by simpa using c), if_pos c, aG (by omega)]
  · rw [if_neg (by simpa using c), if_neg c]
theorem HC {a : ap} (h : oV a) : 2 ≤ nb a ∧ nb a ≤ 4 := by
  unfold nb
  rcases h.2 with ⟨h1, c, _⟩ | ⟨h1, c, _⟩
  · rw [if_neg (by omega)]; omega
  · rw [if_pos (by omega)]; omega
theorem Cy {a : ap} (c : iN a) (h : oV a) : nr a = some (nb a : Int) := by
  obtain ⟨n, d, e, _⟩ := ND (uT c) h
  rw [d, ← e, yz c]
theorem jV.attr {s : aj} (h : jV s) {i : Nat} (a : i < s.d_.length) : oV s.d_[i] := (h.2.2.2 i (Nat.zero_le _) a a).1
def mq (l : List Int) (c k : Nat) : Nat → Int
  | 0 => 0
  | b + 1 => mq l c k b + l.getD (b * c + k) 0
def DD (c n : Nat) (tot l : List Int) : Prop := l.length = n * c ∧ (∀ x ∈ l, 0 ≤ x ∧ x ≤ 999) ∧ ∀ k, k < c → mq l c k n ≤ tot.getD k 0
def ur (s : aj) (t : bl) : Prop := jV s ∧ t.q_.length = s.f_.length ∧ (∀ x ∈ t.q_, 0 ≤ x ∧ x ≤ 999) ∧ t.q_.sum ≤ 999 ∧
  (t.k_.length = 0 ∨ (t.k_.length = s.d_.length ∧ ∀ i (h : i < t.k_.length) (a : i < s.d_.length), DD s.f_.length (nb s.d_[i]) t.q_ t.k_[i]))
theorem MJ {l : List Int} (h : ∀ x ∈ l, 0 ≤ x ∧ x ≤ 999) (i : Nat) : 0 ≤ l.getD i 0 ∧ l.getD i 0 ≤ 999 := by
  rw [List.getD_eq_getElem?_getD]
  by_cases a : i < l.length
  · rw [List.getElem?_eq_getElem a]; exact h _ (List.getElem_mem a)
  · rw [List.getElem?_eq_none (by omega)]; simp
theorem vJ {l : List Int} {i : Nat} (h : i < l.length) : l.getD i 0 = l[i] := by simp [h]
theorem Lg {l : List Int} {c k : Nat} (h : ∀ x ∈ l, 0 ≤ x ∧ x ≤ 999) : ∀ n : Nat, 0 ≤ mq l c k n ∧ mq l c k n ≤ 999 * n
  | 0 => by simp [mq]
  | n + 1 => by
    have := Lg (c := c) (k := k) h n
    have := MJ h (n * c + k)
    simp only [mq]
    omega
theorem Jz {l : List Int} {c k : Nat} (h : ∀ x ∈ l, 0 ≤ x ∧ x ≤ 999) {n m : Nat} (a : n ≤ m) : mq l c k n ≤ mq l c k m := by
  induction m with
  | zero => rw [show n = 0 by omega]; exact Int.le_refl _
  | succ m ih =>
    by_cases e : n = m + 1
    · rw [e]; exact Int.le_refl _
    · have := ih (by omega)
      have := MJ h (m * c + k)
      simp only [mq]
      omega
theorem Cd {l : List Int} (m : l.length ≤ 1048576) (n : Int) : Dec (nk l n) ((l.length : Int) = n ∧ ∀ x ∈ l, 0 ≤ x ∧ x ≤ 999) := by
  unfold nk
  by_cases d : (l.length : Int) = n
  · rw [if_pos (by simpa using d)]
    have f : Dec (bX l) (∃ i, i < l.length ∧ ∀ h : i < l.length, ¬ (0 ≤ l[i] ∧ l[i] ≤ 999)) := by
      unfold bX cE
      refine qx (Lp := bL l) (n := l.length) (fun k i a => ?_) (fun k i a => ?_) (by omega)
      · show (if _ then _ else _) = _
        rw [if_neg (by simp; omega)]
      · rw [bL, if_pos (by simp; omega), aY a, aG (by omega)]
        unfold pu aW
        simp only [bS]
        by_cases h : 0 ≤ l[i] ∧ l[i] ≤ 999
        · rw [oD h]; exact .inr ⟨fun g => g a h, rfl⟩
        · rw [pU h]; exact .inl ⟨fun _ => h, rfl⟩
    rcases f.cases with ⟨e, i, a, h⟩ | ⟨e, h⟩
    · rw [e]; exact bG fun g => h a (g.2 _ (List.getElem_mem a))
    · rw [e]; exact mR ⟨d, fun x j => by
        obtain ⟨i, a, rfl⟩ := List.getElem_of_mem j
        exact Classical.byContradiction fun c => h ⟨i, a, fun _ => c⟩⟩
  · rw [if_neg (by simpa using d)]
    exact bG fun g => d g.1
theorem Hl {p : List Int} (a : ∀ x ∈ p, 0 ≤ x ∧ x ≤ 1000000000) (d : p.length ≤ 1048576) : ls p = some p.sum := by
  unfold ls
  have h := xS (p := p) (fun x => x) (fL p) some (fun k s => by
    show (if _ then _ else _) = _
    rw [if_neg (by simp)]) (fun k s i c => by
    rw [fL, if_pos (by simp; omega), aY c, aG (by omega)]
    rfl) a (by omega)
  simpa using h
def oF (l : List Int) (c i : Nat) : List Int := (List.range c).map fun k => mq l c k (i / c + if k < i % c then 1 else 0)
theorem ub (l : List Int) (c i : Nat) : (oF l c i).length = c := by simp [oF]
theorem rZ {l : List Int} {c i k : Nat} (h : k < c) : (oF l c i)[k]'(by simpa [oF] using h) = mq l c k (i / c + if k < i % c then 1 else 0) := by simp [oF]
theorem Af {l : List Int} {c i : Nat} (e : 0 < c) : oF l c (i + 1) = (oF l c i).set (i % c) (mq l c (i % c) (i / c + 1)) := by
  have j := Nat.mod_lt i e
  have m := Nat.div_add_mod i c
  apply List.ext_getElem (by simp [oF])
  intro k h1 o
  have hk : k < c := by simpa [oF] using h1
  rw [rZ hk, List.getElem_set]
  by_cases h : i % c + 1 = c
  · have f : (i + 1) / c = i / c + 1 := by
      have : i + 1 = c * (i / c + 1) := by rw [Nat.mul_add, Nat.mul_one]; omega
      rw [this, Nat.mul_div_cancel_left _ e]
    have g : (i + 1) % c = 0 := by
      have : i + 1 = c * (i / c + 1) := by rw [Nat.mul_add, Nat.mul_one]; omega
      rw [this, Nat.mul_mod_right]
    rw [f, g, if_neg (by omega)]
    by_cases a : i % c = k
    · rw [if_pos a, a]
    · rw [if_neg a, rZ hk, if_pos (by omega)]
  · have f : (i + 1) / c = i / c := by
      have : i + 1 = (i % c + 1) + c * (i / c) := by omega
      rw [this, Nat.add_mul_div_left _ _ e, Nat.div_eq_of_lt (by omega), Nat.zero_add]
    have g : (i + 1) % c = i % c + 1 := by
      have : i + 1 = (i % c + 1) + c * (i / c) := by omega
      rw [this, Nat.add_mul_mod_self_left, Nat.mod_eq_of_lt (by omega)]
    rw [f, g]
    by_cases a : i % c = k
    · rw [if_pos a, if_pos (by omega), a]
    · rw [if_neg a, rZ hk]
      by_cases d : k < i % c
      · rw [if_pos (by omega), if_pos d]
      · rw [if_neg (by omega), if_neg d]
theorem GN (l : List Int) (c : Nat) : oF l c 0 = List.replicate c 0 := by
  apply List.ext_getElem (by simp [oF])
  intro k h1 a
  have hk : k < c := by simpa [oF] using h1
  rw [rZ hk]
  simp [mq]
theorem Ir {s : aj} {t : bl} {l : List Int} {n : Nat} (D : jV s) (T : t.q_.length = s.f_.length) (E : n ≤ 4) (h1 : l.length = n * s.f_.length) (h : ∀ x ∈ l, 0 ≤ x ∧ x ≤ 999) (R : Int → Option Bool) (i : Nat) (V : i ≤ 1048576) :
    ((∀ k, k < s.f_.length → mq l s.f_.length k n ≤ t.q_.getD k 0 ∨ n = 0) ∧ dK l s t R (i : Int) aI 0 (List.replicate s.f_.length 0) = R ((i + 1 : Nat) : Int)) ∨
    ((¬ ∀ k, k < s.f_.length → mq l s.f_.length k n ≤ t.q_.getD k 0 ∨ n = 0) ∧ dK l s t R (i : Int) aI 0 (List.replicate s.f_.length 0) = some false) := by
  have u : 2 ≤ s.f_.length ∧ s.f_.length ≤ 3 := by have := D.2.1; omega
  generalize F : s.f_.length = c at *
  have a : 0 < c := by omega
  have G : l.length ≤ 12 := by
    have : n * c ≤ 4 * 3 := Nat.mul_le_mul E u.2
    omega
  rw [← GN l c]
  rcases vv (Lp := fun k j => dK l s t R (i : Int) k (j : Int) (oF l c j)) (n := l.length) (Q := fun j => mq l c (j % c) (j / c + 1) ≤ t.q_.getD (j % c) 0) (fin := R ((i + 1 : Nat) : Int)) (bad := some false) (fun k _ => by
      show dK l s t R (i : Int) (k + 1) _ _ = _
      rw [dK, if_neg (by simp), aG (by omega)]) (fun k j e _ => by
      show (_ ∧ dK l s t R (i : Int) (k + 1) _ _ = _) ∨ (_ ∧ dK l s t R (i : Int) (k + 1) _ _ = _)
      have d := Nat.mod_lt j a
      have o : rem (j : Int) (c : Int) = some ((j % c : Nat) : Int) := by
        unfold rem
        rw [if_neg (by omega), mV]
      have v : j / c * c + j % c = j := by rw [Nat.mul_comm]; exact Nat.div_add_mod j c
      have p : mq l c (j % c) (j / c + 1) = mq l c (j % c) (j / c) + l[j] := by
        simp only [mq]
        rw [v, vJ e]
      have X := Lg (c := c) (k := j % c) h (j / c)
      have M : j / c ≤ 12 := Nat.le_trans (Nat.div_le_self _ _) (by omega)
      have P := h _ (List.getElem_mem e)
      have H : (oF l c j)[j % c]'(by rw [ub]; exact d) = mq l c (j % c) (j / c) := by
        rw [rZ d, if_neg (by omega)]; rfl
      have L : IntKind.i64.wrap (mq l c (j % c) (j / c) + l[j]) = mq l c (j % c) (j / c + 1) := by
        rw [p, bj (by omega) (by omega)]
      rw [dK, if_pos (by simp; omega), aY e, F, o]
      simp only [bS]
      rw [aY (by rw [ub]; exact d), H]
      simp only [Option.bind_some, Int.toNat_natCast]
      rw [L, ← Af a, aY (by rw [ub]; exact d), aY (by omega : j % c < t.q_.length)]
      simp only [bS]
      have w : (oF l c (j + 1))[j % c]'(by rw [ub]; exact d) = mq l c (j % c) (j / c + 1) := by
        simp only [Af a, List.getElem_set_self]
      rw [w, vJ (by omega : j % c < t.q_.length), aG (by omega)]
      by_cases f : mq l c (j % c) (j / c + 1) ≤ t.q_[j % c]
      · rw [if_neg (by simpa using f)]
        exact .inl ⟨f, rfl⟩
      · rw [if_pos (by simpa using f)]
        exact .inr ⟨f, rfl⟩) (by omega) with ⟨q, r⟩ | ⟨q, r⟩
  · refine .inl ⟨fun k hk => ?_, r⟩
    by_cases A : n = 0
    · exact .inr A
    · left
      have C : (n - 1) * c + k < l.length := by
        rw [h1]
        obtain ⟨m, rfl⟩ : ∃ m, n = m + 1 := ⟨n - 1, by omega⟩
        rw [Nat.add_sub_cancel, Nat.add_mul]; omega
      have := q _ C
      rw [show ((n - 1) * c + k) % c = k by rw [Nat.mul_comm, Nat.mul_add_mod, Nat.mod_eq_of_lt hk], show ((n - 1) * c + k) / c + 1 = n by rw [Nat.mul_comm, Nat.mul_add_div a, Nat.div_eq_of_lt hk]; omega] at this
      exact this
  · refine .inr ⟨fun g => q fun j e => ?_, r⟩
    have d := Nat.mod_lt j a
    rcases g _ d with g | g
    · refine Int.le_trans (Jz h ?_) g
      have : j / c < n := Nat.div_lt_of_lt_mul (by rw [Nat.mul_comm]; omega)
      omega
    · rw [h1, g, Nat.zero_mul] at e
      omega
theorem JV {s : aj} {t : bl} (A : bV s) (p : oT t) : Dec (pM s t) (ur s t) := by
  unfold pM ur
  refine tu (mZ (nG A)) (fun f => ?_) (fun g => bG fun h => g h.1)
  simp only [Bool.not_true, Bool.false_eq_true, if_false]
  have C := p.1.1
  have P := p.2.1
  rcases (Cd C (s.f_.length : Int)).cases with ⟨e, j⟩ | ⟨e, j⟩
  · rw [e]
    simp only [cS]
    have q : t.q_.length = s.f_.length := by omega
    rw [Hl (fun x H => by have := j.2 x H; omega) C]
    simp only [bS]
    by_cases c : t.q_.sum ≤ 999
    · rw [if_neg (by simp; omega)]
      by_cases o : t.k_.length = 0
      · rw [if_pos (by simp; exact List.length_eq_zero_iff.1 o)]
        exact mR ⟨f, q, j.2, c, .inl o⟩
      · rw [if_neg (by rw [beq_iff_eq]; omega)]
        by_cases r : t.k_.length = s.d_.length
        · rw [if_neg (by simp [r])]
          refine (rr (Lp := fun k i => dt t s k (i : Int)) (n := t.k_.length) (Q := fun i => ∀ (h : i < t.k_.length) (a : i < s.d_.length), DD s.f_.length (nb s.d_[i]) t.q_ t.k_[i]) (F := True) (fun k _ => ?_) (fun k i l _ => ?_) (by omega)).of_iff
            ⟨fun g => ⟨f, q, j.2, c, .inr ⟨r, fun i h a => g.1 i h h a⟩⟩, fun g => ⟨fun i _ h a => by
              rcases g.2.2.2.2 with g | g
              · exact absurd g o
              · exact g.2 i h a, trivial⟩⟩
          · show Dec (dt t s (k + 1) _) _
            rw [dt, if_neg (by simp)]
            exact mR trivial
          · show (_ ∧ dt t s (k + 1) _ = dt t s k _) ∨ (_ ∧ dt t s (k + 1) _ = _)
            have d : i < s.d_.length := by omega
            have L := A.1.2 _ (List.getElem_mem d)
            have D := HC (f.attr d)
            have E := p.2.2 _ (List.getElem_mem l)
            have R := f.2.1
            have M : nb s.d_[i] * s.f_.length ≤ 4 * 3 := Nat.mul_le_mul (by omega) (by omega)
            rw [dt, if_pos (by simp; omega), aY l, aY d]
            simp only [bS]
            rw [yz L]
            simp only [bS]
            have G : IntKind.i64.wrap ((nb s.d_[i] : Int) * (s.f_.length : Int)) = ((nb s.d_[i] * s.f_.length : Nat) : Int) := by
              rw [← Int.natCast_mul, gq (by omega)]
            rw [G]
            rcases (Cd E.1 ((nb s.d_[i] * s.f_.length : Nat) : Int)).cases with ⟨u, a⟩ | ⟨u, a⟩
            · rw [u]
              simp only [cS]
              unfold tV
              rw [Oh _ (by omega)]
              simp only [bS]
              have m : t.k_[i].length = nb s.d_[i] * s.f_.length := by omega
              rcases Ir (t := t) f q D.2 m a.2 (dt t s k) i (by omega) with ⟨v, w⟩ | ⟨v, w⟩
              · exact .inl ⟨fun _ _ => ⟨m, a.2, fun k hk => by
                  rcases v k hk with g | g
                  · exact g
                  · omega⟩, w⟩
              · exact .inr ⟨fun g => v fun k hk => .inl ((g l d).2.2 k hk), w⟩
            · rw [u]
              exact .inr ⟨fun g => a ⟨by have := (g l d).1; omega, (g l d).2.1⟩, rfl⟩
        · rw [if_pos (by simp; omega)]
          exact bG fun g => by
            rcases g.2.2.2.2 with g | g
            · exact o g
            · exact r g.1
    · rw [if_pos (by simp; omega)]
      exact bG fun g => c g.2.2.2.1
  · rw [e]
    exact bG fun g => j ⟨by have := g.2.1; omega, g.2.2.1⟩
theorem HF {s : aj} {t : bl} {l : List Int} {n i : Nat} (C : jV s) (X : t.q_.length = s.f_.length) (Z : n ≤ 4) (D : i < t.k_.length) (E : t.k_[i] = l) (h1 : l.length = n * s.f_.length) (R : Int → Option Bool) (P : i ≤ 1048576) :
    (((∀ x ∈ l, 0 ≤ x ∧ x ≤ 999) ∧ ∀ k, k < s.f_.length → mq l s.f_.length k n ≤ t.q_.getD k 0) ∧ bT s (n : Int) t (i : Int) R aI 0 = R ((i + 1 : Nat) : Int)) ∨
    ((¬ ((∀ x ∈ l, 0 ≤ x ∧ x ≤ 999) ∧ ∀ k, k < s.f_.length → mq l s.f_.length k n ≤ t.q_.getD k 0)) ∧ bT s (n : Int) t (i : Int) R aI 0 = some false) := by
  have T : 2 ≤ s.f_.length ∧ s.f_.length ≤ 3 := by have := C.2.1; omega
  generalize r : s.f_.length = c at *
  have u : 0 < c := by omega
  have f : ∀ k b, k < c → b < n → b * c + k < l.length := fun k b hk h => by
    rw [h1]
    have : (b + 1) * c ≤ n * c := Nat.mul_le_mul_right _ h
    rw [Nat.add_mul] at this; omega
  rcases vv (Lp := fun q k => bT s (n : Int) t (i : Int) R q (k : Int)) (n := c) (Q := fun k => (∀ b, b < n → 0 ≤ l.getD (b * c + k) 0 ∧ l.getD (b * c + k) 0 ≤ 999) ∧ mq l c k n ≤ t.q_.getD k 0) (fin := R ((i + 1 : Nat) : Int)) (bad := some false) (fun q _ => by
      show bT s (n : Int) t (i : Int) R (q + 1) _ = _
      rw [bT, r, if_neg (by simp), aG (by omega)]) (fun q k hk _ => by
      show (_ ∧ bT s (n : Int) t (i : Int) R (q + 1) _ = bT s (n : Int) t (i : Int) R q _) ∨ (_ ∧ bT s (n : Int) t (i : Int) R (q + 1) _ = _)
      rw [bT, r, if_pos (by simp; omega)]
      rcases vv (Lp := fun e b => dr (n : Int) t (i : Int) s (k : Int) (bT s (n : Int) t (i : Int) R q) e (mq l c k b) (b : Int)) (n := n) (Q := fun b => 0 ≤ l.getD (b * c + k) 0 ∧ l.getD (b * c + k) 0 ≤ 999)
          (fin := if mq l c k n ≤ t.q_.getD k 0 then bT s (n : Int) t (i : Int) R q ((k + 1 : Nat) : Int) else some false) (bad := some false) (fun e _ => by
          show dr (n : Int) t (i : Int) s (k : Int) (bT s (n : Int) t (i : Int) R q) (e + 1) _ _ = _
          rw [dr, if_neg (by simp), aY (by omega : k < t.q_.length), aG (by omega), vJ (by omega : k < t.q_.length)]
          simp only [bS]
          by_cases g : mq l c k n ≤ t.q_[k]
          · rw [if_pos g, if_neg (by simpa using g)]
          · rw [if_neg g, if_pos (by simpa using g)]) (fun e b h F => by
          show (_ ∧ dr (n : Int) t (i : Int) s (k : Int) (bT s (n : Int) t (i : Int) R q) (e + 1) _ _ = dr (n : Int) t (i : Int) s (k : Int) (bT s (n : Int) t (i : Int) R q) e _ _) ∨ (_ ∧ dr (n : Int) t (i : Int) s (k : Int) (bT s (n : Int) t (i : Int) R q) (e + 1) _ _ = _)
          have p := f k b hk h
          have V : b * c ≤ 4 * 3 := Nat.mul_le_mul (by omega) (by omega)
          have G : IntKind.i64.wrap (IntKind.i64.wrap ((b : Int) * (c : Int)) + (k : Int)) = ((b * c + k : Nat) : Int) := by
            rw [← Int.natCast_mul, gq (by omega), ← Int.natCast_add, gq (by omega)]
          have v : ∀ m, m ≤ b → 0 ≤ mq l c k m ∧ mq l c k m ≤ 999 * m := fun m => by
            induction m with
            | zero => intro _; simp [mq]
            | succ m ih =>
              intro w
              have d := ih (by omega)
              have a := F m (by omega)
              simp only [mq]
              omega
          have H := v b (Nat.le_refl _)
          rw [dr, if_pos (by simp; omega), aY D, r, G]
          simp only [bS]
          rw [E, aY p]
          simp only [bS]
          unfold ba
          simp only [bS]
          have o := vJ p
          by_cases g : 0 ≤ l[b * c + k] ∧ l[b * c + k] ≤ 999
          · rw [oD g, o]
            simp only [Bool.not_true, Bool.false_eq_true, if_false]
            rw [bj (n := mq l c k b + l[b * c + k]) (by omega) (by omega), aG (by omega)]
            refine .inl ⟨g, ?_⟩
            congr 1
            simp only [mq]
            rw [o]
          · rw [pU g, o]
            exact .inr ⟨g, rfl⟩) (by omega) with ⟨d, a⟩ | ⟨d, a⟩
      · have a : dr (n : Int) t (i : Int) s (k : Int) (bT s (n : Int) t (i : Int) R q) aI 0 0 = _ := a
        rw [a]
        by_cases g : mq l c k n ≤ t.q_.getD k 0
        · rw [if_pos g]; exact .inl ⟨⟨d, g⟩, rfl⟩
        · rw [if_neg g]; exact .inr ⟨fun x => g x.2, rfl⟩
      · have a : dr (n : Int) t (i : Int) s (k : Int) (bT s (n : Int) t (i : Int) R q) aI 0 0 = _ := a
        rw [a]
        exact .inr ⟨fun x => d x.1, rfl⟩) (by omega) with ⟨d, a⟩ | ⟨d, a⟩
  · refine .inl ⟨⟨fun x L => ?_, fun k hk => (d k hk).2⟩, a⟩
    obtain ⟨j, M, rfl⟩ := List.getElem_of_mem L
    have w := Nat.mod_lt j u
    have A : j / c * c + j % c = j := by rw [Nat.mul_comm]; exact Nat.div_add_mod j c
    have := (d _ w).1 (j / c) (Nat.div_lt_of_lt_mul (by rw [Nat.mul_comm]; omega))
    rw [A, vJ M] at this
    exact this
  · refine .inr ⟨fun g => d fun k hk => ⟨fun b h => ?_, g.2 k hk⟩, a⟩
    rw [vJ (f k b hk h)]
    exact g.1 _ (List.getElem_mem _)
theorem yY {s : aj} {t : bl} (A : bV s) (C : oT t) : Dec (lv s t) (ur s t) := by
  unfold lv ur
  refine tu (mT (nG A)) (fun l => ?_) (fun g => bG fun h => g h.1)
  have Z := C.1.1
  have T := C.2.1
  by_cases m : t.q_.length = s.f_.length
  · rw [if_neg (by simp [m])]
    have V : 2 ≤ s.f_.length ∧ s.f_.length ≤ 3 := by have := l.2.1; omega
    have H : (∀ i, i < t.q_.length → ∀ h : i < t.q_.length, 0 ≤ t.q_[i] ∧ t.q_[i] ≤ 999) → Dec (if decide (t.q_.sum > 999) then some false else if ((t.k_.length : Int) == 0) then some true else if ((t.k_.length : Int) != (s.d_.length : Int)) then some false else cW t s aI 0) (t.q_.sum ≤ 999 ∧
        (t.k_.length = 0 ∨ (t.k_.length = s.d_.length ∧ ∀ i (h : i < t.k_.length) (c : i < s.d_.length), DD s.f_.length (nb s.d_[i]) t.q_ t.k_[i]))) := fun _ => by
      by_cases d : t.q_.sum ≤ 999
      · rw [if_neg (by simp; omega)]
        by_cases o : t.k_.length = 0
        · rw [if_pos (by simp; exact List.length_eq_zero_iff.1 o)]
          exact mR ⟨d, .inl o⟩
        · rw [if_neg (by rw [beq_iff_eq]; omega)]
          by_cases r : t.k_.length = s.d_.length
          · rw [if_neg (by simp [r])]
            refine (rr (Lp := fun k i => cW t s k (i : Int)) (n := t.k_.length) (Q := fun i => ∀ (h : i < t.k_.length) (c : i < s.d_.length), DD s.f_.length (nb s.d_[i]) t.q_ t.k_[i]) (F := True) (fun k _ => ?_) (fun k i a _ => ?_) (by omega)).of_iff
              ⟨fun g => ⟨d, .inr ⟨r, fun i h c => g.1 i h h c⟩⟩, fun g => ⟨fun i _ h c => by
                rcases g.2 with g | g
                · exact absurd g o
                · exact g.2 i h c, trivial⟩⟩
            · show Dec (cW t s (k + 1) _) _
              rw [cW, if_neg (by simp)]
              exact mR trivial
            · show (_ ∧ cW t s (k + 1) _ = cW t s k _) ∨ (_ ∧ cW t s (k + 1) _ = _)
              have e : i < s.d_.length := by omega
              have L := A.1.2 _ (List.getElem_mem e)
              have D := HC (l.attr e)
              have M : nb s.d_[i] * s.f_.length ≤ 4 * 3 := Nat.mul_le_mul (by omega) (by omega)
              have E : IntKind.i64.wrap ((nb s.d_[i] : Int) * (s.f_.length : Int)) = ((nb s.d_[i] * s.f_.length : Nat) : Int) := by
                rw [← Int.natCast_mul, gq (by omega)]
              rw [cW, if_pos (by simp; omega), aY a, aY e]
              simp only [bS]
              rw [Cy L (l.attr e)]
              simp only [bS]
              rw [E]
              by_cases f : t.k_[i].length = nb s.d_[i] * s.f_.length
              · rw [if_neg (by rw [bne_iff_ne]; omega)]
                rcases HF l m D.2 a rfl f (cW t s k) (by omega) with ⟨q, u⟩ | ⟨q, u⟩
                · exact .inl ⟨fun _ _ => ⟨f, q.1, q.2⟩, u⟩
                · exact .inr ⟨fun g => q ⟨(g a e).2.1, (g a e).2.2⟩, u⟩
              · rw [if_pos (by rw [bne_iff_ne]; omega)]
                exact .inr ⟨fun g => f (g a e).1, rfl⟩
          · rw [if_pos (by simp; omega)]
            exact bG fun g => by
              rcases g.2 with g | g
              · exact o g
              · exact r g.1
      · rw [if_pos (by simp; omega)]
        exact bG fun g => d g.1
    refine Dec.of_iff (P := (∀ i, i < t.q_.length → ∀ h : i < t.q_.length, 0 ≤ t.q_[i] ∧ t.q_[i] ≤ 999) ∧ (t.q_.sum ≤ 999 ∧
        (t.k_.length = 0 ∨ (t.k_.length = s.d_.length ∧ ∀ i (h : i < t.k_.length) (c : i < s.d_.length), DD s.f_.length (nb s.d_[i]) t.q_ t.k_[i])))) ?_ ⟨fun g => ⟨l, m, fun x v => by
        obtain ⟨i, a, rfl⟩ := List.getElem_of_mem v
        exact g.1 i a a, g.2⟩, fun g => ⟨fun i a _ => g.2.2.1 _ (List.getElem_mem a), g.2.2.2⟩⟩
    have := rr (Lp := fun k i => eC t s k (t.q_.take i).sum (i : Int)) (n := t.q_.length) (Q := fun i => ∀ h : i < t.q_.length, 0 ≤ t.q_[i] ∧ t.q_[i] ≤ 999) (F := t.q_.sum ≤ 999 ∧
        (t.k_.length = 0 ∨ (t.k_.length = s.d_.length ∧ ∀ i (h : i < t.k_.length) (c : i < s.d_.length), DD s.f_.length (nb s.d_[i]) t.q_ t.k_[i]))) (fun k w => by
      show Dec (eC t s (k + 1) _ _) _
      rw [eC, if_neg (by simp), List.take_length]
      exact H w) (fun k i a w => by
      show (_ ∧ eC t s (k + 1) _ _ = eC t s k _ _) ∨ (_ ∧ eC t s (k + 1) _ _ = _)
      have hb := qf (p := t.q_.take i) (b := 999) (fun x v => by
        obtain ⟨j, R, rfl⟩ := List.getElem_of_mem v
        have G : j < i := by have : j < (t.q_.take i).length := R; simp at this; omega
        rw [List.getElem_take]
        exact w j G (by omega))
      have X : ((t.q_.take i).length : Int) ≤ 3 := by simp; omega
      rw [eC, if_pos (by simp; omega), aY a]
      unfold ba
      simp only [bS]
      by_cases g : 0 ≤ t.q_[i] ∧ t.q_[i] ≤ 999
      · rw [oD g]
        simp only [Bool.not_true, Bool.false_eq_true, if_false]
        rw [bj (n := (t.q_.take i).sum + t.q_[i]) (by omega) (by omega), aG (by omega), yG a]
        exact .inl ⟨fun _ => g, rfl⟩
      · rw [pU g]
        exact .inr ⟨fun x => g (x a), rfl⟩) (by omega)
    simpa using this
  · rw [if_pos (by simp; omega)]
    exact bG fun g => m g.2.1
end Go.Vk
/- Forks: tested alike. -/
namespace Go.Vk
def Fc (a : ap) : Int := (nb a : Int) - (if 0 < a.w_.length then 2 else 1)
def atr (s : aj) (f : bD) : ap := s.d_.getD f.t_.toNat default
def uZ (s : aj) (f : bD) : Prop := jV s ∧ (0 ≤ f.t_ ∧ f.t_ ≤ (s.d_.length : Int) - 1) ∧ (-1 ≤ f.u_ ∧ f.u_ ≤ Fc (atr s f))
theorem Iq {s : aj} {f : bD} (h : 0 ≤ f.t_ ∧ f.t_ ≤ (s.d_.length : Int) - 1) : ∃ (i : Nat) (a : i < s.d_.length), f.t_ = i ∧ atr s f = s.d_[i] := by
  refine ⟨f.t_.toNat, by omega, by omega, ?_⟩
  unfold atr
  simp [show f.t_.toNat < s.d_.length by omega]
theorem Bf {s : aj} {f : bD} (h : 0 ≤ f.t_ ∧ f.t_ ≤ (s.d_.length : Int) - 1) : idx s.d_ f.t_ = some (atr s f) := by
  obtain ⟨i, a, c, d⟩ := Iq h
  rw [c, d, aY a]
theorem yn {s : aj} {f : bD} (h : 0 ≤ f.t_ ∧ f.t_ ≤ (s.d_.length : Int) - 1) : atr s f ∈ s.d_ := by
  obtain ⟨i, a, d, c⟩ := Iq h
  rw [c]; exact List.getElem_mem a
theorem Fp {s : aj} {f : bD} (a : jV s) (h : 0 ≤ f.t_ ∧ f.t_ ≤ (s.d_.length : Int) - 1) : oV (atr s f) := by
  obtain ⟨i, c, e, d⟩ := Iq h
  rw [d]; exact a.attr c
theorem GY {s : aj} {f : bD} (d : bV s) : Dec (oK s f) (uZ s f) := by
  unfold oK uZ
  refine tu (mT (nG d)) (fun i => ?_) (fun g => bG fun h => g h.1)
  have m := d.1.1
  simp only [Bool.not_true, Bool.false_eq_true, if_false]
  rw [bj (n := (s.d_.length : Int) - 1) (by omega) (by omega)]
  rcases (jy (x := f.t_) (a := 0) (b := (s.d_.length : Int) - 1)).cases with ⟨e, c⟩ | ⟨e, c⟩
  · rw [e]
    simp only [cS]
    have k := d.1.2 _ (yn c)
    have j := Fp i c
    have l := HC j
    rw [Bf c]
    simp only [bS]
    rw [Cy k j]
    simp only [bS]
    unfold Fc
    refine LP (P := 0 < (atr s f).w_.length) (by simp) (fun h => ?_) (fun h => ?_)
    · rw [if_pos h, bj (by omega) (by omega)]
      have : ∀ o : Option Bool, (o.bind fun y => some y) = o := fun o => by cases o <;> rfl
      rw [this]
      exact jy.of_iff ⟨fun g => ⟨i, c, g⟩, fun g => g.2.2⟩
    · rw [if_neg h, bj (by omega) (by omega)]
      have : ∀ o : Option Bool, (o.bind fun y => some y) = o := fun o => by cases o <;> rfl
      rw [this]
      exact jy.of_iff ⟨fun g => ⟨i, c, g⟩, fun g => g.2.2⟩
  · rw [e]
    exact bG fun g => c g.2.1
theorem GK {s : aj} {f : bD} (i : bV s) : Dec (qP s f) (uZ s f) := by
  unfold qP uZ
  refine tu (mZ (nG i)) (fun j => ?_) (fun g => bG fun h => g h.1)
  have p := i.1.1
  simp only [Bool.not_true, Bool.false_eq_true, if_false]
  rw [bj (n := (s.d_.length : Int) - 1) (by omega) (by omega)]
  rcases (fX (x := f.t_) (a := 0) (b := (s.d_.length : Int) - 1)).cases with ⟨e, c⟩ | ⟨e, c⟩
  · rw [e]
    simp only [cS]
    have k := i.1.2 _ (yn c)
    have l := Fp j c
    have m := HC l
    rw [Bf c]
    simp only [bS]
    rw [yz k]
    simp only [bS]
    unfold Fc
    have d : ∀ o : Option Bool, (o.bind fun y => some y) = o := fun o => by cases o <;> rfl
    refine LP (P := 0 < (atr s f).w_.length) (by simp) (fun h => ?_) (fun h => ?_)
    · rw [if_pos h, bj (n := (nb (atr s f) : Int) - 1) (by omega) (by omega), bj (by omega) (by omega), d, show (nb (atr s f) : Int) - 1 - 1 = (nb (atr s f) : Int) - 2 by omega]
      exact fX.of_iff ⟨fun g => ⟨j, c, g⟩, fun g => g.2.2⟩
    · rw [if_neg h, bj (by omega) (by omega), d]
      exact fX.of_iff ⟨fun g => ⟨j, c, g⟩, fun g => g.2.2⟩
  · rw [e]
    exact bG fun g => c g.2.1
end Go.Vk
