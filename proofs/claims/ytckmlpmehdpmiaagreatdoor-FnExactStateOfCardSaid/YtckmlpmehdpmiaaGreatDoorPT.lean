/- The laws' types: weighed, copied, compared; the rows' frames. Printed by program. -/
import Derived.Test.YtckmlpmehdpmiaaGreatDoorRF
import Derived.Test.YtckmlpmehdpmiaaGreatDoorVkBr
namespace Go.Vk
theorem Fu {a b : List UInt8} (h : a.length + b.length ≤ 10000) : mB a b = some (a ++ b) := by
  unfold mB
  rw [if_pos (by omega)]
theorem Ah {m : Nat} (h : m + 1 < 4611686018427387905) : ∃ t, jg (m : Int) = some t := by
  have key : ∀ (d k i : Nat) (s : List UInt8), i < 10 ^ d → i < 4611686018427387905 → d < k → s.length + d ≤ 1000 → ∃ t, ii k (i : Int) s = some t := by
    intro d
    induction d with
    | zero =>
      intro k i s a c hk f
      obtain ⟨k, rfl⟩ := kS k (by omega)
      rw [ii, if_neg (by simp at a ⊢; omega), Fu (by simp; omega)]
      exact ⟨_, rfl⟩
    | succ d ih =>
      intro k i s a c hk f
      obtain ⟨k, rfl⟩ := kS k (by omega)
      rw [ii]
      split
      · rw [Fu (by simp [dw]; omega)]
        simp only [bS]
        have g : i / 10 < 10 ^ d := by rw [Nat.pow_succ] at a; omega
        have e : IntKind.i64.wrap (Int.tdiv (i : Int) 10) = ((i / 10 : Nat) : Int) := by
          rw [show (10 : Int) = ((10 : Nat) : Int) from rfl, rU, gq (by omega)]
        rw [e]
        exact ih k _ _ g (by omega) (by omega) (by simp [dw]; omega)
      · rw [Fu (by simp; omega)]
        exact ⟨_, rfl⟩
  unfold jg
  split
  · exact ⟨_, rfl⟩
  · exact key 19 aI m [] (by omega) (by omega) (cw (by omega)) (by simp)
def vC (x : List Int) : Prop := x.length ≤ 1048576 ∧ ∀ y ∈ x, (0 ≤ y ∧ y ≤ 255)
def vP (x : List Int) : Prop := x.length < 1000000000000
theorem xx {x : List Int} (h : vC x) : vP x := by have := h.1; unfold vP; omega
theorem Dr {x : List Int} (h : vP x) : pg x x = some true := by
  unfold pg
  rw [if_neg (by simp)]
  refine oR (p := x) (lR x x) (fun _ o => o) (fun k i => ?_) h (fun _ _ _ => rfl)
  show (if _ then _ else _) = _
  cases h : idx x i with
  | none => rfl
  | some e => simp only [Option.bind_some, bne_self_eq_false, Bool.false_eq_true, if_false]
def ny (x : List Int) : Nat := x.length
def DG (x : List Int) : Prop := x.length ≤ maxLen ∧ ∀ y ∈ x, DL .u8 y
def ou (x : List Int) : List Int := x
theorem GZ {x : List Int} (h : ny x ≤ 1048576) : jW x = some (ou x) := by
  unfold ny at h
  unfold jW
  rw [Oc _ (by omega)]
  exact (JV (F := some) (g := id) (lT x) (fun _ _ _ => rfl) (by omega) (fun _ _ => rfl) _).trans (by rw [List.map_id]; rfl)
theorem FG {x : List Int} (a : DG x) (h : ny x ≤ 1048576) : vC (ou x) := by
  unfold ny at h
  exact ⟨by show x.length ≤ _; omega, fun y c => Sd (a.2 y c)⟩
def qA (x : List Int) : Prop := x.length ≤ 1048576 ∧ ∀ y ∈ x, (-9223372036854775808 ≤ y ∧ y ≤ 9223372036854775807)
def pp (x : List Int) : Prop := x.length < 1000000000000
theorem qF {x : List Int} (h : qA x) : pp x := by have := h.1; unfold pp; omega
theorem pq {x : List Int} (h : pp x) : jc x x = some true := by
  unfold jc
  rw [if_neg (by simp)]
  refine oR (p := x) (mS x x) (fun _ o => o) (fun k i => ?_) h (fun _ _ _ => rfl)
  show (if _ then _ else _) = _
  cases h : idx x i with
  | none => rfl
  | some e => simp only [Option.bind_some, bne_self_eq_false, Bool.false_eq_true, if_false]
def mQ (x : List (List UInt8)) : Prop := x.length ≤ 1048576 ∧ ∀ y ∈ x, y.length ≤ 1048576
def oQ (x : List (List UInt8)) : Prop := x.length < 1000000000000
theorem va {x : List (List UInt8)} (h : mQ x) : oQ x := by have := h.1; unfold oQ; omega
theorem uC {x : List (List UInt8)} (h : oQ x) : kM x x = some true := by
  unfold kM
  rw [if_neg (by simp)]
  refine oR (p := x) (kg x x) (fun _ o => o) (fun k i => ?_) h (fun _ _ _ => rfl)
  show (if _ then _ else _) = _
  cases h : idx x i with
  | none => rfl
  | some e => simp only [Option.bind_some, beq_self_eq_true, Bool.not_true, Bool.false_eq_true, if_false]
def iS (x : ap) : Prop := x.D_.length ≤ 1048576 ∧ qA x.x_ ∧ mQ x.F_
def BY (x : ap) : Prop := pp x.x_ ∧ oQ x.F_
theorem GM {x : ap} (h : iS x) : BY x := by
  obtain ⟨_, h1, a⟩ := h
  exact ⟨qF h1, va a⟩
theorem EF {x : ap} (h : BY x) : oT x x = some true := by
  obtain ⟨h1, a⟩ := h
  unfold oT
  simp [pq h1, uC a]
def DJ (x : List ap) : Prop := x.length ≤ 1048576 ∧ ∀ y ∈ x, iS y
def vQ (x : List ap) : Prop := x.length < 1000000000000 ∧ ∀ y ∈ x, BY y
theorem Fe {x : List ap} (h : DJ x) : vQ x := ⟨by have := h.1; omega, fun y a => GM (h.2 y a)⟩
theorem Dp {x : List ap} (h : vQ x) : pz x x = some true := by
  unfold pz
  rw [if_neg (by simp)]
  refine oR (p := x) (lK x x) (fun e o => (oT e e).bind fun y => if (!y) then some false else o) (fun k i => ?_) h.1 (fun y a o => by rw [EF (h.2 y a)]; rfl)
  show (if _ then _ else _) = _
  cases h : idx x i with
  | none => rfl
  | some e => rfl
def bV (x : aj) : Prop := DJ x.d_ ∧ mQ x.f_
def sf (x : aj) : Prop := vQ x.d_ ∧ oQ x.f_
theorem Dz {x : aj} (h : bV x) : sf x := by
  obtain ⟨a, h1⟩ := h
  exact ⟨Fe a, va h1⟩
theorem CD {x : aj} (h : sf x) : ov x x = some true := by
  obtain ⟨a, h1⟩ := h
  unfold ov
  simp [Dp a, uC h1]
def Mm (x : bw) : Prop := (-9223372036854775808 ≤ x.L_ ∧ x.L_ ≤ 9223372036854775807) ∧ (-9223372036854775808 ≤ x.N_ ∧ x.N_ ≤ 9223372036854775807) ∧ (-9223372036854775808 ≤ x.M_ ∧ x.M_ ≤ 9223372036854775807) ∧ (-9223372036854775808 ≤ x.h_ ∧ x.h_ ≤ 9223372036854775807) ∧ (-9223372036854775808 ≤ x.e_ ∧ x.e_ ≤ 9223372036854775807) ∧ (-9223372036854775808 ≤ x.E_ ∧ x.E_ ≤ 9223372036854775807) ∧ True
theorem Fd {x : bw} : qK x x = some true := by
  unfold qK
  simp
def Ch (x : aR) : Prop := bV x.g_ ∧ Mm x.b_ ∧ (-9223372036854775808 ≤ x.j_ ∧ x.j_ ≤ 9223372036854775807) ∧ (-9223372036854775808 ≤ x.O_ ∧ x.O_ ≤ 9223372036854775807) ∧ (-9223372036854775808 ≤ x.P_ ∧ x.P_ ≤ 9223372036854775807) ∧ (-9223372036854775808 ≤ x.r_ ∧ x.r_ ≤ 9223372036854775807) ∧ (-9223372036854775808 ≤ x.s_ ∧ x.s_ ≤ 9223372036854775807)
def yE (x : aR) : Prop := sf x.g_
theorem FP {x : aR} (h : Ch x) : yE x := by
  obtain ⟨a, _, _, _, _, _, _⟩ := h
  exact Dz a
theorem FH {x : aR} (h : yE x) : qH x x = some true := by
  have a : sf x.g_ := h
  unfold qH
  simp [CD a, Fd (x := x.b_)]
def Mx (x : bD) : Prop := (-9223372036854775808 ≤ x.t_ ∧ x.t_ ≤ 9223372036854775807) ∧ (-9223372036854775808 ≤ x.u_ ∧ x.u_ ≤ 9223372036854775807)
theorem EB {x : bD} : qE x x = some true := by
  unfold qE
  simp
def vG (x : List (List Int)) : Prop := x.length ≤ 1048576 ∧ ∀ y ∈ x, qA y
def qb (x : List (List Int)) : Prop := x.length < 1000000000000 ∧ ∀ y ∈ x, pp y
theorem uw {x : List (List Int)} (h : vG x) : qb x := ⟨by have := h.1; omega, fun y a => qF (h.2 y a)⟩
theorem tr {x : List (List Int)} (h : qb x) : lB x x = some true := by
  unfold lB
  rw [if_neg (by simp)]
  refine oR (p := x) (lM x x) (fun e o => (jc e e).bind fun y => if (!y) then some false else o) (fun k i => ?_) h.1 (fun y a o => by rw [pq (h.2 y a)]; rfl)
  show (if _ then _ else _) = _
  cases h : idx x i with
  | none => rfl
  | some e => rfl
def oO (x : bl) : Prop := qA x.q_ ∧ vG x.l_
def yU (x : bl) : Prop := pp x.q_ ∧ qb x.l_
theorem Fh {x : bl} (h : oO x) : yU x := by
  obtain ⟨a, h1⟩ := h
  exact ⟨qF a, uw h1⟩
theorem Df {x : bl} (h : yU x) : pi x x = some true := by
  obtain ⟨a, h1⟩ := h
  unfold pi
  simp [pq a, tr h1]
def sh (x : az) : Prop := True ∧ Mx x.i_ ∧ qA x.v_ ∧ (-9223372036854775808 ≤ x.I_ ∧ x.I_ ≤ 9223372036854775807) ∧ oO x.k_ ∧ (-9223372036854775808 ≤ x.J_ ∧ x.J_ ≤ 9223372036854775807) ∧ qA x.d_ ∧ (-9223372036854775808 ≤ x.h_ ∧ x.h_ ≤ 9223372036854775807) ∧ (-9223372036854775808 ≤ x.A_ ∧ x.A_ ≤ 9223372036854775807) ∧ (-9223372036854775808 ≤ x.G_ ∧ x.G_ ≤ 9223372036854775807)
def BE (x : az) : Prop := pp x.v_ ∧ yU x.k_ ∧ pp x.d_
theorem Gy {x : az} (h : sh x) : BE x := by
  obtain ⟨_, _, a, _, c, _, d, _, _, _⟩ := h
  exact ⟨qF a, Fh c, qF d⟩
theorem EN {x : az} (h : BE x) : oU x x = some true := by
  obtain ⟨a, c, d⟩ := h
  unfold oU
  simp [EB (x := x.i_), pq a, Df c, pq d]
def Et (x : List az) : Prop := x.length ≤ 1048576 ∧ ∀ y ∈ x, sh y
def tA (x : List az) : Prop := x.length < 1000000000000 ∧ ∀ y ∈ x, BE y
theorem Fo {x : List az} (h : Et x) : tA x := ⟨by have := h.1; omega, fun y a => Gy (h.2 y a)⟩
theorem Dj {x : List az} (h : tA x) : pE x x = some true := by
  unfold pE
  rw [if_neg (by simp)]
  refine oR (p := x) (lX x x) (fun e o => (oU e e).bind fun y => if (!y) then some false else o) (fun k i => ?_) h.1 (fun y a o => by rw [EN (h.2 y a)]; rfl)
  show (if _ then _ else _) = _
  cases h : idx x i with
  | none => rfl
  | some e => rfl
def lY (x : ax) : Prop := Et x.e_ ∧ (-9223372036854775808 ≤ x.y_ ∧ x.y_ ≤ 9223372036854775807)
def xS (x : ax) : Prop := tA x.e_
theorem zY {x : ax} (h : lY x) : xS x := by
  obtain ⟨a, _⟩ := h
  exact Fo a
theorem xB {x : ax} (h : xS x) : oS x x = some true := by
  have a : tA x.e_ := h
  unfold oS
  simp [Dj a]
def sc (x : aJ) : Prop := vG x.p_
def ue (x : aJ) : Prop := qb x.p_
theorem wq {x : aJ} (h : sc x) : ue x := by
  have a := h
  exact uw a
theorem uW {x : aJ} (h : ue x) : mn x x = some true := by
  have a : qb x.p_ := h
  unfold mn
  simp [tr a]
def EP (x : dg) : Prop := sc x.r_ ∧ sc x.s_
def ES (x : dg) : Prop := ue x.r_ ∧ ue x.s_
theorem HK {x : dg} (h : EP x) : ES x := by
  obtain ⟨a, h1⟩ := h
  exact ⟨wq a, wq h1⟩
theorem Gl {x : dg} (h : ES x) : rQ x x = some true := by
  obtain ⟨a, h1⟩ := h
  unfold rQ
  simp [uW a, uW h1]
def oE (x : au) : Prop := lY x.H_ ∧ True ∧ lY x.w_ ∧ EP x.K_
def wD (x : au) : Prop := xS x.H_ ∧ xS x.w_ ∧ ES x.K_
theorem Dk {x : au} (h : oE x) : wD x := by
  obtain ⟨a, _, c, d⟩ := h
  exact ⟨zY a, zY c, HK d⟩
theorem Cw {x : au} (h : wD x) : mi x x = some true := by
  obtain ⟨a, c, d⟩ := h
  unfold mi
  simp [xB a, xB c, Gl d]
def zJ (x : List au) : Prop := x.length ≤ 1048576 ∧ ∀ y ∈ x, oE y
def qJ (x : List au) : Prop := x.length < 1000000000000 ∧ ∀ y ∈ x, wD y
theorem Ct {x : List au} (h : zJ x) : qJ x := ⟨by have := h.1; omega, fun y a => Dk (h.2 y a)⟩
theorem AL {x : List au} (h : qJ x) : nc x x = some true := by
  unfold nc
  rw [if_neg (by simp)]
  refine oR (p := x) (kj x x) (fun e o => (mi e e).bind fun y => if (!y) then some false else o) (fun k i => ?_) h.1 (fun y a o => by rw [Cw (h.2 y a)]; rfl)
  show (if _ then _ else _) = _
  cases h : idx x i with
  | none => rfl
  | some e => rfl
def tR (x : be) : Prop := zJ x.j_
def ub (x : be) : Prop := qJ x.j_
theorem Du {x : be} (h : tR x) : ub x := by
  have a := h
  exact Ct a
theorem CF {x : be} (h : ub x) : nP x x = some true := by
  have a : qJ x.j_ := h
  unfold nP
  simp [AL a]
def GU (x : aC) : Prop := (-9223372036854775808 ≤ x.R_ ∧ x.R_ ≤ 9223372036854775807) ∧ (-9223372036854775808 ≤ x.S_ ∧ x.S_ ≤ 9223372036854775807)
theorem ET {x : aC} : pc x x = some true := by
  unfold pc
  simp
def vI (x : List aC) : Prop := x.length ≤ 1048576 ∧ ∀ y ∈ x, GU y
def tM (x : List aC) : Prop := x.length < 1000000000000
theorem EW {x : List aC} (h : vI x) : tM x := by have := h.1; unfold tM; omega
theorem CY {x : List aC} (h : tM x) : pN x x = some true := by
  unfold pN
  rw [if_neg (by simp)]
  refine oR (p := x) (ma x x) (fun e o => (pc e e).bind fun y => if (!y) then some false else o) (fun k i => ?_) h (fun y _ o => by rw [ET]; rfl)
  show (if _ then _ else _) = _
  cases h : idx x i with
  | none => rfl
  | some e => rfl
def vU (x : aZ) : Prop := vG x.o_ ∧ vI x.n_
def vV (x : aZ) : Prop := qb x.o_ ∧ tM x.n_
theorem Fk {x : aZ} (h : vU x) : vV x := by
  obtain ⟨a, h1⟩ := h
  exact ⟨uw a, EW h1⟩
theorem De {x : aZ} (h : vV x) : pP x x = some true := by
  obtain ⟨a, h1⟩ := h
  unfold pP
  simp [tr a, CY h1]
def iJ (x : ao) : Prop := Ch x.a_ ∧ tR x.z_ ∧ vU x.m_
def tx (x : ao) : Prop := yE x.a_ ∧ ub x.z_ ∧ vV x.m_
theorem FC {x : ao} (h : iJ x) : tx x := by
  obtain ⟨a, h1, c⟩ := h
  exact ⟨FP a, Du h1, Fk c⟩
theorem Dv {x : ao} (h : tx x) : lp x x = some true := by
  obtain ⟨a, h1, c⟩ := h
  unfold lp
  simp [FH a, CF h1, De c]
def uQ (x : List Int) : Nat := (x.map fun _ => 1).sum
theorem Gg {x : List Int} (e : vP x) (_ : uQ x ≤ 1000000000000000000) : LM kB (uQ x) x := by
  unfold kB
  refine HA (p := x) (c := fun _ => 1) (gA x) (fun k l m i a => by
    rw [gA, if_neg a]) e (fun x _ m d => ?_)
  · skip
    have d : m + (1) < 4611686018427387904 := d
    have f := aG (i := m) (by omega)
    refine ⟨(m + 1), (IntKind.u8.wrap ((m : Nat) : Int)), fun k l i a h1 => ?_, by omega, by omega⟩
    · rw [gA, if_pos a, h1]
      simp only [Option.bind_some, f]
theorem DZ {x : List Int} : uQ (ou x) ≤ 16 * ny x := by
  unfold uQ ny ou
  rw [Kc]
  omega
def eU (x : List Int) : Nat := (x.map fun _ => 1).sum
theorem su {x : List Int} (f : pp x) (_ : eU x ≤ 1000000000000000000) : sX iw ir (eU x) x := by
  unfold iw ir
  refine mM (p := x) (c := fun _ => 1) (hZ x) (fun q => ie q) (fun k l m i a => by
    rw [hZ, if_neg a]) (fun q k m i a => by rw [ie, if_neg a]) f (fun x _ m d => ?_)
  · skip
    have d : m + (1) < 4611686018427387904 := d
    have e := aG (i := m) (by omega)
    refine ⟨(m + 1), ((m : Nat) : Int), fun k l i a h1 => ?_, fun q k i a h1 => ?_, by omega, by omega⟩
    · rw [hZ, if_pos a, h1]
      simp only [Option.bind_some, e]
    · rw [ie, if_pos a]
      simp only [h1, Option.bind_some, bne_self_eq_false, Bool.false_eq_true, if_false, e]
def jE (x : List (List UInt8)) : Nat := (x.map fun _ => 1).sum
theorem wo {x : List (List UInt8)} (g : oQ x) (_ : jE x ≤ 1000000000000000000) : sX jr jm (jE x) x := by
  unfold jr jm
  refine mM (p := x) (c := fun _ => 1) (fA x) (fun q => fE q) (fun k l m i a => by
    rw [fA, if_neg a]) (fun q k m i a => by rw [fE, if_neg a]) g (fun x _ m d => ?_)
  · skip
    have d : m + (1) < 4611686018427387904 := d
    obtain ⟨h, e⟩ := Ah (m := m) (by omega)
    have f := aG (i := m) (by omega)
    refine ⟨(m + 1), h, fun k l i a h1 => ?_, fun q k i a h1 => ?_, by omega, by omega⟩
    · rw [fA, if_pos a, h1]
      simp only [Option.bind_some, e, f]
    · rw [fE, if_pos a]
      simp only [h1, Option.bind_some, beq_self_eq_true, Bool.not_true, Bool.false_eq_true, if_false, e, f]
def sx (x : List ap) : Nat := (x.map fun y => 1 + eU y.x_ + jE y.F_).sum
theorem KC {x : List ap} {y} (h : y ∈ x) : 1 + eU y.x_ + jE y.F_ ≤ sx x := vX (f := fun y => 1 + eU y.x_ + jE y.F_) h
theorem Hp {x : List ap} (d : vQ x) (h : sx x ≤ 1000000000000000000) : sX mV mO (sx x) x := by
  unfold mV mO
  refine mM (p := x) (c := fun y => 1 + eU y.x_ + jE y.F_) (gv x) (fun q => gj q) (fun k l m i a => by
    rw [gv, if_neg a]) (fun q k m i a => by rw [gj, if_neg a]) d.1 (fun x e m f => ?_)
  · have D := KC e
    have f : m + (1 + eU x.x_ + jE x.F_) < 4611686018427387904 := f
    obtain ⟨o, g⟩ := Ah (m := m) (by omega)
    have j := aG (i := m) (by omega)
    obtain ⟨r, s, t, u, c2, E⟩ := su (x := x.x_) (d.2 x e).1 (by omega) (m + 1) (by omega)
    obtain ⟨v, w, A, C, c3, F⟩ := wo (x := x.F_) (d.2 x e).2 (by omega) r (by omega)
    refine ⟨v, (ap.mk o s w), fun k l i a h1 => ?_, fun q k i a h1 => ?_, by omega, by omega⟩
    · rw [gv, if_pos a, h1]
      simp only [Option.bind_some, g, j, t, A]
    · rw [gj, if_pos a]
      simp only [h1, Option.bind_some, beq_self_eq_true, Bool.not_true, Bool.false_eq_true, if_false, qt, decide_false, g, j, u, C]
def rA (x : aj) : Nat := sx x.d_ + jE x.f_
theorem EE {x : aj} (a : sf x) (h : rA x ≤ 1000000000000000000) : sX lG lO (rA x) x := fun m c => by
  unfold rA at h c ⊢
  obtain ⟨d, e, f, g, c0, o⟩ := Hp (x := x.d_) a.1 (by omega) m (by omega)
  obtain ⟨i, j, k, l, c1, p⟩ := wo (x := x.f_) a.2 (by omega) d (by omega)
  unfold lG lO
  refine ⟨i, ⟨e, j⟩, ?_, ?_, by omega, by omega⟩
  · simp only [Option.bind_some, f, k]
  · simp only [Option.bind_some, Bool.false_eq_true, if_false, qt, decide_false, g, l]
def wa (x : aR) : Nat := rA x.g_
theorem HF {x : aR} (a : yE x) (h : wa x ≤ 1000000000000000000) : sX ko og (wa x) x := fun m c => by
  unfold wa at h c ⊢
  obtain ⟨d, e, f, g, c0, i⟩ := EE (x := x.g_) a (by omega) m (by omega)
  unfold ko og
  refine ⟨d, ⟨e, x.b_, x.j_, x.O_, x.P_, x.r_, x.s_⟩, ?_, ?_, by omega, by omega⟩
  · simp only [Option.bind_some, f]
  · simp only [Option.bind_some, Bool.false_eq_true, if_false, qt, decide_false, g]
def eR (x : List (List Int)) : Nat := (x.map fun y => 1 + eU y).sum
theorem KE {x : List (List Int)} {y} (h : y ∈ x) : 1 + eU y ≤ eR x := vX (f := fun y => 1 + eU y) h
theorem ta {x : List (List Int)} (d : qb x) (h : eR x ≤ 1000000000000000000) : sX iA iB (eR x) x := by
  unfold iA iB
  refine mM (p := x) (c := fun y => 1 + eU y) (gu x) (fun q => gy q) (fun k l m i a => by
    rw [gu, if_neg a]) (fun q k m i a => by rw [gy, if_neg a]) d.1 (fun x e m f => ?_)
  · have s := KE e
    have f : m + (1 + eU x) < 4611686018427387904 := f
    obtain ⟨g, j, o, r, c1, t⟩ := su (x := x) (d.2 x e) (by omega) m (by omega)
    refine ⟨g, j, fun k l i a h1 => ?_, fun q k i a h1 => ?_, by omega, by omega⟩
    · rw [gu, if_pos a, h1]
      simp only [Option.bind_some, o]
    · rw [gy, if_pos a]
      simp only [h1, Option.bind_some, Bool.false_eq_true, if_false, qt, decide_false, r]
def iO (x : List az) : Nat := (x.map fun y => 8 + eU y.v_ + eU y.k_.q_ + eR y.k_.l_ + eU y.d_).sum
theorem JH {x : List az} {y} (h : y ∈ x) : 8 + eU y.v_ + eU y.k_.q_ + eR y.k_.l_ + eU y.d_ ≤ iO x := vX (f := fun y => 8 + eU y.v_ + eU y.k_.q_ + eR y.k_.l_ + eU y.d_) h
theorem zV {x : List az} (e : tA x) (h : iO x ≤ 1000000000000000000) : sX kU kT (iO x) x := by
  unfold kU kT
  refine mM (p := x) (c := fun y => 8 + eU y.v_ + eU y.k_.q_ + eR y.k_.l_ + eU y.d_) (go x) (fun q => gB q) (fun k l m i a => by
    rw [go, if_neg a]) (fun q k m i a => by rw [gB, if_neg a]) e.1 (fun x f m t => ?_)
  · have Z := JH f
    have t : m + (8 + eU x.v_ + eU x.k_.q_ + eR x.k_.l_ + eU x.d_) < 4611686018427387904 := t
    have u := aG (i := m) (by omega)
    have v := aG (i := (m + 1)) (by omega)
    have w := aG (i := ((m + 1) + 1)) (by omega)
    obtain ⟨r, D, E, F, c1, d1⟩ := su (x := x.v_) (e.2 x f).1 (by omega) (((m + 1) + 1) + 1) (by omega)
    have A := aG (i := r) (by omega)
    obtain ⟨G, H, L, M, c2, d2⟩ := su (x := x.k_.q_) (e.2 x f).2.1.1 (by omega) (r + 1) (by omega)
    obtain ⟨s, P, Q, R, c3, d3⟩ := ta (x := x.k_.l_) (e.2 x f).2.1.2 (by omega) G (by omega)
    have C := aG (i := s) (by omega)
    obtain ⟨d, T, V, X, c4, d4⟩ := su (x := x.d_) (e.2 x f).2.2 (by omega) (s + 1) (by omega)
    have g := aG (i := d) (by omega)
    have j := aG (i := (d + 1)) (by omega)
    have o := aG (i := ((d + 1) + 1)) (by omega)
    refine ⟨(((d + 1) + 1) + 1), (az.mk (Int.tmod ((m : Nat) : Int) 3 == 0) (bD.mk (((m + 1) : Nat) : Int) ((((m + 1) + 1) : Nat) : Int)) D ((r : Nat) : Int) (bl.mk H P) ((s : Nat) : Int) T ((d : Nat) : Int) (((d + 1) : Nat) : Int) ((((d + 1) + 1) : Nat) : Int)), fun k l i a h1 => ?_, fun q k i a h1 => ?_, by omega, by omega⟩
    · rw [go, if_pos a, h1]
      simp only [Option.bind_some, u, v, w, E, A, L, Q, C, V, g, j, o]
    · rw [gB, if_pos a]
      simp only [h1, Option.bind_some, bne_self_eq_false, Bool.false_eq_true, if_false, qt, decide_false, u, v, w, A, C, g, j, o, F, M, R, X]
def oH (x : List au) : Nat := (x.map fun y => 3 + iO y.H_.e_ + iO y.w_.e_ + eR y.K_.r_.p_ + eR y.K_.s_.p_).sum
theorem Gm {x : List au} {y} (h : y ∈ x) : 3 + iO y.H_.e_ + iO y.w_.e_ + eR y.K_.r_.p_ + eR y.K_.s_.p_ ≤ oH x := vX (f := fun y => 3 + iO y.H_.e_ + iO y.w_.e_ + eR y.K_.r_.p_ + eR y.K_.s_.p_) h
theorem CZ {x : List au} (d : qJ x) (h : oH x ≤ 1000000000000000000) : sX kL kE (oH x) x := by
  unfold kL kE
  refine mM (p := x) (c := fun y => 3 + iO y.H_.e_ + iO y.w_.e_ + eR y.K_.r_.p_ + eR y.K_.s_.p_) (fD x) (fun q => fC q) (fun k l m i a => by
    rw [fD, if_neg a]) (fun q k m i a => by rw [fC, if_neg a]) d.1 (fun x e m j => ?_)
  · have Q := Gm e
    have j : m + (3 + iO x.H_.e_ + iO x.w_.e_ + eR x.K_.r_.p_ + eR x.K_.s_.p_) < 4611686018427387904 := j
    obtain ⟨f, t, u, v, c1, R⟩ := zV (x := x.H_.e_) (d.2 x e).1 (by omega) m (by omega)
    have o := aG (i := f) (by omega)
    have r := aG (i := (f + 1)) (by omega)
    obtain ⟨g, w, A, C, c2, T⟩ := zV (x := x.w_.e_) (d.2 x e).2.1 (by omega) ((f + 1) + 1) (by omega)
    have s := aG (i := g) (by omega)
    obtain ⟨D, E, F, G, c3, V⟩ := ta (x := x.K_.r_.p_) (d.2 x e).2.2.1 (by omega) (g + 1) (by omega)
    obtain ⟨H, L, M, P, c4, X⟩ := ta (x := x.K_.s_.p_) (d.2 x e).2.2.2 (by omega) D (by omega)
    refine ⟨H, (au.mk (ax.mk t ((f : Nat) : Int)) (Int.tmod (((f + 1) : Nat) : Int) 3 == 0) (ax.mk w ((g : Nat) : Int)) (dg.mk (aJ.mk E) (aJ.mk L))), fun k l i a h1 => ?_, fun q k i a h1 => ?_, by omega, by omega⟩
    · rw [fD, if_pos a, h1]
      simp only [Option.bind_some, u, o, r, A, s, F, M]
    · rw [fC, if_pos a]
      simp only [h1, Option.bind_some, bne_self_eq_false, Bool.false_eq_true, if_false, qt, decide_false, o, r, s, v, C, G, P]
def rE (x : be) : Nat := oH x.j_
theorem ER {x : be} (a : ub x) (h : rE x ≤ 1000000000000000000) : sX lE me (rE x) x := fun m c => by
  unfold rE at h c ⊢
  obtain ⟨d, e, f, g, c0, i⟩ := CZ (x := x.j_) a (by omega) m (by omega)
  unfold lE me
  refine ⟨d, ⟨e⟩, ?_, ?_, by omega, by omega⟩
  · simp only [Option.bind_some, f]
  · simp only [Option.bind_some, Bool.false_eq_true, if_false, qt, decide_false, g]
def uU (x : List aC) : Nat := (x.map fun _ => 2).sum
theorem FO {x : List aC} (g : tM x) (_ : uU x ≤ 1000000000000000000) : sX ni na (uU x) x := by
  unfold ni na
  refine mM (p := x) (c := fun _ => 2) (gD x) (fun q => gr q) (fun k l m i a => by
    rw [gD, if_neg a]) (fun q k m i a => by rw [gr, if_neg a]) g (fun x _ m d => ?_)
  · skip
    have d : m + (2) < 4611686018427387904 := d
    have e := aG (i := m) (by omega)
    have f := aG (i := (m + 1)) (by omega)
    refine ⟨((m + 1) + 1), (aC.mk ((m : Nat) : Int) (((m + 1) : Nat) : Int)), fun k l i a h1 => ?_, fun q k i a h1 => ?_, by omega, by omega⟩
    · rw [gD, if_pos a, h1]
      simp only [Option.bind_some, e, f]
    · rw [gr, if_pos a]
      simp only [h1, Option.bind_some, bne_self_eq_false, Bool.false_eq_true, if_false, e, f]
def tC (x : aZ) : Nat := eR x.o_ + uU x.n_
theorem FI {x : aZ} (a : vV x) (h : tC x ≤ 1000000000000000000) : sX mD mN (tC x) x := fun m c => by
  unfold tC at h c ⊢
  obtain ⟨d, e, f, g, c0, o⟩ := ta (x := x.o_) a.1 (by omega) m (by omega)
  obtain ⟨i, j, k, l, c1, p⟩ := FO (x := x.n_) a.2 (by omega) d (by omega)
  unfold mD mN
  refine ⟨i, ⟨e, j⟩, ?_, ?_, by omega, by omega⟩
  · simp only [Option.bind_some, f, k]
  · simp only [Option.bind_some, Bool.false_eq_true, if_false, qt, decide_false, g, l]
theorem Mw {x z : aR} {m k : Int} (h : ko x m = some (k, z)) : z = ⟨z.g_, x.b_, x.j_, x.O_, x.P_, x.r_, x.s_⟩ := by
  unfold ko at h
  obtain ⟨_, _, h⟩ := xI h
  obtain ⟨rfl, rfl⟩ := Prod.mk.inj (Option.some.inj h)
  rfl
def qL (x : ao) : Nat := wa x.a_ + rE x.z_ + tC x.m_
theorem GN {x : ao} (a : tx x) (h : qL x ≤ 1000000000000000000) : sX iy jF (qL x) x := fun m d => by
  unfold qL at h d ⊢
  obtain ⟨e, f, c, g, c0, s⟩ := HF (x := x.a_) a.1 (by omega) m (by omega)
  obtain ⟨i, j, k, l, c1, t⟩ := ER (x := x.z_) a.2.1 (by omega) e (by omega)
  obtain ⟨o, p, q, r, c2, u⟩ := FI (x := x.m_) a.2.2 (by omega) i (by omega)
  unfold iy jF
  refine ⟨o, ⟨f, j, p⟩, ?_, ?_, by omega, by omega⟩
  · simp only [Option.bind_some, c, k, q, ← Mw c]
  · simp only [Option.bind_some, Bool.false_eq_true, if_false, qt, decide_false, g, l, r]
theorem Ki {x z : ao} {m k : Int} (h : iy x m = some (k, z)) : z = ⟨⟨z.a_.g_, x.a_.b_, x.a_.j_, x.a_.O_, x.a_.P_, x.a_.r_, x.a_.s_⟩, z.z_, z.m_⟩ := by
  unfold iy at h
  obtain ⟨_, _, h⟩ := xI h
  obtain ⟨_, _, h⟩ := xI h
  obtain ⟨_, _, h⟩ := xI h
  obtain ⟨rfl, rfl⟩ := Prod.mk.inj (Option.some.inj h)
  rfl
theorem Dy {a : List Int} (h : DG a) (i : vC (ou a) → uQ (ou a) ≤ 16777216 → ∃ m, ly (ou a) = some m ∧ kf (ou a) = some m ∧ tx m.1 ∧ qL m.1 ≤ 1000000000000000000) : ky a = some true := by
  unfold ky
  by_cases c0 : 1048576 < a.length
  · rw [if_pos (by simp; omega)]
  · rw [if_neg (by simp; omega)]
    have l : ny a ≤ 1048576 := by unfold ny; omega
    have c := FG h (show ny a ≤ 1048576 by omega)
    rw [GZ (x := a) (by omega)]
    simp only [bS]
    obtain ⟨m, e, e', f, o⟩ := i c (by have := DZ (x := a); omega)
    have p := DZ (x := a)
    obtain ⟨j, k, p1, _, _⟩ := Gg (x := ou a) (xx c) (by omega) 1 (by omega)
    have p1 : kB (ou a) 1 = some ((j : Int), k) := p1
    obtain ⟨r1, g, c1, d, _, _⟩ := GN (x := m.1) f (by omega) 1 (by omega)
    have c1 : iy m.1 1 = some ((r1 : Int), g) := c1
    have d : jF g 1 = some (r1 : Int) := d
    rw [e]
    simp only [bS]
    rw [e']
    simp [Dr (xx c), Dv f, p1, c1, d, ← Ki c1, qt]
end Go.Vk
/- Words, cuts, attributes: tested alike. -/
namespace Go.Vk
def yl (w : List UInt8) : Prop := (1 ≤ (w.length : Int) ∧ (w.length : Int) ≤ 8) ∧ ∀ i, 0 ≤ i → (h : i < w.length) → 97 ≤ (w[i]).toNat ∧ (w[i]).toNat ≤ 122
theorem Hn {w : List UInt8} (e : w.length < 1000000000000) : Dec (oN w) (yl w) := by
  unfold oN ba yl
  simp only [bS]
  by_cases h : 1 ≤ (w.length : Int) ∧ (w.length : Int) ≤ 8
  · rw [oI h]
    simp only [Bool.not_true, Bool.false_eq_true, if_false]
    refine (pk (Lp := kI w) (n := w.length) (Q := fun i => ∀ h : i < w.length, 97 ≤ (w[i]).toNat ∧ (w[i]).toNat ≤ 122) 0 (fun k i a => ?_) (fun k i _ a => ?_) e).of_iff ⟨fun g => ⟨h, fun i c h1 => g i c h1 h1⟩, fun g i c h1 _ => g.2 i c h1⟩
    · show (if _ then _ else _) = _
      rw [if_neg (by simp; omega)]
    · rw [kI]
      rw [if_pos (by simp; omega), aX a, aG (by omega)]
      simp only [bS]
      by_cases h1 : ((w[i]).toNat : Int) < 97
      · rw [if_pos (by simpa using h1)]
        exact .inr ⟨fun g => by have := g a; omega, rfl⟩
      · rw [if_neg (by simpa using h1)]
        simp only [bS]
        by_cases d : ((w[i]).toNat : Int) > 122
        · rw [if_pos (by simpa using d)]
          exact .inr ⟨fun g => by have := g a; omega, rfl⟩
        · rw [if_neg (by simpa using d)]
          exact .inl ⟨fun _ => ⟨by omega, by omega⟩, rfl⟩
  · rw [pU h]
    exact bG fun g => h g.1
theorem GA {w : List UInt8} (e : w.length < 1000000000000) : Dec (oL w) (yl w) := by
  unfold oL aW yl
  simp only [bS]
  by_cases h : 1 ≤ (w.length : Int) ∧ (w.length : Int) ≤ 8
  · rw [oI h]
    simp only [Bool.not_true, Bool.false_eq_true, if_false]
    refine (pk (Lp := kX w) (n := w.length) (Q := fun i => ∀ h : i < w.length, 97 ≤ (w[i]).toNat ∧ (w[i]).toNat ≤ 122) 0 (fun k i a => ?_) (fun k i _ a => ?_) e).of_iff ⟨fun g => ⟨h, fun i c h1 => g i c h1 h1⟩, fun g i c h1 _ => g.2 i c h1⟩
    · show (if _ then _ else _) = _
      rw [if_neg (by simp; omega)]
    · rw [kX]
      rw [if_pos (by simp; omega), aX a, aG (by omega)]
      simp only [bS]
      by_cases h1 : ((w[i]).toNat : Int) < 97
      · rw [if_pos (by simpa using h1)]
        exact .inr ⟨fun g => by have := g a; omega, rfl⟩
      · rw [if_neg (by simpa using h1)]
        simp only [bS]
        by_cases d : ((w[i]).toNat : Int) > 122
        · rw [if_pos (by simpa using d)]
          exact .inr ⟨fun g => by have := g a; omega, rfl⟩
        · rw [if_neg (by simpa using d)]
          exact .inl ⟨fun _ => ⟨by omega, by omega⟩, rfl⟩
  · rw [pU h]
    exact bG fun g => h g.1
def ur (ws : List (List UInt8)) : Prop := ∀ i, 0 ≤ i → i < ws.length → ∀ h : i < ws.length, yl ws[i] ∧ ∀ j, (a : j < i) → ws[i] ≠ ws[j]
theorem En {ws : List (List UInt8)} (s : ws.length < 1000000000000) (t : ∀ w ∈ ws, w.length < 1000000000000) : Dec (nt ws) (ur ws) := by
  unfold nt
  refine pk (Lp := fh ws) (n := ws.length) (Q := fun i => ∀ h : i < ws.length, yl ws[i] ∧ ∀ j, (l : j < i) → ws[i] ≠ ws[j]) 0 (fun k i c => ?_) (fun k i _ c => ?_) s
  · show (if _ then _ else _) = _
    rw [if_neg (by simp; omega)]
  · rw [fh]
    rw [if_pos (by simp; omega), aX c]
    simp only [bS]
    rcases (Hn (t _ (List.getElem_mem c))).cases with ⟨e, o⟩ | ⟨e, o⟩
    · rw [e]
      simp only [cS]
      have key : ∀ (d q j : Nat), i - j = d → d < q → (l : j ≤ i) → (∀ m, (a : m < j) → ws[i] ≠ ws[m]'(by omega)) →
          ((∀ m, (a : m < i) → ws[i] ≠ ws[m]) ∧ gU i ws (fh ws k) q (j : Int) = fh ws k ((i + 1 : Nat) : Int)) ∨ ((¬ ∀ m, (a : m < i) → ws[i] ≠ ws[m]) ∧ gU i ws (fh ws k) q (j : Int) = some false) := by
        intro d
        induction d with
        | zero =>
          intro q j u v l a
          obtain ⟨q, rfl⟩ : ∃ r, q = r + 1 := ⟨q - 1, by omega⟩
          rw [gU]
          rw [if_neg (by simp; omega), aG (by omega)]
          exact .inl ⟨fun m hm' => a m (by omega), rfl⟩
        | succ d ih =>
          intro q j u v l a
          obtain ⟨q, rfl⟩ : ∃ r, q = r + 1 := ⟨q - 1, by omega⟩
          rw [gU]
          rw [if_pos (by simp; omega), aX c, aX (show j < ws.length by omega)]
          simp only [bS]
          by_cases f : ws[i] = ws[j]
          · rw [if_pos (by simpa using f)]
            exact .inr ⟨fun g => g j (by omega) f, rfl⟩
          · rw [if_neg (by simpa using f), aG (by omega)]
            exact ih q (j + 1) (by omega) (by omega) (by omega) (fun m hm' => by
              by_cases h : m = j
              · subst h; exact f
              · exact a m (by omega))
      rcases key i aI 0 (by omega) (cw (by omega)) (by omega) (fun m a => by omega) with ⟨h1, p⟩ | ⟨h1, p⟩
      · exact .inl ⟨fun _ => ⟨o, h1⟩, p⟩
      · exact .inr ⟨fun g => h1 (g c).2, p⟩
    · rw [e]
      exact .inr ⟨fun g => o (g c).1, rfl⟩
theorem zu {ws : List (List UInt8)} (o : ws.length < 1000000000000) (p : ∀ w ∈ ws, w.length < 1000000000000) : Dec (fe ws) (ur ws) := by
  unfold fe
  refine pk (Lp := fK ws) (n := ws.length) (Q := fun i => ∀ h : i < ws.length, yl ws[i] ∧ ∀ j, (a : j < i) → ws[i] ≠ ws[j]) 0 (fun k i d => ?_) (fun k i _ d => ?_) o
  · show (if _ then _ else _) = _
    rw [if_neg (by simp; omega)]
  · rw [fK]
    rw [if_pos (by simp; omega), aX d, aG (by omega)]
    simp only [bS]
    rcases (GA (p _ (List.getElem_mem d))).cases with ⟨e, f⟩ | ⟨e, f⟩
    · rw [e]
      simp only [cS]
      have q : sub ws 0 (i : Int) = some (ws.take i) := by
        unfold sub
        rw [if_pos (by omega)]
        simp
      rw [q]
      simp only [bS]
      unfold dI eG
      have r := qR (Lp := cy (ws.take i) ws[i]) (n := i) (Q := fun j => ∀ a : j < i, ws[i] = ws[j]) (fun k j a => by
        show (if _ then _ else _) = _
        rw [if_neg (by simp; omega)]) (fun k j a => by
        rw [cy]
        rw [if_pos (by simp; omega), aX (show j < (ws.take i).length by simp; omega), aG (by omega)]
        simp only [Option.bind_some, List.getElem_take]
        by_cases c : ws[i] = ws[j]
        · rw [if_pos (by simpa using c)]
          exact .inl ⟨fun _ => c, rfl⟩
        · rw [if_neg (by simpa using c)]
          exact .inr ⟨fun g => c (g a), rfl⟩) (by omega)
      rcases r.cases with ⟨l, j, a, m⟩ | ⟨l, m⟩
      · rw [l]
        exact .inr ⟨fun g => (g d).2 j a (m a), rfl⟩
      · rw [l]
        exact .inl ⟨fun _ => ⟨f, fun j a c => m ⟨j, a, fun _ => c⟩⟩, rfl⟩
    · rw [e]
      exact .inr ⟨fun g => f (g d).1, rfl⟩
def Jc (l : List Int) : Prop := ∀ i, 0 ≤ i → i < l.length → ∀ h : i < l.length, (-9999 ≤ l[i] ∧ l[i] ≤ 9998) ∧ ∀ a : 0 < i, l[i - 1] < l[i]
theorem KZ {l : List Int} (q : l.length < 1000000000000) : Dec (qB l) ((1 ≤ (l.length : Int) ∧ (l.length : Int) ≤ 3) ∧ Jc l) := by
  unfold qB aW
  simp only [bS]
  by_cases h : 1 ≤ (l.length : Int) ∧ (l.length : Int) ≤ 3
  · rw [oI h]
    simp only [if_true]
    have r : Dec (gF l) (∀ i, 1 ≤ i → i < l.length → ∀ (h : i < l.length), l[i - 1] < l[i]) := by
      unfold gF
      refine pk (Lp := fI l) (n := l.length) (Q := fun i => ∀ (h : i < l.length), l[i - 1] < l[i]) 1 (fun k i a => ?_) (fun k i h1 a => ?_) q
      · show (if _ then _ else _) = _
        rw [if_neg (by simp; omega)]
      · rw [fI]
        rw [if_pos (by simp; omega), aX a, aG (by omega), bi (by omega) (by omega), show (i : Int) - 1 = ((i - 1 : Nat) : Int) by omega, aX (show i - 1 < l.length by omega)]
        simp only [bS]
        by_cases f : l[i] ≤ l[i - 1]
        · rw [if_pos (by simpa using f)]
          exact .inr ⟨fun g => by have := g a; omega, rfl⟩
        · rw [if_neg (by simpa using f)]
          exact .inl ⟨fun _ => by omega, rfl⟩
    rcases r.cases with ⟨e, m⟩ | ⟨e, m⟩
    · rw [e]
      simp only [Option.bind_some, if_true]
      unfold cz cO
      have s := qR (Lp := bM l) (n := l.length) (Q := fun j => ∀ d : j < l.length, ¬ (-9999 ≤ l[j] ∧ l[j] ≤ 9998)) (fun k j d => by
        show (if _ then _ else _) = _
        rw [if_neg (by simp; omega)]) (fun k j d => by
        rw [bM]
        rw [if_pos (by simp; omega), aX d, aG (by omega)]
        unfold qp tQ aW
        simp only [bS]
        by_cases f : -9999 ≤ l[j] ∧ l[j] ≤ 9998
        · rw [oI f]
          exact .inr ⟨fun g => g d f, rfl⟩
        · rw [pU f]
          exact .inl ⟨fun _ => f, rfl⟩) q
      rcases s.cases with ⟨o, j, d, p⟩ | ⟨o, p⟩
      · rw [o]
        exact bG fun g => p d (g.2 j (Nat.zero_le _) d d).1
      · rw [o]
        exact mH ⟨h, fun i _ a _ => ⟨Classical.byContradiction fun c => p ⟨i, a, fun _ => c⟩, fun t => m i t a a⟩⟩
    · rw [e]
      exact bG fun g => m fun i h1 a u => (g.2 i (Nat.zero_le _) a u).2 h1
  · rw [pU h]
    exact bG fun g => h g.1
end Go.Vk
/- Attributes: weighed, copied, compared; FullMask. -/
namespace Go.Vk
def oJ (x : ap) : Prop := yl x.D_ ∧ ((x.x_.length = 0 ∧ (2 ≤ (x.F_.length : Int) ∧ (x.F_.length : Int) ≤ 4) ∧ ur x.F_) ∨ (x.F_.length = 0 ∧ (1 ≤ (x.x_.length : Int) ∧ (x.x_.length : Int) ≤ 3) ∧ Jc x.x_))
def OkM (x : ap) : Prop := x.D_.length < 1000000000000 ∧ x.x_.length < 1000000000000 ∧ x.F_.length < 1000000000000 ∧ ∀ y ∈ x.F_, y.length < 1000000000000
theorem uZ {x : ap} (q : OkM x) : Dec (jZ x) (oJ x) := by
  obtain ⟨h1, r, s, t⟩ := q
  unfold jZ oJ
  rcases (Hn h1).cases with ⟨e, c⟩ | ⟨e, c⟩
  · rw [e]
    simp only [cS]
    by_cases p : x.x_.length = 0
    · rw [if_pos (by rw [beq_iff_eq]; omega)]
      unfold ba
      simp only [bS]
      by_cases j : 2 ≤ (x.F_.length : Int) ∧ (x.F_.length : Int) ≤ 4
      · rw [oI j]
        simp only [if_true]
        rcases (En s t).cases with ⟨l, m⟩ | ⟨l, m⟩
        · rw [l]; exact mH ⟨c, .inl ⟨p, j, m⟩⟩
        · rw [l]; exact bG fun g => by rcases g.2 with ⟨_, _, g⟩ | ⟨_, g, _⟩ <;> first | exact m g | omega
      · rw [pU j]
        exact bG fun g => by rcases g.2 with ⟨_, g, _⟩ | ⟨_, g, _⟩ <;> omega
    · rw [if_neg (by rw [beq_iff_eq]; omega)]
      by_cases v : 0 < x.F_.length ∨ 3 < x.x_.length
      · rw [if_pos (by simp; omega)]
        exact bG fun g => by rcases g.2 with ⟨g, _, _⟩ | ⟨_, g, _⟩ <;> omega
      · rw [if_neg (by rw [Bool.or_eq_true, decide_eq_true_eq, decide_eq_true_eq]; omega)]
        have u : Dec (jt x aI 0) (Jc x.x_) := by
          refine pk (Lp := jt x) (n := x.x_.length) (Q := fun i => ∀ h : i < x.x_.length, (-9999 ≤ x.x_[i] ∧ x.x_[i] ≤ 9998) ∧ ∀ o : 0 < i, x.x_[i - 1] < x.x_[i]) 0 (fun k i d => ?_) (fun k i _ d => ?_) r
          · show (if _ then _ else _) = _
            rw [if_neg (by simp; omega)]
          · rw [jt]
            rw [if_pos (by simp; omega), aX d, aG (by omega)]
            unfold ba
            simp only [bS]
            by_cases a : -9999 ≤ x.x_[i] ∧ x.x_[i] ≤ 9998
            · rw [oI a]
              simp only [Bool.not_true, Bool.false_eq_true, if_false]
              by_cases o : 0 < i
              · rw [if_pos (by simp; omega), bi (by omega) (by omega), show (i : Int) - 1 = ((i - 1 : Nat) : Int) by omega, aX (show i - 1 < x.x_.length by omega)]
                simp only [bS]
                by_cases f : x.x_[i] ≤ x.x_[i - 1]
                · rw [if_pos (by simpa using f)]
                  exact .inr ⟨fun g => by have := (g d).2 o; omega, rfl⟩
                · rw [if_neg (by simpa using f)]
                  exact .inl ⟨fun _ => ⟨a, fun _ => by omega⟩, rfl⟩
              · rw [if_neg (by simp; omega)]
                exact .inl ⟨fun _ => ⟨a, fun h => absurd h o⟩, rfl⟩
            · rw [pU a]
              exact .inr ⟨fun g => a (g d).1, rfl⟩
        exact u.of_iff ⟨fun g => ⟨c, .inr ⟨by omega, by omega, g⟩⟩, fun g => by rcases g.2 with ⟨g, _, _⟩ | ⟨_, _, g⟩; exact absurd g p; exact g⟩
  · rw [e]
    exact bG fun g => c g.1
theorem yA {x : ap} (j : OkM x) : Dec (kb x) (oJ x) := by
  obtain ⟨h1, k, l, m⟩ := j
  unfold kb oJ
  rcases (GA h1).cases with ⟨e, c⟩ | ⟨e, c⟩
  · rw [e]
    simp only [cS]
    by_cases i : x.x_.length = 0
    · rw [if_pos (by rw [beq_iff_eq]; omega)]
      unfold aW
      simp only [bS]
      by_cases f : 2 ≤ (x.F_.length : Int) ∧ (x.F_.length : Int) ≤ 4
      · rw [oI f]
        simp only [if_true]
        rcases (zu l m).cases with ⟨a, h⟩ | ⟨a, h⟩
        · rw [a]; exact mH ⟨c, .inl ⟨i, f, h⟩⟩
        · rw [a]; exact bG fun g => by rcases g.2 with ⟨_, _, g⟩ | ⟨_, g, _⟩ <;> first | exact h g | omega
      · rw [pU f]
        exact bG fun g => by rcases g.2 with ⟨_, g, _⟩ | ⟨_, g, _⟩ <;> omega
    · rw [if_neg (by rw [beq_iff_eq]; omega)]
      by_cases o : x.F_.length = 0
      · rw [if_pos (by rw [beq_iff_eq]; omega)]
        rcases (KZ k).cases with ⟨a, d⟩ | ⟨a, d⟩
        · rw [a]; exact mH ⟨c, .inr ⟨o, d.1, d.2⟩⟩
        · rw [a]; exact bG fun g => by
            rcases g.2 with ⟨g, _, _⟩ | ⟨_, g, g'⟩
            · exact i g
            · exact d ⟨g, g'⟩
      · rw [if_neg (by rw [beq_iff_eq]; omega)]
        exact bG fun g => by rcases g.2 with ⟨g, _, _⟩ | ⟨g, _, _⟩ <;> omega
  · rw [e]
    exact bG fun g => c g.1
end Go.Vk
/- FullMask answers alike. -/
namespace Go.Vk
theorem MO {x : ap} (a : OkM x) (h : oJ x) : ∃ n : Nat, nr x = some (n : Int) ∧ nx x = some (n : Int) ∧ 2 ≤ n ∧ n ≤ 4 := by
  unfold nr nx
  rcases (uZ a).cases with ⟨e, _⟩ | ⟨_, g⟩
  · rw [e]
    simp only [cS]
    rcases h.2 with ⟨h1, c, _⟩ | ⟨h1, c, _⟩
    · rw [if_neg (fun g => by have := of_decide_eq_true g; omega)]
      exact ⟨_, rfl, rfl, by omega, by omega⟩
    · rw [if_pos (decide_eq_true (by omega)), aG (by omega)]
      exact ⟨_, rfl, rfl, by omega, by omega⟩
  · exact absurd h g
end Go.Vk
/- Schemas: tested, weighed, copied, compared; AllRoom. -/
namespace Go.Vk
def Ip (l : List ap) : Prop := ∀ i, 0 ≤ i → i < l.length → ∀ h : i < l.length, oJ l[i] ∧ ∀ j, (a : j < i) → l[i].D_ ≠ l[j].D_
def jV (x : aj) : Prop := (1 ≤ (x.d_.length : Int) ∧ (x.d_.length : Int) ≤ 5) ∧ (2 ≤ (x.f_.length : Int) ∧ (x.f_.length : Int) ≤ 3) ∧ ur x.f_ ∧ Ip x.d_
def OkS (x : aj) : Prop := x.d_.length < 1000000000 ∧ (∀ a ∈ x.d_, OkM a) ∧ x.f_.length < 1000000000000 ∧ ∀ y ∈ x.f_, y.length < 1000000000000
theorem Kj {x : aj} (s : OkS x) : Dec (dX x aI 0) (Ip x.d_) := by
  obtain ⟨h1, f, _, _⟩ := s
  refine pk (Lp := dX x) (n := x.d_.length) (Q := fun i => ∀ h : i < x.d_.length, oJ x.d_[i] ∧ ∀ j, (o : j < i) → x.d_[i].D_ ≠ x.d_[j].D_) 0 (fun k i c => ?_) (fun k i _ c => ?_) (by omega)
  · show (if _ then _ else _) = _
    rw [if_neg (by simp; omega)]
  · rw [dX]
    rw [if_pos (by simp; omega), aX c]
    simp only [bS]
    rcases (uZ (f _ (List.getElem_mem c))).cases with ⟨e, p⟩ | ⟨e, p⟩
    · rw [e]
      simp only [cS]
      have key : ∀ (d q j : Nat), i - j = d → d < q → (o : j ≤ i) → (∀ m, (a : m < j) → x.d_[i].D_ ≠ (x.d_[m]'(by omega)).D_) →
          ((∀ m, (a : m < i) → x.d_[i].D_ ≠ x.d_[m].D_) ∧ gd i x (dX x k) q (j : Int) = dX x k ((i + 1 : Nat) : Int)) ∨ ((¬ ∀ m, (a : m < i) → x.d_[i].D_ ≠ x.d_[m].D_) ∧ gd i x (dX x k) q (j : Int) = some false) := by
        intro d
        induction d with
        | zero =>
          intro q j t u o a
          obtain ⟨q, rfl⟩ : ∃ r, q = r + 1 := ⟨q - 1, by omega⟩
          rw [gd]
          rw [if_neg (by simp; omega), aG (by omega)]
          exact .inl ⟨fun m hm' => a m (by omega), rfl⟩
        | succ d ih =>
          intro q j t u o a
          obtain ⟨q, rfl⟩ : ∃ r, q = r + 1 := ⟨q - 1, by omega⟩
          rw [gd]
          rw [if_pos (by simp; omega), aX c, aX (show j < x.d_.length by omega)]
          simp only [bS]
          by_cases l : x.d_[i].D_ = x.d_[j].D_
          · rw [if_pos (by simpa using l)]
            exact .inr ⟨fun g => g j (by omega) l, rfl⟩
          · rw [if_neg (by simpa using l), aG (by omega)]
            exact ih q (j + 1) (by omega) (by omega) (by omega) (fun m hm' => by
              by_cases h : m = j
              · subst h; exact l
              · exact a m (by omega))
      rcases key i aI 0 (by omega) (cw (by omega)) (by omega) (fun m a => by omega) with ⟨h1, f⟩ | ⟨h1, f⟩
      · exact .inl ⟨fun _ => ⟨p, h1⟩, f⟩
      · exact .inr ⟨fun g => h1 (g c).2, f⟩
    · rw [e]
      exact .inr ⟨fun g => p (g c).1, rfl⟩
theorem JF {x : aj} (s : OkS x) : Dec (fv x aI 0 []) (Ip x.d_) := by
  obtain ⟨h1, q, _, _⟩ := s
  have t : Dec (fe (x.d_.map ap.D_)) (ur (x.d_.map ap.D_)) := zu (by simp; omega) (fun w l => by
    obtain ⟨a, u, rfl⟩ := List.mem_map.1 l
    exact (q a u).1)
  have key : ∀ (d k i : Nat), x.d_.length - i = d → d < k → i ≤ x.d_.length → Dec (fv x k (i : Int) ((x.d_.take i).map ap.D_)) ((∀ j, i ≤ j → ∀ c : j < x.d_.length, oJ x.d_[j]) ∧ ur (x.d_.map ap.D_)) := by
    intro d
    induction d with
    | zero =>
      intro k i v hk m
      obtain ⟨k, rfl⟩ := kS k (by omega)
      rw [fv]
      rw [if_neg (by simp; omega), List.take_of_length_le (by omega)]
      have : ∀ o : Option Bool, (o.bind fun y => some y) = o := fun o => by cases o <;> rfl
      rw [this]
      exact t.of_iff ⟨fun g => ⟨fun j r p => by omega, g⟩, fun g => g.2⟩
    | succ d ih =>
      intro k i v hk m
      obtain ⟨k, rfl⟩ := kS k (by omega)
      have f : i < x.d_.length := by omega
      rw [fv]
      rw [if_pos (by simp; omega), aX f]
      simp only [bS]
      rcases (yA (q _ (List.getElem_mem f))).cases with ⟨e, l⟩ | ⟨e, l⟩
      · rw [e]
        simp only [cS]
        rw [cJ (by simp; omega)]
        simp only [bS]
        rw [aG (by omega), show (x.d_.take i).map ap.D_ ++ [x.d_[i].D_] = (x.d_.take (i + 1)).map ap.D_ by rw [List.take_succ_eq_append_getElem f, List.map_append]; rfl]
        refine (ih k (i + 1) (by omega) (by omega) (by omega)).of_iff ⟨fun g => ⟨fun j r p => ?_, g.2⟩, fun g => ⟨fun j r p => g.1 j (by omega) p, g.2⟩⟩
        by_cases c : j = i
        · subst c; exact l
        · exact g.1 j (by omega) p
      · rw [e]
        exact bG fun g => l (g.1 i (Nat.le_refl _) f)
  have := key x.d_.length aI 0 (by omega) (cw (by omega)) (by omega)
  have A : Dec (fv x aI 0 []) ((∀ j, 0 ≤ j → ∀ c : j < x.d_.length, oJ x.d_[j]) ∧ ur (x.d_.map ap.D_)) := this
  refine A.of_iff ⟨fun g i _ _ h => ⟨g.1 i (Nat.zero_le _) h, fun j c C => ?_⟩, fun g => ⟨fun j _ c => (g j (Nat.zero_le _) c c).1, fun i _ _ h => ?_⟩⟩
  · have := (g.2 i (Nat.zero_le _) (by simpa using h) (by simpa using h)).2 j c
    simp at this
    exact this C
  · have m : i < x.d_.length := by simpa using h
    obtain ⟨D, E⟩ := g i (Nat.zero_le _) m m
    exact ⟨by simpa using D.1, fun j c => by simpa using E j c⟩
theorem mE {x : aj} (f : OkS x) : Dec (dZ x) (jV x) := by
  have h := Kj f
  obtain ⟨h1, k, i, j⟩ := f
  unfold dZ ba jV
  simp only [bS]
  by_cases a : 1 ≤ (x.d_.length : Int) ∧ (x.d_.length : Int) ≤ 5
  · rw [oI a]
    simp only [Bool.not_true, Bool.false_eq_true, if_false]
    by_cases c : 2 ≤ (x.f_.length : Int) ∧ (x.f_.length : Int) ≤ 3
    · rw [oI c]
      simp only [cS]
      rcases (En i j).cases with ⟨e, d⟩ | ⟨e, d⟩
      · rw [e]
        simp only [cS]
        exact h.of_iff ⟨fun g => ⟨a, c, d, g⟩, fun g => g.2.2.2⟩
      · rw [e]
        exact bG fun g => d g.2.2.1
    · rw [pU c]
      exact bG fun g => c g.2.1
  · rw [pU a]
    exact bG fun g => a g.1
theorem mG {x : aj} (f : OkS x) : Dec (ed x) (jV x) := by
  have h := JF f
  obtain ⟨h1, k, i, j⟩ := f
  unfold ed aW jV
  simp only [bS]
  by_cases a : 1 ≤ (x.d_.length : Int) ∧ (x.d_.length : Int) ≤ 5
  · rw [oI a]
    simp only [Bool.not_true, Bool.false_eq_true, if_false]
    by_cases c : 2 ≤ (x.f_.length : Int) ∧ (x.f_.length : Int) ≤ 3
    · rw [oI c]
      simp only [cS]
      rcases (zu i j).cases with ⟨e, d⟩ | ⟨e, d⟩
      · rw [e]
        simp only [cS]
        exact h.of_iff ⟨fun g => ⟨a, c, d, g⟩, fun g => g.2.2.2⟩
      · rw [e]
        exact bG fun g => d g.2.2.1
    · rw [pU c]
      exact bG fun g => c g.2.1
  · rw [pU a]
    exact bG fun g => a g.1
end Go.Vk
/- Masks. -/
namespace Go.Vk
end Go.Vk
/- Two texts of data, walked side by side. -/
namespace Go.Vk
def HC {ρ : Type} (a b : Option ρ) (Q : ρ → Prop) : Prop := ∃ m, a = some m ∧ b = some m ∧ Q m
theorem HC.mono {ρ : Type} {a b : Option ρ} {Q R : ρ → Prop} (h : HC a b Q) (f : ∀ m, Q m → R m) : HC a b R := by
  obtain ⟨m, h1, c, d⟩ := h
  exact ⟨m, h1, c, f m d⟩
theorem HC.bind {α ρ : Type} {a b : Option α} {Q : α → Prop} {f g : α → Option ρ} {R : ρ → Prop} (h : HC a b Q) (k : ∀ m, Q m → HC (f m) (g m) R) : HC (a.bind f) (b.bind g) R := by
  obtain ⟨m, h1, c, d⟩ := h
  rw [h1, c]
  exact k m d
end Go.Vk
/- Statistics: tested alike; the greatest of a list. -/
namespace Go.Vk
theorem vp {a : ap} (h : iS a) : OkM a := by
  obtain ⟨h1, d, c⟩ := h
  exact ⟨by omega, by have := d.1; omega, by have := c.1; omega, fun y e => by have := c.2 y e; omega⟩
theorem nM {s : aj} (h : bV s) : OkS s := by
  obtain ⟨h1, c⟩ := h
  exact ⟨by have := h1.1; omega, fun a d => vp (h1.2 a d), by have := c.1; omega, fun y e => by have := c.2 y e; omega⟩
theorem tF {o : Option Bool} {P R : Prop} {f : Bool → Option Bool} (h : Dec o P) (c : P → Dec (f true) R) (d : ¬ P → Dec (f false) R) : Dec (o.bind f) R := by
  rcases h.cases with ⟨e, a⟩ | ⟨e, a⟩
  · rw [e]; exact c a
  · rw [e]; exact d a
theorem Lr {c : Prop} [Decidable c] {P R : Prop} {a b : Option Bool} (e : c ↔ P) (f : P → Dec a R) (g : ¬ P → Dec b R) : Dec (if c then a else b) R := by
  by_cases d : c
  · rw [if_pos d]; exact f (e.1 d)
  · rw [if_neg d]; exact g (fun h => d (e.2 h))
theorem fU {x a b : Int} : Dec (aW x a b) (a ≤ x ∧ x ≤ b) := LV
theorem jz {x a b : Int} : Dec (ba x a b) (a ≤ x ∧ x ≤ b) := LV
def nb (a : ap) : Nat := if 0 < a.x_.length then a.x_.length + 1 else a.F_.length
theorem xN {a : ap} (d : iS a) : nx a = some (nb a : Int) := by
  have h1 := d.2.1.1
  unfold nx nb
  by_cases c : 0 < a.x_.length
  · rw [if_pos (by simpa using c), if_pos c, aG (by omega)]
  · rw [if_neg (by simpa using c), if_neg c]
theorem Ir {a : ap} (h : oJ a) : 2 ≤ nb a ∧ nb a ≤ 4 := by
  unfold nb
  rcases h.2 with ⟨h1, c, _⟩ | ⟨h1, c, _⟩
  · rw [if_neg (by omega)]; omega
  · rw [if_pos (by omega)]; omega
theorem CH {a : ap} (c : iS a) (h : oJ a) : nr a = some (nb a : Int) := by
  obtain ⟨n, d, e, _⟩ := MO (vp c) h
  rw [d, ← e, xN c]
theorem jV.attr {s : aj} (h : jV s) {i : Nat} (a : i < s.d_.length) : oJ s.d_[i] := (h.2.2.2 i (Nat.zero_le _) a a).1
def mt (l : List Int) (c k : Nat) : Nat → Int
  | 0 => 0
  | b + 1 => mt l c k b + l.getD (b * c + k) 0
def DW (c n : Nat) (tot l : List Int) : Prop := l.length = n * c ∧ (∀ x ∈ l, 0 ≤ x ∧ x ≤ 999) ∧ ∀ k, k < c → mt l c k n ≤ tot.getD k 0
def ud (s : aj) (t : bl) : Prop := jV s ∧ t.q_.length = s.f_.length ∧ (∀ x ∈ t.q_, 0 ≤ x ∧ x ≤ 999) ∧ t.q_.sum ≤ 999 ∧
  (t.l_.length = 0 ∨ (t.l_.length = s.d_.length ∧ ∀ i (h : i < t.l_.length) (a : i < s.d_.length), DW s.f_.length (nb s.d_[i]) t.q_ t.l_[i]))
theorem MG {l : List Int} (h : ∀ x ∈ l, 0 ≤ x ∧ x ≤ 999) (i : Nat) : 0 ≤ l.getD i 0 ∧ l.getD i 0 ≤ 999 := by
  rw [List.getD_eq_getElem?_getD]
  by_cases a : i < l.length
  · rw [List.getElem?_eq_getElem a]; exact h _ (List.getElem_mem a)
  · rw [List.getElem?_eq_none (by omega)]; simp
theorem vR {l : List Int} {i : Nat} (h : i < l.length) : l.getD i 0 = l[i] := by simp [h]
theorem Lx {l : List Int} {c k : Nat} (h : ∀ x ∈ l, 0 ≤ x ∧ x ≤ 999) : ∀ n : Nat, 0 ≤ mt l c k n ∧ mt l c k n ≤ 999 * n
  | 0 => by simp [mt]
  | n + 1 => by
    have := Lx (c := c) (k := k) h n
    have := MG h (n * c + k)
    simp only [mt]
    omega
theorem KB {l : List Int} {c k : Nat} (h : ∀ x ∈ l, 0 ≤ x ∧ x ≤ 999) {n m : Nat} (a : n ≤ m) : mt l c k n ≤ mt l c k m := by
  induction m with
  | zero => rw [show n = 0 by omega]; exact Int.le_refl _
  | succ m ih =>
    by_cases e : n = m + 1
    · rw [e]; exact Int.le_refl _
    · have := ih (by omega)
      have := MG h (m * c + k)
      simp only [mt]
      omega
theorem Bj {l : List Int} (m : l.length ≤ 1048576) (n : Int) : Dec (nB l n) ((l.length : Int) = n ∧ ∀ x ∈ l, 0 ≤ x ∧ x ≤ 999) := by
  unfold nB
  by_cases d : (l.length : Int) = n
  · rw [if_pos (by simpa using d)]
    have f : Dec (bX l) (∃ i, i < l.length ∧ ∀ h : i < l.length, ¬ (0 ≤ l[i] ∧ l[i] ≤ 999)) := by
      unfold bX cG
      refine qR (Lp := bL l) (n := l.length) (fun k i a => ?_) (fun k i a => ?_) (by omega)
      · show (if _ then _ else _) = _
        rw [if_neg (by simp; omega)]
      · rw [bL, if_pos (by simp; omega), aX a, aG (by omega)]
        unfold pI aW
        simp only [bS]
        by_cases h : 0 ≤ l[i] ∧ l[i] ≤ 999
        · rw [oI h]; exact .inr ⟨fun g => g a h, rfl⟩
        · rw [pU h]; exact .inl ⟨fun _ => h, rfl⟩
    rcases f.cases with ⟨e, i, a, h⟩ | ⟨e, h⟩
    · rw [e]; exact bG fun g => h a (g.2 _ (List.getElem_mem a))
    · rw [e]; exact mH ⟨d, fun x j => by
        obtain ⟨i, a, rfl⟩ := List.getElem_of_mem j
        exact Classical.byContradiction fun c => h ⟨i, a, fun _ => c⟩⟩
  · rw [if_neg (by simpa using d)]
    exact bG fun g => d g.1
theorem Gd {p : List Int} (a : ∀ x ∈ p, 0 ≤ x ∧ x ≤ 1000000000) (d : p.length ≤ 1048576) : lw p = some p.sum := by
  unfold lw
  have h := yo (p := p) (fun x => x) (fM p) some (fun k s => by
    show (if _ then _ else _) = _
    rw [if_neg (by simp)]) (fun k s i c => by
    rw [fM, if_pos (by simp; omega), aX c, aG (by omega)]
    rfl) a (by omega)
  simpa using h
def oC (l : List Int) (c i : Nat) : List Int := (List.range c).map fun k => mt l c k (i / c + if k < i % c then 1 else 0)
theorem tT (l : List Int) (c i : Nat) : (oC l c i).length = c := by simp [oC]
theorem rM {l : List Int} {c i k : Nat} (h : k < c) : (oC l c i)[k]'(by simpa [oC] using h) = mt l c k (i / c + if k < i % c then 1 else 0) := by simp [oC]
theorem Ag {l : List Int} {c i : Nat} (e : 0 < c) : oC l c (i + 1) = (oC l c i).set (i % c) (mt l c (i % c) (i / c + 1)) := by
  have j := Nat.mod_lt i e
  have m := Nat.div_add_mod i c
  apply List.ext_getElem (by simp [oC])
  intro k h1 o
  have hk : k < c := by simpa [oC] using h1
  rw [rM hk, List.getElem_set]
  by_cases h : i % c + 1 = c
  · have f : (i + 1) / c = i / c + 1 := by
      have : i + 1 = c * (i / c + 1) := by rw [Nat.mul_add, Nat.mul_one]; omega
      rw [this, Nat.mul_div_cancel_left _ e]
    have g : (i + 1) % c = 0 := by
      have : i + 1 = c * (i / c + 1) := by rw [Nat.mul_add, Nat.mul_one]; omega
      rw [this, Nat.mul_mod_right]
    rw [f, g, if_neg (by omega)]
    by_cases a : i % c = k
    · rw [if_pos a, a]
    · rw [if_neg a, rM hk, if_pos (by omega)]
  · have f : (i + 1) / c = i / c := by
      have : i + 1 = (i % c + 1) + c * (i / c) := by omega
      rw [this, Nat.add_mul_div_left _ _ e, Nat.div_eq_of_lt (by omega), Nat.zero_add]
    have g : (i + 1) % c = i % c + 1 := by
      have : i + 1 = (i % c + 1) + c * (i / c) := by omega
      rw [this, Nat.add_mul_mod_self_left, Nat.mod_eq_of_lt (by omega)]
    rw [f, g]
    by_cases a : i % c = k
    · rw [if_pos a, if_pos (by omega), a]
    · rw [if_neg a, rM hk]
      by_cases d : k < i % c
      · rw [if_pos (by omega), if_pos d]
      · rw [if_neg (by omega), if_neg d]
theorem GE (l : List Int) (c : Nat) : oC l c 0 = List.replicate c 0 := by
  apply List.ext_getElem (by simp [oC])
  intro k h1 a
  have hk : k < c := by simpa [oC] using h1
  rw [rM hk]
  simp [mt]
theorem Ht {s : aj} {t : bl} {l : List Int} {n : Nat} (D : jV s) (T : t.q_.length = s.f_.length) (E : n ≤ 4) (h1 : l.length = n * s.f_.length) (h : ∀ x ∈ l, 0 ≤ x ∧ x ≤ 999) (R : Int → Option Bool) (i : Nat) (V : i ≤ 1048576) :
    ((∀ k, k < s.f_.length → mt l s.f_.length k n ≤ t.q_.getD k 0 ∨ n = 0) ∧ dM l s t R (i : Int) aI 0 (List.replicate s.f_.length 0) = R ((i + 1 : Nat) : Int)) ∨
    ((¬ ∀ k, k < s.f_.length → mt l s.f_.length k n ≤ t.q_.getD k 0 ∨ n = 0) ∧ dM l s t R (i : Int) aI 0 (List.replicate s.f_.length 0) = some false) := by
  have u : 2 ≤ s.f_.length ∧ s.f_.length ≤ 3 := by have := D.2.1; omega
  generalize F : s.f_.length = c at *
  have a : 0 < c := by omega
  have G : l.length ≤ 12 := by
    have : n * c ≤ 4 * 3 := Nat.mul_le_mul E u.2
    omega
  rw [← GE l c]
  rcases vx (Lp := fun k j => dM l s t R (i : Int) k (j : Int) (oC l c j)) (n := l.length) (Q := fun j => mt l c (j % c) (j / c + 1) ≤ t.q_.getD (j % c) 0) (fin := R ((i + 1 : Nat) : Int)) (bad := some false) (fun k _ => by
      show dM l s t R (i : Int) (k + 1) _ _ = _
      rw [dM, if_neg (by simp), aG (by omega)]) (fun k j e _ => by
      show (_ ∧ dM l s t R (i : Int) (k + 1) _ _ = _) ∨ (_ ∧ dM l s t R (i : Int) (k + 1) _ _ = _)
      have d := Nat.mod_lt j a
      have o : rem (j : Int) (c : Int) = some ((j % c : Nat) : Int) := by
        unfold rem
        rw [if_neg (by omega), mY]
      have v : j / c * c + j % c = j := by rw [Nat.mul_comm]; exact Nat.div_add_mod j c
      have p : mt l c (j % c) (j / c + 1) = mt l c (j % c) (j / c) + l[j] := by
        simp only [mt]
        rw [v, vR e]
      have X := Lx (c := c) (k := j % c) h (j / c)
      have M : j / c ≤ 12 := Nat.le_trans (Nat.div_le_self _ _) (by omega)
      have P := h _ (List.getElem_mem e)
      have H : (oC l c j)[j % c]'(by rw [tT]; exact d) = mt l c (j % c) (j / c) := by
        rw [rM d, if_neg (by omega)]; rfl
      have L : IntKind.i64.wrap (mt l c (j % c) (j / c) + l[j]) = mt l c (j % c) (j / c + 1) := by
        rw [p, bi (by omega) (by omega)]
      rw [dM, if_pos (by simp; omega), aX e, F, o]
      simp only [bS]
      rw [aX (by rw [tT]; exact d), H]
      simp only [Option.bind_some, Int.toNat_natCast]
      rw [L, ← Ag a, aX (by rw [tT]; exact d), aX (by omega : j % c < t.q_.length)]
      simp only [bS]
      have w : (oC l c (j + 1))[j % c]'(by rw [tT]; exact d) = mt l c (j % c) (j / c + 1) := by
        simp only [Ag a, List.getElem_set_self]
      rw [w, vR (by omega : j % c < t.q_.length), aG (by omega)]
      by_cases f : mt l c (j % c) (j / c + 1) ≤ t.q_[j % c]
      · rw [if_neg (by simpa using f)]
        exact .inl ⟨f, rfl⟩
      · rw [if_pos (by simpa using f)]
        exact .inr ⟨f, rfl⟩) (by omega) with ⟨q, r⟩ | ⟨q, r⟩
  · refine .inl ⟨fun k hk => ?_, r⟩
    by_cases A : n = 0
    · exact .inr A
    · left
      have C : (n - 1) * c + k < l.length := by
        rw [h1]
        obtain ⟨m, rfl⟩ : ∃ m, n = m + 1 := ⟨n - 1, by omega⟩
        rw [Nat.add_sub_cancel, Nat.add_mul]; omega
      have := q _ C
      rw [show ((n - 1) * c + k) % c = k by rw [Nat.mul_comm, Nat.mul_add_mod, Nat.mod_eq_of_lt hk], show ((n - 1) * c + k) / c + 1 = n by rw [Nat.mul_comm, Nat.mul_add_div a, Nat.div_eq_of_lt hk]; omega] at this
      exact this
  · refine .inr ⟨fun g => q fun j e => ?_, r⟩
    have d := Nat.mod_lt j a
    rcases g _ d with g | g
    · refine Int.le_trans (KB h ?_) g
      have : j / c < n := Nat.div_lt_of_lt_mul (by rw [Nat.mul_comm]; omega)
      omega
    · rw [h1, g, Nat.zero_mul] at e
      omega
theorem JR {s : aj} {t : bl} (A : bV s) (p : oO t) : Dec (pj s t) (ud s t) := by
  unfold pj ud
  refine tF (mG (nM A)) (fun f => ?_) (fun g => bG fun h => g h.1)
  simp only [Bool.not_true, Bool.false_eq_true, if_false]
  have C := p.1.1
  have P := p.2.1
  rcases (Bj C (s.f_.length : Int)).cases with ⟨e, j⟩ | ⟨e, j⟩
  · rw [e]
    simp only [cS]
    have q : t.q_.length = s.f_.length := by omega
    rw [Gd (fun x H => by have := j.2 x H; omega) C]
    simp only [bS]
    by_cases c : t.q_.sum ≤ 999
    · rw [if_neg (by simp; omega)]
      by_cases o : t.l_.length = 0
      · rw [if_pos (by simp; exact List.length_eq_zero_iff.1 o)]
        exact mH ⟨f, q, j.2, c, .inl o⟩
      · rw [if_neg (by rw [beq_iff_eq]; omega)]
        by_cases r : t.l_.length = s.d_.length
        · rw [if_neg (by simp [r])]
          refine (rz (Lp := fun k i => dv t s k (i : Int)) (n := t.l_.length) (Q := fun i => ∀ (h : i < t.l_.length) (a : i < s.d_.length), DW s.f_.length (nb s.d_[i]) t.q_ t.l_[i]) (F := True) (fun k _ => ?_) (fun k i l _ => ?_) (by omega)).of_iff
            ⟨fun g => ⟨f, q, j.2, c, .inr ⟨r, fun i h a => g.1 i h h a⟩⟩, fun g => ⟨fun i _ h a => by
              rcases g.2.2.2.2 with g | g
              · exact absurd g o
              · exact g.2 i h a, trivial⟩⟩
          · show Dec (dv t s (k + 1) _) _
            rw [dv, if_neg (by simp)]
            exact mH trivial
          · show (_ ∧ dv t s (k + 1) _ = dv t s k _) ∨ (_ ∧ dv t s (k + 1) _ = _)
            have d : i < s.d_.length := by omega
            have L := A.1.2 _ (List.getElem_mem d)
            have D := Ir (f.attr d)
            have E := p.2.2 _ (List.getElem_mem l)
            have R := f.2.1
            have M : nb s.d_[i] * s.f_.length ≤ 4 * 3 := Nat.mul_le_mul (by omega) (by omega)
            rw [dv, if_pos (by simp; omega), aX l, aX d]
            simp only [bS]
            rw [xN L]
            simp only [bS]
            have G : IntKind.i64.wrap ((nb s.d_[i] : Int) * (s.f_.length : Int)) = ((nb s.d_[i] * s.f_.length : Nat) : Int) := by
              rw [← Int.natCast_mul, gq (by omega)]
            rw [G]
            rcases (Bj E.1 ((nb s.d_[i] * s.f_.length : Nat) : Int)).cases with ⟨u, a⟩ | ⟨u, a⟩
            · rw [u]
              simp only [cS]
              unfold tX
              rw [Oc _ (by omega)]
              simp only [bS]
              have m : t.l_[i].length = nb s.d_[i] * s.f_.length := by omega
              rcases Ht (t := t) f q D.2 m a.2 (dv t s k) i (by omega) with ⟨v, w⟩ | ⟨v, w⟩
              · exact .inl ⟨fun _ _ => ⟨m, a.2, fun k hk => by
                  rcases v k hk with g | g
                  · exact g
                  · omega⟩, w⟩
              · exact .inr ⟨fun g => v fun k hk => .inl ((g l d).2.2 k hk), w⟩
            · rw [u]
              exact .inr ⟨fun g => a ⟨by have := (g l d).1; omega, (g l d).2.1⟩, rfl⟩
        · rw [if_pos (by simp; omega)]
          exact bG fun g => by
            rcases g.2.2.2.2 with g | g
            · exact o g
            · exact r g.1
    · rw [if_pos (by simp; omega)]
      exact bG fun g => c g.2.2.2.1
  · rw [e]
    exact bG fun g => j ⟨by have := g.2.1; omega, g.2.2.1⟩
theorem Io {s : aj} {t : bl} {l : List Int} {n i : Nat} (C : jV s) (X : t.q_.length = s.f_.length) (Z : n ≤ 4) (D : i < t.l_.length) (E : t.l_[i] = l) (h1 : l.length = n * s.f_.length) (R : Int → Option Bool) (P : i ≤ 1048576) :
    (((∀ x ∈ l, 0 ≤ x ∧ x ≤ 999) ∧ ∀ k, k < s.f_.length → mt l s.f_.length k n ≤ t.q_.getD k 0) ∧ bT s (n : Int) t (i : Int) R aI 0 = R ((i + 1 : Nat) : Int)) ∨
    ((¬ ((∀ x ∈ l, 0 ≤ x ∧ x ≤ 999) ∧ ∀ k, k < s.f_.length → mt l s.f_.length k n ≤ t.q_.getD k 0)) ∧ bT s (n : Int) t (i : Int) R aI 0 = some false) := by
  have T : 2 ≤ s.f_.length ∧ s.f_.length ≤ 3 := by have := C.2.1; omega
  generalize r : s.f_.length = c at *
  have u : 0 < c := by omega
  have f : ∀ k b, k < c → b < n → b * c + k < l.length := fun k b hk h => by
    rw [h1]
    have : (b + 1) * c ≤ n * c := Nat.mul_le_mul_right _ h
    rw [Nat.add_mul] at this; omega
  rcases vx (Lp := fun q k => bT s (n : Int) t (i : Int) R q (k : Int)) (n := c) (Q := fun k => (∀ b, b < n → 0 ≤ l.getD (b * c + k) 0 ∧ l.getD (b * c + k) 0 ≤ 999) ∧ mt l c k n ≤ t.q_.getD k 0) (fin := R ((i + 1 : Nat) : Int)) (bad := some false) (fun q _ => by
      show bT s (n : Int) t (i : Int) R (q + 1) _ = _
      rw [bT, r, if_neg (by simp), aG (by omega)]) (fun q k hk _ => by
      show (_ ∧ bT s (n : Int) t (i : Int) R (q + 1) _ = bT s (n : Int) t (i : Int) R q _) ∨ (_ ∧ bT s (n : Int) t (i : Int) R (q + 1) _ = _)
      rw [bT, r, if_pos (by simp; omega)]
      rcases vx (Lp := fun e b => du (n : Int) t (i : Int) s (k : Int) (bT s (n : Int) t (i : Int) R q) e (mt l c k b) (b : Int)) (n := n) (Q := fun b => 0 ≤ l.getD (b * c + k) 0 ∧ l.getD (b * c + k) 0 ≤ 999)
          (fin := if mt l c k n ≤ t.q_.getD k 0 then bT s (n : Int) t (i : Int) R q ((k + 1 : Nat) : Int) else some false) (bad := some false) (fun e _ => by
          show du (n : Int) t (i : Int) s (k : Int) (bT s (n : Int) t (i : Int) R q) (e + 1) _ _ = _
          rw [du, if_neg (by simp), aX (by omega : k < t.q_.length), aG (by omega), vR (by omega : k < t.q_.length)]
          simp only [bS]
          by_cases g : mt l c k n ≤ t.q_[k]
          · rw [if_pos g, if_neg (by simpa using g)]
          · rw [if_neg g, if_pos (by simpa using g)]) (fun e b h F => by
          show (_ ∧ du (n : Int) t (i : Int) s (k : Int) (bT s (n : Int) t (i : Int) R q) (e + 1) _ _ = du (n : Int) t (i : Int) s (k : Int) (bT s (n : Int) t (i : Int) R q) e _ _) ∨ (_ ∧ du (n : Int) t (i : Int) s (k : Int) (bT s (n : Int) t (i : Int) R q) (e + 1) _ _ = _)
          have p := f k b hk h
          have V : b * c ≤ 4 * 3 := Nat.mul_le_mul (by omega) (by omega)
          have G : IntKind.i64.wrap (IntKind.i64.wrap ((b : Int) * (c : Int)) + (k : Int)) = ((b * c + k : Nat) : Int) := by
            rw [← Int.natCast_mul, gq (by omega), ← Int.natCast_add, gq (by omega)]
          have v : ∀ m, m ≤ b → 0 ≤ mt l c k m ∧ mt l c k m ≤ 999 * m := fun m => by
            induction m with
            | zero => intro _; simp [mt]
            | succ m ih =>
              intro w
              have d := ih (by omega)
              have a := F m (by omega)
              simp only [mt]
              omega
          have H := v b (Nat.le_refl _)
          rw [du, if_pos (by simp; omega), aX D, r, G]
          simp only [bS]
          rw [E, aX p]
          simp only [bS]
          unfold ba
          simp only [bS]
          have o := vR p
          by_cases g : 0 ≤ l[b * c + k] ∧ l[b * c + k] ≤ 999
          · rw [oI g, o]
            simp only [Bool.not_true, Bool.false_eq_true, if_false]
            rw [bi (n := mt l c k b + l[b * c + k]) (by omega) (by omega), aG (by omega)]
            refine .inl ⟨g, ?_⟩
            congr 1
            simp only [mt]
            rw [o]
          · rw [pU g, o]
            exact .inr ⟨g, rfl⟩) (by omega) with ⟨d, a⟩ | ⟨d, a⟩
      · have a : du (n : Int) t (i : Int) s (k : Int) (bT s (n : Int) t (i : Int) R q) aI 0 0 = _ := a
        rw [a]
        by_cases g : mt l c k n ≤ t.q_.getD k 0
        · rw [if_pos g]; exact .inl ⟨⟨d, g⟩, rfl⟩
        · rw [if_neg g]; exact .inr ⟨fun x => g x.2, rfl⟩
      · have a : du (n : Int) t (i : Int) s (k : Int) (bT s (n : Int) t (i : Int) R q) aI 0 0 = _ := a
        rw [a]
        exact .inr ⟨fun x => d x.1, rfl⟩) (by omega) with ⟨d, a⟩ | ⟨d, a⟩
  · refine .inl ⟨⟨fun x L => ?_, fun k hk => (d k hk).2⟩, a⟩
    obtain ⟨j, M, rfl⟩ := List.getElem_of_mem L
    have w := Nat.mod_lt j u
    have A : j / c * c + j % c = j := by rw [Nat.mul_comm]; exact Nat.div_add_mod j c
    have := (d _ w).1 (j / c) (Nat.div_lt_of_lt_mul (by rw [Nat.mul_comm]; omega))
    rw [A, vR M] at this
    exact this
  · refine .inr ⟨fun g => d fun k hk => ⟨fun b h => ?_, g.2 k hk⟩, a⟩
    rw [vR (f k b hk h)]
    exact g.1 _ (List.getElem_mem _)
theorem ze {s : aj} {t : bl} (A : bV s) (C : oO t) : Dec (lv s t) (ud s t) := by
  unfold lv ud
  refine tF (mE (nM A)) (fun l => ?_) (fun g => bG fun h => g h.1)
  have Z := C.1.1
  have T := C.2.1
  by_cases m : t.q_.length = s.f_.length
  · rw [if_neg (by simp [m])]
    have V : 2 ≤ s.f_.length ∧ s.f_.length ≤ 3 := by have := l.2.1; omega
    have H : (∀ i, i < t.q_.length → ∀ h : i < t.q_.length, 0 ≤ t.q_[i] ∧ t.q_[i] ≤ 999) → Dec (if decide (t.q_.sum > 999) then some false else if ((t.l_.length : Int) == 0) then some true else if ((t.l_.length : Int) != (s.d_.length : Int)) then some false else cW t s aI 0) (t.q_.sum ≤ 999 ∧
        (t.l_.length = 0 ∨ (t.l_.length = s.d_.length ∧ ∀ i (h : i < t.l_.length) (c : i < s.d_.length), DW s.f_.length (nb s.d_[i]) t.q_ t.l_[i]))) := fun _ => by
      by_cases d : t.q_.sum ≤ 999
      · rw [if_neg (by simp; omega)]
        by_cases o : t.l_.length = 0
        · rw [if_pos (by simp; exact List.length_eq_zero_iff.1 o)]
          exact mH ⟨d, .inl o⟩
        · rw [if_neg (by rw [beq_iff_eq]; omega)]
          by_cases r : t.l_.length = s.d_.length
          · rw [if_neg (by simp [r])]
            refine (rz (Lp := fun k i => cW t s k (i : Int)) (n := t.l_.length) (Q := fun i => ∀ (h : i < t.l_.length) (c : i < s.d_.length), DW s.f_.length (nb s.d_[i]) t.q_ t.l_[i]) (F := True) (fun k _ => ?_) (fun k i a _ => ?_) (by omega)).of_iff
              ⟨fun g => ⟨d, .inr ⟨r, fun i h c => g.1 i h h c⟩⟩, fun g => ⟨fun i _ h c => by
                rcases g.2 with g | g
                · exact absurd g o
                · exact g.2 i h c, trivial⟩⟩
            · show Dec (cW t s (k + 1) _) _
              rw [cW, if_neg (by simp)]
              exact mH trivial
            · show (_ ∧ cW t s (k + 1) _ = cW t s k _) ∨ (_ ∧ cW t s (k + 1) _ = _)
              have e : i < s.d_.length := by omega
              have L := A.1.2 _ (List.getElem_mem e)
              have D := Ir (l.attr e)
              have M : nb s.d_[i] * s.f_.length ≤ 4 * 3 := Nat.mul_le_mul (by omega) (by omega)
              have E : IntKind.i64.wrap ((nb s.d_[i] : Int) * (s.f_.length : Int)) = ((nb s.d_[i] * s.f_.length : Nat) : Int) := by
                rw [← Int.natCast_mul, gq (by omega)]
              rw [cW, if_pos (by simp; omega), aX a, aX e]
              simp only [bS]
              rw [CH L (l.attr e)]
              simp only [bS]
              rw [E]
              by_cases f : t.l_[i].length = nb s.d_[i] * s.f_.length
              · rw [if_neg (by rw [bne_iff_ne]; omega)]
                rcases Io l m D.2 a rfl f (cW t s k) (by omega) with ⟨q, u⟩ | ⟨q, u⟩
                · exact .inl ⟨fun _ _ => ⟨f, q.1, q.2⟩, u⟩
                · exact .inr ⟨fun g => q ⟨(g a e).2.1, (g a e).2.2⟩, u⟩
              · rw [if_pos (by rw [bne_iff_ne]; omega)]
                exact .inr ⟨fun g => f (g a e).1, rfl⟩
          · rw [if_pos (by simp; omega)]
            exact bG fun g => by
              rcases g.2 with g | g
              · exact o g
              · exact r g.1
      · rw [if_pos (by simp; omega)]
        exact bG fun g => d g.1
    refine Dec.of_iff (P := (∀ i, i < t.q_.length → ∀ h : i < t.q_.length, 0 ≤ t.q_[i] ∧ t.q_[i] ≤ 999) ∧ (t.q_.sum ≤ 999 ∧
        (t.l_.length = 0 ∨ (t.l_.length = s.d_.length ∧ ∀ i (h : i < t.l_.length) (c : i < s.d_.length), DW s.f_.length (nb s.d_[i]) t.q_ t.l_[i])))) ?_ ⟨fun g => ⟨l, m, fun x v => by
        obtain ⟨i, a, rfl⟩ := List.getElem_of_mem v
        exact g.1 i a a, g.2⟩, fun g => ⟨fun i a _ => g.2.2.1 _ (List.getElem_mem a), g.2.2.2⟩⟩
    have := rz (Lp := fun k i => ez t s k (t.q_.take i).sum (i : Int)) (n := t.q_.length) (Q := fun i => ∀ h : i < t.q_.length, 0 ≤ t.q_[i] ∧ t.q_[i] ≤ 999) (F := t.q_.sum ≤ 999 ∧
        (t.l_.length = 0 ∨ (t.l_.length = s.d_.length ∧ ∀ i (h : i < t.l_.length) (c : i < s.d_.length), DW s.f_.length (nb s.d_[i]) t.q_ t.l_[i]))) (fun k w => by
      show Dec (ez t s (k + 1) _ _) _
      rw [ez, if_neg (by simp), List.take_length]
      exact H w) (fun k i a w => by
      show (_ ∧ ez t s (k + 1) _ _ = ez t s k _ _) ∨ (_ ∧ ez t s (k + 1) _ _ = _)
      have hb := qm (p := t.q_.take i) (b := 999) (fun x v => by
        obtain ⟨j, R, rfl⟩ := List.getElem_of_mem v
        have G : j < i := by have : j < (t.q_.take i).length := R; simp at this; omega
        rw [List.getElem_take]
        exact w j G (by omega))
      have X : ((t.q_.take i).length : Int) ≤ 3 := by simp; omega
      rw [ez, if_pos (by simp; omega), aX a]
      unfold ba
      simp only [bS]
      by_cases g : 0 ≤ t.q_[i] ∧ t.q_[i] ≤ 999
      · rw [oI g]
        simp only [Bool.not_true, Bool.false_eq_true, if_false]
        rw [bi (n := (t.q_.take i).sum + t.q_[i]) (by omega) (by omega), aG (by omega), yh a]
        exact .inl ⟨fun _ => g, rfl⟩
      · rw [pU g]
        exact .inr ⟨fun x => g (x a), rfl⟩) (by omega)
    simpa using this
  · rw [if_pos (by simp; omega)]
    exact bG fun g => m g.2.1
end Go.Vk
/- Forks: tested alike. -/
namespace Go.Vk
def FB (a : ap) : Int := (nb a : Int) - (if 0 < a.x_.length then 2 else 1)
def atr (s : aj) (f : bD) : ap := s.d_.getD f.t_.toNat default
def vw (s : aj) (f : bD) : Prop := jV s ∧ (0 ≤ f.t_ ∧ f.t_ ≤ (s.d_.length : Int) - 1) ∧ (-1 ≤ f.u_ ∧ f.u_ ≤ FB (atr s f))
theorem Ig {s : aj} {f : bD} (h : 0 ≤ f.t_ ∧ f.t_ ≤ (s.d_.length : Int) - 1) : ∃ (i : Nat) (a : i < s.d_.length), f.t_ = i ∧ atr s f = s.d_[i] := by
  refine ⟨f.t_.toNat, by omega, by omega, ?_⟩
  unfold atr
  simp [show f.t_.toNat < s.d_.length by omega]
theorem Bf {s : aj} {f : bD} (h : 0 ≤ f.t_ ∧ f.t_ ≤ (s.d_.length : Int) - 1) : idx s.d_ f.t_ = some (atr s f) := by
  obtain ⟨i, a, c, d⟩ := Ig h
  rw [c, d, aX a]
theorem yc {s : aj} {f : bD} (h : 0 ≤ f.t_ ∧ f.t_ ≤ (s.d_.length : Int) - 1) : atr s f ∈ s.d_ := by
  obtain ⟨i, a, d, c⟩ := Ig h
  rw [c]; exact List.getElem_mem a
theorem EI {s : aj} {f : bD} (a : jV s) (h : 0 ≤ f.t_ ∧ f.t_ ≤ (s.d_.length : Int) - 1) : oJ (atr s f) := by
  obtain ⟨i, c, e, d⟩ := Ig h
  rw [d]; exact a.attr c
theorem Hj {s : aj} {f : bD} (d : bV s) : Dec (oK s f) (vw s f) := by
  unfold oK vw
  refine tF (mE (nM d)) (fun i => ?_) (fun g => bG fun h => g h.1)
  have m := d.1.1
  simp only [Bool.not_true, Bool.false_eq_true, if_false]
  rw [bi (n := (s.d_.length : Int) - 1) (by omega) (by omega)]
  rcases (jz (x := f.t_) (a := 0) (b := (s.d_.length : Int) - 1)).cases with ⟨e, c⟩ | ⟨e, c⟩
  · rw [e]
    simp only [cS]
    have k := d.1.2 _ (yc c)
    have j := EI i c
    have l := Ir j
    rw [Bf c]
    simp only [bS]
    rw [CH k j]
    simp only [bS]
    unfold FB
    refine Lr (P := 0 < (atr s f).x_.length) (by simp) (fun h => ?_) (fun h => ?_)
    · rw [if_pos h, bi (by omega) (by omega)]
      have : ∀ o : Option Bool, (o.bind fun y => some y) = o := fun o => by cases o <;> rfl
      rw [this]
      exact jz.of_iff ⟨fun g => ⟨i, c, g⟩, fun g => g.2.2⟩
    · rw [if_neg h, bi (by omega) (by omega)]
      have : ∀ o : Option Bool, (o.bind fun y => some y) = o := fun o => by cases o <;> rfl
      rw [this]
      exact jz.of_iff ⟨fun g => ⟨i, c, g⟩, fun g => g.2.2⟩
  · rw [e]
    exact bG fun g => c g.2.1
theorem Gz {s : aj} {f : bD} (i : bV s) : Dec (qw s f) (vw s f) := by
  unfold qw vw
  refine tF (mG (nM i)) (fun j => ?_) (fun g => bG fun h => g h.1)
  have p := i.1.1
  simp only [Bool.not_true, Bool.false_eq_true, if_false]
  rw [bi (n := (s.d_.length : Int) - 1) (by omega) (by omega)]
  rcases (fU (x := f.t_) (a := 0) (b := (s.d_.length : Int) - 1)).cases with ⟨e, c⟩ | ⟨e, c⟩
  · rw [e]
    simp only [cS]
    have k := i.1.2 _ (yc c)
    have l := EI j c
    have m := Ir l
    rw [Bf c]
    simp only [bS]
    rw [xN k]
    simp only [bS]
    unfold FB
    have d : ∀ o : Option Bool, (o.bind fun y => some y) = o := fun o => by cases o <;> rfl
    refine Lr (P := 0 < (atr s f).x_.length) (by simp) (fun h => ?_) (fun h => ?_)
    · rw [if_pos h, bi (n := (nb (atr s f) : Int) - 1) (by omega) (by omega), bi (by omega) (by omega), d, show (nb (atr s f) : Int) - 1 - 1 = (nb (atr s f) : Int) - 2 by omega]
      exact fU.of_iff ⟨fun g => ⟨j, c, g⟩, fun g => g.2.2⟩
    · rw [if_neg h, bi (by omega) (by omega), d]
      exact fU.of_iff ⟨fun g => ⟨j, c, g⟩, fun g => g.2.2⟩
  · rw [e]
    exact bG fun g => c g.2.1
end Go.Vk
