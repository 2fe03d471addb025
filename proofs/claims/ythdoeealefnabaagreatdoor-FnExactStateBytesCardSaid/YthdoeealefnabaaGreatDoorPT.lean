/- The laws' types: weighed, copied, compared; the rows' frames. Printed by program. -/
import Derived.Test.YthdoeealefnabaaGreatDoorRF
import Derived.Test.YthdoeealefnabaaGreatDoorVkU
namespace Go.Vk
theorem Da {a b : List UInt8} (h : a.length + b.length ≤ 10000) : lp a b = some (a ++ b) := by
  unfold lp
  rw [if_pos (by omega)]
theorem yy {m : Nat} (h : m + 1 < 4611686018427387905) : ∃ t, kZ (m : Int) = some t := by
  have key : ∀ (d k i : Nat) (s : List UInt8), i < 10 ^ d → i < 4611686018427387905 → d < k → s.length + d ≤ 1000 → ∃ t, fL k (i : Int) s = some t := by
    intro d
    induction d with
    | zero =>
      intro k i s hi hb hk hs
      obtain ⟨k, rfl⟩ : ∃ q, k = q + 1 := ⟨k - 1, by omega⟩
      rw [fL, if_neg (by simp at hi ⊢; omega), Da (by simp; omega)]
      exact ⟨_, rfl⟩
    | succ d ih =>
      intro k i s hi hb hk hs
      obtain ⟨k, rfl⟩ : ∃ q, k = q + 1 := ⟨k - 1, by omega⟩
      rw [fL]
      split
      · rw [Da (by simp [qz]; omega)]
        simp only [bS]
        have hd : i / 10 < 10 ^ d := by rw [Nat.pow_succ] at hi; omega
        have e : IntKind.i64.wrap (Int.tdiv (i : Int) 10) = ((i / 10 : Nat) : Int) := by
          rw [show (10 : Int) = ((10 : Nat) : Int) from rfl, si, jV (by omega)]
        rw [e]
        exact ih k _ _ hd (by omega) (by omega) (by simp [qz]; omega)
      · rw [Da (by simp; omega)]
        exact ⟨_, rfl⟩
  unfold kZ
  split
  · exact ⟨_, rfl⟩
  · exact key 19 aK m [] (by omega) (by omega) (fe (by omega)) (by simp)
def pI (x : List Int) : Prop := x.length ≤ 1048576 ∧ ∀ y ∈ x, (-9223372036854775808 ≤ y ∧ y ≤ 9223372036854775807)
def oF (x : List Int) : Prop := x.length < 1000000000000
theorem pF {x : List Int} (h : pI x) : oF x := by have := h.1; unfold oF; omega
theorem nU {x : List Int} (h : oF x) : iz x x = some true := by
  unfold iz
  rw [if_neg (by simp)]
  refine nm (p := x) (jQ x x) (fun _ o => o) (fun k i => ?_) h (fun _ _ _ => rfl)
  show (if _ then _ else _) = _
  cases h : idx x i with
  | none => rfl
  | some e => simp only [Option.bind_some, bne_self_eq_false, Bool.false_eq_true, if_false]
def dy (x : List Int) : Nat := x.length
def rp (x : List Int) : Prop := x.length ≤ maxLen ∧ ∀ y ∈ x, aG .i64 y
theorem pG {x : List Int} (hx : rp x) : jS jC dy x := fun s hs => by
  obtain ⟨r, h1, h2⟩ := vH (p := x) s hs
  exact ⟨r, h1, h2 (Dm hx.1)⟩
def jE (x : List Int) : List Int := x
theorem qP {x : List Int} (h : dy x ≤ 1048576) : iy x = some (jE x) := by
  unfold dy at h
  unfold iy
  rw [yz _ (by omega)]
  exact (pk (F := some) (g := id) (jY x) (fun _ _ _ => rfl) (by omega) (fun _ _ => rfl) _).trans (by rw [List.map_id]; rfl)
theorem pV {x : List Int} (hf : rp x) (h : dy x ≤ 1048576) : pI (jE x) := by
  unfold dy at h
  exact ⟨by show x.length ≤ _; omega, fun y hy => jb (hf.2 y hy)⟩
def rR (x : List (List UInt8)) : Prop := x.length ≤ 1048576 ∧ ∀ y ∈ x, y.length ≤ 1048576
def nt (x : List (List UInt8)) : Prop := x.length < 1000000000000
theorem uu {x : List (List UInt8)} (h : rR x) : nt x := by have := h.1; unfold nt; omega
theorem tB {x : List (List UInt8)} (h : nt x) : jN x x = some true := by
  unfold jN
  rw [if_neg (by simp)]
  refine nm (p := x) (gV x x) (fun _ o => o) (fun k i => ?_) h (fun _ _ _ => rfl)
  show (if _ then _ else _) = _
  cases h : idx x i with
  | none => rfl
  | some e => simp only [Option.bind_some, beq_self_eq_true, Bool.not_true, Bool.false_eq_true, if_false]
def fo (x : List (List UInt8)) : Nat := x.length + (x.map List.length).sum
def rK (x : List (List UInt8)) : Prop := x.length ≤ maxLen ∧ ∀ y ∈ x, y.length ≤ maxLen
theorem tT {x : List (List UInt8)} (hx : rK x) : jS ka fo x := fun s hs => by
  have h0 := Dm hx.1
  unfold ka fo
  rw [cd (n := (s : Int) - (x.length : Int)) (by omega) (by omega)]
  by_cases h : s < x.length
  · rw [if_pos (by simp; omega)]
    exact ⟨_, rfl, .inl ⟨by omega, by omega⟩⟩
  · rw [if_neg (by simp; omega)]
    have := rm (p := x) (Z := fun e s => if decide ((IntKind.i64.wrap (s - (e.length : Int))) < 0) then some (-1) else some (IntKind.i64.wrap (s - (e.length : Int)))) (size := List.length) (gR x) (fun k s i => by
      show (if _ then (idx x i).bind _ else _) = _
      cases idx x i with
      | none => rfl
      | some e =>
        simp only [bS]
        split
        · by_cases h : IntKind.i64.wrap (s - (e.length : Int)) < 0
          · simp [h]
          · simp [h]
        · rfl) (by omega) (fun y hy s hs => by
      obtain ⟨r, h1, h2⟩ := vH (p := y) s hs
      exact ⟨r, h1, h2 (Dm (hx.2 y hy))⟩) (s - x.length) (by omega)
    rw [show (s : Int) - (x.length : Int) = ((s - x.length : Nat) : Int) by omega]
    obtain ⟨r, h1, h2⟩ := this
    refine ⟨r, h1, ?_⟩
    rcases h2 with ⟨h2, h3⟩ | ⟨h2, h3⟩
    · exact .inl ⟨h2, by omega⟩
    · exact .inr ⟨by omega, by rw [h3]; congr 1; omega⟩
def lL (x : List (List UInt8)) : List (List UInt8) := x
theorem vm {x : List (List UInt8)} (h : fo x ≤ 1048576) : jZ x = some (lL x) := by
  unfold fo at h
  unfold jZ
  rw [yz _ (by omega)]
  exact (pk (F := some) (g := id) (gW x) (fun _ _ _ => rfl) (by omega) (fun _ _ => rfl) _).trans (by rw [List.map_id]; rfl)
theorem us {x : List (List UInt8)} (_ : rK x) (h : fo x ≤ 1048576) : rR (lL x) := by
  unfold fo at h
  exact ⟨by show x.length ≤ _; omega, fun y hy => by have := kA (f := List.length) (show y ∈ x from hy); omega⟩
def rk (x : aB) : Prop := x.E_.length ≤ 1048576 ∧ pI x.z_ ∧ rR x.I_
def zZ (x : aB) : Prop := oF x.z_ ∧ nt x.I_
theorem DL {x : aB} (h : rk x) : zZ x := by
  obtain ⟨_, h1, h2⟩ := h
  exact ⟨pF h1, uu h2⟩
theorem Dc {x : aB} (h : zZ x) : nL x x = some true := by
  obtain ⟨h1, h2⟩ := h
  unfold nL
  simp [nU h1, tB h2]
def lJ (x : ch) : Nat := x.E_.length + dy x.z_ + fo x.I_
def AY (x : ch) : Prop := x.E_.length ≤ maxLen ∧ rp x.z_ ∧ rK x.I_
def uQ (x : ch) : aB := ⟨x.E_, jE x.z_, lL x.I_⟩
theorem DI {x : ch} (hx : AY x) : jS nC lJ x := fun s hs => by
  obtain ⟨h0, h1, h2⟩ := hx
  unfold nC lJ
  have l0 := Dm h0
  rw [cd (n := ((s : Nat) : Int) - (x.E_.length : Int)) (by omega) (by omega)]
  by_cases c0 : s < x.E_.length
  · rw [if_pos (by simp; omega)]; exact ⟨_, rfl, .inl ⟨by omega, by omega⟩⟩
  · rw [if_neg (by simp; omega), show ((s : Nat) : Int) - (x.E_.length : Int) = ((s - x.E_.length : Nat) : Int) by omega]
    obtain ⟨r, e1, g1⟩ := pG h1 (s - x.E_.length) (by omega)
    rw [e1]
    simp only [bS]
    rcases g1 with ⟨g1, k1⟩ | ⟨g1, rfl⟩
    · rw [if_pos (by simpa using g1)]; exact ⟨_, rfl, .inl ⟨by omega, by omega⟩⟩
    · rw [if_neg (by simp)]
      obtain ⟨r, e2, g2⟩ := tT h2 (s - x.E_.length - dy x.z_) (by omega)
      rw [e2]
      simp only [bS]
      rcases g2 with ⟨g2, k2⟩ | ⟨g2, rfl⟩
      · rw [if_pos (by simpa using g2)]; exact ⟨_, rfl, .inl ⟨by omega, by omega⟩⟩
      · rw [if_neg (by simp)]
        exact ⟨_, rfl, .inr ⟨by omega, by first | rfl | (congr 1; omega)⟩⟩
theorem FT {x : ch} (h : lJ x ≤ 1048576) : nk x = some (uQ x) := by
  unfold lJ at h
  unfold nk
  rw [qP (x := x.z_) (by omega), vm (x := x.I_) (by omega)]
  rfl
theorem DY {x : ch} (hf : AY x) (h : lJ x ≤ 1048576) : rk (uQ x) := by
  unfold lJ at h
  obtain ⟨_, h1, h2⟩ := hf
  exact ⟨by show x.E_.length ≤ _; omega, pV h1 (show dy x.z_ ≤ 1048576 by omega), us h2 (show fo x.I_ ≤ 1048576 by omega)⟩
def xN (x : List aB) : Prop := x.length ≤ 1048576 ∧ ∀ y ∈ x, rk y
def uS (x : List aB) : Prop := x.length < 1000000000000 ∧ ∀ y ∈ x, zZ y
theorem Dg {x : List aB} (h : xN x) : uS x := ⟨by have := h.1; omega, fun y hy => DL (h.2 y hy)⟩
theorem Bv {x : List aB} (h : uS x) : nZ x x = some true := by
  unfold nZ
  rw [if_neg (by simp)]
  refine nm (p := x) (jl x x) (fun e o => (nL e e).bind fun y => if (!y) then some false else o) (fun k i => ?_) h.1 (fun y hy o => by rw [Dc (h.2 y hy)]; rfl)
  show (if _ then _ else _) = _
  cases h : idx x i with
  | none => rfl
  | some e => rfl
def jd (x : List ch) : Nat := x.length + (x.map lJ).sum
def xg (x : List ch) : Prop := x.length ≤ maxLen ∧ ∀ y ∈ x, AY y
theorem Do {x : List ch} (hx : xg x) : jS oC jd x := fun s hs => by
  have h0 := Dm hx.1
  unfold oC jd
  rw [cd (n := (s : Int) - (x.length : Int)) (by omega) (by omega)]
  by_cases h : s < x.length
  · rw [if_pos (by simp; omega)]
    exact ⟨_, rfl, .inl ⟨by omega, by omega⟩⟩
  · rw [if_neg (by simp; omega)]
    have := rm (p := x) (Z := nC) (size := lJ) (jt x) (fun _ _ _ => rfl) (by omega) (fun y hy => DI (hx.2 y hy)) (s - x.length) (by omega)
    rw [show (s : Int) - (x.length : Int) = ((s - x.length : Nat) : Int) by omega]
    obtain ⟨r, h1, h2⟩ := this
    refine ⟨r, h1, ?_⟩
    rcases h2 with ⟨h2, h3⟩ | ⟨h2, h3⟩
    · exact .inl ⟨h2, by omega⟩
    · exact .inr ⟨by omega, by rw [h3]; congr 1; omega⟩
def sD (x : List ch) : List aB := x.map uQ
theorem DV {x : List ch} (h : jd x ≤ 1048576) : oN x = some (sD x) := by
  unfold jd at h
  unfold oN
  rw [yz _ (by omega)]
  exact pk (F := nk) (g := uQ) (jp x) (fun _ _ _ => rfl) (by omega) (fun y hy => FT (by have := kA (f := lJ) hy; omega)) _
theorem CX {x : List ch} (hf : xg x) (h : jd x ≤ 1048576) : xN (sD x) := by
  unfold jd at h
  refine ⟨by show (x.map uQ).length ≤ _; rw [List.length_map]; omega, fun y hy => ?_⟩
  obtain ⟨b, hb, rfl⟩ := List.mem_map.1 (show y ∈ x.map uQ from hy)
  exact DY (hf.2 b hb) (by have := kA (f := lJ) hb; omega)
def cB (x : am) : Prop := xN x.d_ ∧ rR x.m_
def rv (x : am) : Prop := uS x.d_ ∧ nt x.m_
theorem BH {x : am} (h : cB x) : rv x := by
  obtain ⟨h0, h1⟩ := h
  exact ⟨Dg h0, uu h1⟩
theorem AN {x : am} (h : rv x) : mB x x = some true := by
  obtain ⟨h0, h1⟩ := h
  unfold mB
  simp [Bv h0, tB h1]
def iU (x : db) : Nat := jd x.d_ + fo x.m_
def vu (x : db) : Prop := xg x.d_ ∧ rK x.m_
def qG (x : db) : am := ⟨sD x.d_, lL x.m_⟩
theorem BB {x : db} (hx : vu x) : jS mI iU x := fun s hs => by
  obtain ⟨h0, h1⟩ := hx
  unfold mI iU
  obtain ⟨r, e0, g0⟩ := Do h0 (s) (by omega)
  rw [e0]
  simp only [bS]
  rcases g0 with ⟨g0, k0⟩ | ⟨g0, rfl⟩
  · rw [if_pos (by simpa using g0)]; exact ⟨_, rfl, .inl ⟨by omega, by omega⟩⟩
  · rw [if_neg (by simp)]
    obtain ⟨r, e1, g1⟩ := tT h1 (s - jd x.d_) (by omega)
    rw [e1]
    simp only [bS]
    rcases g1 with ⟨g1, k1⟩ | ⟨g1, rfl⟩
    · rw [if_pos (by simpa using g1)]; exact ⟨_, rfl, .inl ⟨by omega, by omega⟩⟩
    · rw [if_neg (by simp)]
      exact ⟨_, rfl, .inr ⟨by omega, by first | rfl | (congr 1; omega)⟩⟩
theorem CB {x : db} (h : iU x ≤ 1048576) : mx x = some (qG x) := by
  unfold iU at h
  unfold mx
  rw [DV (x := x.d_) (by omega), vm (x := x.m_) (by omega)]
  rfl
theorem Bc {x : db} (hf : vu x) (h : iU x ≤ 1048576) : cB (qG x) := by
  unfold iU at h
  obtain ⟨h0, h1⟩ := hf
  exact ⟨CX h0 (show jd x.d_ ≤ 1048576 by omega), us h1 (show fo x.m_ ≤ 1048576 by omega)⟩
def Fj (x : cO) : Prop := (-9223372036854775808 ≤ x.L_ ∧ x.L_ ≤ 9223372036854775807) ∧ (-9223372036854775808 ≤ x.K_ ∧ x.K_ ≤ 9223372036854775807) ∧ (-9223372036854775808 ≤ x.M_ ∧ x.M_ ≤ 9223372036854775807) ∧ (-9223372036854775808 ≤ x.f_ ∧ x.f_ ≤ 9223372036854775807) ∧ (-9223372036854775808 ≤ x.b_ ∧ x.b_ ≤ 9223372036854775807) ∧ (-9223372036854775808 ≤ x.G_ ∧ x.G_ ≤ 9223372036854775807) ∧ True
theorem Cz {x : cO} : pN x x = some true := by
  unfold pN
  simp
def Ek (x : ii) : Prop := aG .i64 x.L_ ∧ aG .i64 x.K_ ∧ aG .i64 x.M_ ∧ aG .i64 x.f_ ∧ aG .i64 x.b_ ∧ aG .i64 x.G_ ∧ True
def Di (x : ii) : cO := ⟨x.L_, x.K_, x.M_, x.f_, x.b_, x.G_, x.P_⟩
theorem FC {x : ii} : pE x = some (Di x) := by
  unfold pE
  rfl
theorem Fg {x : ii} (hf : Ek x) : Fj (Di x) := by
  obtain ⟨h0, h1, h2, h3, h4, h5, _⟩ := hf
  exact ⟨jb h0, jb h1, jb h2, jb h3, jb h4, jb h5, trivial⟩
def zN (x : bi) : Prop := cB x.p_ ∧ Fj x.c_ ∧ (-9223372036854775808 ≤ x.j_ ∧ x.j_ ≤ 9223372036854775807) ∧ (-9223372036854775808 ≤ x.N_ ∧ x.N_ ≤ 9223372036854775807) ∧ (-9223372036854775808 ≤ x.O_ ∧ x.O_ ≤ 9223372036854775807) ∧ (-9223372036854775808 ≤ x.s_ ∧ x.s_ ≤ 9223372036854775807) ∧ (-9223372036854775808 ≤ x.t_ ∧ x.t_ ≤ 9223372036854775807)
def wV (x : bi) : Prop := rv x.p_
theorem Fn {x : bi} (h : zN x) : wV x := by
  obtain ⟨h0, _, _, _, _, _, _⟩ := h
  exact BH h0
theorem CO {x : bi} (h : wV x) : pL x x = some true := by
  have h0 : rv x.p_ := h
  unfold pL
  simp [AN h0, Cz (x := x.c_)]
def jU (x : eG) : Nat := iU x.p_
def AO (x : eG) : Prop := vu x.p_ ∧ Ek x.c_ ∧ aG .i64 x.j_ ∧ aG .i64 x.N_ ∧ aG .i64 x.O_ ∧ aG .i64 x.s_ ∧ aG .i64 x.t_
def uT (x : eG) : bi := ⟨qG x.p_, Di x.c_, x.j_, x.N_, x.O_, x.s_, x.t_⟩
theorem EC {x : eG} (hx : AO x) : jS qb jU x := fun s hs => by
  obtain ⟨h0, _, _, _, _, _, _⟩ := hx
  unfold qb jU
  obtain ⟨r, e0, g0⟩ := BB h0 (s) (by omega)
  rw [e0]
  simp only [bS]
  rcases g0 with ⟨g0, k0⟩ | ⟨g0, rfl⟩
  · rw [if_pos (by simpa using g0)]; exact ⟨_, rfl, .inl ⟨by omega, by omega⟩⟩
  · rw [if_neg (by simp)]
    exact ⟨_, rfl, .inr ⟨by omega, by first | rfl | (congr 1; omega)⟩⟩
theorem Ge {x : eG} (h : jU x ≤ 1048576) : pQ x = some (uT x) := by
  unfold jU at h
  unfold pQ
  rw [CB (x := x.p_) (by omega), FC (x := x.c_)]
  rfl
theorem Eh {x : eG} (hf : AO x) (h : jU x ≤ 1048576) : zN (uT x) := by
  unfold jU at h
  obtain ⟨h0, h1, h2, h3, h4, h5, h6⟩ := hf
  exact ⟨Bc h0 (show iU x.p_ ≤ 1048576 by omega), Fg h1, jb h2, jb h3, jb h4, jb h5, jb h6⟩
def DN (x : bC) : Prop := (-9223372036854775808 ≤ x.q_ ∧ x.q_ ≤ 9223372036854775807) ∧ (-9223372036854775808 ≤ x.u_ ∧ x.u_ ≤ 9223372036854775807)
theorem CP {x : bC} : pU x x = some true := by
  unfold pU
  simp
def EY (x : dD) : Prop := aG .i64 x.q_ ∧ aG .i64 x.u_
def Dd (x : dD) : bC := ⟨x.q_, x.u_⟩
theorem FO {x : dD} : pT x = some (Dd x) := by
  unfold pT
  rfl
theorem Eg {x : dD} (hf : EY x) : DN (Dd x) := by
  obtain ⟨h0, h1⟩ := hf
  exact ⟨jb h0, jb h1⟩
def so (x : List (List Int)) : Prop := x.length ≤ 1048576 ∧ ∀ y ∈ x, pI y
def pl (x : List (List Int)) : Prop := x.length < 1000000000000 ∧ ∀ y ∈ x, oF y
theorem tq {x : List (List Int)} (h : so x) : pl x := ⟨by have := h.1; omega, fun y hy => pF (h.2 y hy)⟩
theorem rX {x : List (List Int)} (h : pl x) : ko x x = some true := by
  unfold ko
  rw [if_neg (by simp)]
  refine nm (p := x) (jm x x) (fun e o => (iz e e).bind fun y => if (!y) then some false else o) (fun k i => ?_) h.1 (fun y hy o => by rw [nU (h.2 y hy)]; rfl)
  show (if _ then _ else _) = _
  cases h : idx x i with
  | none => rfl
  | some e => rfl
def eW (x : List (List Int)) : Nat := x.length + (x.map dy).sum
def pj (x : List (List Int)) : Prop := x.length ≤ maxLen ∧ ∀ y ∈ x, rp y
theorem sT {x : List (List Int)} (hx : pj x) : jS kq eW x := fun s hs => by
  have h0 := Dm hx.1
  unfold kq eW
  rw [cd (n := (s : Int) - (x.length : Int)) (by omega) (by omega)]
  by_cases h : s < x.length
  · rw [if_pos (by simp; omega)]
    exact ⟨_, rfl, .inl ⟨by omega, by omega⟩⟩
  · rw [if_neg (by simp; omega)]
    have := rm (p := x) (Z := jC) (size := dy) (je x) (fun _ _ _ => rfl) (by omega) (fun y hy => pG (hx.2 y hy)) (s - x.length) (by omega)
    rw [show (s : Int) - (x.length : Int) = ((s - x.length : Nat) : Int) by omega]
    obtain ⟨r, h1, h2⟩ := this
    refine ⟨r, h1, ?_⟩
    rcases h2 with ⟨h2, h3⟩ | ⟨h2, h3⟩
    · exact .inl ⟨h2, by omega⟩
    · exact .inr ⟨by omega, by rw [h3]; congr 1; omega⟩
def lw (x : List (List Int)) : List (List Int) := x.map jE
theorem tU {x : List (List Int)} (h : eW x ≤ 1048576) : kv x = some (lw x) := by
  unfold eW at h
  unfold kv
  rw [yz _ (by omega)]
  exact pk (F := iy) (g := jE) (jn x) (fun _ _ _ => rfl) (by omega) (fun y hy => qP (by have := kA (f := dy) hy; omega)) _
theorem sN {x : List (List Int)} (hf : pj x) (h : eW x ≤ 1048576) : so (lw x) := by
  unfold eW at h
  refine ⟨by show (x.map jE).length ≤ _; rw [List.length_map]; omega, fun y hy => ?_⟩
  obtain ⟨b, hb, rfl⟩ := List.mem_map.1 (show y ∈ x.map jE from hy)
  exact pV (hf.2 b hb) (by have := kA (f := dy) hb; omega)
def lV (x : aV) : Prop := pI x.k_ ∧ so x.h_
def xa (x : aV) : Prop := oF x.k_ ∧ pl x.h_
theorem CV {x : aV} (h : lV x) : xa x := by
  obtain ⟨h0, h1⟩ := h
  exact ⟨pF h0, tq h1⟩
theorem By {x : aV} (h : xa x) : ow x x = some true := by
  obtain ⟨h0, h1⟩ := h
  unfold ow
  simp [nU h0, rX h1]
def mi (x : cr) : Nat := dy x.k_ + eW x.h_
def xp (x : cr) : Prop := rp x.k_ ∧ pj x.h_
def zQ (x : cr) : aV := ⟨jE x.k_, lw x.h_⟩
theorem CY {x : cr} (hx : xp x) : jS oe mi x := fun s hs => by
  obtain ⟨h0, h1⟩ := hx
  unfold oe mi
  obtain ⟨r, e0, g0⟩ := pG h0 (s) (by omega)
  rw [e0]
  simp only [bS]
  rcases g0 with ⟨g0, k0⟩ | ⟨g0, rfl⟩
  · rw [if_pos (by simpa using g0)]; exact ⟨_, rfl, .inl ⟨by omega, by omega⟩⟩
  · rw [if_neg (by simp)]
    obtain ⟨r, e1, g1⟩ := sT h1 (s - dy x.k_) (by omega)
    rw [e1]
    simp only [bS]
    rcases g1 with ⟨g1, k1⟩ | ⟨g1, rfl⟩
    · rw [if_pos (by simpa using g1)]; exact ⟨_, rfl, .inl ⟨by omega, by omega⟩⟩
    · rw [if_neg (by simp)]
      exact ⟨_, rfl, .inr ⟨by omega, by first | rfl | (congr 1; omega)⟩⟩
theorem DU {x : cr} (h : mi x ≤ 1048576) : oT x = some (zQ x) := by
  unfold mi at h
  unfold oT
  rw [qP (x := x.k_) (by omega), tU (x := x.h_) (by omega)]
  rfl
theorem CC {x : cr} (hf : xp x) (h : mi x ≤ 1048576) : lV (zQ x) := by
  unfold mi at h
  obtain ⟨h0, h1⟩ := hf
  exact ⟨pV h0 (show dy x.k_ ≤ 1048576 by omega), sN h1 (show eW x.h_ ≤ 1048576 by omega)⟩
def rb (x : au) : Prop := True ∧ DN x.g_ ∧ pI x.r_ ∧ (-9223372036854775808 ≤ x.C_ ∧ x.C_ ≤ 9223372036854775807) ∧ lV x.i_ ∧ (-9223372036854775808 ≤ x.D_ ∧ x.D_ ≤ 9223372036854775807) ∧ pI x.d_ ∧ (-9223372036854775808 ≤ x.f_ ∧ x.f_ ≤ 9223372036854775807) ∧ (-9223372036854775808 ≤ x.x_ ∧ x.x_ ≤ 9223372036854775807) ∧ (-9223372036854775808 ≤ x.B_ ∧ x.B_ ≤ 9223372036854775807)
def zB (x : au) : Prop := oF x.r_ ∧ xa x.i_ ∧ oF x.d_
theorem DJ {x : au} (h : rb x) : zB x := by
  obtain ⟨_, _, h2, _, h4, _, h6, _, _, _⟩ := h
  exact ⟨pF h2, CV h4, pF h6⟩
theorem Dh {x : au} (h : zB x) : nF x x = some true := by
  obtain ⟨h2, h4, h6⟩ := h
  unfold nF
  simp [CP (x := x.g_), nU h2, By h4, nU h6]
def lz (x : bN) : Nat := dy x.r_ + mi x.i_ + dy x.d_
def AS (x : bN) : Prop := True ∧ EY x.g_ ∧ rp x.r_ ∧ aG .i64 x.C_ ∧ xp x.i_ ∧ aG .i64 x.D_ ∧ rp x.d_ ∧ aG .i64 x.f_ ∧ aG .i64 x.x_ ∧ aG .i64 x.B_
def uR (x : bN) : au := ⟨x.y_, Dd x.g_, jE x.r_, x.C_, zQ x.i_, x.D_, jE x.d_, x.f_, x.x_, x.B_⟩
theorem Ey {x : bN} (hx : AS x) : jS nA lz x := fun s hs => by
  obtain ⟨_, _, h2, _, h4, _, h6, _, _, _⟩ := hx
  unfold nA lz
  obtain ⟨r, e2, g2⟩ := pG h2 (s) (by omega)
  rw [e2]
  simp only [bS]
  rcases g2 with ⟨g2, k2⟩ | ⟨g2, rfl⟩
  · rw [if_pos (by simpa using g2)]; exact ⟨_, rfl, .inl ⟨by omega, by omega⟩⟩
  · rw [if_neg (by simp)]
    obtain ⟨r, e4, g4⟩ := CY h4 (s - dy x.r_) (by omega)
    rw [e4]
    simp only [bS]
    rcases g4 with ⟨g4, k4⟩ | ⟨g4, rfl⟩
    · rw [if_pos (by simpa using g4)]; exact ⟨_, rfl, .inl ⟨by omega, by omega⟩⟩
    · rw [if_neg (by simp)]
      obtain ⟨r, e6, g6⟩ := pG h6 (s - dy x.r_ - mi x.i_) (by omega)
      rw [e6]
      simp only [bS]
      rcases g6 with ⟨g6, k6⟩ | ⟨g6, rfl⟩
      · rw [if_pos (by simpa using g6)]; exact ⟨_, rfl, .inl ⟨by omega, by omega⟩⟩
      · rw [if_neg (by simp)]
        exact ⟨_, rfl, .inr ⟨by omega, by first | rfl | (congr 1; omega)⟩⟩
theorem Fs {x : bN} (h : lz x ≤ 1048576) : nB x = some (uR x) := by
  unfold lz at h
  unfold nB
  rw [FO (x := x.g_), qP (x := x.r_) (by omega), DU (x := x.i_) (by omega), qP (x := x.d_) (by omega)]
  rfl
theorem Ej {x : bN} (hf : AS x) (h : lz x ≤ 1048576) : rb (uR x) := by
  unfold lz at h
  obtain ⟨_, h1, h2, h3, h4, h5, h6, h7, h8, h9⟩ := hf
  exact ⟨trivial, Eg h1, pV h2 (show dy x.r_ ≤ 1048576 by omega), jb h3, CC h4 (show mi x.i_ ≤ 1048576 by omega), jb h5, pV h6 (show dy x.d_ ≤ 1048576 by omega), jb h7, jb h8, jb h9⟩
def xd (x : List au) : Prop := x.length ≤ 1048576 ∧ ∀ y ∈ x, rb y
def sj (x : List au) : Prop := x.length < 1000000000000 ∧ ∀ y ∈ x, zB y
theorem Dz {x : List au} (h : xd x) : sj x := ⟨by have := h.1; omega, fun y hy => DJ (h.2 y hy)⟩
theorem Bn {x : List au} (h : sj x) : oU x x = some true := by
  unfold oU
  rw [if_neg (by simp)]
  refine nm (p := x) (jh x x) (fun e o => (nF e e).bind fun y => if (!y) then some false else o) (fun k i => ?_) h.1 (fun y hy o => by rw [Dh (h.2 y hy)]; rfl)
  show (if _ then _ else _) = _
  cases h : idx x i with
  | none => rfl
  | some e => rfl
def jq (x : List bN) : Nat := x.length + (x.map lz).sum
def xJ (x : List bN) : Prop := x.length ≤ maxLen ∧ ∀ y ∈ x, AS y
theorem CJ {x : List bN} (hx : xJ x) : jS oJ jq x := fun s hs => by
  have h0 := Dm hx.1
  unfold oJ jq
  rw [cd (n := (s : Int) - (x.length : Int)) (by omega) (by omega)]
  by_cases h : s < x.length
  · rw [if_pos (by simp; omega)]
    exact ⟨_, rfl, .inl ⟨by omega, by omega⟩⟩
  · rw [if_neg (by simp; omega)]
    have := rm (p := x) (Z := nA) (size := lz) (jr x) (fun _ _ _ => rfl) (by omega) (fun y hy => Ey (hx.2 y hy)) (s - x.length) (by omega)
    rw [show (s : Int) - (x.length : Int) = ((s - x.length : Nat) : Int) by omega]
    obtain ⟨r, h1, h2⟩ := this
    refine ⟨r, h1, ?_⟩
    rcases h2 with ⟨h2, h3⟩ | ⟨h2, h3⟩
    · exact .inl ⟨h2, by omega⟩
    · exact .inr ⟨by omega, by rw [h3]; congr 1; omega⟩
def qN (x : List bN) : List au := x.map uR
theorem ES {x : List bN} (h : jq x ≤ 1048576) : oK x = some (qN x) := by
  unfold jq at h
  unfold oK
  rw [yz _ (by omega)]
  exact pk (F := nB) (g := uR) (jo x) (fun _ _ _ => rfl) (by omega) (fun y hy => Fs (by have := kA (f := lz) hy; omega)) _
theorem CZ {x : List bN} (hf : xJ x) (h : jq x ≤ 1048576) : xd (qN x) := by
  unfold jq at h
  refine ⟨by show (x.map uR).length ≤ _; rw [List.length_map]; omega, fun y hy => ?_⟩
  obtain ⟨b, hb, rfl⟩ := List.mem_map.1 (show y ∈ x.map uR from hy)
  exact Ej (hf.2 b hb) (by have := kA (f := lz) hb; omega)
def kR (x : ap) : Prop := xd x.b_ ∧ (-9223372036854775808 ≤ x.A_ ∧ x.A_ ≤ 9223372036854775807)
def wr (x : ap) : Prop := sj x.b_
theorem yt {x : ap} (h : kR x) : wr x := by
  obtain ⟨h0, _⟩ := h
  exact Dz h0
theorem wq {x : ap} (h : wr x) : nu x x = some true := by
  have h0 : sj x.b_ := h
  unfold nu
  simp [Bn h0]
def kj (x : cW) : Nat := jq x.b_
def wW (x : cW) : Prop := xJ x.b_ ∧ aG .i64 x.A_
def zr (x : cW) : ap := ⟨qN x.b_, x.A_⟩
theorem ye {x : cW} (hx : wW x) : jS ny kj x := fun s hs => by
  obtain ⟨h0, _⟩ := hx
  unfold ny kj
  obtain ⟨r, e0, g0⟩ := CJ h0 (s) (by omega)
  rw [e0]
  simp only [bS]
  rcases g0 with ⟨g0, k0⟩ | ⟨g0, rfl⟩
  · rw [if_pos (by simpa using g0)]; exact ⟨_, rfl, .inl ⟨by omega, by omega⟩⟩
  · rw [if_neg (by simp)]
    exact ⟨_, rfl, .inr ⟨by omega, by first | rfl | (congr 1; omega)⟩⟩
theorem Ad {x : cW} (h : kj x ≤ 1048576) : nD x = some (zr x) := by
  unfold kj at h
  unfold nD
  rw [ES (x := x.b_) (by omega)]
  rfl
theorem yv {x : cW} (hf : wW x) (h : kj x ≤ 1048576) : kR (zr x) := by
  unfold kj at h
  obtain ⟨h0, h1⟩ := hf
  exact ⟨CZ h0 (show jq x.b_ ≤ 1048576 by omega), jb h1⟩
def rj (x : aA) : Prop := so x.o_
def th (x : aA) : Prop := pl x.o_
theorem vl {x : aA} (h : rj x) : th x := by
  have h0 := h
  exact tq h0
theorem tZ {x : aA} (h : th x) : lf x x = some true := by
  have h0 : pl x.o_ := h
  unfold lf
  simp [rX h0]
def iI (x : cc) : Nat := eW x.o_
def sQ (x : cc) : Prop := pj x.o_
def uY (x : cc) : aA := ⟨lw x.o_⟩
theorem ve {x : cc} (hx : sQ x) : jS kV iI x := fun s hs => by
  have h0 : pj x.o_ := hx
  unfold kV iI
  obtain ⟨r, e0, g0⟩ := sT h0 (s) (by omega)
  rw [e0]
  simp only [bS]
  rcases g0 with ⟨g0, k0⟩ | ⟨g0, rfl⟩
  · rw [if_pos (by simpa using g0)]; exact ⟨_, rfl, .inl ⟨by omega, by omega⟩⟩
  · rw [if_neg (by simp)]
    exact ⟨_, rfl, .inr ⟨by omega, by first | rfl | (congr 1; omega)⟩⟩
theorem wO {x : cc} (h : iI x ≤ 1048576) : kX x = some (uY x) := by
  unfold iI at h
  unfold kX
  rw [tU (x := x.o_) (by omega)]
  rfl
theorem vf {x : cc} (hf : sQ x) (h : iI x ≤ 1048576) : rj (uY x) := by
  unfold iI at h
  have h0 : pj x.o_ := hf
  exact sN h0 (show eW x.o_ ≤ 1048576 by omega)
def zw (x : cf) : Prop := rj x.s_ ∧ rj x.t_
def Cx (x : cf) : Prop := th x.s_ ∧ th x.t_
theorem Gk {x : cf} (h : zw x) : Cx x := by
  obtain ⟨h0, h1⟩ := h
  exact ⟨vl h0, vl h1⟩
theorem Eo {x : cf} (h : Cx x) : rh x x = some true := by
  obtain ⟨h0, h1⟩ := h
  unfold rh
  simp [tZ h0, tZ h1]
def rC (x : eM) : Nat := iI x.s_ + iI x.t_
def Dp (x : eM) : Prop := sQ x.s_ ∧ sQ x.t_
def FA (x : eM) : cf := ⟨uY x.s_, uY x.t_⟩
theorem Gn {x : eM} (hx : Dp x) : jS rn rC x := fun s hs => by
  obtain ⟨h0, h1⟩ := hx
  unfold rn rC
  obtain ⟨r, e0, g0⟩ := ve h0 (s) (by omega)
  rw [e0]
  simp only [bS]
  rcases g0 with ⟨g0, k0⟩ | ⟨g0, rfl⟩
  · rw [if_pos (by simpa using g0)]; exact ⟨_, rfl, .inl ⟨by omega, by omega⟩⟩
  · rw [if_neg (by simp)]
    obtain ⟨r, e1, g1⟩ := ve h1 (s - iI x.s_) (by omega)
    rw [e1]
    simp only [bS]
    rcases g1 with ⟨g1, k1⟩ | ⟨g1, rfl⟩
    · rw [if_pos (by simpa using g1)]; exact ⟨_, rfl, .inl ⟨by omega, by omega⟩⟩
    · rw [if_neg (by simp)]
      exact ⟨_, rfl, .inr ⟨by omega, by first | rfl | (congr 1; omega)⟩⟩
theorem Id {x : eM} (h : rC x ≤ 1048576) : qT x = some (FA x) := by
  unfold rC at h
  unfold qT
  rw [wO (x := x.s_) (by omega), wO (x := x.t_) (by omega)]
  rfl
theorem FK {x : eM} (hf : Dp x) (h : rC x ≤ 1048576) : zw (FA x) := by
  unfold rC at h
  obtain ⟨h0, h1⟩ := hf
  exact ⟨vf h0 (show iI x.s_ ≤ 1048576 by omega), vf h1 (show iI x.t_ ≤ 1048576 by omega)⟩
def rc (x : az) : Prop := kR x.F_ ∧ True ∧ kR x.w_ ∧ zw x.H_
def vF (x : az) : Prop := wr x.F_ ∧ wr x.w_ ∧ Cx x.H_
theorem BE {x : az} (h : rc x) : vF x := by
  obtain ⟨h0, _, h2, h3⟩ := h
  exact ⟨yt h0, yt h2, Gk h3⟩
theorem Ae {x : az} (h : vF x) : lg x x = some true := by
  obtain ⟨h0, h2, h3⟩ := h
  unfold lg
  simp [wq h0, wq h2, Eo h3]
def iQ (x : bJ) : Nat := kj x.F_ + kj x.w_ + rC x.H_
def vp (x : bJ) : Prop := wW x.F_ ∧ True ∧ wW x.w_ ∧ Dp x.H_
def qF (x : bJ) : az := ⟨zr x.F_, x.S_, zr x.w_, FA x.H_⟩
theorem Bp {x : bJ} (hx : vp x) : jS la iQ x := fun s hs => by
  obtain ⟨h0, _, h2, h3⟩ := hx
  unfold la iQ
  obtain ⟨r, e0, g0⟩ := ye h0 (s) (by omega)
  rw [e0]
  simp only [bS]
  rcases g0 with ⟨g0, k0⟩ | ⟨g0, rfl⟩
  · rw [if_pos (by simpa using g0)]; exact ⟨_, rfl, .inl ⟨by omega, by omega⟩⟩
  · rw [if_neg (by simp)]
    obtain ⟨r, e2, g2⟩ := ye h2 (s - kj x.F_) (by omega)
    rw [e2]
    simp only [bS]
    rcases g2 with ⟨g2, k2⟩ | ⟨g2, rfl⟩
    · rw [if_pos (by simpa using g2)]; exact ⟨_, rfl, .inl ⟨by omega, by omega⟩⟩
    · rw [if_neg (by simp)]
      obtain ⟨r, e3, g3⟩ := Gn h3 (s - kj x.F_ - kj x.w_) (by omega)
      rw [e3]
      simp only [bS]
      rcases g3 with ⟨g3, k3⟩ | ⟨g3, rfl⟩
      · rw [if_pos (by simpa using g3)]; exact ⟨_, rfl, .inl ⟨by omega, by omega⟩⟩
      · rw [if_neg (by simp)]
        exact ⟨_, rfl, .inr ⟨by omega, by first | rfl | (congr 1; omega)⟩⟩
theorem Dw {x : bJ} (h : iQ x ≤ 1048576) : kW x = some (qF x) := by
  unfold iQ at h
  unfold kW
  rw [Ad (x := x.F_) (by omega), Ad (x := x.w_) (by omega), Id (x := x.H_) (by omega)]
  rfl
theorem BC {x : bJ} (hf : vp x) (h : iQ x ≤ 1048576) : rc (qF x) := by
  unfold iQ at h
  obtain ⟨h0, _, h2, h3⟩ := hf
  exact ⟨yv h0 (show kj x.F_ ≤ 1048576 by omega), trivial, yv h2 (show kj x.w_ ≤ 1048576 by omega), FK h3 (show rC x.H_ ≤ 1048576 by omega)⟩
def ui (x : List az) : Prop := x.length ≤ 1048576 ∧ ∀ y ∈ x, rc y
def pA (x : List az) : Prop := x.length < 1000000000000 ∧ ∀ y ∈ x, vF y
theorem zK {x : List az} (h : ui x) : pA x := ⟨by have := h.1; omega, fun y hy => BE (h.2 y hy)⟩
theorem yX {x : List az} (h : pA x) : lS x x = some true := by
  unfold lS
  rw [if_neg (by simp)]
  refine nm (p := x) (gZ x x) (fun e o => (lg e e).bind fun y => if (!y) then some false else o) (fun k i => ?_) h.1 (fun y hy o => by rw [Ae (h.2 y hy)]; rfl)
  show (if _ then _ else _) = _
  cases h : idx x i with
  | none => rfl
  | some e => rfl
def gK (x : List bJ) : Nat := x.length + (x.map iQ).sum
def pX (x : List bJ) : Prop := x.length ≤ maxLen ∧ ∀ y ∈ x, vp y
theorem zU {x : List bJ} (hx : pX x) : jS ly gK x := fun s hs => by
  have h0 := Dm hx.1
  unfold ly gK
  rw [cd (n := (s : Int) - (x.length : Int)) (by omega) (by omega)]
  by_cases h : s < x.length
  · rw [if_pos (by simp; omega)]
    exact ⟨_, rfl, .inl ⟨by omega, by omega⟩⟩
  · rw [if_neg (by simp; omega)]
    have := rm (p := x) (Z := la) (size := iQ) (gU x) (fun _ _ _ => rfl) (by omega) (fun y hy => Bp (hx.2 y hy)) (s - x.length) (by omega)
    rw [show (s : Int) - (x.length : Int) = ((s - x.length : Nat) : Int) by omega]
    obtain ⟨r, h1, h2⟩ := this
    refine ⟨r, h1, ?_⟩
    rcases h2 with ⟨h2, h3⟩ | ⟨h2, h3⟩
    · exact .inl ⟨h2, by omega⟩
    · exact .inr ⟨by omega, by rw [h3]; congr 1; omega⟩
def po (x : List bJ) : List az := x.map qF
theorem Bl {x : List bJ} (h : gK x ≤ 1048576) : lT x = some (po x) := by
  unfold gK at h
  unfold lT
  rw [yz _ (by omega)]
  exact pk (F := kW) (g := qF) (hH x) (fun _ _ _ => rfl) (by omega) (fun y hy => Dw (by have := kA (f := iQ) hy; omega)) _
theorem Ay {x : List bJ} (hf : pX x) (h : gK x ≤ 1048576) : ui (po x) := by
  unfold gK at h
  refine ⟨by show (x.map qF).length ≤ _; rw [List.length_map]; omega, fun y hy => ?_⟩
  obtain ⟨b, hb, rfl⟩ := List.mem_map.1 (show y ∈ x.map qF from hy)
  exact BC (hf.2 b hb) (by have := kA (f := iQ) hb; omega)
def qM (x : bP) : Prop := ui x.j_
def tg (x : bP) : Prop := pA x.j_
theorem Bw {x : bP} (h : qM x) : tg x := by
  have h0 := h
  exact zK h0
theorem Ak {x : bP} (h : tg x) : mP x x = some true := by
  have h0 : pA x.j_ := h
  unfold mP
  simp [yX h0]
def ie (x : dj) : Nat := gK x.j_
def vG (x : dj) : Prop := pX x.j_
def qK (x : dj) : bP := ⟨po x.j_⟩
theorem Bu {x : dj} (hx : vG x) : jS mH ie x := fun s hs => by
  have h0 : pX x.j_ := hx
  unfold mH ie
  obtain ⟨r, e0, g0⟩ := zU h0 (s) (by omega)
  rw [e0]
  simp only [bS]
  rcases g0 with ⟨g0, k0⟩ | ⟨g0, rfl⟩
  · rw [if_pos (by simpa using g0)]; exact ⟨_, rfl, .inl ⟨by omega, by omega⟩⟩
  · rw [if_neg (by simp)]
    exact ⟨_, rfl, .inr ⟨by omega, by first | rfl | (congr 1; omega)⟩⟩
theorem Cw {x : dj} (h : ie x ≤ 1048576) : mL x = some (qK x) := by
  unfold ie at h
  unfold mL
  rw [Bl (x := x.j_) (by omega)]
  rfl
theorem Bf {x : dj} (hf : vG x) (h : ie x ≤ 1048576) : qM (qK x) := by
  unfold ie at h
  have h0 : pX x.j_ := hf
  exact Ay h0 (show gK x.j_ ≤ 1048576 by omega)
def EG (x : aM) : Prop := (-9223372036854775808 ≤ x.Q_ ∧ x.Q_ ≤ 9223372036854775807) ∧ (-9223372036854775808 ≤ x.R_ ∧ x.R_ ≤ 9223372036854775807)
theorem DA {x : aM} : nK x x = some true := by
  unfold nK
  simp
def EJ (x : cY) : Prop := aG .i64 x.Q_ ∧ aG .i64 x.R_
def uO (x : cY) : aM := ⟨x.Q_, x.R_⟩
theorem Gl {x : cY} : nz x = some (uO x) := by
  unfold nz
  rfl
theorem Ei {x : cY} (hf : EJ x) : EG (uO x) := by
  obtain ⟨h0, h1⟩ := hf
  exact ⟨jb h0, jb h1⟩
def xw (x : List aM) : Prop := x.length ≤ 1048576 ∧ ∀ y ∈ x, EG y
def sH (x : List aM) : Prop := x.length < 1000000000000
theorem Dx {x : List aM} (h : xw x) : sH x := by have := h.1; unfold sH; omega
theorem Bq {x : List aM} (h : sH x) : oa x x = some true := by
  unfold oa
  rw [if_neg (by simp)]
  refine nm (p := x) (jg x x) (fun e o => (nK e e).bind fun y => if (!y) then some false else o) (fun k i => ?_) h (fun y _ o => by rw [DA]; rfl)
  show (if _ then _ else _) = _
  cases h : idx x i with
  | none => rfl
  | some e => rfl
def lb (x : List cY) : Nat := x.length
def xT (x : List cY) : Prop := x.length ≤ maxLen ∧ ∀ y ∈ x, EJ y
theorem Cy {x : List cY} (hx : xT x) : jS qx lb x := fun s hs => by
  obtain ⟨r, h1, h2⟩ := vH (p := x) s hs
  exact ⟨r, h1, h2 (Dm hx.1)⟩
def sJ (x : List cY) : List aM := x.map uO
theorem Fo {x : List cY} (h : lb x ≤ 1048576) : oM x = some (sJ x) := by
  unfold lb at h
  unfold oM
  rw [yz _ (by omega)]
  exact pk (F := nz) (g := uO) (js x) (fun _ _ _ => rfl) (by omega) (fun y _ => Gl) _
theorem CE {x : List cY} (hf : xT x) (h : lb x ≤ 1048576) : xw (sJ x) := by
  unfold lb at h
  refine ⟨by show (x.map uO).length ≤ _; rw [List.length_map]; omega, fun y hy => ?_⟩
  obtain ⟨b, hb, rfl⟩ := List.mem_map.1 (show y ∈ x.map uO from hy)
  exact Ei (hf.2 b hb)
def sI (x : bo) : Prop := so x.n_ ∧ xw x.l_
def uL (x : bo) : Prop := pl x.n_ ∧ sH x.l_
theorem Ct {x : bo} (h : sI x) : uL x := by
  obtain ⟨h0, h1⟩ := h
  exact ⟨tq h0, Dx h1⟩
theorem Bi {x : bo} (h : uL x) : nV x x = some true := by
  obtain ⟨h0, h1⟩ := h
  unfold nV
  simp [rX h0, Bq h1]
def kf (x : dM) : Nat := eW x.n_ + lb x.l_
def xQ (x : dM) : Prop := pj x.n_ ∧ xT x.l_
def sy (x : dM) : bo := ⟨lw x.n_, sJ x.l_⟩
theorem Df {x : dM} (hx : xQ x) : jS oD kf x := fun s hs => by
  obtain ⟨h0, h1⟩ := hx
  unfold oD kf
  obtain ⟨r, e0, g0⟩ := sT h0 (s) (by omega)
  rw [e0]
  simp only [bS]
  rcases g0 with ⟨g0, k0⟩ | ⟨g0, rfl⟩
  · rw [if_pos (by simpa using g0)]; exact ⟨_, rfl, .inl ⟨by omega, by omega⟩⟩
  · rw [if_neg (by simp)]
    obtain ⟨r, e1, g1⟩ := Cy h1 (s - eW x.n_) (by omega)
    rw [e1]
    simp only [bS]
    rcases g1 with ⟨g1, k1⟩ | ⟨g1, rfl⟩
    · rw [if_pos (by simpa using g1)]; exact ⟨_, rfl, .inl ⟨by omega, by omega⟩⟩
    · rw [if_neg (by simp)]
      exact ⟨_, rfl, .inr ⟨by omega, by first | rfl | (congr 1; omega)⟩⟩
theorem DW {x : dM} (h : kf x ≤ 1048576) : oA x = some (sy x) := by
  unfold kf at h
  unfold oA
  rw [tU (x := x.n_) (by omega), Fo (x := x.l_) (by omega)]
  rfl
theorem CK {x : dM} (hf : xQ x) (h : kf x ≤ 1048576) : sI (sy x) := by
  unfold kf at h
  obtain ⟨h0, h1⟩ := hf
  exact ⟨sN h0 (show eW x.n_ ≤ 1048576 by omega), CE h1 (show lb x.l_ ≤ 1048576 by omega)⟩
def oX (x : aP) : Prop := zN x.a_ ∧ qM x.J_ ∧ sI x.v_
def xI (x : aP) : Prop := wV x.a_ ∧ tg x.J_ ∧ uL x.v_
theorem wk {x : aP} (h : oX x) : xI x := by
  obtain ⟨h0, h1, h2⟩ := h
  exact ⟨Fn h0, Bw h1, Ct h2⟩
theorem BF {x : aP} (h : xI x) : oS x x = some true := by
  obtain ⟨h0, h1, h2⟩ := h
  unfold oS
  simp [CO h0, Ak h1, Bi h2]
def mg (x : dz) : Nat := jU x.a_ + ie x.J_ + kf x.v_
def xH (x : dz) : Prop := AO x.a_ ∧ vG x.J_ ∧ xQ x.v_
def mO (x : dz) : aP := ⟨uT x.a_, qK x.J_, sy x.v_⟩
theorem Dr {x : dz} (hx : xH x) : jS lY mg x := fun s hs => by
  obtain ⟨h0, h1, h2⟩ := hx
  unfold lY mg
  obtain ⟨r, e0, g0⟩ := EC h0 (s) (by omega)
  rw [e0]
  simp only [bS]
  rcases g0 with ⟨g0, k0⟩ | ⟨g0, rfl⟩
  · rw [if_pos (by simpa using g0)]; exact ⟨_, rfl, .inl ⟨by omega, by omega⟩⟩
  · rw [if_neg (by simp)]
    obtain ⟨r, e1, g1⟩ := Bu h1 (s - jU x.a_) (by omega)
    rw [e1]
    simp only [bS]
    rcases g1 with ⟨g1, k1⟩ | ⟨g1, rfl⟩
    · rw [if_pos (by simpa using g1)]; exact ⟨_, rfl, .inl ⟨by omega, by omega⟩⟩
    · rw [if_neg (by simp)]
      obtain ⟨r, e2, g2⟩ := Df h2 (s - jU x.a_ - ie x.J_) (by omega)
      rw [e2]
      simp only [bS]
      rcases g2 with ⟨g2, k2⟩ | ⟨g2, rfl⟩
      · rw [if_pos (by simpa using g2)]; exact ⟨_, rfl, .inl ⟨by omega, by omega⟩⟩
      · rw [if_neg (by simp)]
        exact ⟨_, rfl, .inr ⟨by omega, by first | rfl | (congr 1; omega)⟩⟩
theorem EM {x : dz} (h : mg x ≤ 1048576) : jA x = some (mO x) := by
  unfold mg at h
  unfold jA
  rw [Ge (x := x.a_) (by omega), Cw (x := x.J_) (by omega), DW (x := x.v_) (by omega)]
  rfl
theorem De {x : dz} (hf : xH x) (h : mg x ≤ 1048576) : oX (mO x) := by
  unfold mg at h
  obtain ⟨h0, h1, h2⟩ := hf
  exact ⟨Eh h0 (show jU x.a_ ≤ 1048576 by omega), Bf h1 (show ie x.J_ ≤ 1048576 by omega), CK h2 (show kf x.v_ ≤ 1048576 by omega)⟩
def qJ (x : List Int) : Prop := x.length < 1000000000000
theorem Bt {x : List Int} (h : qJ x) : kl x x = some true := by
  unfold kl
  rw [if_neg (by simp)]
  refine nm (p := x) (jk x x) (fun _ o => o) (fun k i => ?_) h (fun _ _ _ => rfl)
  show (if _ then _ else _) = _
  cases h : idx x i with
  | none => rfl
  | some e => simp only [Option.bind_some, bne_self_eq_false, Bool.false_eq_true, if_false]
def dJ (x : List Int) : Nat := (x.map fun _ => 1).sum
theorem rl {x : List Int} (hl : oF x) (_ : dJ x ≤ 1000000000000000000) : pg gE (dJ x) x := by
  unfold gE
  refine nc (p := x) (c := fun _ => 1) (fK x) (fun k l m i h0 => by
    rw [fK, if_neg h0]) hl (fun x _ m hm => ?_)
  · skip
    have hm : m + (1) < 4611686018427387904 := hm
    have w1 := aD (i := m) (by omega)
    refine ⟨(m + 1), ((m : Nat) : Int), fun k l i h0 h1 => ?_, by omega, by omega⟩
    · rw [fK, if_pos h0, h1]
      simp only [Option.bind_some, w1]
def hJ (x : List (List UInt8)) : Nat := (x.map fun _ => 1).sum
theorem vh {x : List (List UInt8)} (hl : nt x) (_ : hJ x ≤ 1000000000000000000) : pg iF (hJ x) x := by
  unfold iF
  refine nc (p := x) (c := fun _ => 1) (eA x) (fun k l m i h0 => by
    rw [eA, if_neg h0]) hl (fun x _ m hm => ?_)
  · skip
    have hm : m + (1) < 4611686018427387904 := hm
    obtain ⟨t1, s1⟩ := yy (m := m) (by omega)
    have w1 := aD (i := m) (by omega)
    refine ⟨(m + 1), t1, fun k l i h0 h1 => ?_, by omega, by omega⟩
    · rw [eA, if_pos h0, h1]
      simp only [Option.bind_some, s1, w1]
def qS (x : List aB) : Nat := (x.map fun y => 1 + dJ y.z_ + hJ y.I_).sum
theorem Il {x : List aB} {y} (h : y ∈ x) : 1 + dJ y.z_ + hJ y.I_ ≤ qS x := kA (f := fun y => 1 + dJ y.z_ + hJ y.I_) h
theorem DX {x : List aB} (hl : uS x) (h : qS x ≤ 1000000000000000000) : pg lP (qS x) x := by
  unfold lP
  refine nc (p := x) (c := fun y => 1 + dJ y.z_ + hJ y.I_) (fp x) (fun k l m i h0 => by
    rw [fp, if_neg h0]) hl.1 (fun x hx m hm => ?_)
  · have hy := Il hx
    have hm : m + (1 + dJ x.z_ + hJ x.I_) < 4611686018427387904 := hm
    obtain ⟨t1, s1⟩ := yy (m := m) (by omega)
    have w1 := aD (i := m) (by omega)
    obtain ⟨m2, z2, a2, c2, d2⟩ := rl (x := x.z_) (hl.2 x hx).1 (by omega) (m + 1) (by omega)
    obtain ⟨m3, z3, a3, c3, d3⟩ := vh (x := x.I_) (hl.2 x hx).2 (by omega) m2 (by omega)
    refine ⟨m3, (aB.mk t1 z2 z3), fun k l i h0 h1 => ?_, by omega, by omega⟩
    · rw [fp, if_pos h0, h1]
      simp only [Option.bind_some, s1, w1, a2, a3]
def pm (x : am) : Nat := qS x.d_ + hJ x.m_
theorem CT {x : am} (hl : rv x) (h : pm x ≤ 1000000000000000000) : pg kD (pm x) x := fun m hm => by
  unfold pm at h hm ⊢
  obtain ⟨m0, z0, a0, c0, d0⟩ := DX (x := x.d_) hl.1 (by omega) m (by omega)
  obtain ⟨m1, z1, a1, c1, d1⟩ := vh (x := x.m_) hl.2 (by omega) m0 (by omega)
  unfold kD
  refine ⟨m1, ⟨z0, z1⟩, ?_, by omega, by omega⟩
  simp only [Option.bind_some, a0, a1]
def tc (x : bi) : Nat := pm x.p_
theorem FB {x : bi} (hl : wV x) (h : tc x ≤ 1000000000000000000) : pg jJ (tc x) x := fun m hm => by
  unfold tc at h hm ⊢
  obtain ⟨m0, z0, a0, c0, d0⟩ := CT (x := x.p_) hl (by omega) m (by omega)
  unfold jJ
  refine ⟨m0, ⟨z0, x.c_, x.j_, x.N_, x.O_, x.s_, x.t_⟩, ?_, by omega, by omega⟩
  simp only [Option.bind_some, a0]
def ek (x : List (List Int)) : Nat := (x.map fun y => 1 + dJ y).sum
theorem Ik {x : List (List Int)} {y} (h : y ∈ x) : 1 + dJ y ≤ ek x := kA (f := fun y => 1 + dJ y) h
theorem rH {x : List (List Int)} (hl : pl x) (h : ek x ≤ 1000000000000000000) : pg gP (ek x) x := by
  unfold gP
  refine nc (p := x) (c := fun y => 1 + dJ y) (fu x) (fun k l m i h0 => by
    rw [fu, if_neg h0]) hl.1 (fun x hx m hm => ?_)
  · have hy := Ik hx
    have hm : m + (1 + dJ x) < 4611686018427387904 := hm
    obtain ⟨m1, z1, a1, c1, d1⟩ := rl (x := x) (hl.2 x hx) (by omega) m (by omega)
    refine ⟨m1, z1, fun k l i h0 h1 => ?_, by omega, by omega⟩
    · rw [fu, if_pos h0, h1]
      simp only [Option.bind_some, a1]
def gQ (x : List au) : Nat := (x.map fun y => 8 + dJ y.r_ + dJ y.i_.k_ + ek y.i_.h_ + dJ y.d_).sum
theorem Io {x : List au} {y} (h : y ∈ x) : 8 + dJ y.r_ + dJ y.i_.k_ + ek y.i_.h_ + dJ y.d_ ≤ gQ x := kA (f := fun y => 8 + dJ y.r_ + dJ y.i_.k_ + ek y.i_.h_ + dJ y.d_) h
theorem yg {x : List au} (hl : sj x) (h : gQ x ≤ 1000000000000000000) : pg jR (gQ x) x := by
  unfold jR
  refine nc (p := x) (c := fun y => 8 + dJ y.r_ + dJ y.i_.k_ + ek y.i_.h_ + dJ y.d_) (fj x) (fun k l m i h0 => by
    rw [fj, if_neg h0]) hl.1 (fun x hx m hm => ?_)
  · have hy := Io hx
    have hm : m + (8 + dJ x.r_ + dJ x.i_.k_ + ek x.i_.h_ + dJ x.d_) < 4611686018427387904 := hm
    have w1 := aD (i := m) (by omega)
    have w2 := aD (i := (m + 1)) (by omega)
    have w3 := aD (i := ((m + 1) + 1)) (by omega)
    obtain ⟨m1, z1, a1, c1, d1⟩ := rl (x := x.r_) (hl.2 x hx).1 (by omega) (((m + 1) + 1) + 1) (by omega)
    have w5 := aD (i := m1) (by omega)
    obtain ⟨m2, z2, a2, c2, d2⟩ := rl (x := x.i_.k_) (hl.2 x hx).2.1.1 (by omega) (m1 + 1) (by omega)
    obtain ⟨m3, z3, a3, c3, d3⟩ := rH (x := x.i_.h_) (hl.2 x hx).2.1.2 (by omega) m2 (by omega)
    have w8 := aD (i := m3) (by omega)
    obtain ⟨m4, z4, a4, c4, d4⟩ := rl (x := x.d_) (hl.2 x hx).2.2 (by omega) (m3 + 1) (by omega)
    have a := aD (i := m4) (by omega)
    have d := aD (i := (m4 + 1)) (by omega)
    have e := aD (i := ((m4 + 1) + 1)) (by omega)
    refine ⟨(((m4 + 1) + 1) + 1), (au.mk (Int.tmod ((m : Nat) : Int) 3 == 0) (bC.mk (((m + 1) : Nat) : Int) ((((m + 1) + 1) : Nat) : Int)) z1 ((m1 : Nat) : Int) (aV.mk z2 z3) ((m3 : Nat) : Int) z4 ((m4 : Nat) : Int) (((m4 + 1) : Nat) : Int) ((((m4 + 1) + 1) : Nat) : Int)), fun k l i h0 h1 => ?_, by omega, by omega⟩
    · rw [fj, if_pos h0, h1]
      simp only [Option.bind_some, w1, w2, w3, a1, w5, a2, a3, w8, a4, a, d, e]
def nh (x : List az) : Nat := (x.map fun y => 3 + gQ y.F_.b_ + gQ y.w_.b_ + ek y.H_.s_.o_ + ek y.H_.t_.o_).sum
theorem Fp {x : List az} {y} (h : y ∈ x) : 3 + gQ y.F_.b_ + gQ y.w_.b_ + ek y.H_.s_.o_ + ek y.H_.t_.o_ ≤ nh x := kA (f := fun y => 3 + gQ y.F_.b_ + gQ y.w_.b_ + ek y.H_.s_.o_ + ek y.H_.t_.o_) h
theorem Bk {x : List az} (hl : pA x) (h : nh x ≤ 1000000000000000000) : pg kc (nh x) x := by
  unfold kc
  refine nc (p := x) (c := fun y => 3 + gQ y.F_.b_ + gQ y.w_.b_ + ek y.H_.s_.o_ + ek y.H_.t_.o_) (eB x) (fun k l m i h0 => by
    rw [eB, if_neg h0]) hl.1 (fun x hx m hm => ?_)
  · have hy := Fp hx
    have hm : m + (3 + gQ x.F_.b_ + gQ x.w_.b_ + ek x.H_.s_.o_ + ek x.H_.t_.o_) < 4611686018427387904 := hm
    obtain ⟨m1, z1, a1, c1, d1⟩ := yg (x := x.F_.b_) (hl.2 x hx).1 (by omega) m (by omega)
    have w2 := aD (i := m1) (by omega)
    have w3 := aD (i := (m1 + 1)) (by omega)
    obtain ⟨m2, z2, a2, c2, d2⟩ := yg (x := x.w_.b_) (hl.2 x hx).2.1 (by omega) ((m1 + 1) + 1) (by omega)
    have w5 := aD (i := m2) (by omega)
    obtain ⟨m3, z3, a3, c3, d3⟩ := rH (x := x.H_.s_.o_) (hl.2 x hx).2.2.1 (by omega) (m2 + 1) (by omega)
    obtain ⟨m4, z4, a4, c4, d4⟩ := rH (x := x.H_.t_.o_) (hl.2 x hx).2.2.2 (by omega) m3 (by omega)
    refine ⟨m4, (az.mk (ap.mk z1 ((m1 : Nat) : Int)) (Int.tmod (((m1 + 1) : Nat) : Int) 3 == 0) (ap.mk z2 ((m2 : Nat) : Int)) (cf.mk (aA.mk z3) (aA.mk z4))), fun k l i h0 h1 => ?_, by omega, by omega⟩
    · rw [eB, if_pos h0, h1]
      simp only [Option.bind_some, a1, w2, w3, a2, w5, a3, a4]
def oZ (x : bP) : Nat := nh x.j_
theorem Du {x : bP} (hl : tg x) (h : oZ x ≤ 1000000000000000000) : pg kQ (oZ x) x := fun m hm => by
  unfold oZ at h hm ⊢
  obtain ⟨m0, z0, a0, c0, d0⟩ := Bk (x := x.j_) hl (by omega) m (by omega)
  unfold kQ
  refine ⟨m0, ⟨z0⟩, ?_, by omega, by omega⟩
  simp only [Option.bind_some, a0]
def sw (x : List aM) : Nat := (x.map fun _ => 2).sum
theorem EF {x : List aM} (hl : sH x) (_ : sw x ≤ 1000000000000000000) : pg lQ (sw x) x := by
  unfold lQ
  refine nc (p := x) (c := fun _ => 2) (fq x) (fun k l m i h0 => by
    rw [fq, if_neg h0]) hl (fun x _ m hm => ?_)
  · skip
    have hm : m + (2) < 4611686018427387904 := hm
    have w1 := aD (i := m) (by omega)
    have w2 := aD (i := (m + 1)) (by omega)
    refine ⟨((m + 1) + 1), (aM.mk ((m : Nat) : Int) (((m + 1) : Nat) : Int)), fun k l i h0 h1 => ?_, by omega, by omega⟩
    · rw [fq, if_pos h0, h1]
      simp only [Option.bind_some, w1, w2]
def rq (x : bo) : Nat := ek x.n_ + sw x.l_
theorem EV {x : bo} (hl : uL x) (h : rq x ≤ 1000000000000000000) : pg lH (rq x) x := fun m hm => by
  unfold rq at h hm ⊢
  obtain ⟨m0, z0, a0, c0, d0⟩ := rH (x := x.n_) hl.1 (by omega) m (by omega)
  obtain ⟨m1, z1, a1, c1, d1⟩ := EF (x := x.l_) hl.2 (by omega) m0 (by omega)
  unfold lH
  refine ⟨m1, ⟨z0, z1⟩, ?_, by omega, by omega⟩
  simp only [Option.bind_some, a0, a1]
theorem JO {x z : bi} {m k : Int} (h : jJ x m = some (k, z)) : z = ⟨z.p_, x.c_, x.j_, x.N_, x.O_, x.s_, x.t_⟩ := by
  unfold jJ at h
  obtain ⟨_, _, h⟩ := Hc h
  obtain ⟨rfl, rfl⟩ := Prod.mk.inj (Option.some.inj h)
  rfl
def sh (x : aP) : Nat := tc x.a_ + oZ x.J_ + rq x.v_
theorem DP {x : aP} (hl : xI x) (h : sh x ≤ 1000000000000000000) : pg jX (sh x) x := fun m hm => by
  unfold sh at h hm ⊢
  obtain ⟨m0, z0, a0, c0, d0⟩ := FB (x := x.a_) hl.1 (by omega) m (by omega)
  obtain ⟨m1, z1, a1, c1, d1⟩ := Du (x := x.J_) hl.2.1 (by omega) m0 (by omega)
  obtain ⟨m2, z2, a2, c2, d2⟩ := EV (x := x.v_) hl.2.2 (by omega) m1 (by omega)
  unfold jX
  refine ⟨m2, ⟨z0, z1, z2⟩, ?_, by omega, by omega⟩
  simp only [Option.bind_some, a0, a1, a2, ← JO a0]
theorem tW {x : List Int} : dJ (jE x) ≤ 16 * dy x := by
  unfold dJ dy jE
  rw [Cn]
  omega
theorem ym {x : List (List UInt8)} : hJ (lL x) ≤ 16 * fo x := by
  unfold hJ fo lL
  rw [Cn]
  omega
theorem HQ {x : List ch} : qS (sD x) ≤ 16 * jd x := by
  unfold qS jd sD
  rw [List.map_map]
  refine Nat.le_trans (ub (g := fun y => lJ y) (fun y _ => ?_)) (by first | omega | (rw [uz]; omega) | exact Nat.le_refl _)
  show 1 + dJ (jE y.z_) + hJ (lL y.I_) ≤ 16 * (1 + (y.E_.length + dy y.z_ + fo y.I_))
  have := tW (x := y.z_)
  have := ym (x := y.I_)
  omega
theorem FP {x : db} : pm (qG x) ≤ 16 * iU x := by
  have := HQ (x := x.d_)
  have := ym (x := x.m_)
  unfold pm iU qG
  show qS (sD x.d_) + hJ (lL x.m_) ≤ 16 * (jd x.d_ + fo x.m_)
  omega
theorem JI {x : eG} : tc (uT x) ≤ 16 * jU x := by
  have := FP (x := x.p_)
  unfold tc jU uT
  show pm (qG x.p_) ≤ 16 * (iU x.p_)
  omega
theorem uH {x : List (List Int)} : ek (lw x) ≤ 16 * eW x := by
  unfold ek eW lw
  rw [List.map_map]
  refine Nat.le_trans (ub (g := fun y => dy y) (fun y _ => ?_)) (by first | omega | (rw [uz]; omega) | exact Nat.le_refl _)
  show 1 + dJ (jE y) ≤ 16 * (1 + dy y)
  have := tW (x := y)
  omega
theorem Ci {x : List bN} : gQ (qN x) ≤ 16 * jq x := by
  unfold gQ jq qN
  rw [List.map_map]
  refine Nat.le_trans (ub (g := fun y => lz y) (fun y _ => ?_)) (by first | omega | (rw [uz]; omega) | exact Nat.le_refl _)
  show 8 + dJ (jE y.r_) + dJ (jE y.i_.k_) + ek (lw y.i_.h_) + dJ (jE y.d_) ≤ 16 * (1 + (dy y.r_ + (dy y.i_.k_ + eW y.i_.h_) + dy y.d_))
  have := tW (x := y.r_)
  have := tW (x := y.i_.k_)
  have := uH (x := y.i_.h_)
  have := tW (x := y.d_)
  omega
theorem DK {x : List bJ} : nh (po x) ≤ 16 * gK x := by
  unfold nh gK po
  rw [List.map_map]
  refine Nat.le_trans (ub (g := fun y => iQ y) (fun y _ => ?_)) (by first | omega | (rw [uz]; omega) | exact Nat.le_refl _)
  show 3 + gQ (qN y.F_.b_) + gQ (qN y.w_.b_) + ek (lw y.H_.s_.o_) + ek (lw y.H_.t_.o_) ≤ 16 * (1 + ((jq y.F_.b_) + (jq y.w_.b_) + ((eW y.H_.s_.o_) + (eW y.H_.t_.o_))))
  have := Ci (x := y.F_.b_)
  have := Ci (x := y.w_.b_)
  have := uH (x := y.H_.s_.o_)
  have := uH (x := y.H_.t_.o_)
  omega
theorem Gr {x : dj} : oZ (qK x) ≤ 16 * ie x := by
  have := DK (x := x.j_)
  unfold oZ ie qK
  show nh (po x.j_) ≤ 16 * (gK x.j_)
  omega
theorem Ie {x : List cY} : sw (sJ x) ≤ 16 * lb x := by
  unfold sw lb sJ
  rw [List.map_map]
  refine Nat.le_trans (ub (g := fun _ => 0) (fun y _ => ?_)) (by first | omega | (rw [uz]; omega) | exact Nat.le_refl _)
  show 2 ≤ 16 * (1 + 0)
  omega
theorem HX {x : dM} : rq (sy x) ≤ 16 * kf x := by
  have := uH (x := x.n_)
  have := Ie (x := x.l_)
  unfold rq kf sy
  show ek (lw x.n_) + sw (sJ x.l_) ≤ 16 * (eW x.n_ + lb x.l_)
  omega
theorem BW {x : dz} : sh (mO x) ≤ 16 * mg x := by
  have := JI (x := x.a_)
  have := Gr (x := x.J_)
  have := HX (x := x.v_)
  unfold sh mg mO
  show tc (uT x.a_) + oZ (qK x.J_) + rq (sy x.v_) ≤ 16 * (jU x.a_ + ie x.J_ + kf x.v_)
  omega
def sF (x : List Int) : Nat := (x.map fun _ => 1).sum
theorem ET {x : List Int} (hl : qJ x) (_ : sF x ≤ 1000000000000000000) : JH jL iR (sF x) x := by
  unfold jL iR
  refine DZ (p := x) (c := fun _ => 1) (fk x) (fun q => ft q) (fun k l m i h0 => by
    rw [fk, if_neg h0]) (fun q k m i h0 => by rw [ft, if_neg h0]) hl (fun x _ m hm => ?_)
  · skip
    have hm : m + (1) < 4611686018427387904 := hm
    have w1 := aD (i := m) (by omega)
    refine ⟨(m + 1), (IntKind.u8.wrap ((m : Nat) : Int)), fun k l i h0 h1 => ?_, fun q k i h0 h1 => ?_, by omega, by omega⟩
    · rw [fk, if_pos h0, h1]
      simp only [Option.bind_some, w1]
    · rw [ft, if_pos h0]
      simp only [h1, Option.bind_some, bne_self_eq_false, Bool.false_eq_true, if_false, w1]
theorem xt {a0 : dz} (h0 : xH a0) (hs : oX (mO a0) → sh (mO a0) ≤ 16777216 → ∃ m, ju (mO a0) = some m ∧ ig (mO a0) = some m ∧ qJ m ∧ sF m ≤ 1000000000000000000) : iq a0 = some true := by
  unfold iq
  obtain ⟨r, e0, g0⟩ := Dr h0 (1048576) (by omega)
  have e0 : lY a0 1048576 = some r := e0
  rw [e0]
  simp only [bS]
  rcases g0 with ⟨g0, _⟩ | ⟨g0, rfl⟩
  · rw [if_pos (by simpa using g0)]
  · rw [if_neg (by simp)]
    have s0 := De h0 (show mg a0 ≤ 1048576 by omega)
    rw [EM (x := a0) (by omega)]
    simp only [bS]
    obtain ⟨m, e, e', l0, q0⟩ := hs s0 (by have := BW (x := a0); omega)
    have b0 := BW (x := a0)
    obtain ⟨k1, z1, p1, _, _⟩ := DP (x := mO a0) (wk s0) (by omega) 1 (by omega)
    have p1 : jX (mO a0) 1 = some ((k1 : Int), z1) := p1
    obtain ⟨r1, y1, c1, d1, _, _⟩ := ET (x := m) l0 (by omega) 1 (by omega)
    have c1 : jL m 1 = some ((r1 : Int), y1) := c1
    have d1 : iR y1 1 = some (r1 : Int) := d1
    rw [e]
    simp only [bS]
    rw [e']
    simp [BF (wk s0), Bt l0, p1, c1, d1, KB]
end Go.Vk
/- Words, cuts, attributes: tested alike. -/
namespace Go.Vk
def yn (w : List UInt8) : Prop := (1 ≤ (w.length : Int) ∧ (w.length : Int) ≤ 8) ∧ ∀ i, 0 ≤ i → (h : i < w.length) → 97 ≤ (w[i]).toNat ∧ (w[i]).toNat ≤ 122
theorem EK {w : List UInt8} (hw : w.length < 1000000000000) : Dec (nJ w) (yn w) := by
  unfold nJ bn yn
  simp only [bS]
  by_cases h : 1 ≤ (w.length : Int) ∧ (w.length : Int) ≤ 8
  · rw [pq h]
    simp only [Bool.not_true, Bool.false_eq_true, if_false]
    refine (oy (Lp := iV w) (n := w.length) (Q := fun i => ∀ h : i < w.length, 97 ≤ (w[i]).toNat ∧ (w[i]).toNat ≤ 122) 0 (fun k i hi => ?_) (fun k i _ hi => ?_) hw).of_iff ⟨fun g => ⟨h, fun i h0 h1 => g i h0 h1 h1⟩, fun g i h0 h1 _ => g.2 i h0 h1⟩
    · show (if _ then _ else _) = _
      rw [if_neg (by simp; omega)]
    · rw [iV]
      rw [if_pos (by simp; omega), bf hi, aD (by omega)]
      simp only [bS]
      by_cases h1 : ((w[i]).toNat : Int) < 97
      · rw [if_pos (by simpa using h1)]
        exact .inr ⟨fun g => by have := g hi; omega, rfl⟩
      · rw [if_neg (by simpa using h1)]
        simp only [bS]
        by_cases h2 : ((w[i]).toNat : Int) > 122
        · rw [if_pos (by simpa using h2)]
          exact .inr ⟨fun g => by have := g hi; omega, rfl⟩
        · rw [if_neg (by simpa using h2)]
          exact .inl ⟨fun _ => ⟨by omega, by omega⟩, rfl⟩
  · rw [pP h]
    exact bF fun g => h g.1
theorem DQ {w : List UInt8} (hw : w.length < 1000000000000) : Dec (nG w) (yn w) := by
  unfold nG aZ yn
  simp only [bS]
  by_cases h : 1 ≤ (w.length : Int) ∧ (w.length : Int) ≤ 8
  · rw [pq h]
    simp only [Bool.not_true, Bool.false_eq_true, if_false]
    refine (oy (Lp := iN w) (n := w.length) (Q := fun i => ∀ h : i < w.length, 97 ≤ (w[i]).toNat ∧ (w[i]).toNat ≤ 122) 0 (fun k i hi => ?_) (fun k i _ hi => ?_) hw).of_iff ⟨fun g => ⟨h, fun i h0 h1 => g i h0 h1 h1⟩, fun g i h0 h1 _ => g.2 i h0 h1⟩
    · show (if _ then _ else _) = _
      rw [if_neg (by simp; omega)]
    · rw [iN]
      rw [if_pos (by simp; omega), bf hi, aD (by omega)]
      simp only [bS]
      by_cases h1 : ((w[i]).toNat : Int) < 97
      · rw [if_pos (by simpa using h1)]
        exact .inr ⟨fun g => by have := g hi; omega, rfl⟩
      · rw [if_neg (by simpa using h1)]
        simp only [bS]
        by_cases h2 : ((w[i]).toNat : Int) > 122
        · rw [if_pos (by simpa using h2)]
          exact .inr ⟨fun g => by have := g hi; omega, rfl⟩
        · rw [if_neg (by simpa using h2)]
          exact .inl ⟨fun _ => ⟨by omega, by omega⟩, rfl⟩
  · rw [pP h]
    exact bF fun g => h g.1
def uk (ws : List (List UInt8)) : Prop := ∀ i, 0 ≤ i → i < ws.length → ∀ h : i < ws.length, yn ws[i] ∧ ∀ j, (hj : j < i) → ws[i] ≠ ws[j]
theorem BY {ws : List (List UInt8)} (hn : ws.length < 1000000000000) (hl : ∀ w ∈ ws, w.length < 1000000000000) : Dec (mf ws) (uk ws) := by
  unfold mf
  refine oy (Lp := ef ws) (n := ws.length) (Q := fun i => ∀ h : i < ws.length, yn ws[i] ∧ ∀ j, (hj : j < i) → ws[i] ≠ ws[j]) 0 (fun k i hi => ?_) (fun k i _ hi => ?_) hn
  · show (if _ then _ else _) = _
    rw [if_neg (by simp; omega)]
  · rw [ef]
    rw [if_pos (by simp; omega), bf hi]
    simp only [bS]
    rcases (EK (hl _ (List.getElem_mem hi))).cases with ⟨e, hw⟩ | ⟨e, hw⟩
    · rw [e]
      simp only [Option.bind_some, Bool.not_true, Bool.false_eq_true, if_false]
      have key : ∀ (d q j : Nat), i - j = d → d < q → (hj : j ≤ i) → (∀ m, (hm : m < j) → ws[i] ≠ ws[m]'(by omega)) →
          ((∀ m, (hm : m < i) → ws[i] ≠ ws[m]) ∧ fD i ws (ef ws k) q (j : Int) = ef ws k ((i + 1 : Nat) : Int)) ∨ ((¬ ∀ m, (hm : m < i) → ws[i] ≠ ws[m]) ∧ fD i ws (ef ws k) q (j : Int) = some false) := by
        intro d
        induction d with
        | zero =>
          intro q j hd hq hj hm
          obtain ⟨q, rfl⟩ : ∃ r, q = r + 1 := ⟨q - 1, by omega⟩
          rw [fD]
          rw [if_neg (by simp; omega), aD (by omega)]
          exact .inl ⟨fun m hm' => hm m (by omega), rfl⟩
        | succ d ih =>
          intro q j hd hq hj hm
          obtain ⟨q, rfl⟩ : ∃ r, q = r + 1 := ⟨q - 1, by omega⟩
          rw [fD]
          rw [if_pos (by simp; omega), bf hi, bf (show j < ws.length by omega)]
          simp only [bS]
          by_cases hc : ws[i] = ws[j]
          · rw [if_pos (by simpa using hc)]
            exact .inr ⟨fun g => g j (by omega) hc, rfl⟩
          · rw [if_neg (by simpa using hc), aD (by omega)]
            exact ih q (j + 1) (by omega) (by omega) (by omega) (fun m hm' => by
              by_cases h : m = j
              · subst h; exact hc
              · exact hm m (by omega))
      rcases key i aK 0 (by omega) (fe (by omega)) (by omega) (fun m hm => by omega) with ⟨h1, h2⟩ | ⟨h1, h2⟩
      · exact .inl ⟨fun _ => ⟨hw, h1⟩, h2⟩
      · exact .inr ⟨fun g => h1 (g hi).2, h2⟩
    · rw [e]
      exact .inr ⟨fun g => hw (g hi).1, rfl⟩
theorem xj {ws : List (List UInt8)} (hn : ws.length < 1000000000000) (hl : ∀ w ∈ ws, w.length < 1000000000000) : Dec (eQ ws) (uk ws) := by
  unfold eQ
  refine oy (Lp := eD ws) (n := ws.length) (Q := fun i => ∀ h : i < ws.length, yn ws[i] ∧ ∀ j, (hj : j < i) → ws[i] ≠ ws[j]) 0 (fun k i hi => ?_) (fun k i _ hi => ?_) hn
  · show (if _ then _ else _) = _
    rw [if_neg (by simp; omega)]
  · rw [eD]
    rw [if_pos (by simp; omega), bf hi, aD (by omega)]
    simp only [bS]
    rcases (DQ (hl _ (List.getElem_mem hi))).cases with ⟨e, hw⟩ | ⟨e, hw⟩
    · rw [e]
      simp only [Option.bind_some, Bool.not_true, Bool.false_eq_true, if_false]
      have hs : sub ws 0 (i : Int) = some (ws.take i) := by
        unfold sub
        rw [if_pos (by omega)]
        simp
      rw [hs]
      simp only [bS]
      unfold dN eo
      have hf := pO (Lp := cg (ws.take i) ws[i]) (n := i) (Q := fun j => ∀ hj : j < i, ws[i] = ws[j]) (fun k j hj => by
        show (if _ then _ else _) = _
        rw [if_neg (by simp; omega)]) (fun k j hj => by
        rw [cg]
        rw [if_pos (by simp; omega), bf (show j < (ws.take i).length by simp; omega), aD (by omega)]
        simp only [Option.bind_some, List.getElem_take]
        by_cases hc : ws[i] = ws[j]
        · rw [if_pos (by simpa using hc)]
          exact .inl ⟨fun _ => hc, rfl⟩
        · rw [if_neg (by simpa using hc)]
          exact .inr ⟨fun g => hc (g hj), rfl⟩) (by omega)
      rcases hf.cases with ⟨e2, j, hj, hQ⟩ | ⟨e2, hQ⟩
      · rw [e2]
        exact .inr ⟨fun g => (g hi).2 j hj (hQ hj), rfl⟩
      · rw [e2]
        exact .inl ⟨fun _ => ⟨hw, fun j hj hc => hQ ⟨j, hj, fun _ => hc⟩⟩, rfl⟩
    · rw [e]
      exact .inr ⟨fun g => hw (g hi).1, rfl⟩
def Jo (l : List Int) : Prop := ∀ i, 0 ≤ i → i < l.length → ∀ h : i < l.length, (-9999 ≤ l[i] ∧ l[i] ≤ 9998) ∧ ∀ h0 : 0 < i, l[i - 1] < l[i]
theorem JV {l : List Int} (hn : l.length < 1000000000000) : Dec (pR l) ((1 ≤ (l.length : Int) ∧ (l.length : Int) ≤ 3) ∧ Jo l) := by
  unfold pR aZ
  simp only [bS]
  by_cases h : 1 ≤ (l.length : Int) ∧ (l.length : Int) ≤ 3
  · rw [pq h]
    simp only [if_true]
    have ha : Dec (gc l) (∀ i, 1 ≤ i → i < l.length → ∀ (h : i < l.length), l[i - 1] < l[i]) := by
      unfold gc
      refine oy (Lp := eJ l) (n := l.length) (Q := fun i => ∀ (h : i < l.length), l[i - 1] < l[i]) 1 (fun k i hi => ?_) (fun k i h1 hi => ?_) hn
      · show (if _ then _ else _) = _
        rw [if_neg (by simp; omega)]
      · rw [eJ]
        rw [if_pos (by simp; omega), bf hi, aD (by omega), cd (by omega) (by omega), show (i : Int) - 1 = ((i - 1 : Nat) : Int) by omega, bf (show i - 1 < l.length by omega)]
        simp only [bS]
        by_cases hc : l[i] ≤ l[i - 1]
        · rw [if_pos (by simpa using hc)]
          exact .inr ⟨fun g => by have := g hi; omega, rfl⟩
        · rw [if_neg (by simpa using hc)]
          exact .inl ⟨fun _ => by omega, rfl⟩
    rcases ha.cases with ⟨e, hA⟩ | ⟨e, hA⟩
    · rw [e]
      simp only [Option.bind_some, if_true]
      unfold cA cN
      have hf := pO (Lp := bz l) (n := l.length) (Q := fun j => ∀ hj : j < l.length, ¬ (-9999 ≤ l[j] ∧ l[j] ≤ 9998)) (fun k j hj => by
        show (if _ then _ else _) = _
        rw [if_neg (by simp; omega)]) (fun k j hj => by
        rw [bz]
        rw [if_pos (by simp; omega), bf hj, aD (by omega)]
        unfold pr tn aZ
        simp only [bS]
        by_cases hc : -9999 ≤ l[j] ∧ l[j] ≤ 9998
        · rw [pq hc]
          exact .inr ⟨fun g => g hj hc, rfl⟩
        · rw [pP hc]
          exact .inl ⟨fun _ => hc, rfl⟩) hn
      rcases hf.cases with ⟨e2, j, hj, hQ⟩ | ⟨e2, hQ⟩
      · rw [e2]
        exact bF fun g => hQ hj (g.2 j (Nat.zero_le _) hj hj).1
      · rw [e2]
        exact lC ⟨h, fun i _ hi _ => ⟨Classical.byContradiction fun c => hQ ⟨i, hi, fun _ => c⟩, fun h0 => hA i h0 hi hi⟩⟩
    · rw [e]
      exact bF fun g => hA fun i h1 hi h2 => (g.2 i (Nat.zero_le _) hi h2).2 h1
  · rw [pP h]
    exact bF fun g => h g.1
end Go.Vk
/- Attributes: weighed, copied, compared; FullMask. -/
namespace Go.Vk
def rA (x : aB) : Prop := yn x.E_ ∧ ((x.z_.length = 0 ∧ (2 ≤ (x.I_.length : Int) ∧ (x.I_.length : Int) ≤ 4) ∧ uk x.I_) ∨ (x.I_.length = 0 ∧ (1 ≤ (x.z_.length : Int) ∧ (x.z_.length : Int) ≤ 3) ∧ Jo x.z_))
def OkM (x : aB) : Prop := x.E_.length < 1000000000000 ∧ x.z_.length < 1000000000000 ∧ x.I_.length < 1000000000000 ∧ ∀ y ∈ x.I_, y.length < 1000000000000
theorem Al {x : aB} (hx : OkM x) : Dec (lB x) (rA x) := by
  obtain ⟨h1, h2, h3, h4⟩ := hx
  unfold lB rA
  rcases (EK h1).cases with ⟨e, hw⟩ | ⟨e, hw⟩
  · rw [e]
    simp only [Option.bind_some, Bool.not_true, Bool.false_eq_true, if_false]
    by_cases hc : x.z_.length = 0
    · rw [if_pos (by rw [beq_iff_eq]; omega)]
      unfold bn
      simp only [bS]
      by_cases hv : 2 ≤ (x.I_.length : Int) ∧ (x.I_.length : Int) ≤ 4
      · rw [pq hv]
        simp only [if_true]
        rcases (BY h3 h4).cases with ⟨e2, hW⟩ | ⟨e2, hW⟩
        · rw [e2]; exact lC ⟨hw, .inl ⟨hc, hv, hW⟩⟩
        · rw [e2]; exact bF fun g => by rcases g.2 with ⟨_, _, g⟩ | ⟨_, g, _⟩ <;> first | exact hW g | omega
      · rw [pP hv]
        exact bF fun g => by rcases g.2 with ⟨_, g, _⟩ | ⟨_, g, _⟩ <;> omega
    · rw [if_neg (by rw [beq_iff_eq]; omega)]
      by_cases hb : 0 < x.I_.length ∨ 3 < x.z_.length
      · rw [if_pos (by simp; omega)]
        exact bF fun g => by rcases g.2 with ⟨g, _, _⟩ | ⟨_, g, _⟩ <;> omega
      · rw [if_neg (by rw [Bool.or_eq_true, decide_eq_true_eq, decide_eq_true_eq]; omega)]
        have ha : Dec (gO x aK 0) (Jo x.z_) := by
          refine oy (Lp := gO x) (n := x.z_.length) (Q := fun i => ∀ h : i < x.z_.length, (-9999 ≤ x.z_[i] ∧ x.z_[i] ≤ 9998) ∧ ∀ h0 : 0 < i, x.z_[i - 1] < x.z_[i]) 0 (fun k i hi => ?_) (fun k i _ hi => ?_) h2
          · show (if _ then _ else _) = _
            rw [if_neg (by simp; omega)]
          · rw [gO]
            rw [if_pos (by simp; omega), bf hi, aD (by omega)]
            unfold bn
            simp only [bS]
            by_cases hr : -9999 ≤ x.z_[i] ∧ x.z_[i] ≤ 9998
            · rw [pq hr]
              simp only [Bool.not_true, Bool.false_eq_true, if_false]
              by_cases h0 : 0 < i
              · rw [if_pos (by simp; omega), cd (by omega) (by omega), show (i : Int) - 1 = ((i - 1 : Nat) : Int) by omega, bf (show i - 1 < x.z_.length by omega)]
                simp only [bS]
                by_cases hle : x.z_[i] ≤ x.z_[i - 1]
                · rw [if_pos (by simpa using hle)]
                  exact .inr ⟨fun g => by have := (g hi).2 h0; omega, rfl⟩
                · rw [if_neg (by simpa using hle)]
                  exact .inl ⟨fun _ => ⟨hr, fun _ => by omega⟩, rfl⟩
              · rw [if_neg (by simp; omega)]
                exact .inl ⟨fun _ => ⟨hr, fun h => absurd h h0⟩, rfl⟩
            · rw [pP hr]
              exact .inr ⟨fun g => hr (g hi).1, rfl⟩
        exact ha.of_iff ⟨fun g => ⟨hw, .inr ⟨by omega, by omega, g⟩⟩, fun g => by rcases g.2 with ⟨g, _, _⟩ | ⟨_, _, g⟩; exact absurd g hc; exact g⟩
  · rw [e]
    exact bF fun g => hw g.1
theorem Ea {x : aB} (hx : OkM x) : Dec (nx x) (rA x) := by
  obtain ⟨h1, h2, h3, h4⟩ := hx
  unfold nx rA
  rcases (DQ h1).cases with ⟨e, hw⟩ | ⟨e, hw⟩
  · rw [e]
    simp only [Option.bind_some, Bool.not_true, Bool.false_eq_true, if_false]
    by_cases hc : x.z_.length = 0
    · rw [if_pos (by rw [beq_iff_eq]; omega)]
      unfold aZ
      simp only [bS]
      by_cases hv : 2 ≤ (x.I_.length : Int) ∧ (x.I_.length : Int) ≤ 4
      · rw [pq hv]
        simp only [if_true]
        rcases (xj h3 h4).cases with ⟨e2, hW⟩ | ⟨e2, hW⟩
        · rw [e2]; exact lC ⟨hw, .inl ⟨hc, hv, hW⟩⟩
        · rw [e2]; exact bF fun g => by rcases g.2 with ⟨_, _, g⟩ | ⟨_, g, _⟩ <;> first | exact hW g | omega
      · rw [pP hv]
        exact bF fun g => by rcases g.2 with ⟨_, g, _⟩ | ⟨_, g, _⟩ <;> omega
    · rw [if_neg (by rw [beq_iff_eq]; omega)]
      by_cases hb : x.I_.length = 0
      · rw [if_pos (by rw [beq_iff_eq]; omega)]
        rcases (JV h2).cases with ⟨e2, hC⟩ | ⟨e2, hC⟩
        · rw [e2]; exact lC ⟨hw, .inr ⟨hb, hC.1, hC.2⟩⟩
        · rw [e2]; exact bF fun g => by
            rcases g.2 with ⟨g, _, _⟩ | ⟨_, g, g'⟩
            · exact hc g
            · exact hC ⟨g, g'⟩
      · rw [if_neg (by rw [beq_iff_eq]; omega)]
        exact bF fun g => by rcases g.2 with ⟨g, _, _⟩ | ⟨g, _, _⟩ <;> omega
  · rw [e]
    exact bF fun g => hw g.1
end Go.Vk
/- FullMask answers alike. -/
namespace Go.Vk
theorem Lc {x : aB} (hx : OkM x) (h : rA x) : ∃ n : Nat, lW x = some (n : Int) ∧ mh x = some (n : Int) ∧ 2 ≤ n ∧ n ≤ 4 := by
  unfold lW mh
  rcases (Al hx).cases with ⟨e, _⟩ | ⟨_, g⟩
  · rw [e]
    simp only [Option.bind_some, Bool.not_true, Bool.false_eq_true, if_false]
    rcases h.2 with ⟨h1, h2, _⟩ | ⟨h1, h2, _⟩
    · rw [if_neg (fun g => by have := of_decide_eq_true g; omega)]
      exact ⟨_, rfl, rfl, by omega, by omega⟩
    · rw [if_pos (decide_eq_true (by omega)), aD (by omega)]
      exact ⟨_, rfl, rfl, by omega, by omega⟩
  · exact absurd h g
end Go.Vk
/- Schemas: tested, weighed, copied, compared; AllRoom. -/
namespace Go.Vk
def FW (l : List aB) : Prop := ∀ i, 0 ≤ i → i < l.length → ∀ h : i < l.length, rA l[i] ∧ ∀ j, (hj : j < i) → l[i].E_ ≠ l[j].E_
def kn (x : am) : Prop := (1 ≤ (x.d_.length : Int) ∧ (x.d_.length : Int) ≤ 5) ∧ (2 ≤ (x.m_.length : Int) ∧ (x.m_.length : Int) ≤ 3) ∧ uk x.m_ ∧ FW x.d_
def OkS (x : am) : Prop := x.d_.length < 1000000000 ∧ (∀ a ∈ x.d_, OkM a) ∧ x.m_.length < 1000000000000 ∧ ∀ y ∈ x.m_, y.length < 1000000000000
theorem In {x : am} (hx : OkS x) : Dec (dv x aK 0) (FW x.d_) := by
  obtain ⟨h1, h2, _, _⟩ := hx
  refine oy (Lp := dv x) (n := x.d_.length) (Q := fun i => ∀ h : i < x.d_.length, rA x.d_[i] ∧ ∀ j, (hj : j < i) → x.d_[i].E_ ≠ x.d_[j].E_) 0 (fun k i hi => ?_) (fun k i _ hi => ?_) (by omega)
  · show (if _ then _ else _) = _
    rw [if_neg (by simp; omega)]
  · rw [dv]
    rw [if_pos (by simp; omega), bf hi]
    simp only [bS]
    rcases (Al (h2 _ (List.getElem_mem hi))).cases with ⟨e, hw⟩ | ⟨e, hw⟩
    · rw [e]
      simp only [Option.bind_some, Bool.not_true, Bool.false_eq_true, if_false]
      have key : ∀ (d q j : Nat), i - j = d → d < q → (hj : j ≤ i) → (∀ m, (hm : m < j) → x.d_[i].E_ ≠ (x.d_[m]'(by omega)).E_) →
          ((∀ m, (hm : m < i) → x.d_[i].E_ ≠ x.d_[m].E_) ∧ eZ i x (dv x k) q (j : Int) = dv x k ((i + 1 : Nat) : Int)) ∨ ((¬ ∀ m, (hm : m < i) → x.d_[i].E_ ≠ x.d_[m].E_) ∧ eZ i x (dv x k) q (j : Int) = some false) := by
        intro d
        induction d with
        | zero =>
          intro q j hd hq hj hm
          obtain ⟨q, rfl⟩ : ∃ r, q = r + 1 := ⟨q - 1, by omega⟩
          rw [eZ]
          rw [if_neg (by simp; omega), aD (by omega)]
          exact .inl ⟨fun m hm' => hm m (by omega), rfl⟩
        | succ d ih =>
          intro q j hd hq hj hm
          obtain ⟨q, rfl⟩ : ∃ r, q = r + 1 := ⟨q - 1, by omega⟩
          rw [eZ]
          rw [if_pos (by simp; omega), bf hi, bf (show j < x.d_.length by omega)]
          simp only [bS]
          by_cases hc : x.d_[i].E_ = x.d_[j].E_
          · rw [if_pos (by simpa using hc)]
            exact .inr ⟨fun g => g j (by omega) hc, rfl⟩
          · rw [if_neg (by simpa using hc), aD (by omega)]
            exact ih q (j + 1) (by omega) (by omega) (by omega) (fun m hm' => by
              by_cases h : m = j
              · subst h; exact hc
              · exact hm m (by omega))
      rcases key i aK 0 (by omega) (fe (by omega)) (by omega) (fun m hm => by omega) with ⟨h1, h2⟩ | ⟨h1, h2⟩
      · exact .inl ⟨fun _ => ⟨hw, h1⟩, h2⟩
      · exact .inr ⟨fun g => h1 (g hi).2, h2⟩
    · rw [e]
      exact .inr ⟨fun g => hw (g hi).1, rfl⟩
theorem Ij {x : am} (hx : OkS x) : Dec (ex x aK 0 []) (FW x.d_) := by
  obtain ⟨h1, h2, _, _⟩ := hx
  have hW : Dec (eQ (x.d_.map aB.E_)) (uk (x.d_.map aB.E_)) := xj (by simp; omega) (fun w hw => by
    obtain ⟨a, ha, rfl⟩ := List.mem_map.1 hw
    exact (h2 a ha).1)
  have key : ∀ (d k i : Nat), x.d_.length - i = d → d < k → i ≤ x.d_.length → Dec (ex x k (i : Int) ((x.d_.take i).map aB.E_)) ((∀ j, i ≤ j → ∀ hj : j < x.d_.length, rA x.d_[j]) ∧ uk (x.d_.map aB.E_)) := by
    intro d
    induction d with
    | zero =>
      intro k i hd hk hi
      obtain ⟨k, rfl⟩ : ∃ q, k = q + 1 := ⟨k - 1, by omega⟩
      rw [ex]
      rw [if_neg (by simp; omega), List.take_of_length_le (by omega)]
      have : ∀ o : Option Bool, (o.bind fun y => some y) = o := fun o => by cases o <;> rfl
      rw [this]
      exact hW.of_iff ⟨fun g => ⟨fun j h3 h4 => by omega, g⟩, fun g => g.2⟩
    | succ d ih =>
      intro k i hd hk hi
      obtain ⟨k, rfl⟩ : ∃ q, k = q + 1 := ⟨k - 1, by omega⟩
      have hlt : i < x.d_.length := by omega
      rw [ex]
      rw [if_pos (by simp; omega), bf hlt]
      simp only [bS]
      rcases (Ea (h2 _ (List.getElem_mem hlt))).cases with ⟨e, hw⟩ | ⟨e, hw⟩
      · rw [e]
        simp only [Option.bind_some, Bool.not_true, Bool.false_eq_true, if_false]
        rw [eh (by simp; omega)]
        simp only [bS]
        rw [aD (by omega), show (x.d_.take i).map aB.E_ ++ [x.d_[i].E_] = (x.d_.take (i + 1)).map aB.E_ by rw [List.take_succ_eq_append_getElem hlt, List.map_append]; rfl]
        refine (ih k (i + 1) (by omega) (by omega) (by omega)).of_iff ⟨fun g => ⟨fun j h3 h4 => ?_, g.2⟩, fun g => ⟨fun j h3 h4 => g.1 j (by omega) h4, g.2⟩⟩
        by_cases hj : j = i
        · subst hj; exact hw
        · exact g.1 j (by omega) h4
      · rw [e]
        exact bF fun g => hw (g.1 i (Nat.le_refl _) hlt)
  have := key x.d_.length aK 0 (by omega) (fe (by omega)) (by omega)
  have h0 : Dec (ex x aK 0 []) ((∀ j, 0 ≤ j → ∀ hj : j < x.d_.length, rA x.d_[j]) ∧ uk (x.d_.map aB.E_)) := this
  refine h0.of_iff ⟨fun g i _ _ h => ⟨g.1 i (Nat.zero_le _) h, fun j hj hc => ?_⟩, fun g => ⟨fun j _ hj => (g j (Nat.zero_le _) hj hj).1, fun i _ _ h => ?_⟩⟩
  · have := (g.2 i (Nat.zero_le _) (by simpa using h) (by simpa using h)).2 j hj
    simp at this
    exact this hc
  · have hi : i < x.d_.length := by simpa using h
    obtain ⟨g1, g2⟩ := g i (Nat.zero_le _) hi hi
    exact ⟨by simpa using g1.1, fun j hj => by simpa using g2 j hj⟩
theorem pb {x : am} (hx : OkS x) : Dec (fU x) (kn x) := by
  have hN := In hx
  obtain ⟨h1, h2, h3, h4⟩ := hx
  unfold fU bn kn
  simp only [bS]
  by_cases ha : 1 ≤ (x.d_.length : Int) ∧ (x.d_.length : Int) ≤ 5
  · rw [pq ha]
    simp only [Bool.not_true, Bool.false_eq_true, if_false]
    by_cases hc : 2 ≤ (x.m_.length : Int) ∧ (x.m_.length : Int) ≤ 3
    · rw [pq hc]
      simp only [Option.bind_some, Bool.not_true, Bool.false_eq_true, if_false]
      rcases (BY h3 h4).cases with ⟨e, hW⟩ | ⟨e, hW⟩
      · rw [e]
        simp only [Option.bind_some, Bool.not_true, Bool.false_eq_true, if_false]
        exact hN.of_iff ⟨fun g => ⟨ha, hc, hW, g⟩, fun g => g.2.2.2⟩
      · rw [e]
        exact bF fun g => hW g.2.2.1
    · rw [pP hc]
      exact bF fun g => hc g.2.1
  · rw [pP ha]
    exact bF fun g => ha g.1
theorem pp {x : am} (hx : OkS x) : Dec (fW x) (kn x) := by
  have hN := Ij hx
  obtain ⟨h1, h2, h3, h4⟩ := hx
  unfold fW aZ kn
  simp only [bS]
  by_cases ha : 1 ≤ (x.d_.length : Int) ∧ (x.d_.length : Int) ≤ 5
  · rw [pq ha]
    simp only [Bool.not_true, Bool.false_eq_true, if_false]
    by_cases hc : 2 ≤ (x.m_.length : Int) ∧ (x.m_.length : Int) ≤ 3
    · rw [pq hc]
      simp only [Option.bind_some, Bool.not_true, Bool.false_eq_true, if_false]
      rcases (xj h3 h4).cases with ⟨e, hW⟩ | ⟨e, hW⟩
      · rw [e]
        simp only [Option.bind_some, Bool.not_true, Bool.false_eq_true, if_false]
        exact hN.of_iff ⟨fun g => ⟨ha, hc, hW, g⟩, fun g => g.2.2.2⟩
      · rw [e]
        exact bF fun g => hW g.2.2.1
    · rw [pP hc]
      exact bF fun g => hc g.2.1
  · rw [pP ha]
    exact bF fun g => ha g.1
end Go.Vk
/- Masks. -/
namespace Go.Vk
end Go.Vk
/- Two texts of data, walked side by side. -/
namespace Go.Vk
def FM {ρ : Type} (a b : Option ρ) (Q : ρ → Prop) : Prop := ∃ m, a = some m ∧ b = some m ∧ Q m
theorem FM.mono {ρ : Type} {a b : Option ρ} {Q R : ρ → Prop} (h : FM a b Q) (f : ∀ m, Q m → R m) : FM a b R := by
  obtain ⟨m, h1, h2, h3⟩ := h
  exact ⟨m, h1, h2, f m h3⟩
theorem FM.bind {α ρ : Type} {a b : Option α} {Q : α → Prop} {f g : α → Option ρ} {R : ρ → Prop} (h : FM a b Q) (k : ∀ m, Q m → FM (f m) (g m) R) : FM (a.bind f) (b.bind g) R := by
  obtain ⟨m, h1, h2, h3⟩ := h
  rw [h1, h2]
  exact k m h3
end Go.Vk
