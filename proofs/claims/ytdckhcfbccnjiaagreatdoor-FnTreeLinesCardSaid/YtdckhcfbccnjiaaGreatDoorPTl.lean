/- A node in words has no line's end in it; a tree in words has one for each node. -/
import Derived.Test.YtdckhcfbccnjiaaGreatDoorPMe
namespace Go.Vk
def NL (t : List UInt8) : Prop := ∀ x ∈ t, x ≠ 10
theorem NL.app {a b : List UInt8} (ha : NL a) (hb : NL b) : NL (a ++ b) := fun x hx => by
  rcases List.mem_append.1 hx with h | h
  · exact ha x h
  · exact hb x h
theorem uq {xs : List (List UInt8)} {sep : List UInt8} (hs : NL sep) : (∀ x ∈ xs, NL x) → NL (Lib.join xs sep) := by
  induction xs with
  | nil => intro _ x hx; simp [Lib.join] at hx
  | cons a xs ih =>
    intro h
    cases xs with
    | nil => simpa [Lib.join] using h a (List.mem_cons_self ..)
    | cons b xs =>
      have := ih (fun x hx => h x (List.mem_cons_of_mem _ hx))
      have e : Lib.join (a :: b :: xs) sep = a ++ (sep ++ Lib.join (b :: xs) sep) := by simp [Lib.join]
      rw [e]
      exact (h a (List.mem_cons_self ..)).app (hs.app this)
theorem yd : ∀ u : Nat, NL (Lib.decDigits u) := by
  have dig : ∀ d : Nat, d < 10 → (UInt8.ofNat (48 + d)) ≠ 10 := by decide
  intro u
  induction u using Nat.strongRecOn with
  | _ u ih =>
    rw [Lib.decDigits]
    split
    · rename_i h
      intro x hx
      rw [List.mem_singleton.1 hx]
      exact dig u h
    · rename_i h
      refine (ih (u / 10) (by omega)).app fun x hx => ?_
      rw [List.mem_singleton.1 hx]
      exact dig (u % 10) (by omega)
theorem pI (n : Int) : NL (Lib.itoa n) := by
  unfold Lib.itoa
  split
  · intro x hx
    rcases List.mem_cons.1 hx with rfl | hx
    · decide
    · exact yd _ x hx
  · exact yd _
theorem uF {w : List UInt8} (h : qw w) : NL w := fun x hx => by
  obtain ⟨i, hi, rfl⟩ := List.getElem_of_mem hx
  have := h.2 i (Nat.zero_le _) hi
  intro e
  rw [e] at this
  have : (97 : Nat) ≤ (10 : UInt8).toNat := this.1
  exact absurd this (by decide)
theorem ml : ∀ l : List UInt8, l.all (fun x => x != 10) = true → NL l := fun l h x hx => by
  have := List.all_eq_true.1 h x hx
  simpa using this
theorem vP {s : ae} {f : ar} (hs : bp s) (h : lS s f) : Tot (kj s f) (fun t => t.length ≤ 40 ∧ NL t) := by
  unfold kj
  rcases (pg (f := f) hs).cases with ⟨e, _⟩ | ⟨_, g⟩
  · rw [e]
    simp only [sS]
    rw [nZ h.2.1]
    simp only [sS]
    have hA := pu h.1 h.2.1
    have hm := hs.1.2 _ (ot h.2.1)
    have hat := h.2.2
    unfold pf nb at hat
    generalize atr s f = a at *
    have hn := hA.1.1
    have hw := uF hA.1
    refine bg (fun _ => ?_) (fun h1 => ?_)
    · rw [lK (by simp; omega)]
      exact aA ⟨by simp; omega, hw.app (ml _ rfl)⟩
    · have h1' : f.c_ ≠ -1 := by simpa using h1
      obtain ⟨j, hj⟩ : ∃ j : Nat, f.c_ = j := ⟨f.c_.toNat, by omega⟩
      rw [hj]
      rcases hA.2 with ⟨c0, c1, c2⟩ | ⟨c0, c1, c2⟩
      · rw [if_neg (by omega), if_neg (by omega)] at hat
        have hlt : j < a.y_.length := by omega
        have hv := (c2 j (by omega) hlt hlt).1
        have hvn := hv.1.1
        rw [if_neg (by simp only [decide_eq_true_eq]; omega), lK (by simp; omega)]
        unfold dQ
        have hvl := hm.2.2.1
        rw [cN (by simp; omega)]
        simp only [Option.bind_some, List.nil_append]
        rw [bc hlt]
        simp only [bS]
        have := hv.1
        rw [lK (by simp; omega)]
        exact aA ⟨by simp; omega, (hw.app (ml _ rfl)).app (uF hv)⟩
      · rw [if_pos (by omega), if_pos (by omega)] at hat
        have hlt : j < a.t_.length := by omega
        have hi := hm.2.1.2 _ (List.getElem_mem hlt)
        have hl := nO hi
        rw [if_pos (by simp; omega), lK (by simp; omega), bc hlt]
        simp only [bS]
        rw [lF hi]
        simp only [bS]
        rw [lK (by simp; omega)]
        exact aA ⟨by simp; omega, (hw.app (ml _ rfl)).app (pI _)⟩
  · exact absurd h g
theorem wB {s : ae} {n : aR} (hn : lU n) (h : nv s n.n_) {w : List UInt8} (hw : w.length = 4) (hwn : NL w) : Tot (gO n s w) (fun t => t.length ≤ 1000 ∧ NL t) := by
  unfold gO kx
  have hst := hn.2.2.2.2.1.1
  have hc := h.1.2.1
  have hlen := h.2.1
  obtain ⟨h1, h2⟩ := uo (sep := [47]) hst (by simp)
  obtain ⟨j, ⟨hj, _⟩, _, j2⟩ := yr hst.1 (by omega)
  have hjc : j < s.k_.length := by omega
  have hcw := (h.1.2.2.1 j (Nat.zero_le _) hjc hjc).1
  have hcl := hcw.1
  have hsn : I64 n.v_ := hn.2.2.2.2.2.1
  have hsl := nO hsn
  have hjn : NL (Lib.join (n.n_.e_.map Lib.itoa) [47]) := uq (ml _ rfl) (fun x hx => by
    obtain ⟨y, _, rfl⟩ := List.mem_map.1 hx
    exact pI y)
  rw [h1, j2, lF hsn]
  simp only [bS]
  rw [bc hjc]
  have hcn := uF hcw
  have hdn := pI n.v_
  generalize s.k_[j] = c at *
  generalize Lib.itoa n.v_ = d at *
  generalize Lib.join (n.n_.e_.map Lib.itoa) [47] = u at *
  simp only [bS]
  have hL : (Lib.join [w, u, c, [115, 105, 110, 99, 101], d] [32]).length ≤ 1000 := by simp [Lib.join]; omega
  rw [tc (by simp) (by omega)]
  refine aA ⟨hL, uq (ml _ rfl) (fun x hx => ?_)⟩
  simp only [List.mem_cons, List.not_mem_nil, or_false] at hx
  rcases hx with rfl | rfl | rfl | rfl | rfl
  · exact hwn
  · exact hjn
  · exact hcn
  · exact ml _ rfl
  · exact hdn
theorem vx {s : ae} {n : aR} (hs : bp s) (hn : lU n) (hk4 : n.r_.length ≤ 4) : Tot (kl s n) (fun t => t.length ≤ 1000 ∧ NL t) := by
  have nilT : Tot (some ([] : List UInt8)) (fun t => t.length ≤ 1000 ∧ NL t) := aA ⟨by simp, fun x hx => by cases hx⟩
  unfold kl
  by_cases hL : n.s_ = true
  · rw [if_pos hL]
    rcases (rp hs hn.2.2.2.2.1).cases with ⟨e, hS⟩ | ⟨e, _⟩
    · rw [e]
      unfold nj
      simp only [sS]
      exact bg (fun _ => wB hn hS rfl (ml _ rfl)) (fun _ => wB hn hS rfl (ml _ rfl))
    · rw [e]
      simp only [sS]
      exact nilT
  · rw [if_neg hL]
    rcases (pg (f := n.l_) hs).cases with ⟨e, hF⟩ | ⟨e, _⟩
    · rw [e]
      simp only [sS]
      refine (vP hs hF).bind fun t ht => ?_
      have hm : I64 n.w_ := hn.2.2.2.1
      have hml := nO hm
      rw [lF hm]
      have hmn := pI n.w_
      generalize Lib.itoa n.w_ = d at *
      simp only [bS]
      refine cT (fun k (l : List (List UInt8)) i => dT n k i l) n.r_.length (fun i l => l.length = i + 3 ∧ ∀ x ∈ l, x.length ≤ 64 ∧ NL x) (fun k l h => ?_) (fun k l i hi h hk => ?_) (by omega) (s := [t, [109, 105, 115, 115], d]) ⟨rfl, fun x hx => ?_⟩
      · obtain ⟨hl, hx⟩ := h
        have hj := vR (sep := [32]) (fun x h => (hx x h).1)
        rw [hl] at hj
        simp only [List.length_singleton] at hj
        show Tot (dT n (k + 1) _ _) _
        rw [dT, if_neg (by simp), tc (by omega) (by omega)]
        exact aA ⟨by omega, uq (ml _ rfl) (fun x h => (hx x h).2)⟩
      · obtain ⟨hl, hx⟩ := h
        have hv : I64 n.r_[i] := hn.2.2.1.2 _ (List.getElem_mem hi)
        have hvl := nO hv
        show Tot (dT n (k + 1) _ _) _
        rw [dT, if_pos (by simp; omega), bc hi, aK (by omega)]
        simp only [bS]
        rw [lF hv]
        simp only [bS]
        rw [cN (by simp; omega)]
        refine hk _ ⟨by simp; omega, fun x hx2 => ?_⟩
        rcases List.mem_append.1 hx2 with hx2 | hx2
        · exact hx x hx2
        · rw [List.mem_singleton.1 hx2]; exact ⟨by omega, pI _⟩
      · simp only [List.mem_cons, List.not_mem_nil, or_false] at hx
        rcases hx with rfl | rfl | rfl
        · exact ⟨by omega, ht.2⟩
        · exact ⟨by simp, ml _ rfl⟩
        · exact ⟨by omega, hmn⟩
    · rw [e]
      simp only [sS]
      exact nilT
theorem By {l : List UInt8} {d : Nat} (hd : d ≤ 6) (h0 : 0 < l.length) (h1 : l.length ≤ 100) : qr l (d : Int) = some (Lib.repeatL l d) := by
  unfold qr
  rw [if_pos ⟨by omega, by omega, by omega, h0⟩]
  simp
theorem yw {l : List UInt8} (h : NL l) : ∀ d : Nat, NL (Lib.repeatL l d)
  | 0 => fun x hx => by simp [Lib.repeatL] at hx
  | d + 1 => h.app (yw h d)
theorem BP {s : ae} {t : aj} {i : Nat} (h : wI s t i) (hi : i < t.a_.length) : t.a_[i].r_.length ≤ 4 := by
  obtain ⟨⟨_, _, _, _, h1, h2⟩, _⟩ := h hi
  cases hL : t.a_[i].s_
  · have g := h2 hL
    have := vf g.1
    have := g.2.1
    omega
  · have := (h1 hL).2.1
    omega
def sD (t : List UInt8) : Nat := t.countP (fun x => x == 10)
theorem As {t : List UInt8} (h : NL t) : sD t = 0 := by
  unfold sD
  rw [List.countP_eq_zero]
  intro x hx
  simpa using h x hx
theorem vk {s : ae} {t : aj} (hs : bp s) (ht : go t) (hT : qu s t) : Tot (iF s t) (fun u => u.length ≤ 100000 ∧ sD u = t.a_.length ∧ ∃ v, u = v ++ [10]) := by
  unfold iF
  rcases (vq hs ht).cases with ⟨e, _⟩ | ⟨_, g⟩
  · rw [e]
    simp only [sS]
    have hn := hT.2.1
    refine cT (fun k (u : List UInt8) i => dV t s k i u) t.a_.length (fun i u => u.length ≤ 1100 * i ∧ sD u = i ∧ (0 < i → ∃ v, u = v ++ [10])) (fun k u h => ?_) (fun k u i hi h hk => ?_) (by omega) (s := []) ⟨by simp, rfl, fun g => absurd g (by omega)⟩
    · show Tot (dV t s (k + 1) _ _) _
      rw [dV, if_neg (by simp)]
      exact aA ⟨by omega, h.2.1, h.2.2 (by omega)⟩
    · obtain ⟨h1, h2, _⟩ := h
      show Tot (dV t s (k + 1) _ _) _
      have hN := hT.2.2.2 i hi
      have hdp := (hN hi).1.1
      have hsn := ht.1.2 _ (List.getElem_mem hi)
      obtain ⟨d, hd⟩ : ∃ d : Nat, t.a_[i].m_ = d := ⟨t.a_[i].m_.toNat, by omega⟩
      have a : I64 (i : Int) := by unfold I64; omega
      have hil := nO a
      have hrl := Lib.repeatL_length [32, 32] d
      simp only [List.length_cons, List.length_nil] at hrl
      rw [dV, if_pos (by simp; omega), bc hi]
      simp only [bS]
      rw [hd, By (by omega) (by simp) (by simp), lF a]
      simp only [bS]
      rw [lK (by omega)]
      simp only [bS]
      rw [lK (by simp; omega)]
      simp only [bS]
      refine (vx hs hsn (BP hN hi)).bind fun y hy => ?_
      have hn1 : NL (Lib.repeatL [32, 32] d ++ Lib.itoa (i : Int) ++ [58, 32] ++ y) := (((yw (ml _ rfl) d).app (pI _)).app (ml _ rfl)).app hy.2
      rw [lK (by simp; omega)]
      simp only [bS]
      have hyl := hy.1
      rw [lK (by simp; omega)]
      simp only [bS]
      rw [lK (by simp; omega), aK (by omega)]
      refine hk _ ⟨by simp; omega, ?_, fun _ => ⟨u ++ (Lib.repeatL [32, 32] d ++ Lib.itoa (i : Int) ++ [58, 32] ++ y), by simp⟩⟩
      have h0 := As hn1
      unfold sD at h0 h2 ⊢
      rw [List.countP_append, List.countP_append, h0, h2]
      rfl
  · exact absurd hT g
theorem wo {u : List UInt8} (hu : u.length ≤ 1000000) : Tot (mR u 10) (fun l => l.length = sD u + 1) := by
  unfold mR
  have key : ∀ (d k i : Nat) (l : List (List UInt8)) (st : Nat), u.length - i = d → d + 1 < k → i ≤ u.length → st ≤ i → l.length ≤ i → Tot (fq u 10 k l (st : Int) (i : Int)) (fun r => r.length = l.length + sD (u.drop i) + 1) := by
    intro d
    induction d with
    | zero =>
      intro k i l st hd hk hi hst hl
      obtain ⟨k, rfl⟩ : ∃ q, k = q + 2 := ⟨k - 2, by omega⟩
      have : i = u.length := by omega
      subst this
      rw [fq, if_pos (by simp)]
      simp only [beq_self_eq_true, if_true, Option.bind_some]
      refine (nr ⟨by omega, by omega, by omega⟩).bind fun s1 _ => ?_
      rw [cN (by simp; omega), aK (by omega)]
      simp only [bS]
      rw [fq, if_neg (by simp; omega), List.drop_length]
      exact aA (by simp [sD])
    | succ d ih =>
      intro k i l st hd hk hi hst hl
      obtain ⟨k, rfl⟩ : ∃ q, k = q + 1 := ⟨k - 1, by omega⟩
      have hlt : i < u.length := by omega
      rw [fq, if_pos (by simp; omega), if_neg (by simp; omega), bc hlt, List.drop_eq_getElem_cons hlt]
      simp only [bS]
      have hcount : sD (u[i] :: u.drop (i + 1)) = sD (u.drop (i + 1)) + if u[i] = 10 then 1 else 0 := by
        unfold sD
        rw [List.countP_cons]
        by_cases h : u[i] = 10
        · rw [if_pos h, if_pos (by simp [h])]
        · rw [if_neg h, if_neg (by simp [h])]
      have hiff : ((u[i].toNat : Int) == 10) = decide (u[i] = 10) := by
        by_cases h : u[i] = 10
        · rw [h]; rfl
        · have : u[i].toNat ≠ 10 := fun g => h (UInt8.toNat_inj.1 g)
          rw [decide_eq_false h]
          simp
          omega
      rw [hiff, hcount]
      by_cases h : u[i] = 10
      · rw [if_pos (by simpa using h), if_pos h]
        refine (nr ⟨by omega, by omega, by omega⟩).bind fun s1 _ => ?_
        rw [cN (by simp; omega), aK (by omega)]
        refine (ih k (i + 1) _ (i + 1) (by omega) (by omega) (by omega) (by omega) (by simp; omega)).mono fun r hr => ?_
        rw [hr]
        simp
        omega
      · rw [if_neg (by simpa using h), if_neg h, aK (by omega)]
        exact ih k (i + 1) l st (by omega) (by omega) (by omega) (by omega) (by omega)
  have := key u.length bh 0 [] 0 rfl (eY (by omega)) (Nat.zero_le _) (Nat.le_refl _) (by simp)
  simpa using this
end Go.Vk
/- Hexadecimal text round-trips. -/
namespace Go.Vk
def yf : List UInt8 := [48, 49, 50, 51, 52, 53, 54, 55, 56, 57, 97, 98, 99, 100, 101, 102]
def hx (q : Nat) : Int := ((yf.getD q 0).toNat : Int)
def oZ (b : List Int) : List Int := b.flatMap fun x => [hx (x.toNat / 16), hx (x.toNat % 16)]
theorem Bx : ∀ x : Fin 256, (idx yf (qz .u8 ((x.val : Nat) : Int) 4)).map (fun b => (b.toNat : Int)) = some (hx (x.val / 16)) := by decide +kernel
theorem BG : ∀ x : Fin 256, (idx yf (iI .and .u8 ((x.val : Nat) : Int) 15)).map (fun b => (b.toNat : Int)) = some (hx (x.val % 16)) := by decide +kernel
theorem yl : ∀ q : Fin 16, fO yf ((UInt8.ofNat (hx q.val).toNat).toNat : Int) = some ((q.val : Nat) : Int) := by decide +kernel
theorem Av : ∀ q r : Fin 16, IntKind.u8.wrap (iI .or .i64 (vn .i64 ((q.val : Nat) : Int) 4) ((r.val : Nat) : Int)) = ((q.val * 16 + r.val : Nat) : Int) := by decide +kernel
theorem vd {α β : Type} {o : Option α} {f : α → β} {y : β} (h : o.map f = some y) : ∃ a, o = some a ∧ f a = y := by
  cases o with
  | none => cases h
  | some a => exact ⟨a, rfl, Option.some.inj h⟩
theorem vm (b : List Int) : (oZ b).length = 2 * b.length := by
  induction b with
  | nil => rfl
  | cons x b ih =>
    unfold oZ at ih ⊢
    rw [List.flatMap_cons, List.length_append, ih]
    simp
    omega
theorem Ax : ∀ (b : List Int) (i : Nat) (h : i < b.length), (oZ b)[2 * i]? = some (hx (b[i].toNat / 16)) ∧ (oZ b)[2 * i + 1]? = some (hx (b[i].toNat % 16)) := by
  intro b
  induction b with
  | nil => intro i h; exact absurd h (by simp)
  | cons x b ih =>
    intro i h
    have e : oZ (x :: b) = hx (x.toNat / 16) :: hx (x.toNat % 16) :: oZ b := rfl
    cases i with
    | zero => rw [e]; exact ⟨rfl, rfl⟩
    | succ i =>
      obtain ⟨h1, h2⟩ := ih i (by simpa using h)
      rw [e, show 2 * (i + 1) = 2 * i + 1 + 1 by omega, show 2 * i + 1 + 1 + 1 = (2 * i + 1) + 1 + 1 by omega]
      exact ⟨h1, h2⟩
theorem wA {α : Type} {xs : List α} {m : Nat} {v : α} (h : xs[m]? = some v) : idx xs (m : Int) = some v := by
  obtain ⟨hl, rfl⟩ := List.getElem?_eq_some_iff.1 h
  exact bc hl
theorem rE {b : List Int} (hb : ∀ x ∈ b, 0 ≤ x ∧ x ≤ 255) (hn : b.length ≤ 1000) : lg b = some (hZ (oZ b)) := by
  unfold lg
  refine qD (Lp := fun k i => dK b k (oZ (b.take i)) (i : Int)) (n := b.length) (fun k => ?_) (fun k i hi => ?_) (by omega)
  · show dK b (k + 1) _ _ = _
    rw [dK, if_neg (by simp), List.take_length]
  · show dK b (k + 1) _ _ = dK b k _ _
    have hx1 := hb _ (List.getElem_mem hi)
    have hl := vm (b.take i)
    rw [List.length_take] at hl
    obtain ⟨n, hn1⟩ : ∃ n : Nat, b[i] = n := ⟨b[i].toNat, by omega⟩
    have hn2 : n < 256 := by omega
    obtain ⟨c1, e1, g1⟩ := vd (Bx ⟨n, hn2⟩)
    obtain ⟨c2, e2, g2⟩ := vd (BG ⟨n, hn2⟩)
    have e1 : idx ([48, 49, 50, 51, 52, 53, 54, 55, 56, 57, 97, 98, 99, 100, 101, 102] : List UInt8) (qz .u8 (n : Int) 4) = some c1 := e1
    have e2 : idx ([48, 49, 50, 51, 52, 53, 54, 55, 56, 57, 97, 98, 99, 100, 101, 102] : List UInt8) (iI .and .u8 (n : Int) 15) = some c2 := e2
    have g1 : (c1.toNat : Int) = hx (n / 16) := g1
    have g2 : (c2.toNat : Int) = hx (n % 16) := g2
    rw [dK, if_pos (by simp; omega), bc hi]
    simp only [bS]
    rw [hn1, e1]
    simp only [bS]
    rw [e2]
    simp only [bS]
    rw [cN (by rw [hl]; simp; omega), aK (by omega), g1, g2]
    have e : oZ (b.take (i + 1)) = oZ (b.take i) ++ [hx (n / 16), hx (n % 16)] := by
      rw [List.take_succ_eq_append_getElem hi]
      unfold oZ
      rw [List.flatMap_append, hn1]
      simp
    rw [e]
    rfl
theorem tO {b : List Int} (hb : ∀ x ∈ b, 0 ≤ x ∧ x ≤ 255) (hn : b.length ≤ 1000) : mN (hZ (oZ b)) = some (b, true) := by
  have hl : (hZ (oZ b)).length = 2 * b.length := by unfold hZ; rw [List.length_map, vm]
  unfold mN
  have hm : Int.tmod ((hZ (oZ b)).length : Int) 2 = 0 := by
    rw [hl, Int.tmod_eq_emod_of_nonneg (by omega)]
    omega
  rw [hm, if_neg (by simp)]
  refine qD (Lp := fun k i => eQ (hZ (oZ b)) k (b.take i) ((2 * i : Nat) : Int)) (n := b.length) (fun k => ?_) (fun k i hi => ?_) (by omega)
  · show eQ _ (k + 1) _ _ = _
    rw [eQ, if_neg (by rw [hl]; simp), List.take_length]
  · show eQ _ (k + 1) _ _ = eQ _ k _ _
    have hx1 := hb _ (List.getElem_mem hi)
    obtain ⟨n, hn1⟩ : ∃ n : Nat, b[i] = n := ⟨b[i].toNat, by omega⟩
    have hn2 : n < 256 := by omega
    obtain ⟨h1, h2⟩ := Ax b i hi
    rw [hn1, Int.toNat_natCast] at h1 h2
    have i1 : idx (hZ (oZ b)) ((2 * i : Nat) : Int) = some (UInt8.ofNat (hx (n / 16)).toNat) := wA (by unfold hZ; rw [List.getElem?_map, h1]; rfl)
    have i2 : idx (hZ (oZ b)) ((2 * i + 1 : Nat) : Int) = some (UInt8.ofNat (hx (n % 16)).toNat) := wA (by unfold hZ; rw [List.getElem?_map, h2]; rfl)
    have a1 := yl ⟨n / 16, by omega⟩
    have a2 := yl ⟨n % 16, by omega⟩
    have a3 := Av ⟨n / 16, by omega⟩ ⟨n % 16, by omega⟩
    unfold yf at a1 a2
    simp only at a1 a2 a3
    rw [eQ, if_pos (by rw [hl]; simp; omega), i1]
    simp only [bS]
    rw [a1]
    simp only [bS]
    rw [aK (by omega), i2]
    simp only [bS]
    rw [a2]
    simp only [bS]
    rw [if_neg (by simp; omega), a3, cN (by simp; omega), bu (by omega) (by omega)]
    simp only [bS]
    rw [show (n / 16 * 16 + n % 16 : Nat) = n by omega, List.take_succ_eq_append_getElem hi, hn1, show ((2 * i : Nat) : Int) + 2 = ((2 * (i + 1) : Nat) : Int) by omega]
end Go.Vk
/- FnTreeLines answers true. -/
namespace Go.Vk
theorem yz {l : List Int} {x : Int} (h : kn l) (hl : l.length ≤ 1000) (hx : V x) : kn (l ++ [x]) := ⟨by simp; omega, fun y hy => by
  rcases List.mem_append.1 hy with hy | hy
  · exact h.2 y hy
  · rw [List.mem_singleton.1 hy]; exact hx⟩
theorem vt {l : List (List UInt8)} {x : List UInt8} (h : nm l) (hl : l.length ≤ 1000) (hx : x.length ≤ 1048576) : nm (l ++ [x]) := ⟨by simp; omega, fun y hy => by
  rcases List.mem_append.1 hy with hy | hy
  · exact h.2 y hy
  · rw [List.mem_singleton.1 hy]; exact hx⟩
section
variable {p : List Int} (hp : p.length ≤ 1048576)
include hp
theorem uA {c : ao} (hc : Cur p c) {l : List (List UInt8)} (hl : 0 < l.length) (h8 : ∀ x ∈ l, x.length ≤ 1000) : TD p (jE p c l) (fun v => v.length ≤ 1048576) := by
  unfold jE
  refine (fB hp hc (l.length : Int)).bind fun y hy => ?_
  have : y.1 < (l.length : Int) := by rcases hy.2.2 with g | g <;> omega
  exact (gf ⟨hy.2.1, this⟩).bind fun v hv => aA ⟨hy.1, by have := h8 v hv.1; show v.length ≤ _; omega⟩
theorem ur {c : ao} (hc : Cur p c) {n : Nat} (_ : n ≤ 1000) : TD p (fh p c (n : Int)) (fun a => ln a ∧ a.t_.length ≤ 4 ∧ a.y_.length ≤ 4) := by
  unfold fh
  have hr : 0 ≤ Int.tmod (n : Int) 5 ∧ Int.tmod (n : Int) 5 < 5 := by
    rw [Int.tmod_eq_emod_of_nonneg (by omega)]
    omega
  refine (gf ⟨hr.1, by simpa using hr.2⟩).bind fun e he => ?_
  have he : e.length ≤ 1048576 := by
    have h := he.1
    simp only [List.mem_cons, List.not_mem_nil, or_false] at h
    rcases h with rfl | rfl | rfl | rfl | rfl <;> simp
  refine (ny hp hc 2).bind fun y hy => bg (fun _ => ?_) (fun _ => ?_)
  · refine (fB hp hy.1 3).bind fun y2 h2 => (ga hp h2.1 (by simp)).bind fun y3 h3 => ?_
    obtain ⟨m, hm⟩ : ∃ m : Nat, y2.1 = m := ⟨y2.1.toNat, by have := h2.2.1; omega⟩
    have hm2 : m ≤ 2 := by rcases h2.2.2 with g | g <;> omega
    refine cT (fun k (σ : Int × Int × List Int × Int) i => ck y2 p e k σ.1 σ.2.1 σ.2.2.1 σ.2.2.2 i) (1 + m) (fun i σ => Cur p ⟨σ.1, σ.2.1⟩ ∧ σ.2.2.1.length = i ∧ (∀ x ∈ σ.2.2.1, V x) ∧ V σ.2.2.2) (fun k σ h => ?_) (fun k σ i hi h hk => ?_) (by omega) (s := (y3.2.i_, y3.2.h_, [], y3.1)) ⟨h3.1, rfl, (fun x hx => by cases hx), ?_⟩
    · obtain ⟨g1, g2, g3, g4⟩ := h
      show Tot (ck _ _ _ (k + 1) _ _ _ _ _) _
      rw [ck, hm, bu (by omega) (by omega), if_neg (by simp)]
      exact aA ⟨g1, ⟨he, ⟨by show σ.2.2.1.length ≤ _; omega, g3⟩, by simp, fun x hx => by cases hx⟩, by show σ.2.2.1.length ≤ 4; omega, by simp⟩
    · obtain ⟨g1, g2, g3, g4⟩ := h
      show Tot (ck _ _ _ (k + 1) _ _ _ _ _) _
      rw [ck, hm, bu (n := 1 + (m : Int)) (by omega) (by omega), if_pos (by simp; omega), cN (by simp; omega)]
      simp only [bS]
      refine (fB hp g1 6).bind fun y4 h4 => ?_
      rw [aK (by omega)]
      refine hk (_, _, _, _) ⟨h4.1, by simp; omega, fun x hx => ?_, oU _⟩
      rcases List.mem_append.1 hx with hx | hx
      · exact g3 x hx
      · rw [List.mem_singleton.1 hx]; exact g4
    · have h := h3.2
      simp only [List.mem_cons, List.not_mem_nil, or_false] at h
      exact dP (by show -1000000000000 ≤ y3.1 ∧ y3.1 ≤ _; omega)
  · refine (fB hp hy.1 3).bind fun y2 h2 => ?_
    obtain ⟨m, hm⟩ : ∃ m : Nat, y2.1 = m := ⟨y2.1.toNat, by have := h2.2.1; omega⟩
    have hm2 : m ≤ 2 := by rcases h2.2.2 with g | g <;> omega
    refine cT (fun k (l : List (List UInt8)) i => cl y2 e k i l) (2 + m) (fun i l => l.length = i ∧ ∀ x ∈ l, x.length ≤ 1048576) (fun k l h => ?_) (fun k l i hi h hk => ?_) (by omega) (s := []) ⟨rfl, fun x hx => by cases hx⟩
    · show Tot (cl _ _ (k + 1) _ _) _
      rw [cl, hm, bu (by omega) (by omega), if_neg (by simp)]
      exact aA ⟨h2.1, ⟨he, ⟨by simp, fun x hx => by cases hx⟩, by show l.length ≤ _; omega, h.2⟩, by simp, by show l.length ≤ 4; omega⟩
    · show Tot (cl _ _ (k + 1) _ _) _
      rw [cl, hm, bu (n := 2 + (m : Int)) (by omega) (by omega), if_pos (by simp; omega)]
      refine (gf ⟨by omega, by simp; omega⟩).bind fun v hv => ?_
      rw [cN (by simp; omega), aK (by omega)]
      refine hk _ ⟨by simp; omega, fun x hx => ?_⟩
      rcases List.mem_append.1 hx with hx | hx
      · exact h.2 x hx
      · rw [List.mem_singleton.1 hx]
        have h := hv.1
        simp only [List.mem_cons, List.not_mem_nil, or_false] at h
        rcases h with rfl | rfl | rfl | rfl <;> simp
theorem wn {c : ao} (hc : Cur p c) : TD p (jn p c) ln := by
  unfold jn
  refine (fB hp hc 5).bind fun y hy => ?_
  obtain ⟨n, hn⟩ : ∃ n : Nat, y.1 = n := ⟨y.1.toNat, by have := hy.2.1; omega⟩
  have hn5 : n ≤ 1000 := by rcases hy.2.2 with g | g <;> omega
  rw [hn]
  refine (ur hp hy.1 hn5).bind fun a ha => (fB hp ha.1 14).bind fun o ho => ?_
  obtain ⟨⟨a1, a2, a3⟩, l2, l3⟩ := ha.2
  refine bg (fun _ => (uA hp ho.1 (by simp) (fun x hx => ?_)).bind fun v hv => aA ⟨hv.1, hv.2, a2, a3⟩) (fun _ => ?_)
  · simp only [List.mem_cons, List.not_mem_nil, or_false] at hx
    rcases hx with rfl | rfl | rfl | rfl <;> simp
  refine bg (fun _ => (ga hp ho.1 (by simp)).bind fun v hv => ?_) (fun _ => ?_)
  · rw [cN (by simp; omega)]
    refine aA ⟨hv.1, a1, yz a2 (by omega) (oM (fun y hy => ?_) hv.2), a3⟩
    simp only [List.mem_cons, List.not_mem_nil, or_false] at hy
    unfold V; omega
  refine bg (fun _ => (uA hp ho.1 (by simp) (fun x hx => ?_)).bind fun v hv => ?_) (fun _ => ?_)
  · simp only [List.mem_cons, List.not_mem_nil, or_false] at hx
    rcases hx with rfl | rfl | rfl <;> simp
  · rw [cN (by simp; omega)]
    exact aA ⟨hv.1, a1, a2, vt a3 (by omega) hv.2⟩
  refine bg (fun _ => aA ⟨ho.1, a1, ⟨by simp, fun x hx => by cases hx⟩, a3⟩) (fun _ => ?_)
  refine bg (fun _ => aA ⟨ho.1, a1, ⟨by simp, fun x hx => ?_⟩, by simp, fun x hx => by cases hx⟩) (fun _ => aA ⟨ho.1, a1, a2, a3⟩)
  rw [List.mem_singleton.1 hx]
  omega
theorem Ak {c : ao} (hc : Cur p c) : TD p (mc p c) rm := by
  unfold mc
  refine (vH hp hc).bind fun s hs => (fB hp hs.1 12).bind fun o ho => ?_
  obtain ⟨⟨⟨b1, b2⟩, b3, b4⟩, h1, h2, h3, h4⟩ := hs.2
  refine bg (fun _ => (wn hp ho.1).bind fun a ha => ?_) (fun _ => ?_)
  · rw [cN (by simp; omega)]
    refine aA ⟨ha.1, ⟨⟨by simp; omega, fun x hx => ?_⟩, b2⟩, by simp; omega, b4⟩
    have hx : x ∈ s.1.b_ ++ [a.1] := hx
    rcases List.mem_append.1 hx with hx | hx
    · exact b1.2 x hx
    · rw [List.mem_singleton.1 hx]; exact ha.2
  refine bg (fun _ => (uA hp ho.1 (by simp) (fun x hx => ?_)).bind fun v hv => ?_) (fun _ => ?_)
  · simp only [List.mem_cons, List.not_mem_nil, or_false] at hx
    rcases hx with rfl | rfl | rfl <;> simp
  · rw [cN (by simp; omega)]
    exact aA ⟨hv.1, ⟨b1, vt b2 (by omega) hv.2⟩, b3, by simp; omega⟩
  refine bg (fun _ => aA ⟨ho.1, ⟨⟨by simp, fun x hx => by cases hx⟩, b2⟩, by simp, b4⟩) (fun _ => ?_)
  refine bg (fun _ => (nr ⟨by omega, by omega, by omega⟩).bind fun l hl => ?_) (fun _ => aA ⟨ho.1, ⟨b1, b2⟩, b3, b4⟩)
  refine aA ⟨ho.1, ⟨b1, ?_, fun x hx => ?_⟩, b3, ?_⟩
  · show l.length ≤ _
    rw [hl]
    simp only [List.length_take, List.length_drop]
    omega
  · have hx : x ∈ l := hx
    rw [hl] at hx
    exact b2.2 x (List.mem_of_mem_drop (List.mem_of_mem_take hx))
  · show l.length ≤ _
    rw [hl]
    simp only [List.length_take, List.length_drop]
    omega
theorem uL : Tot (iv p) (fun y => bp y.1 ∧ go y.2) := by
  unfold iv kw
  refine Tot.bind (P := fun y => bp y.1 ∧ go y.2) ?_ (fun y hy => aA hy)
  refine (AG hp).bind fun c hc => ?_
  refine (vH hp hc).bind fun s hs => (ny hp hs.1 12).bind fun o ho => bg (fun _ => ?_) (fun _ => ?_)
  · exact (Ak hp ho.1).bind fun s2 h2 => (uU hp h2.1 h2.2).bind fun t ht => aA ⟨h2.2.1, ht.2.sml (by omega)⟩
  · exact (uU hp ho.1 hs.2.1).bind fun t ht => aA ⟨hs.2.1.1, ht.2.sml (by omega)⟩
theorem xB : Tot (iZ p) (fun b => b.length ≤ 1000 ∧ ∀ x ∈ b, 0 ≤ x ∧ x ≤ 255) := by
  unfold iZ mv
  refine Tot.bind (P := fun (b : List Int) => b.length ≤ 1000 ∧ ∀ x ∈ b, 0 ≤ x ∧ x ≤ 255) ?_ (fun y hy => aA hy)
  refine (AG hp).bind fun c hc => ?_
  refine (ga hp hc (by simp)).bind fun v hv => ?_
  obtain ⟨m, hm, hm2⟩ : ∃ m : Nat, v.1 = m ∧ m ≤ 40 := by
    have h := hv.2
    simp only [List.mem_cons, List.not_mem_nil, or_false] at h
    exact ⟨v.1.toNat, by omega, by omega⟩
  rw [hm]
  exact (tK hp hv.1 (n := m) (by omega)).bind fun b hb => aA ⟨by have := hb.2.1; show b.1.length ≤ _; omega, hb.2.2⟩
end
theorem rQ {p : List Int} : jI p = some true := by
  unfold jI qp
  simp only [bS]
  by_cases hp : p.length ≤ 1048576
  · rw [if_neg (by simp; omega)]
    obtain ⟨⟨s, t⟩, e1, hs, ht⟩ := uL hp
    obtain ⟨b, e2, hb1, hb2⟩ := xB hp
    have hs : bp s := hs
    have ht : go t := ht
    rw [e1, e2]
    simp only [bS]
    rcases (nP hs ht).cases with ⟨eT, hT⟩ | ⟨eT, hT⟩
    · obtain ⟨u, eu, hu1, hu2, v, hv⟩ := vk hs ht hT
      rw [eu, rE hb2 hb1]
      simp only [bS]
      rw [tO hb2 hb1]
      simp only [bS]
      rw [if_neg (by simp), eT]
      simp only [sS]
      obtain ⟨l, el, hl⟩ := wo (u := u) (by omega)
      have hn := hT.2.1
      have hlen : u.length = v.length + 1 := by rw [hv]; simp
      rw [el]
      simp only [bS]
      rw [aK (by omega), hl, hu2, if_pos (by simp; omega), hlen, bu (by omega) (by omega), show ((v.length + 1 : Nat) : Int) - 1 = (v.length : Int) by omega, hv, bc (by simp)]
      simp
    · have : iF s t = some [] := by
        unfold iF
        rcases (vq hs ht).cases with ⟨_, g⟩ | ⟨e, _⟩
        · exact absurd g hT
        · rw [e]; rfl
      rw [this, rE hb2 hb1]
      simp only [bS]
      rw [tO hb2 hb1]
      simp only [bS]
      rw [if_neg (by simp), eT]
      simp
  · rw [if_pos (by simp; omega)]
end Go.Vk
