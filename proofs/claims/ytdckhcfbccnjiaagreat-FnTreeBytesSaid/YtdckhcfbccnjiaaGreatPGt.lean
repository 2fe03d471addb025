/- Memory and learning: they always answer, and trees stay yZ. -/
import Derived.Test.YtdckhcfbccnjiaaGreatPBn
import Derived.Test.YtdckhcfbccnjiaaGreatRX
import Derived.Test.YtdckhcfbccnjiaaGreatVkQ
namespace Go.Vk
theorem zU {n : aG} (h : ot n) : T (mc n) := by
  have h1 := h.2.2.2.2.1.2.1
  unfold mc
  refine bl (fun _ => bw _) (fun _ => ?_)
  refine cD (go n) n.m_.b_.length (fun _ _ => True) (fun k s _ => ?_) (fun k s i hi _ hk => ?_) (by omega) trivial
  · rw [go, if_neg (by simp)]
    exact bw _
  · rw [go, if_pos (by simp; omega), bc hi, aI (by omega)]
    exact hk _ trivial
theorem tD {t : ai} (h : kv t) : T (jW t) := by
  have h1 := h.1.1
  unfold jW
  refine cD (fi t) t.a_.length (fun _ _ => True) (fun k s _ => ?_) (fun k s i hi _ hk => ?_) (by omega) trivial
  · rw [fi, if_neg (by simp)]
    exact bw _
  · rw [fi, if_pos (by simp; omega), bc hi, aI (by omega)]
    exact (zU (h.1.2 _ (List.getElem_mem hi))).bind fun _ _ => hk _ trivial
theorem zW {t : ai} (h : kv t) : T (mH t) := by
  have h1 := h.1.1
  unfold mH
  refine cD (fB t) t.a_.length (fun _ _ => True) (fun k s _ => ?_) (fun k s i hi _ hk => ?_) (by omega) trivial
  · rw [fB, if_neg (by simp)]
    exact bw _
  · rw [fB, if_pos (by simp; omega), bc hi, aI (by omega)]
    exact Tot.bind (P := fun _ => True) (bl (fun _ => bw _) (fun _ => bw _)) (fun _ _ => bl (fun _ => hk _ trivial) (fun _ => hk _ trivial))
theorem Ee {s : ae} {r : cq} {t : ai} (hs : bK s) (h : kv t) : Tot (pt s r t) (fun b => b = true → vf s t) := by
  unfold pt
  rcases (qK hs h).cases with ⟨e, g⟩ | ⟨e, _⟩
  · rw [e]
    simp only [sS]
    exact Tot.bind (P := fun _ => True) ((vw r).t.bind fun _ _ => bw _) (fun _ _ => Tot.bind (P := fun _ => True) (bl (fun _ => (zW h).bind fun _ _ => bw _) (fun _ => bw _)) (fun _ _ => Tot.bind (P := fun _ => True) (bl (fun _ => (tD h).bind fun _ _ => bw _) (fun _ => bw _)) (fun _ _ => aD fun _ => g)))
  · rw [e]
    simp only [sS]
    exact aD fun h => by cases h
def Act (t : ai) (x : Int) : Prop := ∃ j : Nat, ∃ h : j < t.a_.length, x = j ∧ 0 < t.a_[j].m_.b_.length
theorem Cq {t : ai} (h : kv t) : Tot (jv t) (fun l => l.length ≤ t.a_.length ∧ ∀ x ∈ l, Act t x) := by
  have h1 := h.1.1
  unfold jv
  refine cD (dv t) t.a_.length (fun i l => l.length ≤ i ∧ ∀ x ∈ l, Act t x) (fun k l hl => ?_) (fun k l i hi hl hk => ?_) (by omega) ⟨by simp, fun x hx => by cases hx⟩
  · rw [dv, if_neg (by simp)]
    exact aD hl
  · obtain ⟨l1, l2⟩ := hl
    rw [dv, if_pos (by simp; omega), bc hi, aI (by omega)]
    simp only [bS]
    refine Tot.bind (P := fun u => u = true → 0 < t.a_[i].m_.b_.length) (bl (fun _ => aD (fun h => by simpa using h)) (fun _ => aD (fun h => by cases h))) (fun u hu => bl (fun g => ?_) (fun _ => hk _ ⟨by omega, l2⟩))
    refine (lf (by simp; omega)).bind fun l3 hl3 => ?_
    subst hl3
    refine hk _ ⟨by simp; omega, fun x hx => ?_⟩
    rcases List.mem_append.1 hx with hx | hx
    · exact l2 x hx
    · exact ⟨i, hi, List.mem_singleton.1 hx, hu g⟩
theorem Al {s : ae} {t : ai} (hs : bK s) (h : kv t) : Tot (lc s t) (fun v => v = -1 ∨ Act t v) := by
  have h1 := h.1.1
  unfold lc
  rcases (qK hs h).cases with ⟨e, _⟩ | ⟨e, _⟩
  · rw [e]
    simp only [sS]
    refine (Cq h).bind fun l hl => ?_
    refine cD (fw l t s) l.length (fun _ v => v = -1 ∨ Act t v) (fun k v hv => ?_) (fun k v i hi hv hk => ?_) (by omega) (.inl rfl)
    · rw [fw, if_neg (by simp)]
      exact aD hv
    · obtain ⟨j, hj, ej, hc⟩ := hl.2 _ (List.getElem_mem hi)
      rw [fw, if_pos (by simp; omega), bc hi, aI (by omega)]
      simp only [bS]
      refine Tot.bind (P := fun _ => True) (bl (fun _ => bw _) (fun g => ?_)) (fun u _ => bl (fun _ => hk _ (.inr ⟨j, hj, ej, hc⟩)) (fun _ => hk _ hv))
      rcases hv with rfl | ⟨j2, hj2, rfl, _⟩
      · exact absurd (by simp) g
      · rw [ej, bc hj, bc hj2]
        simp only [bS]
        exact (wn hs (h.1.2 _ (List.getElem_mem hj)).2.2.2.2.1).bind fun _ _ => (wn hs (h.1.2 _ (List.getElem_mem hj2)).2.2.2.2.1).bind fun _ _ => bw _
  · rw [e]
    simp only [sS]
    exact aD (.inl rfl)
def wV (n : aG) : Nat := if 0 < n.m_.b_.length then 1 else 0
theorem CY : ∀ (l : List aG) (i : Nat) (h : i < l.length) (v : aG), wV l[i] = 1 → wV v = 0 → ((l.set i v).map wV).sum + 1 = (l.map wV).sum := by
  intro l
  induction l with
  | nil => intro i h; exact absurd h (by simp)
  | cons x l ih =>
    intro i h v h1 h0
    cases i with
    | zero =>
      have h1 : wV x = 1 := h1
      simp only [List.set_cons_zero, List.map_cons, List.sum_cons, h0, h1]
      omega
    | succ i =>
      have := ih i (by simpa using h) v h1 h0
      simp only [List.set_cons_succ, List.map_cons, List.sum_cons]
      omega
theorem zI {s : ae} {t : ai} (hs : bK s) (ht : fP 0 t) (b : Int) : Tot (mD s t b) (fun y => fP 0 y.1) := by
  have hm := ht.sml (by omega)
  unfold mD
  rw [oL hm]
  simp only [bS]
  rcases (qK hs hm).cases with ⟨e, _⟩ | ⟨e, _⟩
  · rw [e]
    simp only [sS]
    have key : ∀ (d k : Nat) (l : List aG) (g : List Int), (l.map wV).sum < d → d ≤ k → l.length ≤ 40 → (∀ n ∈ l, oQ 0 n) → g.length + d ≤ 1000 → Tot (ik t b s k l g) (fun y => fP 0 y.1) := by
      intro d
      induction d with
      | zero => intro k l g h; exact absurd h (by omega)
      | succ d ih =>
        intro k l g h hk hl hn hg
        obtain ⟨k, rfl⟩ : ∃ q, k = q + 1 := ⟨k - 1, by omega⟩
        have hB : fP 0 ⟨l, t.g_⟩ := ⟨⟨hl, hn⟩, ht.2⟩
        have hM := hB.sml (by omega)
        rw [ik]
        refine (tD hM).bind fun u _ => ?_
        obtain ⟨v, ev, hv⟩ := Al hs hM
        rw [ev]
        simp only [bS]
        refine Tot.bind (P := fun u => u = true → 0 ≤ v) (bl (fun _ => aD (fun h => by simpa using h)) (fun _ => aD (fun h => by cases h))) (fun u hu => bl (fun gu => ?_) (fun _ => aD hB))
        have h0 := hu gu
        rcases hv with rfl | ⟨j, hj, rfl, hc⟩
        · omega
        · have hj : j < l.length := hj
          have hc : 0 < l[j].m_.b_.length := hc
          have hN := hn _ (List.getElem_mem hj)
          rw [bc hj]
          simp only [bS]
          obtain ⟨g1, g2, g3, g4, g5, g6, g7, g8, g9⟩ := hN
          rw [wN (by have := g4.1.1; omega)]
          simp only [bS]
          rw [bL (by simp; omega)]
          simp only [bS]
          have z : V 0 := ed ⟨by omega, by omega⟩
          have hN' : oQ 0 { l[j] with m_ := ⟨l[j].m_.d_, []⟩, v_ := 0 } := ⟨g1, g2, g3, ⟨g4.1, by simp, fun x hx => by cases hx⟩, z, g6, g7, g8, g9⟩
          have hset := CY l j hj { l[j] with m_ := ⟨l[j].m_.d_, []⟩, v_ := 0 } (by unfold wV; rw [if_pos hc]) rfl
          refine ih k _ _ ?_ (by omega) (by rw [List.length_set]; exact hl) (fP.setN ⟨hl, hn⟩ hN' z _).1.2 (by simp; omega)
          exact Nat.le_trans (Nat.le_of_eq hset) (by omega)
    have hsum := rr (f := wV) (b := 1) (l := t.a_) (fun x _ => by unfold wV; split <;> omega)
    have := ht.1.1
    exact key 41 aY t.a_ [] (by omega) (Nat.le_of_lt (dl (by omega))) ht.1.1 ht.1.2 (by simp)
  · rw [e]
    simp only [sS]
    exact aD ht
theorem Cy {s : ae} {t : ai} {e : bB} (hs : bK s) (hT : vf s t) (hE : ExP s e) : ∀ (d i : Nat), i < t.a_.length → mx s t e d i ≠ [] ∧ ∀ x ∈ mx s t e d i, x < t.a_.length := by
  intro d
  induction d with
  | zero =>
    intro i hi
    exact ⟨by simp [mx], fun x hx => by rw [List.mem_singleton.1 hx]; exact hi⟩
  | succ d ih =>
    intro i hi
    unfold mx
    split
    · exact ⟨by simp, fun x hx => by rw [List.mem_singleton.1 hx]; exact hi⟩
    · rename_i hL
      rw [ta hi] at hL
      obtain ⟨_, _, hn, _⟩ := BF hs hT hE hi (by simpa using hL)
      refine ⟨by simp, fun x hx => ?_⟩
      rcases List.mem_cons.1 hx with rfl | hx
      · exact hi
      · exact (ih _ hn).2 x hx
theorem CX {s : ae} {t : ai} {e : bB} (hs : bK s) (ht : kv t) (hT : vf s t) (hE : ExP s e) : Tot (ms s t e) (fun v => ∃ j : Nat, v = j ∧ j < t.a_.length) := by
  unfold ms oR
  rcases (qK hs ht).cases with ⟨e1, _⟩ | ⟨_, g⟩
  · rcases (wT (mL hs)).cases with ⟨e2, _⟩ | ⟨_, g⟩
    · rw [e1, e2, (Fc hs hT hE).1]
      simp only [sS]
      have hlen := hT.2.1
      obtain ⟨p1, p2⟩ := Cy hs hT hE 32 0 (by omega)
      have hp := ye (s := s) (t := t) (e := e) 32 0
      have hl : (vM (mx s t e 32 0)).length = (mx s t e 32 0).length := by simp [vM]
      have h0 : (mx s t e 32 0).length ≠ 0 := fun h => p1 (List.length_eq_zero_iff.1 h)
      rw [if_neg (by rw [beq_iff_eq]; omega), bg (by omega) (by omega)]
      refine (iz ⟨by omega, by omega⟩).bind fun v hv => aD ?_
      obtain ⟨x, hx, rfl⟩ := List.mem_map.1 hv.1
      exact ⟨x, rfl, p2 x hx⟩
    · exact absurd hE g
  · exact absurd hT g
theorem CJ {s : ae} {r : cq} {t : ai} {e : bB} {w k : Int} {tape : bf} (hs : bK s) (ht : fP 0 t) (hb : tape.r_.length ≤ 1048576) : Tot (kB s r t e w tape k) (fun y => fP 0 y.1) := by
  have hm := ht.sml (by omega)
  unfold kB
  rw [oL hm, lM hb]
  refine jz (Ee hs hm) (by simp only [sS]; exact aD ht) (fun hT => ?_)
  simp only [sS]
  refine jT (wT (mL hs)).t (by simp only [sS]; exact aD ht) (fun hE => ?_)
  simp only [sS]
  refine Tot.bind (P := fun _ => True) (bl (fun _ => bw _) (fun _ => cR.t.bind fun _ _ => bw _)) (fun u _ => ?_)
  refine Tot.bind (P := fun _ => True) (bl (fun _ => bw _) (fun _ => (yc _).t.bind fun _ _ => bw _)) (fun u2 _ => ?_)
  refine Tot.bind (P := fun u => u = false → 1 ≤ k ∧ k ≤ s.f_.length) (bl (fun _ => aD (fun h => by cases h)) (fun _ => cR.t.bind fun b hb => aD (fun g => hb (by simpa using g)))) (fun u3 hk => bl (fun _ => aD ht) (fun g => ?_))
  have hk := hk (by simpa using g)
  obtain ⟨k, rfl⟩ : ∃ q : Nat, k = q := ⟨k.toNat, by omega⟩
  refine (CX hs hm hT hE).bind fun v hv => ?_
  obtain ⟨j, rfl, hj⟩ := hv
  have hn := ht.1.2 _ (List.getElem_mem hj)
  rw [bc hj]
  simp only [bS]
  refine Tot.bind (P := fun _ => True) (bl (fun _ => bw _) (fun _ => (xh hs (hn.2.2.2.1.sml (by omega))).bind fun _ _ => bw _)) (fun u _ => bl (fun _ => aD ht) (fun _ => ?_))
  rw [tE (hn.sml (by omega))]
  simp only [bS]
  refine (uR hs hn.2.2.2.1).bind fun y hy => ?_
  have key : ∀ (c : Int) (q : Bool), V c → Tot (fZ t (j : Int) tape t.a_[j] y t s r (k : Int) c q) (fun y => fP 0 y.1) := by
    intro c q hc
    obtain ⟨g1, g2, g3, g4, g5, g6, g7, g8, g9⟩ := hn
    have hN : oQ 0 { t.a_[j] with m_ := y.1, v_ := c } := ⟨g1, g2, g3, hy, hc, g6, g7, g8, g9⟩
    have hB : fP 0 ⟨t.a_.set (j : Int).toNat { t.a_[j] with m_ := y.1, v_ := c }, IntKind.i64.wrap (t.g_ + 1)⟩ := fP.setN ht.1 hN (rJ _) _
    unfold fZ
    rw [bc hj, lM hb]
    simp only [bS]
    refine bl (fun _ => aD hB) (fun _ => (CL hs (hN.sml (by omega))).bind fun f _ => ?_)
    obtain ⟨n, eB, hnb⟩ := Bu hs f.1
    rw [eB]
    simp only [bS]
    refine Tot.bind (P := fun _ => True) (bl (fun _ => bw _) (fun _ => bw _)) (fun u _ => bl (fun _ => aD hB) (fun _ => ?_))
    refine cD (fun k2 (σ : List (List Int) × List Int × Int) i => dM s f (k : Int) t tape t (j : Int) t.a_[j] y c r k2 σ.1 σ.2.1 σ.2.2 i) n (fun i σ => σ.1.length = i ∧ (∀ x ∈ σ.1, qg x) ∧ σ.2.1.length ≤ 1048576) (fun k2 σ h => ?_) (fun k2 σ i hi h hk2 => ?_) (by omega) (s := ([], tape.r_, tape.c_)) ⟨rfl, (fun x hx => by cases hx), hb⟩
    · obtain ⟨h1, h2, h3⟩ := h
      show Tot (dM _ _ _ _ _ _ _ _ _ _ _ (k2 + 1) _ _ _ _) _
      rw [dM, eB]
      simp only [bS]
      rw [if_neg (by simp)]
      exact (Cx hs hB (by omega) h2).bind fun y2 h2 => (zI hs h2 _).bind fun y3 h3 => aD h3
    · obtain ⟨h1, h2, h3⟩ := h
      show Tot (dM _ _ _ _ _ _ _ _ _ _ _ (k2 + 1) _ _ _ _) _
      rw [dM, eB]
      simp only [bS]
      rw [if_pos (by simp; omega), oL hm, lM hb]
      have hS := hT.1.1
      refine (Ag (t := ⟨σ.2.1, σ.2.2⟩) (n := s.f_.length) (k := k) h3 (by omega) (by omega)).bind fun y4 hy4 => bl (fun _ => aD ht) (fun _ => ?_)
      refine (lf (by simp; omega)).bind fun l3 hl3 => ?_
      subst hl3
      rw [aI (by omega)]
      refine hk2 (_, _, _) ⟨by simp; omega, fun x hx => ?_, hy4.1⟩
      rcases List.mem_append.1 hx with hx | hx
      · exact h2 x hx
      · rw [List.mem_singleton.1 hx]; exact hy4.2
  exact bl (fun _ => bl (fun _ => key _ _ (ed ⟨by omega, by omega⟩)) (fun _ => key _ _ (rJ _))) (fun _ => key _ _ hn.2.2.2.2.1)
end Go.Vk
/- Draws: they always answer. -/
namespace Go.Vk
def Cur (p : List Int) (c : ak) : Prop := 0 ≤ c.i_ ∧ c.i_ ≤ p.length
abbrev TD {α : Type} (p : List Int) (o : Option (α × ak)) (Q : α → Prop) : Prop := Tot o (fun y => Cur p y.2 ∧ Q y.1)
theorem DG {p : List Int} (hp : p.length ≤ 1048576) : Tot (mV p) (Cur p) := by
  unfold mV
  have key : ∀ (d k i : Nat) (h : Int), p.length - i = d → d < k → i ≤ p.length → Tot (iH p k h (i : Int)) (Cur p) := by
    intro d
    induction d with
    | zero =>
      intro k i h hd hk hi
      obtain ⟨k, rfl⟩ : ∃ q, k = q + 1 := ⟨k - 1, by omega⟩
      rw [iH, if_neg (by simp; omega)]
      exact aD ⟨by show (0 : Int) ≤ 0; omega, by show (0 : Int) ≤ p.length; omega⟩
    | succ d ih =>
      intro k i h hd hk hi
      obtain ⟨k, rfl⟩ : ∃ q, k = q + 1 := ⟨k - 1, by omega⟩
      rw [iH]
      refine bl (fun _ => ?_) (fun _ => aD ⟨by show (0 : Int) ≤ 0; omega, by show (0 : Int) ≤ p.length; omega⟩)
      rw [bc (show i < p.length by omega), aI (by omega)]
      exact ih k (i + 1) _ (by omega) (by omega) (by omega)
  exact key p.length aY 0 _ rfl (dl (by omega)) (Nat.zero_le _)
section
variable {p : List Int} (hp : p.length ≤ 1048576)
include hp
theorem sF {c : ak} (hc : Cur p c) : TD p (iJ p c) (fun v => 0 ≤ v ∧ v ≤ 255) := by
  obtain ⟨h0, h1⟩ := hc
  unfold iJ
  refine bl (fun h => ?_) (fun _ => aD ⟨⟨h0, h1⟩, BK _⟩)
  have h : c.i_ < p.length := by simpa using h
  refine (iz ⟨h0, h⟩).bind fun v _ => aD ⟨⟨?_, ?_⟩, BK _⟩
  · show 0 ≤ IntKind.i64.wrap (c.i_ + 1)
    rw [bg (by omega) (by omega)]; omega
  · show IntKind.i64.wrap (c.i_ + 1) ≤ _
    rw [bg (by omega) (by omega)]; omega
theorem gQ {c : ak} (hc : Cur p c) (n : Int) : TD p (cj p c n) (fun v => 0 ≤ v ∧ (v < n ∨ v = 0)) := by
  unfold cj
  refine bl (fun _ => aD ⟨hc, by omega, .inr rfl⟩) (fun h => ?_)
  have h : 0 < n := by simpa using h
  refine bl (fun _ => (sF hp hc).bind fun y hy => (zr hy.2.1 h).bind fun x hx => aD ⟨hy.1, hx.1, .inl hx.2⟩) (fun _ => ?_)
  refine (sF hp hc).bind fun y1 h1 => (sF hp h1.1).bind fun y2 h2 => (sF hp h2.1).bind fun y3 h3 => (sF hp h3.1).bind fun y4 h4 => ?_
  obtain ⟨_, a1, b1⟩ := h1
  obtain ⟨_, a2, b2⟩ := h2
  obtain ⟨_, a3, b3⟩ := h3
  obtain ⟨c4, a4, b4⟩ := h4
  have ha : 0 ≤ y1.1 * 16777216 + y2.1 * 65536 + y3.1 * 256 + y4.1 := by omega
  rw [bg (n := y1.1 * 16777216) (by omega) (by omega), bg (n := y2.1 * 65536) (by omega) (by omega), bg (n := y1.1 * 16777216 + y2.1 * 65536) (by omega) (by omega), bg (n := y3.1 * 256) (by omega) (by omega), bg (n := y1.1 * 16777216 + y2.1 * 65536 + y3.1 * 256) (by omega) (by omega), bg (n := y1.1 * 16777216 + y2.1 * 65536 + y3.1 * 256 + y4.1) (by omega) (by omega)]
  exact (zr ha h).bind fun x hx => aD ⟨c4, hx.1, .inl hx.2⟩
theorem mT {c : ak} (hc : Cur p c) (n : Int) : TD p (dS p c n) (fun _ => True) := by
  unfold dS
  exact (gQ hp hc n).bind fun y hy => aD ⟨hy.1, trivial⟩
theorem fX {c : ak} (hc : Cur p c) {l : List Int} (hl : 0 < l.length) : TD p (bA p c l) (fun v => v ∈ l) := by
  unfold bA
  refine (gQ hp hc (l.length : Int)).bind fun y hy => ?_
  have : y.1 < (l.length : Int) := by rcases hy.2.2 with g | g <;> omega
  exact (iz ⟨hy.2.1, this⟩).bind fun v hv => aD ⟨hy.1, hv.1⟩
theorem xU {c : ak} (hc : Cur p c) {n : Nat} (_ : n ≤ 1000) : TD p (jR p c (n : Int)) oy := by
  unfold jR
  have hr : 0 ≤ Int.tmod (n : Int) 5 ∧ Int.tmod (n : Int) 5 < 5 := by
    rw [Int.tmod_eq_emod_of_nonneg (by omega)]
    omega
  refine (iz ⟨hr.1, by simpa using hr.2⟩).bind fun e he => ?_
  have he : e.length ≤ 1048576 := by
    have h := he.1
    simp only [List.mem_cons, List.not_mem_nil, or_false] at h
    rcases h with rfl | rfl | rfl | rfl | rfl <;> simp
  refine (mT hp hc 2).bind fun y hy => bl (fun _ => ?_) (fun _ => ?_)
  · refine (gQ hp hy.1 3).bind fun y2 h2 => (fX hp h2.1 (by simp)).bind fun y3 h3 => ?_
    obtain ⟨m, hm⟩ : ∃ m : Nat, y2.1 = m := ⟨y2.1.toNat, by have := h2.2.1; omega⟩
    have hm2 : m ≤ 2 := by rcases h2.2.2 with g | g <;> omega
    refine cD (fun k (σ : Int × Int × List Int × Int) i => dj y2 p e k σ.1 σ.2.1 σ.2.2.1 σ.2.2.2 i) (1 + m) (fun i σ => Cur p ⟨σ.1, σ.2.1⟩ ∧ σ.2.2.1.length = i ∧ (∀ x ∈ σ.2.2.1, V x) ∧ V σ.2.2.2) (fun k σ h => ?_) (fun k σ i hi h hk => ?_) (by omega) (s := (y3.2.i_, y3.2.h_, [], y3.1)) ⟨h3.1, rfl, (fun x hx => by cases hx), ?_⟩
    · obtain ⟨g1, g2, g3, g4⟩ := h
      show Tot (dj _ _ _ (k + 1) _ _ _ _ _) _
      rw [dj, hm, bg (by omega) (by omega), if_neg (by simp)]
      exact aD ⟨g1, he, ⟨by show σ.2.2.1.length ≤ _; omega, g3⟩, by simp, fun x hx => by cases hx⟩
    · obtain ⟨g1, g2, g3, g4⟩ := h
      show Tot (dj _ _ _ (k + 1) _ _ _ _ _) _
      rw [dj, hm, bg (n := 1 + (m : Int)) (by omega) (by omega), if_pos (by simp; omega), bL (by simp; omega)]
      simp only [bS]
      refine (gQ hp g1 6).bind fun y4 h4 => ?_
      rw [aI (by omega)]
      refine hk (_, _, _, _) ⟨h4.1, by simp; omega, fun x hx => ?_, rJ _⟩
      rcases List.mem_append.1 hx with hx | hx
      · exact g3 x hx
      · rw [List.mem_singleton.1 hx]; exact g4
    · have h := h3.2
      simp only [List.mem_cons, List.not_mem_nil, or_false] at h
      exact ed (by show -1000000000000 ≤ y3.1 ∧ y3.1 ≤ _; omega)
  · refine (gQ hp hy.1 3).bind fun y2 h2 => ?_
    obtain ⟨m, hm⟩ : ∃ m : Nat, y2.1 = m := ⟨y2.1.toNat, by have := h2.2.1; omega⟩
    have hm2 : m ≤ 2 := by rcases h2.2.2 with g | g <;> omega
    refine cD (fun k (l : List (List UInt8)) i => dh y2 e k i l) (2 + m) (fun i l => l.length = i ∧ ∀ x ∈ l, x.length ≤ 1048576) (fun k l h => ?_) (fun k l i hi h hk => ?_) (by omega) (s := []) ⟨rfl, fun x hx => by cases hx⟩
    · show Tot (dh _ _ (k + 1) _ _) _
      rw [dh, hm, bg (by omega) (by omega), if_neg (by simp)]
      exact aD ⟨h2.1, he, ⟨by simp, fun x hx => by cases hx⟩, by show l.length ≤ _; omega, h.2⟩
    · show Tot (dh _ _ (k + 1) _ _) _
      rw [dh, hm, bg (n := 2 + (m : Int)) (by omega) (by omega), if_pos (by simp; omega)]
      refine (iz ⟨by omega, by simp; omega⟩).bind fun v hv => ?_
      rw [bL (by simp; omega), aI (by omega)]
      refine hk _ ⟨by simp; omega, fun x hx => ?_⟩
      rcases List.mem_append.1 hx with hx | hx
      · exact h.2 x hx
      · rw [List.mem_singleton.1 hx]
        have h := hv.1
        simp only [List.mem_cons, List.not_mem_nil, or_false] at h
        rcases h with rfl | rfl | rfl | rfl <;> simp
omit hp in
def tN (s : ae) : Prop := bK s ∧ s.f_.length ≤ 8 ∧ s.n_.length ≤ 8
theorem Az {c : ak} (hc : Cur p c) : TD p (mq p c) (fun s => tN s ∧ 1 ≤ s.f_.length ∧ s.f_.length ≤ 5 ∧ 2 ≤ s.n_.length ∧ s.n_.length ≤ 3) := by
  unfold mq
  have key : ∀ (c : ak) (l : List (List UInt8)), Cur p c → 2 ≤ l.length → l.length ≤ 3 → (∀ x ∈ l, x.length ≤ 1048576) → TD p (ji p c.i_ c.h_ l) (fun s => tN s ∧ 1 ≤ s.f_.length ∧ s.f_.length ≤ 5 ∧ 2 ≤ s.n_.length ∧ s.n_.length ≤ 3) := by
    intro c l hc hl0 hl hx
    unfold ji
    refine (gQ hp (c := ⟨c.i_, c.h_⟩) hc 5).bind fun y2 h2 => ?_
    obtain ⟨m, hm⟩ : ∃ m : Nat, y2.1 = m := ⟨y2.1.toNat, by have := h2.2.1; omega⟩
    have hm2 : m ≤ 4 := by rcases h2.2.2 with g | g <;> omega
    refine cD (fun k (σ : Int × Int × List bz) i => eK y2 p l k σ.1 σ.2.1 σ.2.2 i) (1 + m) (fun i σ => Cur p ⟨σ.1, σ.2.1⟩ ∧ σ.2.2.length = i ∧ ∀ x ∈ σ.2.2, oy x) (fun k σ h => ?_) (fun k σ i hi h hk => ?_) (by omega) (s := (y2.2.i_, y2.2.h_, [])) ⟨h2.1, rfl, fun x hx => by cases hx⟩
    · obtain ⟨g1, g2, g3⟩ := h
      show Tot (eK _ _ _ (k + 1) _ _ _ _) _
      rw [eK, hm, bg (by omega) (by omega), if_neg (by simp)]
      exact aD ⟨g1, ⟨⟨⟨by show σ.2.2.length ≤ _; omega, g3⟩, by show l.length ≤ _; omega, hx⟩, by show σ.2.2.length ≤ _; omega, by show l.length ≤ _; omega⟩, by show _ ≤ σ.2.2.length; omega, by show σ.2.2.length ≤ _; omega, hl0, hl⟩
    · obtain ⟨g1, g2, g3⟩ := h
      show Tot (eK _ _ _ (k + 1) _ _ _ _) _
      rw [eK, hm, bg (n := 1 + (m : Int)) (by omega) (by omega), if_pos (by simp; omega)]
      refine (xU hp g1 (by omega)).bind fun y3 h3 => ?_
      rw [bL (by simp; omega), aI (by omega)]
      refine hk (_, _, _) ⟨h3.1, by simp; omega, fun x hx => ?_⟩
      rcases List.mem_append.1 hx with hx | hx
      · exact g3 x hx
      · rw [List.mem_singleton.1 hx]; exact h3.2
  refine (mT hp hc 3).bind fun y hy => bl (fun _ => ?_) (fun _ => key y.2 _ hy.1 (by simp) (by simp) (fun x hx => ?_))
  · rw [bL (by simp)]
    refine key y.2 _ hy.1 (by simp) (by simp) (fun x hx => ?_)
    simp only [List.cons_append, List.nil_append, List.mem_cons, List.not_mem_nil, or_false] at hx
    rcases hx with rfl | rfl | rfl <;> simp
  · simp only [List.mem_cons, List.not_mem_nil, or_false] at hx
    rcases hx with rfl | rfl <;> simp
theorem Ej {c : ak} (hc : Cur p c) : TD p (lv p c) (fun _ => True) := by
  unfold lv
  exact (fX hp hc (by simp)).bind fun _ h1 => (fX hp h1.1 (by simp)).bind fun _ h2 => (fX hp h2.1 (by simp)).bind fun _ h3 => (fX hp h3.1 (by simp)).bind fun _ h4 => (fX hp h4.1 (by simp)).bind fun _ h5 => (fX hp h5.1 (by simp)).bind fun _ h6 => (mT hp h6.1 2).bind fun _ h7 => aD ⟨h7.1, trivial⟩
theorem sn {c : ak} (hc : Cur p c) {s : ae} (hs : tN s) : TD p (ii p c s) (smI 8) := by
  have ha := hs.2.1
  unfold ii
  refine cD (fun k (σ : Int × Int × List Int) i => cF s p k σ.1 σ.2.1 σ.2.2 i) s.f_.length (fun i σ => Cur p ⟨σ.1, σ.2.1⟩ ∧ smI i σ.2.2) (fun k σ h => ?_) (fun k σ i hi h hk => ?_) (by omega) (s := (c.i_, c.h_, [])) ⟨hc, .nil _⟩
  · obtain ⟨g1, g2⟩ := h
    show Tot (cF _ _ (k + 1) _ _ _ _) _
    rw [cF, if_neg (by simp)]
    exact bl (fun _ => aD ⟨g1, by simp, fun x hx => by rw [List.mem_singleton.1 hx]; exact ed ⟨by omega, by omega⟩⟩) (fun _ => aD ⟨g1, g2.mono ha⟩)
  · obtain ⟨g1, g2⟩ := h
    have g3 := g2.1
    show Tot (cF _ _ (k + 1) _ _ _ _) _
    rw [cF, if_pos (by simp; omega)]
    refine (mT hp g1 4).bind fun y hy => bl (fun _ => ?_) (fun _ => ?_)
    · rw [bL (by simp; omega), aI (by omega)]
      exact hk (_, _, _) ⟨hy.1, g2.app (ed ⟨by omega, by omega⟩) (Nat.le_refl _)⟩
    · rw [aI (by omega)]
      exact hk (_, _, _) ⟨hy.1, g2.mono (Nat.le_succ _)⟩
omit hp in
def zy (f : au) : Prop := V f.j_ ∧ V f.c_
theorem Bp {c : ak} (hc : Cur p c) {s : ae} (hs : tN s) : TD p (ml p c s) zy := by
  have ha := hs.2.1
  have z : V 0 := ed ⟨by omega, by omega⟩
  unfold ml
  refine cD (fun k (l : List au) i => dp s c p k l i) s.f_.length (fun i l => l.length ≤ 5 * i ∧ ∀ f ∈ l, zy f) (fun k l h => ?_) (fun k l i hi h hk => ?_) (by omega) (s := []) ⟨by simp, fun x hx => by cases hx⟩
  · show Tot (dp _ _ _ (k + 1) _ _) _
    rw [dp, if_neg (by simp)]
    refine bl (fun _ => aD ⟨hc, z, z⟩) (fun h0 => (gQ hp hc _).bind fun y hy => ?_)
    have h0 : l.length ≠ 0 := by simpa using h0
    have : y.1 < (l.length : Int) := by rcases hy.2.2 with g | g <;> omega
    exact (iz ⟨hy.2.1, this⟩).bind fun v hv => aD ⟨hy.1, h.2 v hv.1⟩
  · show Tot (dp _ _ _ (k + 1) _ _) _
    rw [dp, if_pos (by simp; omega)]
    show Tot (dC s (i : Int) (dp s c p k) aY l ((0 : Int) - 1)) _
    refine cD (fun k2 (l2 : List au) x => dC s (i : Int) (dp s c p k) k2 l2 (x - 1)) 5 (fun x l2 => l2.length ≤ 5 * i + x ∧ ∀ f ∈ l2, zy f) (fun k2 l2 h2 => ?_) (fun k2 l2 x hx h2 hk2 => ?_) (by omega) ⟨by omega, h.2⟩
    · show Tot (dC _ _ _ (k2 + 1) _ _) _
      rw [dC, if_neg (by simp), aI (by omega)]
      exact hk _ ⟨by omega, h2.2⟩
    · show Tot (dC _ _ _ (k2 + 1) _ _) _
      rw [dC, if_pos (by simp; omega), bg (n := (x : Int) - 1 + 1) (by omega) (by omega), show (x : Int) - 1 + 1 = ((x + 1 : Nat) : Int) - 1 by omega]
      refine (Dec.t (kw (f := ⟨(i : Int), (x : Int) - 1⟩) hs.1)).bind fun b _ => bl (fun _ => ?_) (fun _ => hk2 _ ⟨by omega, h2.2⟩)
      rw [bL (by simp; omega)]
      refine hk2 _ ⟨by simp; omega, fun f hf => ?_⟩
      rcases List.mem_append.1 hf with hf | hf
      · exact h2.2 f hf
      · rw [List.mem_singleton.1 hf]
        exact ⟨(ed ⟨by omega, by omega⟩ : V (i : Int)), (ed ⟨by omega, by omega⟩ : V ((x : Int) - 1))⟩
omit hp in
theorem qB {l : List Int} {x : Int} (hl : ∀ y ∈ l, V y) (h : x ∈ l) : V x := hl x h
theorem Dw {c : ak} (hc : Cur p c) {s : ae} (hs : tN s) : TD p (nq p c s) zy := by
  unfold nq
  refine (Bp hp hc hs).bind fun f hf => (gQ hp hf.1 10).bind fun y hy => bl (fun _ => (fX hp hy.1 (by simp)).bind fun z hz => aD ⟨hz.1, hf.2.1, qB (fun y hy => ?_) hz.2⟩) (fun _ => bl (fun _ => (fX hp hy.1 (by simp)).bind fun z hz => aD ⟨hz.1, qB (fun y hy => ?_) hz.2, hf.2.2⟩) (fun _ => aD ⟨hy.1, hf.2⟩))
  · simp only [List.mem_cons, List.not_mem_nil, or_false] at hy
    unfold V; omega
  · simp only [List.mem_cons, List.not_mem_nil, or_false] at hy
    unfold V; omega
theorem AX {c : ak} (hc : Cur p c) {s : ae} (hs : tN s) : TD p (mf p c s) (smI 9) := by
  unfold mf
  refine (sn hp hc hs).bind fun f hf => (gQ hp hf.1 10).bind fun y hy => bl (fun _ => (fX hp hy.1 (by simp)).bind fun z hz => ?_) (fun _ => bl (fun _ => aD ⟨hy.1, .nil _⟩) (fun _ => aD ⟨hy.1, hf.2.mono (by omega)⟩))
  have h := hf.2.1
  rw [bL (by simp; omega)]
  refine aD ⟨hz.1, hf.2.app (qB (fun y hy => ?_) hz.2) (Nat.le_refl _)⟩
  simp only [List.mem_cons, List.not_mem_nil, or_false] at hy
  unfold V; omega
end
end Go.Vk
/- Trees drawn: they are there, and yZ. -/
namespace Go.Vk
theorem Ek {a : bz} (h : oy a) : T (gj a) := by
  rcases (uW (yI h)).cases with ⟨_, g⟩ | ⟨e, _⟩
  · rw [nh h g]
    exact bw _
  · unfold gj
    rw [e]
    simp only [sS]
    exact bw _
section
variable {p : List Int} (hp : p.length ≤ 1048576)
include hp
theorem yf {c : ak} (hc : Cur p c) {s : ae} (hs : tN s) : TD p (kS p c s) (fun _ => True) := by
  have ha := hs.2.1
  unfold kS
  refine cD (fun k (σ : Int × Int × List Int) i => dn s p k σ.1 σ.2.1 σ.2.2 i) s.f_.length (fun i σ => Cur p ⟨σ.1, σ.2.1⟩ ∧ σ.2.2.length = i) (fun k σ h => ?_) (fun k σ i hi h hk => ?_) (by omega) (s := (c.i_, c.h_, [])) ⟨hc, rfl⟩
  · obtain ⟨g1, g2⟩ := h
    show Tot (dn _ _ (k + 1) _ _ _ _) _
    rw [dn, if_neg (by simp)]
    refine (gQ hp g1 _).bind fun y hy => ?_
    refine Tot.bind (P := fun u => Cur p ⟨u.2.1, u.2.2⟩ ∧ (u.1 = true → 0 < σ.2.2.length)) (bl (fun g => (mT hp hy.1 5).bind fun y2 h2 => aD ⟨h2.1, fun _ => by simpa using g⟩) (fun _ => aD ⟨hy.1, fun h => by cases h⟩)) (fun u hu => bl (fun g => ?_) (fun _ => aD ⟨hu.1, trivial⟩))
    simp only [Bool.and_eq_true, decide_eq_true_eq] at g
    have h0 := hu.2 g.1
    refine (iz ⟨by omega, by omega⟩).bind fun e _ => ?_
    unfold rem
    rw [if_neg (by omega)]
    exact aD ⟨hu.1, trivial⟩
  · obtain ⟨g1, g2⟩ := h
    show Tot (dn _ _ (k + 1) _ _ _ _) _
    rw [dn, if_pos (by simp; omega), bc hi]
    refine (Ek (hs.1.1.2 _ (List.getElem_mem hi))).bind fun b _ => (gQ hp g1 b).bind fun y hy => (mT hp hy.1 9).bind fun y2 h2 => ?_
    have key : ∀ v : Int, Tot (jk σ.2.2 (dn s p k) (i : Int) y2.2.i_ y2.2.h_ v) (fun y => Cur p y.2 ∧ True) := by
      intro v
      unfold jk
      rw [bL (by simp; omega), aI (by omega)]
      exact hk (_, _, _) ⟨h2.1, by simp; omega⟩
    exact bl (fun _ => key _) (fun _ => key _)
theorem Au {c : ak} (hc : Cur p c) {n : Nat} (hn : n ≤ 1000) : TD p (lr p c (n : Int)) (fun l => l.length = n ∧ ∀ x ∈ l, 0 ≤ x ∧ x ≤ 255) := by
  unfold lr
  refine cD (fun k (σ : Int × Int × List Int) i => ee (n : Int) p k σ.1 σ.2.1 σ.2.2 i) n (fun i σ => Cur p ⟨σ.1, σ.2.1⟩ ∧ σ.2.2.length = i ∧ ∀ x ∈ σ.2.2, 0 ≤ x ∧ x ≤ 255) (fun k σ h => ?_) (fun k σ i hi h hk => ?_) (by omega) (s := (c.i_, c.h_, [])) ⟨hc, rfl, fun x hx => by cases hx⟩
  · show Tot (ee _ _ (k + 1) _ _ _ _) _
    rw [ee, if_neg (by simp)]
    exact aD ⟨h.1, h.2⟩
  · obtain ⟨g1, g2, g3⟩ := h
    show Tot (ee _ _ (k + 1) _ _ _ _) _
    rw [ee, if_pos (by simp; omega)]
    refine (sF hp g1).bind fun y hy => ?_
    rw [bL (by simp; omega), aI (by omega)]
    refine hk (_, _, _) ⟨hy.1, by simp; omega, fun x hx => ?_⟩
    rcases List.mem_append.1 hx with hx | hx
    · exact g3 x hx
    · rw [List.mem_singleton.1 hx, IntWalk.u8_in _ hy.2]; exact hy.2
theorem CG {c : ak} (hc : Cur p c) {s : ae} (hs : tN s) (r : cq) {n : Nat} (hn : n ≤ 60) : Tot (lk p c s r (n : Int)) (fun y => Cur p y.2.2 ∧ fP 0 y.1) := by
  unfold lk
  have z : V 0 := ed ⟨by omega, by omega⟩
  have hN : Tot (some (ai.mk [] 0)) (fP 0) := aD ⟨⟨by simp, fun x hx => by cases hx⟩, z⟩
  refine (sn hp hc hs).bind fun y hy => ?_
  have hT : Tot (mn s y.1) (fP 0) := by
    unfold mn
    refine (nW hs.1 (by have := hy.2.1; omega)).t.bind fun b _ => bl (fun _ => hN) (fun _ => (ru hs.1).bind fun st hst => ?_)
    rw [bL (by have := hy.2.1; simp; omega)]
    refine aD ⟨⟨by simp, fun x hx => ?_⟩, z⟩
    rw [List.mem_singleton.1 hx]
    exact ⟨⟨z, z⟩, .nil _, z, hst, z, hy.2.mono (by omega), z, ed (x := -1) ⟨by omega, by omega⟩, z⟩
  refine hT.bind fun t ht => (gQ hp hy.1 _).bind fun y2 h2 => ?_
  refine cD (fun k (σ : Int × Int × List aG × Int × List bB) i => dJ (n : Int) p s r y2 k σ.1 σ.2.1 σ.2.2.1 σ.2.2.2.1 σ.2.2.2.2 i) n (fun i σ => Cur p ⟨σ.1, σ.2.1⟩ ∧ fP 0 ⟨σ.2.2.1, σ.2.2.2.1⟩ ∧ σ.2.2.2.2.length = i) (fun k σ h => ?_) (fun k σ i hi h hk => ?_) (by omega) (s := (y2.2.i_, y2.2.h_, t.a_, t.g_, [])) ⟨h2.1, ht, rfl⟩
  · obtain ⟨g1, g2, g3⟩ := h
    show Tot (dJ _ _ _ _ _ (k + 1) _ _ _ _ _ _) _
    rw [dJ, if_neg (by simp)]
    exact aD ⟨g1, g2⟩
  · obtain ⟨g1, g2, g3⟩ := h
    show Tot (dJ _ _ _ _ _ (k + 1) _ _ _ _ _ _) _
    rw [dJ, if_pos (by simp; omega)]
    refine (yf hp g1 hs).bind fun e he => (Au hp he.1 (n := 8) (by omega)).bind fun b hb => (fX hp hb.1 (by simp)).bind fun w hw => (CJ hs.1 g2 (tape := ⟨b.1, 0⟩) (by show b.1.length ≤ _; have := hb.2.1; omega)).bind fun t2 ht2 => ?_
    unfold ld
    rw [bL (by simp; omega), aI (by omega)]
    exact hk (_, _, _, _, _) ⟨hw.1, ht2, by simp; omega⟩
theorem zP {c : ak} (hc : Cur p c) {s : ae} (hs : tN s) : TD p (lq p c s) (fP 0) := by
  unfold lq
  refine (Ej hp hc).bind fun r hr => (mT hp hr.1 3).bind fun o ho => ?_
  have key : ∀ (c : ak) (u : Int), Cur p c → TD p (iT p s r c.i_ c.h_ u) (fP 0) := by
    intro c u hc
    unfold iT
    refine (fX hp (c := ⟨c.i_, c.h_⟩) hc (by simp)).bind fun n hn => ?_
    obtain ⟨m, hm, hm2⟩ : ∃ m : Nat, n.1 = m ∧ m ≤ 60 := by
      have h := hn.2
      simp only [List.mem_cons, List.not_mem_nil, or_false] at h
      exact ⟨n.1.toNat, by omega, by omega⟩
    rw [hm]
    exact (CG hp hn.1 hs _ hm2).bind fun y hy => aD hy
  exact bl (fun _ => (fX hp ho.1 (by simp)).bind fun u hu => key u.2 _ hu.1) (fun _ => key o.2 _ ho.1)
theorem BC {c : ak} (hc : Cur p c) {s : ae} (hs : tN s) : TD p (my p c s) (mu 0) := by
  unfold my
  refine (ru hs.1).bind fun st hst => (fX hp hc (by simp)).bind fun n hn => ?_
  obtain ⟨m, hm, hm2⟩ : ∃ m : Nat, n.1 = m ∧ m ≤ 60 := by
    have h := hn.2
    simp only [List.mem_cons, List.not_mem_nil, or_false] at h
    exact ⟨n.1.toNat, by omega, by omega⟩
  refine cD (fun k (σ : Int × Int × List Int × List (List Int)) i => eN n p s k σ.1 σ.2.1 σ.2.2.1 σ.2.2.2 i) m (fun i σ => Cur p ⟨σ.1, σ.2.1⟩ ∧ mu 0 ⟨σ.2.2.1, σ.2.2.2⟩) (fun k σ h => ?_) (fun k σ i hi h hk => ?_) (by omega) (s := (n.2.i_, n.2.h_, st.d_, st.b_)) ⟨hn.1, hst⟩
  · obtain ⟨g1, g2⟩ := h
    show Tot (eN _ _ _ (k + 1) _ _ _ _ _) _
    rw [eN, hm, if_neg (by simp)]
    refine (mT hp g1 8).bind fun o ho => bl (fun _ => ?_) (fun _ => aD ⟨ho.1, g2⟩)
    rw [wN (by have := g2.1.1; omega)]
    exact aD ⟨ho.1, g2.1, by simp, fun x hx => by cases hx⟩
  · obtain ⟨g1, g2⟩ := h
    show Tot (eN _ _ _ (k + 1) _ _ _ _ _) _
    rw [eN, hm, if_pos (by simp; omega), aI (by omega)]
    exact (yf hp g1 hs).bind fun e he => (fX hp he.1 (by simp)).bind fun w hw => (uR hs.1 g2).bind fun y hy => hk (_, _, _, _) ⟨hw.1, hy⟩
theorem Di {c : ak} (hc : Cur p c) {s : ae} (hs : tN s) : TD p (nt p c s) (mu 1) := by
  unfold nt
  refine (BC hp hc hs).bind fun st hst => (gQ hp hst.1 14).bind fun y hy => ?_
  obtain ⟨g1, g2, g3⟩ := hst.2
  have hm := hst.2.mono (d' := 1) (by omega)
  have keep : TD p (some (st.1, y.2)) (mu 1) := aD ⟨hy.1, hm⟩
  refine bl (fun _ => bl (fun h => (fX hp hy.1 (by simp)).bind fun v hv => (iz ⟨by omega, by simpa using h⟩).bind fun _ _ => aD ⟨hv.1, (g1.mono (by omega)).set (qB (fun y hy => ?_) hv.2) _, hm.2⟩) (fun _ => keep)) (fun _ => bl (fun _ => ?_) (fun _ => bl (fun _ => ?_) (fun _ => bl (fun _ => bl (fun h => ?_) (fun _ => keep)) (fun _ => keep))))
  · simp only [List.mem_cons, List.not_mem_nil, or_false] at hy
    unfold V; omega
  · have h := g1.1
    rw [bL (by simp; omega)]
    exact aD ⟨hy.1, g1.app (ed ⟨by omega, by omega⟩) (by omega), hm.2⟩
  · refine Tot.bind (P := fun u => u = true → ∃ h : 0 < st.1.b_.length, 0 < (st.1.b_[0]).length) (bl (fun h => ?_) (fun _ => aD fun h => by cases h)) (fun u hu => bl (fun g => ?_) (fun _ => keep))
    · have h : 0 < st.1.b_.length := by simpa using h
      have e0 : idx st.1.b_ 0 = some st.1.b_[0] := bc h
      rw [e0]
      exact aD fun g => ⟨h, by simpa using g⟩
    · obtain ⟨h, h2⟩ := hu g
      have e0 : idx st.1.b_ 0 = some st.1.b_[0] := bc h
      have e1 : idx st.1.b_[0] 0 = some st.1.b_[0][0] := bc h2
      have hc0 := g3 _ (List.getElem_mem h)
      rw [e0]
      simp only [bS]
      refine (fX hp hy.1 (by simp)).bind fun v hv => ?_
      rw [e1]
      refine aD ⟨hv.1, hm.1, by show (st.1.b_.set _ _).length ≤ _; rw [List.length_set]; omega, fun x hx => ?_⟩
      rcases List.mem_or_eq_of_mem_set hx with hx | rfl
      · exact hm.2.2 x hx
      · refine (hc0.mono (by omega)).set (qB (fun y hy => ?_) hv.2) _
        simp only [List.mem_cons, List.not_mem_nil, or_false] at hy
        unfold V; omega
  · have h : 0 < st.1.b_.length := by simpa using h
    have e0 : idx st.1.b_ 0 = some st.1.b_[0] := bc h
    have hc0 := g3 _ (List.getElem_mem h)
    have hl := hc0.1
    rw [e0]
    simp only [bS]
    rw [bL (by simp; omega)]
    refine aD ⟨hy.1, hm.1, by show (st.1.b_.set _ _).length ≤ _; rw [List.length_set]; omega, fun x hx => ?_⟩
    rcases List.mem_or_eq_of_mem_set hx with hx | rfl
    · exact hm.2.2 x hx
    · exact hc0.app (ed ⟨by omega, by omega⟩) (by omega)
theorem Bn {c : ak} (hc : Cur p c) {s : ae} (hs : tN s) : TD p (mF p c s) (fP 1) := by
  unfold mF
  refine (zP hp hc hs).bind fun y hy => ?_
  have hm := hy.2.mono (d' := 1) (by omega)
  obtain ⟨ht, hx⟩ := hm
  refine bl (fun _ => aD ⟨hy.1, ht, hx⟩) (fun h0 => ?_)
  have h0 : y.1.a_.length ≠ 0 := by simpa using h0
  refine (gQ hp hy.1 _).bind fun a ha => ?_
  obtain ⟨j, hj⟩ : ∃ j : Nat, a.1 = j := ⟨a.1.toNat, by have := ha.2.1; omega⟩
  have hjl : j < y.1.a_.length := by rcases ha.2.2 with g | g <;> omega
  have hl := ht.1
  rw [hj, bc hjl]
  have hn0 := hy.2.1.2 _ (List.getElem_mem hjl)
  have hn := ht.2 _ (List.getElem_mem hjl)
  obtain ⟨g1, g2, g3, g4, g5, g6, g7, g8, g9⟩ := hn
  refine (gQ hp ha.1 22).bind fun o ho => ?_
  simp only [bS]
  refine bl (fun _ => (fX hp ho.1 (by simp)).bind fun v hv => aD ⟨hv.1, ht, qB (fun y hy => ?_) hv.2⟩) (fun _ => ?_)
  · simp only [List.mem_cons, List.not_mem_nil, or_false] at hy
    unfold V; omega
  refine bl (fun _ => (gQ hp ho.1 8).bind fun v hv => aD ⟨hv.1, fP.setN ht (n := { y.1.a_[j] with l_ := v.1 }) ⟨g1, g2, g3, g4, g5, g6, ed (x := v.1) ⟨by have := hv.2; omega, by have := hv.2; omega⟩, g8, g9⟩ hx _⟩) (fun _ => ?_)
  refine bl (fun _ => (fX hp ho.1 (by simp)).bind fun v hv => aD ⟨hv.1, fP.setN ht (n := { y.1.a_[j] with p_ := v.1 }) ⟨g1, g2, g3, g4, g5, g6, g7, qB (fun y hy => ?_) hv.2, g9⟩ hx _⟩) (fun _ => ?_)
  · simp only [List.mem_cons, List.not_mem_nil, or_false] at hy
    unfold V; omega
  refine bl (fun _ => (fX hp ho.1 (by simp)).bind fun v hv => ?_) (fun _ => ?_)
  · have hk := hn0.2.1.1
    rw [bL (by simp; omega)]
    refine aD ⟨hv.1, fP.setN ht (n := { y.1.a_[j] with t_ := y.1.a_[j].t_ ++ [v.1] }) ⟨g1, hn0.2.1.app (qB (fun y hy => ?_) hv.2) (by omega), g3, g4, g5, g6, g7, g8, g9⟩ hx _⟩
    simp only [List.mem_cons, List.not_mem_nil, or_false] at hy
    rcases hy with rfl | rfl | rfl | rfl
    · exact ed ⟨by omega, by omega⟩
    · exact ed ⟨by omega, by omega⟩
    · exact rJ _
    · exact ed ⟨by omega, by omega⟩
  refine bl (fun _ => (fX hp ho.1 (by simp)).bind fun v hv => aD ⟨hv.1, fP.setN ht (n := { y.1.a_[j] with x_ := v.1 }) ⟨g1, g2, qB (fun y hy => ?_) hv.2, g4, g5, g6, g7, g8, g9⟩ hx _⟩) (fun _ => ?_)
  · simp only [List.mem_cons, List.not_mem_nil, or_false] at hy
    unfold V; omega
  refine bl (fun _ => (fX hp ho.1 (by simp)).bind fun v hv => aD ⟨hv.1, fP.setN ht (n := { y.1.a_[j] with v_ := v.1 }) ⟨g1, g2, g3, g4, qB (fun y hy => ?_) hv.2, g6, g7, g8, g9⟩ hx _⟩) (fun _ => ?_)
  · simp only [List.mem_cons, List.not_mem_nil, or_false] at hy
    unfold V; omega
  refine bl (fun _ => (fX hp ho.1 (by simp)).bind fun v hv => aD ⟨hv.1, fP.setN ht (n := { y.1.a_[j] with q_ := v.1 }) ⟨g1, g2, g3, g4, g5, g6, g7, g8, qB (fun z hz => ?_) hv.2⟩ hx _⟩) (fun _ => ?_)
  · simp only [List.mem_cons, List.not_mem_nil, or_false] at hz
    rcases hz with rfl | rfl | rfl | rfl | rfl
    · exact ed ⟨by omega, by omega⟩
    · exact ed ⟨by omega, by omega⟩
    · exact ed ⟨by omega, by omega⟩
    · exact hx
    · exact rJ _
  refine bl (fun _ => aD ⟨ho.1, fP.setN ht (n := { y.1.a_[j] with s_ := (!y.1.a_[j].s_) }) ⟨g1, g2, g3, g4, g5, g6, g7, g8, g9⟩ hx _⟩) (fun _ => ?_)
  refine bl (fun _ => (Dw hp ho.1 hs).bind fun v hv => aD ⟨hv.1, fP.setN ht (n := { y.1.a_[j] with k_ := v.1 }) ⟨hv.2, g2, g3, g4, g5, g6, g7, g8, g9⟩ hx _⟩) (fun _ => ?_)
  refine bl (fun _ => (AX hp ho.1 hs).bind fun v hv => aD ⟨hv.1, fP.setN ht (n := { y.1.a_[j] with f_ := v.1 }) ⟨g1, g2, g3, g4, g5, hv.2.mono (by omega), g7, g8, g9⟩ hx _⟩) (fun _ => ?_)
  refine bl (fun _ => (Di hp ho.1 hs).bind fun v hv => aD ⟨hv.1, fP.setN ht (n := { y.1.a_[j] with m_ := v.1 }) ⟨g1, g2, g3, hv.2, g5, g6, g7, g8, g9⟩ hx _⟩) (fun _ => ?_)
  refine bl (fun _ => ?_) (fun _ => aD ⟨ho.1, ht, hx⟩)
  rw [bg (by omega) (by omega)]
  refine (pQ ⟨by omega, by omega, by omega⟩).bind fun l hl2 => aD ⟨ho.1, ⟨?_, fun n hn => ?_⟩, hx⟩
  · show l.length ≤ 40
    rw [hl2]
    simp only [List.length_take, List.length_drop]
    omega
  · have hn : n ∈ l := hn
    rw [hl2] at hn
    exact ht.2 n (List.mem_of_mem_drop (List.mem_of_mem_take hn))
end
end Go.Vk
/- Windows drawn: they are there, and yZ. -/
namespace Go.Vk
def ia (a b : Nat) (l : List (List Int)) : Prop := l.length ≤ a ∧ ∀ r ∈ l, r.length ≤ b
theorem ia.mono {a b a' b' : Nat} (ha : a ≤ a') (hb : b ≤ b') {l : List (List Int)} (h : ia a b l) : ia a' b' l := ⟨by have := h.1; omega, fun r hr => by have := h.2 r hr; omega⟩
theorem ia.app {a b : Nat} {l : List (List Int)} {r : List Int} (h : ia a b l) (hr : r.length ≤ b) : ia (a + 1) b (l ++ [r]) := ⟨by have := h.1; simp; omega, fun x hx => by
  rcases List.mem_append.1 hx with hx | hx
  · exact h.2 x hx
  · rw [List.mem_singleton.1 hx]; exact hr⟩
theorem ia.set {a b : Nat} {l : List (List Int)} {r : List Int} (h : ia a b l) (hr : r.length ≤ b) (i : Nat) : ia a b (l.set i r) := ⟨by rw [List.length_set]; exact h.1, fun x hx => by
  rcases List.mem_or_eq_of_mem_set hx with hx | rfl
  · exact h.2 x hx
  · exact hr⟩
theorem yG {w : aE} (h : ia 100 1000 w.o_) : mo w = some w := by
  have h0 := h.1
  unfold mo
  rw [qp (p := w.o_) id (gq w) (fun l => some ⟨l⟩) (fun k l => by rw [gq, if_neg (by simp)]) (fun k l i hi hl => by
    have hr := h.2 _ (List.getElem_mem hi)
    rw [gq, if_pos (by simp; omega), bc hi, aI (by omega)]
    simp only [bS]
    rw [bL (by simp; omega)]
    simp only [Option.bind_some, List.nil_append]
    rw [bL (by simp; omega)]
    rfl) (by omega), List.map_id]
theorem Bo {w : aE} {b : Int} (h : ia 8 12 w.o_) : Tot (kD w b) (fun y => ia 8 12 y.1.o_) := by
  unfold kD
  rw [yG (h.mono (by omega) (by omega))]
  simp only [bS]
  refine jz (CE w).t (by simp only [sS]; exact aD h) (fun hW => ?_)
  simp only [sS]
  refine jT cR.t (by simp only [sS]; exact aD h) (fun _ => ?_)
  simp only [sS]
  have h3 : ia 8 3 w.o_ := ⟨hW.1, fun r hr => by
    obtain ⟨i, hi, rfl⟩ := List.getElem_of_mem hr
    exact (hW.2 i hi hi).1.2⟩
  have key : ∀ l : List (List Int), 0 < l.length → ia 8 3 l → Tot (ib b l) (fun y => ia 8 12 y.1.o_) := by
    intro l hl h3
    have hr := h3.2 _ (List.getElem_mem hl)
    have e0 : idx l 0 = some l[0] := bc hl
    unfold ib
    rw [e0]
    simp only [bS]
    rw [bL (by simp; omega)]
    simp only [bS]
    have h4 : ia 8 4 (l.set (0 : Int).toNat (l[0] ++ [b])) := (h3.mono (Nat.le_refl _) (by omega)).set (by simp; omega) _
    refine cD (fun k (l : List (List Int)) i => cO k l i) 8 (fun i l => ia 8 (4 + i) l) (fun k l hl => ?_) (fun k l i hi hl hk => ?_) (by omega) (h4.mono (Nat.le_refl _) (by omega))
    · show Tot (cO (k + 1) _ _) _
      rw [cO, if_neg (by simp)]
      exact aD (hl.mono (Nat.le_refl _) (by omega))
    · show Tot (cO (k + 1) _ _) _
      have fin : ia 8 12 l := hl.mono (Nat.le_refl _) (by omega)
      have hl8 := hl.1
      rw [cO, if_pos (by simp; omega)]
      by_cases hc : i < l.length
      · have hri := hl.2 _ (List.getElem_mem hc)
        rw [if_neg (by simp; omega), bc hc]
        simp only [bS]
        refine bl (fun _ => aD fin) (fun g => ?_)
        have g : 3 < l[i].length := by simp at g; omega
        refine bl (fun _ => (pQ ⟨by omega, by omega, by omega⟩).bind fun l2 hl2 => ?_) (fun g7 => (iz ⟨by omega, by omega⟩).bind fun e1 _ => (iz ⟨by omega, by omega⟩).bind fun e2 _ => (pQ ⟨by omega, by omega, by omega⟩).bind fun l2 hl2 => ?_)
        · have hl2 : l2.length ≤ 12 := by rw [hl2]; simp only [List.length_take, List.length_drop]; omega
          rw [bL (by simp; omega)]
          exact aD (fin.set (by simpa using hl2) _)
        · have g7 : i ≠ 7 := fun h => g7 (by subst h; rfl)
          have hl2 : l2.length ≤ 4 + i := by rw [hl2]; simp only [List.length_take, List.length_drop]; omega
          rw [bL (by simp; omega), aI (by omega)]
          simp only [Option.bind_some, List.nil_append]
          have key2 : ∀ q : List (List Int), i + 1 < q.length → ia 8 (4 + i) q → Tot (ie (i : Int) e1 e2 (cO k) q) (fun y => ia 8 12 y.1.o_) := by
            intro q hq hB
            have hrq := hB.2 _ (List.getElem_mem hq)
            unfold ie
            rw [aI (by omega), bc hq]
            simp only [bS]
            rw [bL (by simp; omega)]
            exact hk _ ((hB.mono (b' := 4 + (i + 1)) (Nat.le_refl _) (by omega)).set (by simp; omega) _)
          have hset : ia 8 (4 + i) (l.set (i : Int).toNat l2) := hl.set hl2 _
          refine bl (fun ge => ?_) (fun ge => key2 _ ?_ hset)
          · have ge : i + 1 = l.length := by simp at ge; omega
            rw [bL (by simp; omega)]
            refine key2 _ (by simp; omega) ⟨by simp; omega, (ia.app (r := []) hset (by simp)).2⟩
          · have ge : i + 1 ≠ l.length := by simp at ge; omega
            rw [List.length_set]; omega
      · rw [if_pos (by simp; omega)]
        simp only [sS]
        exact aD fin
  refine bl (fun h0 => ?_) (fun h0 => key _ (by have : w.o_.length ≠ 0 := (by simpa using h0); omega) h3)
  have h0 : w.o_.length = 0 := by simpa using h0
  have hn : w.o_ = [] := List.length_eq_zero_iff.1 h0
  rw [hn, bL (by simp)]
  exact key [[]] (by simp) ⟨by simp, fun x hx => by rw [List.mem_singleton.1 hx]; simp⟩
section
variable {p : List Int} (hp : p.length ≤ 1048576)
include hp
theorem Es {c : ak} (hc : Cur p c) {n : Nat} (hn : n ≤ 90) : TD p (ma p c (n : Int)) (fun l => l.length ≤ 90) := by
  unfold ma
  rw [aI (by omega)]
  refine (gQ hp hc _).bind fun y1 h1 => (gQ hp h1.1 _).bind fun y2 h2 => (fX hp h2.1 (by simp)).bind fun y3 h3 => ?_
  obtain ⟨m, hm⟩ : ∃ m : Nat, y1.1 = m := ⟨y1.1.toNat, by have := h1.2.1; omega⟩
  have hm2 : m ≤ 90 := by rcases h1.2.2 with g | g <;> omega
  refine cD (fun k (σ : Int × Int × List Int) i => dD y1 y2 p y3 k σ.1 σ.2.1 σ.2.2 i) m (fun i σ => Cur p ⟨σ.1, σ.2.1⟩ ∧ σ.2.2.length = i) (fun k σ h => ?_) (fun k σ i hi h hk => ?_) (by omega) (s := (y3.2.i_, y3.2.h_, [])) ⟨h3.1, rfl⟩
  · show Tot (dD _ _ _ _ (k + 1) _ _ _ _) _
    rw [dD, hm, if_neg (by simp)]
    exact aD ⟨h.1, by show σ.2.2.length ≤ 90; have := h.2; omega⟩
  · obtain ⟨g1, g2⟩ := h
    show Tot (dD _ _ _ _ (k + 1) _ _ _ _) _
    rw [dD, hm, if_pos (by simp; omega)]
    have key : ∀ (c : ak) (q : Bool), Cur p c → Tot ((io q).bind fun y => (app σ.2.2 [y]).bind fun l => dD y1 y2 p y3 k c.i_ c.h_ l (IntKind.i64.wrap ((i : Int) + 1))) (fun y => Cur p y.2 ∧ y.1.length ≤ 90) := by
      intro c q hc
      have : T (io q) := by unfold io; exact bl (fun _ => bw _) (fun _ => bw _)
      refine this.bind fun v _ => ?_
      rw [bL (by simp; omega), aI (by omega)]
      exact hk (_, _, _) ⟨hc, by simp; omega⟩
    exact bl (fun _ => (mT hp g1 _).bind fun o ho => key o.2 _ ho.1) (fun _ => (mT hp g1 _).bind fun o ho => key o.2 _ ho.1)
theorem Ak {c : ak} (hc : Cur p c) : TD p (lw p c) (fun w => ia 8 12 w.o_) := by
  unfold lw
  refine (mT hp hc 5).bind fun o ho => bl (fun _ => (fX hp ho.1 (by simp)).bind fun y hy => ?_) (fun _ => (fX hp ho.1 (by simp)).bind fun y hy => ?_)
  · obtain ⟨m, hm, hm2⟩ : ∃ m : Nat, y.1 = m ∧ m ≤ 8 := by
      have h := hy.2
      simp only [List.mem_cons, List.not_mem_nil, or_false] at h
      exact ⟨y.1.toNat, by omega, by omega⟩
    refine cD (fun k (σ : Int × Int × List (List Int)) i => dq y p k σ.1 σ.2.1 σ.2.2 i) m (fun i σ => Cur p ⟨σ.1, σ.2.1⟩ ∧ ia i 12 σ.2.2) (fun k σ h => ?_) (fun k σ i hi h hk => ?_) (by omega) (s := (y.2.i_, y.2.h_, [])) ⟨hy.1, by simp, fun x hx => by cases hx⟩
    · show Tot (dq _ _ (k + 1) _ _ _ _) _
      rw [dq, hm, if_neg (by simp)]
      exact aD ⟨h.1, h.2.mono hm2 (Nat.le_refl _)⟩
    · obtain ⟨g1, g2⟩ := h
      show Tot (dq _ _ (k + 1) _ _ _ _) _
      rw [dq, hm, if_pos (by simp; omega)]
      refine (gQ hp g1 3).bind fun y2 h2 => ?_
      obtain ⟨q, hq⟩ : ∃ q : Nat, y2.1 = q := ⟨y2.1.toNat, by have := h2.2.1; omega⟩
      have hq2 : q ≤ 2 := by rcases h2.2.2 with g | g <;> omega
      refine cD (fun k2 (τ : Int × Int × List Int) j => ei y2 (i : Int) p σ.2.2 (dq y p k) k2 τ.1 τ.2.1 τ.2.2 j) (1 + q) (fun j τ => Cur p ⟨τ.1, τ.2.1⟩ ∧ τ.2.2.length = j) (fun k2 τ h3 => ?_) (fun k2 τ j hj h3 hk2 => ?_) (by omega) (s := (y2.2.i_, y2.2.h_, [])) ⟨h2.1, rfl⟩
      · obtain ⟨t1, t2⟩ := h3
        show Tot (ei _ _ _ _ _ (k2 + 1) _ _ _ _) _
        have gl := g2.1
        rw [ei, hq, bg (n := 1 + (q : Int)) (by omega) (by omega), if_neg (by simp), bL (by simp; omega), aI (by omega)]
        exact hk (_, _, _) ⟨t1, g2.app (by omega)⟩
      · obtain ⟨t1, t2⟩ := h3
        show Tot (ei _ _ _ _ _ (k2 + 1) _ _ _ _) _
        rw [ei, hq, bg (n := 1 + (q : Int)) (by omega) (by omega), if_pos (by simp; omega), zm (by omega)]
        simp only [bS]
        refine (gQ hp t1 _).bind fun y4 h4 => (fX hp h4.1 (by simp)).bind fun y5 h5 => ?_
        rw [bL (by simp; omega), aI (i := j) (by omega)]
        exact hk2 (_, _, _) ⟨h5.1, by simp; omega⟩
  · obtain ⟨m, hm, hm2⟩ : ∃ m : Nat, y.1 = m ∧ m ≤ 90 := by
      have h := hy.2
      simp only [List.mem_cons, List.not_mem_nil, or_false] at h
      exact ⟨y.1.toNat, by omega, by omega⟩
    rw [hm]
    refine (Es hp hy.1 hm2).bind fun z hz => ?_
    refine cD (fun k (l : List (List Int)) i => eh z k i l) z.1.length (fun _ l => ia 8 12 l) (fun k l h => ?_) (fun k l i hi h hk => ?_) (by have := hz.2; omega) (s := []) ⟨by simp, fun x hx => by cases hx⟩
    · show Tot (eh _ (k + 1) _ _) _
      rw [eh, if_neg (by simp)]
      exact aD ⟨hz.1, h⟩
    · show Tot (eh _ (k + 1) _ _) _
      have := hz.2
      rw [eh, if_pos (by simp; omega), bc hi, aI (by omega)]
      exact (Bo (w := ⟨l⟩) h).bind fun w hw => hk _ hw
theorem Av {c : ak} (hc : Cur p c) : TD p (mE p c) (fun w => ia 9 13 w.o_) := by
  unfold mE
  refine (Ak hp hc).bind fun w hw => (gQ hp hw.1 12).bind fun y hy => ?_
  have hl := hw.2.1
  have hm := hw.2.mono (a' := 9) (b' := 13) (by omega) (by omega)
  have keep : TD p (some (w.1, y.2)) (fun w => ia 9 13 w.o_) := aD ⟨hy.1, hm⟩
  refine bl (fun _ => ?_) (fun _ => bl (fun _ => bl (fun h0 => ?_) (fun _ => keep)) (fun _ => bl (fun _ => ?_) (fun _ => bl (fun _ => (fX hp hy.1 (by simp)).bind fun v hv => ?_) (fun _ => keep))))
  · rw [bL (by simp; omega)]
    exact aD ⟨hy.1, ((hw.2.mono (Nat.le_refl _) (by omega)).app (by simp) : ia (8 + 1) 13 _)⟩
  · have h0 : 0 < w.1.o_.length := by simpa using h0
    have e0 : idx w.1.o_ 0 = some w.1.o_[0] := bc h0
    have hr := hw.2.2 _ (List.getElem_mem h0)
    rw [e0]
    simp only [bS]
    refine (fX hp hy.1 (by simp)).bind fun v hv => ?_
    rw [bL (by simp; omega)]
    exact aD ⟨hv.1, hm.set (by simp; omega) _⟩
  · have key : ∀ (d k : Nat) (l : List (List Int)), 9 - l.length = d → d < k → ia 9 13 l → Tot (gp y k l) (fun z => Cur p z.2 ∧ ia 9 13 z.1.o_) := by
      intro d
      induction d with
      | zero =>
        intro k l hd hk hB
        obtain ⟨k, rfl⟩ : ∃ q, k = q + 1 := ⟨k - 1, by omega⟩
        rw [gp, if_neg (by simp; omega)]
        exact aD ⟨hy.1, hB⟩
      | succ d ih =>
        intro k l hd hk hB
        obtain ⟨k, rfl⟩ : ∃ q, k = q + 1 := ⟨k - 1, by omega⟩
        rw [gp, if_pos (by simp; omega), bL (by simp; omega)]
        exact ih k _ (by simp; omega) (by omega) ⟨by simp; omega, (hB.app (by simp)).2⟩
    exact key _ aY _ rfl (dl (by omega)) hm
  · rw [bL (by simp; omega)]
    exact aD ⟨hv.1, ((hw.2.mono (Nat.le_refl _) (by omega)).app (by simp) : ia (8 + 1) 13 _)⟩
theorem Ac : Tot (ja p) (fun w => ia 10 13 w.o_) := by
  unfold ja
  refine (DG hp).bind fun c hc => (Av hp hc).bind fun w hw => (mT hp hw.1 8).bind fun o _ => bl (fun _ => ?_) (fun _ => aD (hw.2.mono (by omega) (Nat.le_refl _)))
  have := hw.2.1
  rw [bL (by simp; omega)]
  exact aD (hw.2.app (by simp))
end
end Go.Vk
/- Lists of words and of numbers: copied, compared, marked. -/
namespace Go.Vk
theorem Cc {α : Type} (p : List α) : (p.map fun _ => 1).sum = p.length := by induction p with | nil => rfl | cons x p ih => simp [ih]; omega
end Go.Vk
/- Numbers and lists put into bytes. -/
namespace Go.Vk
def qb (n : Nat) : List Int := if h : n < 128 then [(n : Int)] else ((n % 128 + 128 : Nat) : Int) :: qb (n / 128)
termination_by n
decreasing_by omega
theorem pJ {n : Nat} (h : n < 128) : qb n = [(n : Int)] := by unfold qb; rw [dif_pos h]
theorem su {n : Nat} (h : ¬ n < 128) : qb n = ((n % 128 + 128 : Nat) : Int) :: qb (n / 128) := by rw [qb, dif_neg h]
theorem Bx {n : Nat} (h : n < 256) : IntKind.u8.wrap (n : Int) = n := by
  unfold IntKind.wrap
  simp [IntKind.bits, IntKind.signed]
  omega
theorem Ca : ∀ (d k n : Nat) (l : List Int), n < 128 ^ (d + 1) → n < 9223372036854775808 → d < k → l.length + d ≤ 1000000 →
    gW k (n : Int) l = some (l ++ qb n) ∧ gS k (n : Int) l = some (l ++ qb n, false) ∧ (qb n).length ≤ d + 1 := by
  intro d
  induction d with
  | zero =>
    intro k n l hn a hk hl
    obtain ⟨k, rfl⟩ : ∃ q, k = q + 1 := ⟨k - 1, by omega⟩
    unfold gW gS
    simp at hn
    rw [if_neg (by simp; omega), if_neg (by simp; omega), Bx (by omega), pJ hn, bL (by simp; omega)]
    exact ⟨rfl, rfl, by simp⟩
  | succ d ih =>
    intro k n l hn a hk hl
    obtain ⟨k, rfl⟩ : ∃ q, k = q + 1 := ⟨k - 1, by omega⟩
    unfold gW gS
    by_cases hc : n < 128
    · rw [if_neg (by simp; omega), if_neg (by simp; omega), Bx (by omega), pJ hc, bL (by simp; omega)]
      exact ⟨rfl, rfl, by simp⟩
    · rw [if_pos (by simp; omega), if_pos (by simp; omega)]
      rw [Co n a, FP _ (by omega), Gv]
      have e1 : IntKind.i64.wrap (Int.tdiv (n : Int) 128) = ((n / 128 : Nat) : Int) := by
        rw [show (128 : Int) = ((128 : Nat) : Int) from rfl, vt, fJ (by omega)]
      have e2 : Int.tmod (n : Int) 128 = ((n % 128 : Nat) : Int) := pi n 128
      have e3 : IntKind.i64.wrap (((n % 128 : Nat) : Int) + 128) = ((n % 128 + 128 : Nat) : Int) := by rw [bg (by omega) (by omega)]; simp
      rw [e1, e2, e3, Bx (by omega), bL (by simp; omega)]
      simp only [bS]
      obtain ⟨h1, h2, h3⟩ := ih k (n / 128) (l ++ [((n % 128 + 128 : Nat) : Int)]) (by
        rw [Nat.div_lt_iff_lt_mul (by omega), ← Nat.pow_succ]; exact hn) (by omega) (by omega) (by simp; omega)
      rw [h1, h2, su hc]
      exact ⟨by simp, by simp, by simp; omega⟩
def zig (x : Int) : Nat := if x < 0 then (-2 * x - 1).toNat else (2 * x).toNat
def InR (x : Int) : Prop := -1000000000 ≤ x ∧ x ≤ 1000000000
instance : DecidablePred InR := fun _ => inferInstanceAs (Decidable (_ ∧ _))
theorem wJ {x : Int} (h : InR x) : zig x ≤ 2000000000 := by obtain ⟨h0, h1⟩ := h; unfold zig; split <;> omega
def er (x : Int) : List Int := if InR x then qb (zig x) else []
theorem Ab {n : Nat} (h : n ≤ 2147483647) : lV (n : Int) = some (qb n) ∧ lT (n : Int) = some (qb n, false) ∧ (qb n).length ≤ 5 := by
  unfold lV lT bd bQ
  simp only [bS]
  rw [nA (by omega)]
  simp only [Bool.not_true, Bool.false_eq_true, if_false]
  obtain ⟨h1, h2, h3⟩ := Ca 4 aY n [] (by omega) (by omega) (dl (by omega)) (by simp)
  exact ⟨by simpa using h1, by simpa using h2, by simpa using h3⟩
theorem gC {x : Int} : dU x = some (er x) ∧ nu x = some (er x, decide ¬ InR x) ∧ (er x).length ≤ 5 := by
  unfold dU nu bd bQ er
  simp only [bS]
  by_cases hc : InR x
  · obtain ⟨h1, h2, h3⟩ := Ab (n := zig x) (by have := wJ hc; omega)
    rw [if_pos hc]
    have hb : (decide ¬ InR x) = false := by simp [hc]
    rw [hb]
    obtain ⟨c1, c2⟩ := hc
    rw [nA ⟨c1, c2⟩]
    simp only [Bool.not_true, Bool.false_eq_true, if_false]
    by_cases hn : x < 0
    · rw [if_pos (by simpa using hn), if_pos (by simpa using hn)]
      have e : IntKind.i64.wrap ((IntKind.i64.wrap (0 - (IntKind.i64.wrap (2 * x)))) - 1) = (zig x : Nat) := by
        rw [bg (n := 2 * x) (by omega) (by omega), bg (n := 0 - 2 * x) (by omega) (by omega), bg (by omega) (by omega)]
        unfold zig; rw [if_pos hn]; omega
      have e' : IntKind.i64.wrap ((IntKind.i64.wrap ((-2) * x)) - 1) = (zig x : Nat) := by
        rw [bg (n := -2 * x) (by omega) (by omega), bg (by omega) (by omega)]
        unfold zig; rw [if_pos hn]; omega
      rw [e, e', h1, h2]
      exact ⟨rfl, rfl, h3⟩
    · rw [if_neg (by simpa using hn), if_neg (by simpa using hn)]
      have e : IntKind.i64.wrap (2 * x) = (zig x : Nat) := by
        rw [bg (n := 2 * x) (by omega) (by omega)]
        unfold zig; rw [if_neg hn]; omega
      rw [e, h1, h2]
      exact ⟨rfl, rfl, h3⟩
  · rw [if_neg hc, oH (by exact hc)]
    have hb : (decide ¬ InR x) = true := by simp [hc]
    rw [hb]
    exact ⟨rfl, rfl, by simp⟩
def mI (xs : List Int) : List Int := xs.flatMap er
theorem mS (xs : List Int) : (mI xs).length ≤ 5 * xs.length := by
  induction xs with
  | nil => simp [mI]
  | cons x xs ih => 
    have := (gC (x := x)).2.2
    simp only [mI, List.flatMap_cons, List.length_append, List.length_cons] at ih ⊢
    omega
theorem rO {p : List Int} (hp : p.length < 1000000000000) : eY p = some (decide (∀ x ∈ p, InR x)) := by
  unfold eY
  refine xD (P := InR) (jh p) (fun k => ?_) (fun k i h => ?_) hp
  · show (if _ then _ else _) = _
    rw [if_neg (by simp)]
  · show (if _ then _ else _) = _
    rw [if_pos (by simp; omega), bc h, aI (by omega)]
    unfold bd
    simp only [bS]
    by_cases hc : InR p[i]
    · rw [nA hc, if_pos hc]; rfl
    · rw [oH hc, if_neg hc]; rfl
theorem vH {p : List Int} (hp : p.length ≤ 1048576) (l : List Int) (hl : l.length ≤ 1000000000) : ij p aY l 0 = some (l ++ mI p) := by
  rw [sa (p := p) (fun k s i => ij p k s i) (fun s x => .inr (s ++ er x)) (fun s => some s) (fun i s => s.length ≤ l.length + 5 * i)
    (fun k s _ => by show (if _ then _ else _) = _; rw [if_neg (by simp)])
    (fun k s i h hI => ⟨by
      show (if _ then _ else _) = _
      rw [if_pos (by simp; omega), bc h, aI (by omega)]
      simp only [bS]
      rw [gC.1]
      simp only [bS]
      rw [bL (by have := (gC (x := p[i])).2.2; omega)]
      rfl, fun s' e => by
      have := (gC (x := p[i])).2.2
      obtain rfl := Sum.inr.inj e
      rw [List.length_append]; omega⟩) (by omega) l (by omega)]
  clear hp hl
  induction p generalizing l with
  | nil => simp [run, mI]
  | cons x p ih => show run _ _ (l ++ er x) p = _; rw [ih]; simp [mI]
theorem jo {p : List Int} (hp : p.length ≤ 1048576) (l : List Int) (q : Bool) (hl : l.length ≤ 1000000000) : cN ⟨l, q⟩ p = some ⟨l ++ mI p, q || decide (¬ ∀ x ∈ p, InR x)⟩ := by
  unfold cN
  show ek p aY l q 0 = _
  rw [show ek p aY l q 0 = _ from sa (p := p) (fun k (s : List Int × Bool) i => ek p k s.1 s.2 i) (fun s x => .inr (s.1 ++ er x, s.2 || decide ¬ InR x)) (fun s => some ⟨s.1, s.2⟩) (fun i s => s.1.length ≤ l.length + 5 * i)
    (fun k s _ => by show (if _ then _ else _) = _; rw [if_neg (by simp)])
    (fun k s i h hI => ⟨by
      show (if _ then _ else _) = _
      rw [if_pos (by simp; omega), bc h, aI (by omega)]
      simp only [bS]
      rw [gC.2.1]
      simp only [bS]
      rw [bL (by have := (gC (x := p[i])).2.2; omega)]
      rfl, fun s' e => by
      have := (gC (x := p[i])).2.2
      obtain rfl := Sum.inr.inj e
      show (s.1 ++ _).length ≤ _
      rw [List.length_append]; omega⟩) (by omega) (l, q) (Nat.le_add_right _ _)]
  clear hp hl
  induction p generalizing l q with
  | nil => simp [run, mI]
  | cons x p ih =>
    show run _ _ (l ++ er x, q || decide ¬ InR x) p = _
    rw [ih]
    congr 2
    · simp [mI]
    · by_cases h : InR x <;> simp [h]
theorem xt {p : List Int} (hp : p.length ≤ 1048576) (l : List Int) (q : Bool) (hl : l.length ≤ 900000000) : dF ⟨l, q⟩ p = some ⟨l ++ er p.length ++ mI p, q || decide (¬ ∀ x ∈ p, InR x)⟩ := by
  unfold dF
  rw [jo (by simp) l q (by omega)]
  have h1 : InR (p.length : Int) := ⟨by omega, by omega⟩
  have h2 : mI [(p.length : Int)] = er p.length := by simp [mI]
  rw [h2]
  simp only [bS]
  have := (gC (x := (p.length : Int))).2.2
  rw [jo hp _ _ (by rw [List.length_append]; omega)]
  simp [h1]
theorem vg {p : List Int} (hp : p.length ≤ 1048576) : iy p = some (if ∀ x ∈ p, InR x then er p.length ++ mI p else []) := by
  unfold iy
  rw [rO (by omega)]
  simp only [bS]
  by_cases h : ∀ x ∈ p, InR x
  · rw [if_pos h]
    rw [decide_eq_true h]
    simp only [Bool.not_true, Bool.false_eq_true, if_false]
    rw [gC.1]
    simp only [bS]
    exact vH hp _ (by have := (gC (x := (p.length : Int))).2.2; omega)
  · rw [if_neg h]
    rw [decide_eq_false h]
    rfl
end Go.Vk
/- Numbers read from bytes; readers. -/
namespace Go.Vk
def gJ (p : List Int) : Prop := ∀ x ∈ p, 0 ≤ x ∧ x ≤ 255
theorem zF {p : List Int} (hb : gJ p) {i : Nat} (h : i < p.length) : ∃ n : Nat, p[i] = (n : Int) ∧ n ≤ 255 := by
  obtain ⟨h0, h1⟩ := hb p[i] (List.getElem_mem h)
  exact ⟨p[i].toNat, by omega, by omega⟩
theorem vk (x : Int) {y : Int} (h : 0 ≤ y) : shl .i64 x y = some (yN .i64 x y) := by
  unfold shl; rw [if_neg (by omega)]
def I64 (a : Int) : Prop := -9223372036854775808 ≤ a ∧ a ≤ 9223372036854775807
def xf (p : List Int) (a : Int) (r : Int × Int × Bool) : Prop := (r.2.2 = true ∧ 0 ≤ a ∧ a < r.2.1 ∧ r.2.1 ≤ p.length) ∨ r = (0, 0, false)
theorem Aw {p : List Int} {a : Int} (hb : gJ p) (hp : p.length ≤ 1048576) (h0 : 0 ≤ a) (h1 : a ≤ 9223372036854775807) : ∀ (d k i : Nat) (x : Int), 5 - i = d → d < k → i ≤ 5 →
    ∃ r, gT a p k x (i : Int) = some r ∧ gV a p k x (i : Int) = some r ∧ xf p a r := by
  intro d
  induction d with
  | zero =>
    intro k i x hd hk hi
    obtain ⟨k, rfl⟩ : ∃ q, k = q + 1 := ⟨k - 1, by omega⟩
    unfold gT gV
    rw [if_neg (by simp; omega), if_neg (by simp; omega)]
    exact ⟨_, rfl, rfl, .inr rfl⟩
  | succ d ih =>
    intro k i x hd hk hi
    obtain ⟨k, rfl⟩ : ∃ q, k = q + 1 := ⟨k - 1, by omega⟩
    unfold gT gV
    rw [if_pos (by simp; omega)]
    have hw : IntKind.i64.wrap ((p.length : Int) - (i : Int)) = (p.length : Int) - i := bg (by omega) (by omega)
    rw [hw]
    by_cases hc : a + i < p.length
    · have hs : IntKind.i64.wrap (a + (i : Int)) = a + i := bg (by omega) (by omega)
      rw [hs, if_neg (by simp; omega), if_pos (by simp; omega)]
      obtain ⟨j, hj⟩ : ∃ j : Nat, a + (i : Int) = (j : Int) := ⟨(a + i).toNat, by omega⟩
      rw [hj, bc (show j < p.length by omega)]
      simp only [bS]
      obtain ⟨n, hn, hn2⟩ := zF hb (show j < p.length by omega)
      rw [hn, fJ (n := n) (by omega), Co n (by omega), show Int.tmod (n : Int) 128 = ((n % 128 : Nat) : Int) from pi n 128]
      rw [vk _ (show 0 ≤ IntKind.i64.wrap (7 * (i : Int)) by rw [bg (by omega) (by omega)]; omega)]
      simp only [bS]
      by_cases hm : n < 128
      · rw [if_pos (c := decide ((n : Int) < 128) = true) (by simp; omega), if_neg (c := decide ((n : Int) ≥ 128) = true) (by simp; omega)]
        rw [Bool.and_comm (decide ((i : Int) > 0))]
        generalize ((((n : Int) == 0) && decide ((i : Int) > 0)) || decide (el .or .i64 x (yN .i64 ((n % 128 : Nat) : Int) (IntKind.i64.wrap (7 * (i : Int)))) > 2147483647)) = b
        cases b
        · refine ⟨_, rfl, rfl, .inl ⟨rfl, h0, ?_, ?_⟩⟩
          · show a < IntKind.i64.wrap ((j : Int) + 1)
            rw [bg (by omega) (by omega)]; omega
          · show IntKind.i64.wrap ((j : Int) + 1) ≤ _
            rw [bg (by omega) (by omega)]; omega
        · exact ⟨_, rfl, rfl, .inr rfl⟩
      · rw [if_neg (c := decide ((n : Int) < 128) = true) (by simp; omega), if_pos (c := decide ((n : Int) ≥ 128) = true) (by simp; omega)]
        rw [aI (by omega)]
        exact ih k (i + 1) _ (by omega) (by omega) (by omega)
    · rw [if_pos (by simp; omega), if_neg ?_]
      · exact ⟨_, rfl, rfl, .inr rfl⟩
      · rw [IntKind.wrap_i64]
        simp only [Bool.and_eq_true, decide_eq_true_eq, not_and]
        omega
theorem xX {p : List Int} {a : Int} (hb : gJ p) (hp : p.length ≤ 1048576) (ha : I64 a) : ∃ r, oK p a = some r ∧ ng p a = some r ∧ xf p a r := by
  unfold oK ng
  by_cases h0 : a < 0
  · rw [if_pos (by simpa using h0)]
    refine ⟨_, ?_, rfl, .inr rfl⟩
    obtain ⟨k, hk⟩ : ∃ k, aY = k + 1 := ⟨aY - 1, by have := dl (n := 1) (by omega); omega⟩
    rw [hk]
    unfold gT
    rw [if_pos (by simp), if_pos (by simp [h0])]
  · rw [if_neg (by simpa using h0)]
    exact Aw hb hp (by omega) ha.2 5 aY 0 0 (by omega) (dl (by omega)) (by omega)
theorem xw {p : List Int} {a : Int} (hb : gJ p) (hp : p.length ≤ 1048576) (ha : I64 a) : ∃ r, kH p a = some r ∧ kJ p a = some r ∧ xf p a r ∧ InR r.1 := by
  unfold kH kJ
  obtain ⟨r, e1, e2, hr⟩ := xX hb hp ha
  rw [e1, e2]
  simp only [bS]
  have hJ : ∀ z, ∃ q, (if (!r.2.2) = true then some (0, 0, false) else kC r z) = some q ∧ jN r z = some q ∧ xf p a q ∧ InR q.1 := by
    intro z
    unfold kC jN bd bQ
    simp only [bS]
    rcases hr with ⟨h1, h2, h3, h4⟩ | rfl
    · rw [h1]
      simp only [Bool.not_true, Bool.false_eq_true, if_false]
      by_cases hz : InR z
      · rw [nA hz]
        exact ⟨_, rfl, rfl, .inl ⟨rfl, h2, h3, h4⟩, hz⟩
      · rw [oH hz]
        exact ⟨_, rfl, rfl, .inr rfl, by decide⟩
    · exact ⟨_, rfl, rfl, .inr rfl, by decide⟩
  obtain ⟨q1, a1, a2, a3⟩ := hJ (IntKind.i64.wrap ((IntKind.i64.wrap (0 - (IntKind.i64.wrap (Int.tdiv r.1 2)))) - 1))
  obtain ⟨q2, b1, b2, b3⟩ := hJ (IntKind.i64.wrap (Int.tdiv r.1 2))
  cases hc : (Int.tmod r.1 2 == 1)
  · refine ⟨q2, ?_, by simpa using b2, b3⟩
    rw [← b1]; cases r.2.2 <;> simp
  · refine ⟨q1, ?_, by simpa using a2, a3⟩
    rw [← a1]; cases r.2.2 <;> simp
abbrev Pz (α : Type) := Int → Option (α × Int)
def Pz.many {α : Type} (P : Pz α) : Nat → Pz (List α)
  | 0, a => some ([], a)
  | n + 1, a => (P a).bind fun y => (many P n y.2).bind fun z => some (y.1 :: z.1, z.2)
def Pz.map {α β : Type} (f : α → β) (P : Pz α) : Pz β := fun a => (P a).map fun y => (f y.1, y.2)
def tR {α : Type} (p : List Int) (P : Pz α) (sz : α → Nat) : Prop := ∀ a v b, I64 a → P a = some (v, b) → 0 ≤ a ∧ a + sz v ≤ b ∧ b ≤ p.length ∧ 1 ≤ sz v
def rM {α : Type} (op : aF → Option (α × aF)) (P : Pz α) : Prop :=
  (∀ a, ∃ v a', op ⟨a, true⟩ = some (v, ⟨a', true⟩)) ∧ ∀ a, I64 a → (∀ v b, P a = some (v, b) → op ⟨a, false⟩ = some (v, ⟨b, false⟩)) ∧ (P a = none → ∃ v a', op ⟨a, false⟩ = some (v, ⟨a', true⟩))
theorem tR.i64 {α : Type} {p : List Int} {P : Pz α} {sz : α → Nat} (h : tR p P sz) (hp : p.length ≤ 1048576) {a b : Int} {v : α} (ha : I64 a) (e : P a = some (v, b)) : I64 b := by
  obtain ⟨h1, h2, h3, _⟩ := h a v b ha e
  exact ⟨by omega, by omega⟩
theorem wm {α : Type} {p : List Int} {P : Pz α} {sz : α → Nat} (h : tR p P sz) (hp : p.length ≤ 1048576) : ∀ (n : Nat) (a : Int) (vs : List α) (b : Int), 0 ≤ a → a ≤ p.length → P.many n a = some (vs, b) → a + (vs.map sz).sum ≤ b ∧ b ≤ p.length ∧ vs.length = n ∧ n ≤ (vs.map sz).sum := by
  intro n
  induction n with
  | zero =>
    intro a vs b h0 h1 e
    obtain ⟨rfl, rfl⟩ := Prod.mk.inj (Option.some.inj e)
    exact ⟨by simp, h1, rfl, Nat.zero_le _⟩
  | succ n ih =>
    intro a vs b h0 h1 e
    unfold Pz.many at e
    cases hP : P a with
    | none => rw [hP] at e; simp at e
    | some y =>
      rw [hP] at e
      simp only [bS] at e
      cases hm : P.many n y.2 with
      | none => rw [hm] at e; simp at e
      | some z =>
        rw [hm] at e
        obtain ⟨rfl, rfl⟩ := Prod.mk.inj (Option.some.inj e)
        obtain ⟨g1, g2, g3, g4⟩ := h a y.1 y.2 ⟨by omega, by omega⟩ hP
        obtain ⟨i1, i2, i3, i4⟩ := ih y.2 z.1 z.2 (by omega) g3 hm
        simp only [List.map_cons, List.sum_cons, List.length_cons]
        exact ⟨by omega, i2, by omega, by omega⟩
noncomputable def gI (p : List Int) : Pz Int := fun a => match kH p a with
  | some (v, b, true) => some (v, b)
  | _ => none
section
variable {p : List Int} (hb : gJ p) (hp : p.length ≤ 1048576)
include hb hp
theorem vi {a : Int} (ha : I64 a) : (∃ v b, gI p a = some (v, b) ∧ kH p a = some (v, b, true) ∧ kJ p a = some (v, b, true) ∧ 0 ≤ a ∧ a < b ∧ b ≤ p.length ∧ InR v) ∨ (gI p a = none ∧ kH p a = some (0, 0, false) ∧ kJ p a = some (0, 0, false)) := by
  obtain ⟨⟨v, b, q⟩, h1, h2, h3, h4⟩ := xw hb hp ha
  unfold gI
  rcases h3 with ⟨hq, h5, h6, h7⟩ | h3
  · obtain rfl : q = true := hq
    exact .inl ⟨v, b, by rw [h1], h1, h2, h5, h6, h7, h4⟩
  · rw [h3] at h1 h2
    exact .inr ⟨by rw [h1], h1, h2⟩
theorem DS {a : Int} (ha : I64 a) {v b : Int} (h : gI p a = some (v, b)) : InR v := by
  rcases vi hb hp ha with ⟨v', b', h1, _, _, _, _, _, h2⟩ | ⟨h1, _⟩
  · rw [h] at h1; obtain ⟨rfl, rfl⟩ := Prod.mk.inj (Option.some.inj h1); exact h2
  · rw [h] at h1; simp at h1
omit hb hp in
theorem vU (a : Int) : bH p ⟨a, true⟩ = some (0, ⟨a, true⟩) := rfl
theorem xK : rM (bH p) (gI p) := ⟨fun a => ⟨_, _, rfl⟩, fun a ha => by
  unfold bH
  simp only [Bool.false_eq_true, if_false]
  rcases vi hb hp ha with ⟨v, b, h1, _, h2, _⟩ | ⟨h1, _, h2⟩ <;> rw [h1, h2]
  · refine ⟨fun v' b' e => ?_, fun e => by simp at e⟩
    obtain ⟨rfl, rfl⟩ := Prod.mk.inj (Option.some.inj e)
    rfl
  · exact ⟨fun v' b' e => by simp at e, fun _ => ⟨_, _, rfl⟩⟩⟩
end
theorem mY {p : List Int} (hb : gJ p) (hp : p.length ≤ 1048576) : tR p (gI p) (fun _ => 1) := fun a v b ha h => by
  rcases vi hb hp ha with ⟨v', b', h1, _, _, h3, h4, h5, _⟩ | ⟨h1, _⟩
  · rw [h] at h1; obtain ⟨rfl, rfl⟩ := Prod.mk.inj (Option.some.inj h1); exact ⟨h3, by show a + ((1 : Nat) : Int) ≤ b; omega, h5, Nat.le_refl _⟩
  · rw [h] at h1; simp at h1
theorem wY {α ρ : Type} {op : aF → Option (α × aF)}
    {Lp : Nat → Int → Bool → List α → Int → Option ρ} {fin : List α → aF → Option ρ}
    (step : ∀ k a q l n, Lp (k + 1) a q l n = if (decide (n > 0)) && !q then (op ⟨a, q⟩).bind fun y => (app l [y.1]).bind fun l' => Lp k y.2.e_ y.2.C_ l' (IntKind.i64.wrap (n - 1)) else fin l ⟨a, q⟩)
    {k : Nat} (hk : 0 < k) (a : Int) (l : List α) (n : Int) : Lp k a true l n = fin l ⟨a, true⟩ := by
  obtain ⟨k, rfl⟩ : ∃ q, k = q + 1 := ⟨k - 1, by omega⟩
  rw [step, if_neg (by simp)]
theorem CC {α ρ : Type} {op : aF → Option (α × aF)} {P : Pz α} {sz : α → Nat} {p : List Int} (hr : rM op P) (hg : tR p P sz) (hp : p.length ≤ 1048576)
    (Lp : Nat → Int → Bool → List α → Int → Option ρ) (fin : List α → aF → Option ρ)
    (step : ∀ k a q l n, Lp (k + 1) a q l n = if (decide (n > 0)) && !q then (op ⟨a, q⟩).bind fun y => (app l [y.1]).bind fun l' => Lp k y.2.e_ y.2.C_ l' (IntKind.i64.wrap (n - 1)) else fin l ⟨a, q⟩) :
    ∀ (d k : Nat) (n a : Int) (l : List α), n.toNat = d → d + 1 < k → n ≤ 1000000000 → 0 ≤ n → l.length + d ≤ 1000000000 → I64 a →
      (∀ vs c, P.many d a = some (vs, c) → Lp k a false l n = fin (l ++ vs) ⟨c, false⟩) ∧ (P.many d a = none → ∃ l' a', Lp k a false l n = fin l' ⟨a', true⟩) := by
  intro d
  induction d with
  | zero =>
    intro k n a l hd hk hn hn0 hl ha
    obtain ⟨k, rfl⟩ : ∃ q, k = q + 1 := ⟨k - 1, by omega⟩
    rw [step, if_neg (by simp; omega)]
    refine ⟨fun vs c e => ?_, fun e => by simp [Pz.many] at e⟩
    obtain ⟨rfl, rfl⟩ := Prod.mk.inj (Option.some.inj e)
    simp
  | succ d ih =>
    intro k n a l hd hk hn hn0 hl ha
    obtain ⟨k, rfl⟩ : ∃ q, k = q + 1 := ⟨k - 1, by omega⟩
    rw [step, if_pos (by simp; omega)]
    unfold Pz.many
    cases h : P a with
    | none =>
      refine ⟨fun vs c e => by simp at e, fun _ => ?_⟩
      obtain ⟨v, a', e⟩ := (hr.2 a ha).2 h
      rw [e]
      simp only [bS]
      rw [bL (by simp; omega)]
      simp only [bS]
      exact ⟨_, _, wY step (by omega) _ _ _⟩
    | some y =>
      obtain ⟨v, b⟩ := y
      rw [(hr.2 a ha).1 v b h]
      simp only [bS]
      rw [bL (by simp; omega)]
      simp only [bS]
      rw [bg (by omega) (by omega)]
      obtain ⟨i1, i2⟩ := ih k (n - 1) b (l ++ [v]) (by omega) (by omega) (by omega) (by omega) (by simp; omega) (hg.i64 hp ha h)
      refine ⟨fun vs c e => ?_, fun e => ?_⟩
      · cases hm : P.many d b with
        | none => rw [hm] at e; simp at e
        | some q =>
          rw [hm] at e
          obtain ⟨rfl, rfl⟩ := Prod.mk.inj (Option.some.inj e)
          rw [i1 q.1 q.2 hm]
          simp
      · cases hm : P.many d b with
        | none => exact i2 hm
        | some q => rw [hm] at e; simp at e
noncomputable def cIr (p : List Int) : Pz Int := fun a => (gI p a).bind fun y => if y.1 < 0 ∨ (p.length : Int) - y.2 < y.1 then none else some y
noncomputable def gA {α : Type} (p : List Int) (P : Pz α) : Pz (List α) := fun a => (gI p a).bind fun y => if y.1 < 0 then none else P.many y.1.toNat y.2
section
variable {p : List Int} (hb : gJ p) (hp : p.length ≤ 1048576)
include hb hp
omit hb hp in
theorem AZ {a n b : Int} (h : cIr p a = some (n, b)) : gI p a = some (n, b) ∧ 0 ≤ n ∧ n ≤ p.length - b := by
  unfold cIr at h
  cases hg : gI p a with
  | none => rw [hg] at h; simp at h
  | some y =>
    rw [hg] at h
    simp only [bS] at h
    split at h
    · simp at h
    · rename_i hc
      obtain rfl := Option.some.inj h
      exact ⟨rfl, by omega, by omega⟩
theorem Dd {α : Type} {P : Pz α} {sz : α → Nat} (hg : tR p P sz) {a : Int} (ha : I64 a) : gA p P a = (cIr p a).bind fun y => P.many y.1.toNat y.2 := by
  unfold gA cIr
  cases h : gI p a with
  | none => rfl
  | some y =>
    obtain ⟨g1, g2, g3, _⟩ := mY hb hp a y.1 y.2 ha h
    simp only [bS]
    by_cases h1 : y.1 < 0
    · rw [if_pos h1, if_pos (.inl h1)]; rfl
    · rw [if_neg h1]
      by_cases h2 : (p.length : Int) - y.2 < y.1
      · rw [if_pos (.inr h2)]
        cases hm : P.many y.1.toNat y.2 with
        | none => rfl
        | some q =>
          obtain ⟨i1, i2, i3, i4⟩ := wm hg hp _ _ q.1 q.2 (by omega) g3 hm
          exfalso; omega
      · rw [if_neg (by omega)]; rfl
theorem wl {α : Type} {P : Pz α} {sz : α → Nat} (hg : tR p P sz) : tR p (gA p P) (fun vs => 1 + (vs.map sz).sum) := fun a vs b ha h => by
  unfold gA at h
  cases hG : gI p a with
  | none => rw [hG] at h; simp at h
  | some y =>
    rw [hG] at h
    simp only [bS] at h
    obtain ⟨g1, g2, g3, _⟩ := mY hb hp a y.1 y.2 ha hG
    have g2' : a + ((1 : Nat) : Int) ≤ y.2 := g2
    split at h
    · simp at h
    · obtain ⟨i1, i2, i3, i4⟩ := wm hg hp _ _ vs b (by omega) g3 h
      exact ⟨g1, by show a + ((1 + (vs.map sz).sum : Nat) : Int) ≤ b; omega, i2, by show 1 ≤ 1 + (vs.map sz).sum; omega⟩
theorem xo : rM (du p) (cIr p) := ⟨fun a => by
  unfold du
  rw [vU]
  simp only [bS]
  split <;> exact ⟨_, _, rfl⟩, fun a ha => by
  unfold du cIr
  have hr := (xK hb hp).2 a ha
  cases h : gI p a with
  | none =>
    obtain ⟨v, a', e⟩ := hr.2 h
    rw [e]
    simp only [bS]
    refine ⟨fun v b e => by simp at e, fun _ => ?_⟩
    split <;> exact ⟨_, _, rfl⟩
  | some y =>
    obtain ⟨n, b⟩ := y
    obtain ⟨g1, g2, g3, _⟩ := mY hb hp a n b ha h
    rw [hr.1 n b h]
    simp only [bS]
    rw [bg (n := (p.length : Int) - b) (by omega) (by omega)]
    by_cases hc : n < 0 ∨ (p.length : Int) - b < n
    · rw [if_pos hc]
      exact ⟨fun v b e => by simp at e, fun _ => ⟨0, b, if_pos (by simp; omega)⟩⟩
    · rw [if_neg hc, if_neg (by simp; omega)]
      refine ⟨fun v' b' e => ?_, fun e => by simp at e⟩
      obtain ⟨rfl, rfl⟩ := Prod.mk.inj (Option.some.inj e)
      rfl⟩
end
end Go.Vk
/- Lists and lists of lists, read. -/
namespace Go.Vk
theorem Pz.map_some {α β : Type} {f : α → β} {P : Pz α} {a b : Int} {v : α} (h : P a = some (v, b)) : Pz.map f P a = some (f v, b) := by unfold Pz.map; rw [h]; rfl
theorem Pz.map_none {α β : Type} {f : α → β} {P : Pz α} {a : Int} (h : P a = none) : Pz.map f P a = none := by unfold Pz.map; rw [h]; rfl
theorem Pz.map_id {α : Type} {P : Pz α} : Pz.map id P = P := by funext a; unfold Pz.map; cases P a <;> rfl
section
variable {p : List Int} (hb : gJ p) (hp : p.length ≤ 1048576)
include hb hp
theorem wZ {α β : Type} {op : aF → Option (α × aF)} {P : Pz α} {sz : α → Nat} (hr : rM op P) (hg : tR p P sz) (mk : List α → β) {big : aF → Option (β × aF)}
    (Lp : Nat → Int → Bool → List α → Int → Option (β × aF))
    (hbig : ∀ s, big s = (du p s).bind fun y => Lp aY y.2.e_ y.2.C_ [] y.1)
    (step : ∀ k a q l n, Lp (k + 1) a q l n = if (decide (n > 0)) && !q then (op ⟨a, q⟩).bind fun y => (app l [y.1]).bind fun l' => Lp k y.2.e_ y.2.C_ l' (IntKind.i64.wrap (n - 1)) else some (mk l, ⟨a, q⟩)) :
    rM big (Pz.map mk (gA p P)) := ⟨fun a => by
  obtain ⟨v, a', e⟩ := (xo hb hp).1 a
  rw [hbig, e]
  simp only [bS]
  exact ⟨_, _, wY (Lp := Lp) (fin := fun l s => some (mk l, s)) step (dl (by omega)) _ _ _⟩, fun a ha => by
  rw [hbig]
  have hc := (xo hb hp).2 a ha
  have hl := Dd hb hp hg ha
  cases h : cIr p a with
  | none =>
    rw [h] at hl
    rw [Pz.map_none (by rw [hl]; rfl)]
    obtain ⟨v, a', e⟩ := hc.2 h
    rw [e]
    simp only [bS]
    exact ⟨fun v b e => by simp at e, fun _ => ⟨_, _, wY (Lp := Lp) (fin := fun l s => some (mk l, s)) step (dl (by omega)) _ _ _⟩⟩
  | some y =>
    obtain ⟨n, b⟩ := y
    rw [h] at hl
    rw [hc.1 n b h]
    simp only [bS]
    obtain ⟨h1, h2, h3⟩ := AZ h
    obtain ⟨g1, g2, g3, _⟩ := mY hb hp a n b ha h1
    have hi := DS hb hp ha h1
    obtain ⟨m1, m2⟩ := CC hr hg hp Lp (fun l s => some (mk l, s)) step n.toNat aY n b [] rfl (dl (by have := hi.2; omega)) hi.2 h2 (by have := hi.2; simp; omega) (mY hb hp |>.i64 hp ha h1)
    simp only [bS] at hl
    cases hm : P.many n.toNat b with
    | none =>
      rw [Pz.map_none (by rw [hl, hm])]
      obtain ⟨l', a', e⟩ := m2 hm
      exact ⟨fun v b e => by simp at e, fun _ => ⟨_, _, e⟩⟩
    | some z =>
      rw [Pz.map_some (by rw [hl, hm])]
      refine ⟨fun v b e => ?_, fun e => by simp at e⟩
      obtain ⟨rfl, rfl⟩ := Prod.mk.inj (Option.some.inj e)
      exact m1 z.1 z.2 hm⟩
theorem pE : tR p (gA p (gI p)) (fun vs => 1 + vs.length) := by
  have := wl hb hp (mY hb hp)
  simpa only [Cc] using this
theorem xq : rM (cP p) (gA p (gI p)) := by
  have := wZ hb hp (xK hb hp) (mY hb hp) id (big := cP p) (gi p) (fun _ => rfl) (fun _ _ _ _ _ => rfl)
  rwa [Pz.map_id] at this
theorem tw : tR p (gA p (gA p (gI p))) (fun vs => 1 + (vs.map fun v => 1 + v.length).sum) := wl hb hp (pE hb hp)
theorem vh : rM (fD p) (Pz.map aE.mk (gA p (gA p (gI p)))) :=
  wZ hb hp (xq hb hp) (pE hb hp) aE.mk (big := fD p) (dy p) (fun _ => rfl) (fun _ _ _ _ _ => rfl)
end
theorem AI {α : Type} {f : α → Nat} {p : List α} {x : α} (h : x ∈ p) : f x ≤ (p.map f).sum := by
  induction p with
  | nil => simp at h
  | cons y p ih =>
    simp only [List.map_cons, List.sum_cons]
    rcases List.mem_cons.1 h with rfl | h
    · omega
    · have := ih h; omega
end Go.Vk
/- Windows: weighed, copied, put. -/
namespace Go.Vk
def yZ (n : Nat) : Prop := n < 9223372036854775808
def oG (x : List (List Int)) : Nat := x.length + (x.map List.length).sum
def kj (p : List Int) : Prop := ∀ x ∈ p, InR x
instance : DecidablePred kj := fun p => inferInstanceAs (Decidable (∀ x ∈ p, InR x))
def jy (p : List Int) : List Int := er p.length ++ mI p
theorem dT (x : Int) : (er x).length ≤ 5 := gC.2.2
theorem jV (p : List Int) : (jy p).length ≤ 5 * (1 + p.length) := by
  have := dT p.length
  have := mS p
  unfold jy
  rw [List.length_append]; omega
theorem oE (p : List (List Int)) : (p.flatMap jy).length ≤ 5 * oG p := by
  unfold oG
  induction p with
  | nil => simp
  | cons x p ih =>
    have := jV x
    simp only [List.flatMap_cons, List.length_append, List.map_cons, List.sum_cons, List.length_cons]
    omega
theorem nK {p : List (List Int)} : p.length ≤ oG p := by unfold oG; omega
theorem pq {p : List (List Int)} {x : List Int} (h : x ∈ p) : x.length ≤ oG p := by
  have := AI (f := List.length) h
  unfold oG; omega
theorem oJ {p : List Int} (hp : p.length ≤ 1048576) (hf : kj p) : iy p = some (jy p) := by
  rw [vg hp, if_pos (show ∀ x ∈ p, InR x from hf)]; rfl
theorem qC {p : List (List Int)} (hs : oG p ≤ 1048576) (hf : ∀ x ∈ p, kj x) : gH p = some (er p.length ++ p.flatMap jy) := by
  unfold gH
  rw [gC.1]
  simp only [bS]
  have h1 := oE p
  have h2 := dT p.length
  have h3 := @nK p
  exact yl (p := p) (σ := Unit) (ρ := List Int) jy (fun _ _ => ()) (fun k l _ i => gk p k l i) (fun l _ => some l)
    (fun k l q => by show (if _ then _ else _) = _; rw [if_neg (by simp)])
    (fun k l q i h hl => by
      show (if _ then _ else _) = _
      have hm := List.getElem_mem h
      rw [if_pos (by simp; omega), bc h, aI (by omega)]
      simp only [bS]
      rw [oJ (by have := pq hm; omega) (hf _ hm)]
      simp only [bS]
      rw [bL (by omega)]
      rfl) (by omega) _ () (by omega)
theorem nH {p : List Int} (hp : p.length ≤ 1048576) (l : List Int) (q : Bool) (hl : l.length ≤ 900000000) : dF ⟨l, q⟩ p = some ⟨l ++ jy p, q || decide (¬ kj p)⟩ := by
  rw [xt hp l q hl, List.append_assoc]; rfl
theorem se {ρ : Type} {p : List (List Int)} (hs : oG p ≤ 1048576) (Lp : Nat → List Int → Bool → Int → Option ρ) (fin : List Int → Bool → Option ρ)
    (step : ∀ k l q i, Lp (k + 1) l q i = if decide (i < (p.length : Int)) then (idx p i).bind fun e => (dF ⟨l, q⟩ e).bind fun y => Lp k y.H_ y.C_ (IntKind.i64.wrap (i + 1)) else fin l q)
    (l : List Int) (q : Bool) (hl : l.length ≤ 700000000) : Lp aY l q 0 = fin (l ++ p.flatMap jy) (q || decide (¬ ∀ x ∈ p, kj x)) := by
  have h1 := oE p
  have h3 := @nK p
  rw [← wk]
  exact yl (p := p) (σ := Bool) jy (fun q x => q || decide (¬ kj x)) Lp fin
    (fun k l q => by rw [step, if_neg (by simp)])
    (fun k l q i h hl => by
      have hm := List.getElem_mem h
      rw [step, if_pos (by simp; omega), bc h, aI (by omega)]
      simp only [bS]
      rw [nH (by have := pq hm; omega) l q (by omega)]
      rfl) (by omega) _ q (by omega)
theorem vO {x : aE} (hs : oG x.o_ ≤ 1048576) : kI x = some (if ∀ r ∈ x.o_, kj r then er x.o_.length ++ x.o_.flatMap jy else []) := by
  unfold kI
  have h3 := @nK x.o_
  rw [vW (p := x.o_) (P := kj) (fin := (gH x.o_).bind fun y => some y) (bad := some []) (hZ x) (fun k => by
    show (if _ then _ else _) = _
    rw [if_neg (by simp)]) (fun k i h => by
    have hm := List.getElem_mem h
    show (if _ then _ else _) = _
    rw [if_pos (by simp; omega), bc h, aI (by omega)]
    simp only [bS]
    rw [rO (by have := pq hm; omega)]
    simp only [bS]
    by_cases hf : kj x.o_[i]
    · rw [if_pos hf, show (decide (∀ y ∈ x.o_[i], InR y)) = true from decide_eq_true hf]; rfl
    · rw [if_neg hf, show (decide (∀ y ∈ x.o_[i], InR y)) = false from decide_eq_false hf]; rfl) (by omega)]
  split
  · rename_i hf
    rw [qC hs hf]; rfl
  · rfl
theorem ut {n : Nat} (h : n ≤ 1000000000) : InR (n : Int) := ⟨by omega, by omega⟩
theorem wH {x : Int} (hx : InR x) (l : List Int) (q : Bool) (hl : l.length ≤ 1000000000) : cN ⟨l, q⟩ [x] = some ⟨l ++ er x, q⟩ := by
  rw [jo (by simp) l q hl]
  simp [mI, hx]
theorem vy {x : aE} (hs : oG x.o_ ≤ 1048576) : kz x = some (if ∀ r ∈ x.o_, kj r then er x.o_.length ++ x.o_.flatMap jy else []) := by
  unfold kz kd
  have h3 := @nK x.o_
  rw [wH (ut (by omega)) _ _ (by simp)]
  simp only [bS]
  rw [se hs (fm x) (fun l q => some ⟨l, q⟩) (fun _ _ _ _ => rfl) _ _ (by have := dT x.o_.length; simp; omega)]
  simp only [Option.bind_some, iQ]
  by_cases h : ∀ r ∈ x.o_, kj r
  · rw [if_pos h, show (decide ¬ ∀ r ∈ x.o_, kj r) = false from decide_eq_false fun n => n h]; rfl
  · rw [if_neg h, show (decide ¬ ∀ r ∈ x.o_, kj r) = true from decide_eq_true h]; rfl
theorem BM {p : List (List Int)} : (p.map fun v => 1 + v.length).sum = oG p := by
  unfold oG
  induction p with
  | nil => rfl
  | cons x p ih => simp only [List.map_cons, List.sum_cons, List.length_cons]; omega
end Go.Vk
/- Trees: weighed, copied, put, compared, marked. -/
namespace Go.Vk
def szM (x : aG) : Nat := x.t_.length + (x.m_.d_.length + oG x.m_.b_) + x.f_.length
def szU (x : ai) : Nat := x.a_.length + (x.a_.map szM).sum
theorem wU {x : ai} {y : aG} (hy : y ∈ x.a_) : szM y ≤ szU x := by
  have := AI (f := szM) hy
  unfold szU; omega
end Go.Vk
