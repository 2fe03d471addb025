/- The bytes of a state: alike. -/
import Derived.Test.YthdoeealefnabaaGreatDoorPSo
namespace Go.Vk
def zj (m : az) : List Int := yo m.F_ ++ jT (zE m.S_) ++ yo m.w_ ++ FJ m.H_.s_ ++ FJ m.H_.t_
def MX (m : az) : Prop := AH m.F_ ∧ AH m.w_ ∧ Hx m.H_.s_ ∧ Hx m.H_.t_
theorem Qc {c : bi} {m : az} (h : rE c m) : MX m := by
  obtain ⟨_, h1, h2, h3, h4⟩ := h
  refine ⟨LO h1.1, ?_, MY h2.1, MY h2.2⟩
  cases hy : m.S_ with
  | true => exact LO (h3 hy).1
  | false => exact KK (h4 hy)
theorem IP {m : az} (h : MX m) : (zj m).length ≤ 45000 := by
  have h1 := xO h.1
  have h2 := xO h.2.1
  have h3 := Fm h.2.2.1
  have h4 := Fm h.2.2.2
  have h5 := dc (zE m.S_)
  unfold zj
  simp only [List.length_append]
  omega
theorem FH (m : az) : mF (zj m) := da (da (da (da (yf _) (eC _)) (yf _)) (Ah _)) (Ah _)
def tD (p : aM) : List Int := jT p.Q_ ++ jT p.R_
def oV (st : aP) : List Int := [st.a_.c_.L_, st.a_.c_.K_, st.a_.c_.M_, st.a_.c_.f_, st.a_.c_.b_, st.a_.c_.G_, zE st.a_.c_.P_]
def qa (st : aP) : List Int := [st.a_.j_, st.a_.N_, st.a_.O_, st.a_.s_, st.a_.t_]
def tP (st : aP) : List Int := [83, 80, 78, 1] ++ AG (rN st.a_.p_)
def vj (st : aP) : List Int := st.v_.n_.flatMap mn ++ jT st.v_.l_.length ++ st.v_.l_.flatMap tD
structure StG (st : aP) : Prop where
  head : (tP st).length ≤ 3009
  numA : ∀ x ∈ oV st, InR x
  numC : ∀ x ∈ qa st, InR x
  mems : st.J_.j_.length ≤ 4
  mem : ∀ m ∈ st.J_.j_, MX m
  rows : st.v_.n_.length ≤ 3
  row : ∀ r ∈ st.v_.n_, nS r ∧ r.length ≤ 3
  lasts : st.v_.l_.length ≤ 20
  last : ∀ p ∈ st.v_.l_, InR p.Q_ ∧ InR p.R_
theorem stG {st : aP} (hs : oX st) (h : Ao st) : StG st := by
  obtain ⟨⟨hC, hn, hm⟩, hS⟩ := h
  obtain ⟨h1, h2, h3, h4, h5, h6, h7, _⟩ := hC
  obtain ⟨s1, s2, s3, s4⟩ := hS
  obtain ⟨r1, r2, r3, r4, r5, r6⟩ := h2
  have ha := h1.1
  have hI : ∀ {x : Int}, 0 ≤ x ∧ x ≤ 99999 → InR x := fun h => ⟨by omega, by omega⟩
  have hbit := CR st.a_.c_.P_
  refine ⟨?_, ?_, ?_, by omega, fun m hx => Qc (hm m hx), by omega, ?_, ?_, fun p hp => ?_⟩
  · have := (BN (yi hs.1.1 h1).2.2).2.2
    unfold tP
    simp only [List.length_append, List.length_cons, List.length_nil]
    omega
  · intro x hx
    simp only [oV, List.mem_cons, List.not_mem_nil, or_false] at hx
    rcases hx with rfl | rfl | rfl | rfl | rfl | rfl | rfl
    all_goals first | exact hbit | exact hI (by omega)
  · intro x hx
    simp only [qa, List.mem_cons, List.not_mem_nil, or_false] at hx
    rcases hx with rfl | rfl | rfl | rfl | rfl
    all_goals exact hI (by omega)
  · intro r hr
    obtain ⟨i, hi, rfl⟩ := List.getElem_of_mem hr
    obtain ⟨g1, g2⟩ := CM hi (s3 i hi) s1.2
    exact ⟨uJ fun z hz => by have := g2 z hz; omega, g1⟩
  · have := s4.2.1
    split at this <;> omega
  · obtain ⟨p1, p2⟩ := s4.2.2 p hp
    exact ⟨hI (by omega), hI (by omega)⟩
theorem Aa {α : Type} {p : List α} {B : α → List Int} {b : Nat} (h : ∀ x ∈ p, (B x).length ≤ b) : (p.flatMap B).length ≤ b * p.length := by
  rw [List.length_flatMap]
  exact zp (f := fun x => (B x).length) h
theorem wg {st : aP} (h : StG st) : (st.J_.j_.flatMap zj).length ≤ 180000 := by
  have h1 := Aa (p := st.J_.j_) (B := zj) fun m hm => IP (h.mem m hm)
  have h2 := h.mems
  omega
theorem Fk {st : aP} (h : StG st) : (vj st).length ≤ 300 := by
  have h1 := Aa (p := st.v_.n_) (B := mn) (b := 20) fun r hr => by
    have := kb r
    have := (h.row r hr).2
    omega
  have h2 := Aa (p := st.v_.l_) (B := tD) (b := 10) fun p _ => by
    have h1 := dc p.Q_
    have h2 := dc p.R_
    unfold tD
    rw [List.length_append]
    omega
  have h3 := h.rows
  have h4 := h.lasts
  have h5 := dc st.v_.l_.length
  unfold vj
  simp only [List.length_append]
  omega
theorem uP {st : aP} (h : StG st) : (st.v_.l_.flatMap tD).length ≤ 300 ∧ (st.v_.n_.flatMap mn).length ≤ 300 := by
  have := Fk h
  unfold vj at this
  simp only [List.length_append] at this
  omega
theorem Fu {n i : Nat} (h : i < n) : decide ((i : Int) < (n : Int)) = true := by rw [decide_eq_true_iff]; exact Int.ofNat_lt.2 h
theorem Gh {n : Nat} : ¬ decide ((n : Int) < (n : Int)) = true := by simp
theorem Ii {st : aP} (h : StG st) (l : List Int) (hl : l.length ≤ 400000) :
    eN st aK 0 l = (jB (l ++ st.v_.l_.flatMap tD)).bind fun y => (app (l ++ st.v_.l_.flatMap tD) y).bind fun z => some z := by
  have hc := (uP h).1
  have h4 := h.lasts
  exact nw (M := 1000000) (p := st.v_.l_) (σ := Unit) tD (fun _ _ => ()) (fun k l _ i => eN st k i l) (fun l _ => (jB l).bind fun y => (app l y).bind fun z => some z)
    (fun k l _ => by
      show (if _ then _ else _) = _
      rw [if_neg Gh])
    (fun k l _ i hi hll => by
      show (if _ then _ else _) = _
      unfold tD at hll ⊢
      rw [List.length_append] at hll
      rw [if_pos (Fu hi), bf hi, aD (by omega)]
      simp only [bS]
      rw [eL.1, eL.1]
      simp only [bS]
      rw [eh (by omega)]
      simp only [bS]
      rw [eh (by rw [List.length_append]; omega), List.append_assoc]
      rfl) (by omega) l () (by omega)
theorem HC {st : aP} (h : StG st) (l : List Int) (hl : l.length ≤ 400000) :
    eO st aK 0 l false = (gC (l ++ st.v_.l_.flatMap tD)).bind fun y => (app (l ++ st.v_.l_.flatMap tD) y).bind fun z => some z := by
  have hc := (uP h).1
  have h4 := h.lasts
  exact nw (M := 1000000) (p := st.v_.l_) (σ := Unit) tD (fun _ _ => ()) (fun k l _ i => eO st k i l false) (fun l _ => (gC l).bind fun y => (app l y).bind fun z => some z)
    (fun k l _ => by
      show (if _ then _ else _) = _
      rw [if_neg Gh])
    (fun k l _ i hi hll => by
      show (if _ then _ else _) = _
      obtain ⟨g1, g2⟩ := h.last _ (List.getElem_mem hi)
      rw [if_pos (Fu hi), bf hi, aD (by omega)]
      simp only [bS]
      have hF : ∀ x ∈ [st.v_.l_[i].Q_, st.v_.l_[i].R_], InR x := by simp [g1, g2]
      rw [gl (by simp) _ _ (by omega), decide_eq_false (show ¬ ¬ _ from fun n => n hF)]
      simp only [Option.bind_some, tD, vv, xy, List.append_nil]
      rfl) (by omega) l () (by omega)
theorem HB {st : aP} (h : StG st) (l : List Int) (hl : l.length ≤ 300000) :
    dZ st aK l 0 = (jB (l ++ vj st)).bind fun y => (app (l ++ vj st) y).bind fun z => some z := by
  obtain ⟨hp, hc⟩ := uP h
  have h3 := h.rows
  have h5 := dc st.v_.l_.length
  refine (nw (M := 1000000) (p := st.v_.n_) (σ := Unit) mn (fun _ _ => ()) (fun k l _ i => dZ st k l i) (fun l _ => (cQ (st.v_.l_.length : Int)).bind fun y => (app l y).bind fun l => eN st aK 0 l)
    (fun k l _ => by
      show (if _ then _ else _) = _
      rw [if_neg Gh])
    (fun k l _ i hi hll => by
      show (if _ then _ else _) = _
      obtain ⟨g1, g2⟩ := h.row _ (List.getElem_mem hi)
      rw [if_pos (Fu hi), bf hi, aD (by omega)]
      simp only [bS]
      rw [pw (by omega) g1]
      simp only [bS]
      rw [eh (by omega)]
      rfl) (by omega) l () (by omega)).trans ?_
  rw [eL.1]
  simp only [bS]
  rw [eh (by rw [List.length_append]; omega)]
  simp only [bS]
  rw [Ii h _ (by simp only [List.length_append]; omega)]
  simp only [vj, List.append_assoc]
theorem Ia {st : aP} (h : StG st) (l : List Int) (hl : l.length ≤ 300000) :
    ec st aK 0 l false = (gC (l ++ vj st)).bind fun y => (app (l ++ vj st) y).bind fun z => some z := by
  obtain ⟨hp, hc⟩ := uP h
  have h3 := h.rows
  have h4 := h.lasts
  have h5 := dc st.v_.l_.length
  refine (nw (M := 1000000) (p := st.v_.n_) (σ := Unit) mn (fun _ _ => ()) (fun k l _ i => ec st k i l false) (fun l _ => (bM ⟨l, false⟩ [(st.v_.l_.length : Int)]).bind fun y => eO st aK 0 y.T_ y.U_)
    (fun k l _ => by
      show (if _ then _ else _) = _
      rw [if_neg Gh])
    (fun k l _ i hi hll => by
      show (if _ then _ else _) = _
      obtain ⟨g1, g2⟩ := h.row _ (List.getElem_mem hi)
      rw [if_pos (Fu hi), bf hi, aD (by omega)]
      simp only [bS]
      rw [nY (by omega) _ _ (by omega), decide_eq_false (show ¬ ¬ _ from fun n => n g1)]
      rfl) (by omega) l () (by omega)).trans ?_
  rw [sO (zq (by omega)) _ _ (by rw [List.length_append]; omega)]
  simp only [bS]
  rw [HC h _ (by simp only [List.length_append]; omega)]
  simp only [vj, List.append_assoc]
theorem HO {st : aP} (h : StG st) (l : List Int) (hl : l.length ≤ 10000) :
    ea st aK l 0 = dZ st aK (l ++ st.J_.j_.flatMap zj) 0 := by
  have h1 := h.mems
  have h2 := wg h
  exact nw (M := 1000000) (p := st.J_.j_) (σ := Unit) zj (fun _ _ => ()) (fun k l _ i => ea st k l i) (fun l _ => dZ st aK l 0)
    (fun k l _ => by
      show (if _ then _ else _) = _
      rw [if_neg Gh])
    (fun k l _ i hi hll => by
      show (if _ then _ else _) = _
      obtain ⟨g1, g2, g3, g4⟩ := h.mem _ (List.getElem_mem hi)
      rw [if_pos (Fu hi), bf hi, aD (by omega)]
      generalize st.J_.j_[i] = m at g1 g2 g3 g4 hll
      unfold zj at hll ⊢
      simp only [List.length_append] at hll
      simp only [bS]
      rw [Cb g1, Cb g2, DF g3, DF g4, (xM _).1]
      simp only [bS]
      rw [eL.1]
      simp only [bS]
      rw [eh (by omega)]
      simp only [bS]
      rw [eh (by simp only [List.length_append]; omega)]
      simp only [bS]
      rw [eh (by simp only [List.length_append]; omega)]
      simp only [bS]
      rw [eh (by simp only [List.length_append]; omega)]
      simp only [bS]
      rw [eh (by simp only [List.length_append]; omega)]
      simp only [Option.bind_some, List.append_assoc]) (by omega) l () (by omega)
theorem Ig {st : aP} (h : StG st) (l : List Int) (hl : l.length ≤ 10000) :
    eS st aK l false 0 = ec st aK 0 (l ++ st.J_.j_.flatMap zj) false := by
  have h1 := h.mems
  have h2 := wg h
  exact nw (M := 1000000) (p := st.J_.j_) (σ := Unit) zj (fun _ _ => ()) (fun k l _ i => eS st k l false i) (fun l _ => ec st aK 0 l false)
    (fun k l _ => by
      show (if _ then _ else _) = _
      rw [if_neg Gh])
    (fun k l _ i hi hll => by
      show (if _ then _ else _) = _
      obtain ⟨g1, g2, g3, g4⟩ := h.mem _ (List.getElem_mem hi)
      rw [if_pos (Fu hi), bf hi, aD (by omega)]
      generalize st.J_.j_[i] = m at g1 g2 g3 g4 hll
      unfold zj at hll ⊢
      simp only [List.length_append] at hll
      simp only [bS]
      rw [BO g1 (by omega), (xM _).2]
      simp only [bS]
      rw [sO (CR _) _ _ (by simp only [List.length_append]; omega)]
      simp only [bS]
      rw [BO g2 (by simp only [List.length_append]; omega)]
      simp only [bS]
      rw [Em g3 (by simp only [List.length_append]; omega)]
      simp only [bS]
      rw [Em g4 (by simp only [List.length_append]; omega)]
      simp only [Option.bind_some, List.append_assoc]) (by omega) l () (by omega)
def vi (st : aP) : List Int := tP st ++ kK (oV st ++ qa st) ++ st.J_.j_.flatMap zj ++ vj st
theorem JC {st : aP} (h : StG st) : (vi st).length ≤ 300000 := by
  have h1 := h.head
  have h2 := kT (oV st ++ qa st)
  have h3 := wg h
  have h4 := Fk h
  have h5 : (oV st ++ qa st).length = 12 := rfl
  unfold vi
  simp only [List.length_append] at h2 h5 ⊢
  omega
theorem Gp (st : aP) : mF (vi st) := by
  refine da (da (da (da ?_ (da (vU _) (Hm _))) (yu _)) (qW fun m _ => FH m)) (da (da (tz _) (eC _)) (qW fun p _ => da (eC _) (eC _)))
  intro x hx
  simp only [List.mem_cons, List.not_mem_nil, or_false] at hx
  omega
theorem ok0 {s0 : aP} (hs : oX s0) : ∃ m, ju s0 = some m ∧ ig s0 = some m ∧ qJ m ∧ sF m ≤ 1000000000000000000 := by
  have hm : ∀ m : List Int, m.length ≤ 1000000 → qJ m ∧ sF m ≤ 1000000000000000000 := fun m h => by
    unfold qJ sF
    rw [Iz]
    omega
  unfold ju ig
  rcases (Cr hs).cases with ⟨e, hP⟩ | ⟨e, hP⟩
  · have e' := (Cd hs).val hP
    have hG := stG hs hP
    obtain ⟨t1, t2, t3⟩ := yi hs.1.1 hP.1.1.1
    obtain ⟨x1, x2, _⟩ := BN t3
    have hb := JC hG
    obtain ⟨s, c1, c2, c3⟩ := HU (Gp s0) (by omega)
    have hh := hG.head
    have h3 := wg hG
    have h5 : (oV s0 ++ qa s0).length = 12 := rfl
    have h2 := kT (oV s0 ++ qa s0)
    have hA := kT (oV s0)
    have h7 : (oV s0).length = 7 := rfl
    rw [e, e', t1, t2]
    simp only [Option.bind_some, Bool.not_true, Bool.false_eq_true, if_false]
    rw [x1, x2, (xM _).1, (xM _).2, eh (xs := [83, 80, 78]) (by simp)]
    simp only [bS]
    have ha : app ([83, 80, 78, 1] : List Int) (AG (rN s0.a_.p_)) = some (tP s0) := eh (by unfold tP at hh; rw [List.length_append] at hh; omega)
    have ha' : app ([83, 80, 78] ++ [1] : List Int) (AG (rN s0.a_.p_)) = some (tP s0) := ha
    rw [ha, ha']
    simp only [bS]
    have hfin : app (vi s0) s = some (vi s0 ++ s) := eh (by omega)
    refine ⟨vi s0 ++ s, ?_, ?_, hm _ (by rw [List.length_append]; omega)⟩
    · refine (nw (M := 1000000) (p := oV s0 ++ qa s0) (σ := Unit) jT (fun _ _ => ()) (fun k l _ i => go s0 (zE s0.a_.c_.P_) k l i) (fun l _ => ea s0 aK l 0)
        (fun k l _ => by
          show (if decide (((oV s0 ++ qa s0).length : Int) < ((oV s0 ++ qa s0).length : Int)) then _ else _) = _
          rw [if_neg Gh])
        (fun k l _ i hi hll => by
          show (if decide ((i : Int) < ((oV s0 ++ qa s0).length : Int)) then (idx (oV s0 ++ qa s0) i).bind _ else _) = _
          rw [if_pos (Fu hi), bf hi, aD (by omega)]
          simp only [bS]
          rw [eL.1]
          simp only [bS]
          rw [eh (by omega)]
          rfl) (by omega) (tP s0) () (by unfold kK at h2; omega)).trans ?_
      show ea s0 aK (tP s0 ++ kK (oV s0 ++ qa s0)) 0 = _
      rw [HO hG _ (by rw [List.length_append]; omega), HB hG _ (by simp only [List.length_append] at h2 h5 ⊢; omega)]
      show (jB (vi s0)).bind _ = _
      rw [c1]
      simp only [bS]
      show (app (vi s0) s).bind _ = _
      rw [hfin]; rfl
    · show (bM ⟨tP s0, false⟩ (oV s0)).bind _ = _
      rw [gl (by omega) _ _ (by omega), decide_eq_false (show ¬ ¬ _ from fun n => n hG.numA)]
      simp only [bS]
      show (bM ⟨_, false⟩ (qa s0)).bind _ = _
      rw [gl (show (qa s0).length ≤ 1048576 by show 5 ≤ 1048576; omega) _ _ (by rw [List.length_append]; omega), decide_eq_false (show ¬ ¬ _ from fun n => n hG.numC)]
      simp only [bS]
      have eP : tP s0 ++ kK (oV s0) ++ kK (qa s0) = tP s0 ++ kK (oV s0 ++ qa s0) := by
        rw [List.append_assoc]
        congr 1
        exact List.flatMap_append.symm
      rw [eP]
      show eS s0 aK _ false 0 = _
      rw [Ig hG _ (by rw [List.length_append]; omega), Ia hG _ (by simp only [List.length_append] at h2 h5 ⊢; omega)]
      show (gC (vi s0)).bind _ = _
      rw [c2]
      simp only [bS]
      show (app (vi s0) s).bind _ = _
      rw [hfin]; rfl
  · have e' : mj s0 = some false := by rw [(Cd hs).eq (Cr hs), e]
    rw [e, e']
    exact ⟨[], rfl, rfl, hm [] (by simp)⟩
end Go.Vk
