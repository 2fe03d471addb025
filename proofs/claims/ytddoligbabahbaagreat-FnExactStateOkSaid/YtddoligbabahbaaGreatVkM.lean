/- Flat structs in slices, elements moved, calls with state, results in cells. -/
import Derived.Test.YtddoligbabahbaaGreatVkG
import Derived.Laws.StructEq
import Derived.ChangeKeysEq
import Derived.MapKept
import Derived.IntWalk
import Derived.Deep.Slices
import Derived.ReadAgain
import Derived.ChangeSame
import Derived.ChangeMaps5
import Derived.ProofKit
namespace Go.Vk
open Go.RowKit
variable {P : Program} {n : Nat} {C : World → Prop} {E : Env} {m : Md} {l rest : List Oper} {w0 : World} {M : List Nat} {L : List Res} {Q : Exit → Act → World → Prop}
/-! ### elements by address, of slices that can be read -/
theorem ow_ixE {α : Type} {e : Enc α} {o : Oper} {t et : TypeId} {x i : Operand} {agg : Bool} {sz by_ : Nat} {z : List Value} {xs : List α} {k : IntKind} {j : Int} {y : α} {a : Option Addr} {nn cap : Nat}
    (ho : o.op = .indexAddr t x i) (hw : wt l E o.guard = some true) (hd : dstOk n o.dst = true) (hx : ev E x = some (.slice a nn cap)) (hi : ev E i = some (.int k j)) (ht : isSl P t et) (he : isTy P et agg sz by_ z) (_hsz : e.sz = sz)
    (hS : ∀ w, m.cls C w → rdList e w [] xs [.slice a nn cap]) (hj : idx xs j = some y) {q : Addr} (hq : q = eltP a (j.toNat * sz))
    (hk : OW P n l C (upd E o.dst (.pointer (some q))) m rest) : OW P n l C E m (o :: rest) := by
  subst hq
  obtain ⟨h0, hl, h2⟩ := idx_some hj
  refine ow_r hw (dstOk_lt hd) (v := .pointer (some (eltP a (j.toNat * sz)))) (fun fr hF w hw' => ?_) hk
  obtain ⟨a', cap', hv, _, _, hel⟩ := hS w hw'
  simp only [List.cons.injEq, Value.slice.injEq, and_true] at hv
  obtain ⟨rfl, rfl, rfl⟩ := hv
  obtain ⟨p, rfl, hp⟩ := hel (fun e => by subst e; simp at hl)
  unfold execOp
  simp only [ho, hF.ev hx, hF.ev hi, Sem.run_bind, run_indexAt ht he p xs.length cap k j h0 hl w, eltP, Option.getD_some]
  rfl
theorem at_eltE {α : Type} {e : Enc α} {S : World → Prop} {xs : List α} {a : Option Addr} {nn cap : Nat} {j : Int} {y : α} {cs : List Value} (hS : ∀ w, S w → rdList e w [] xs [.slice a nn cap]) (hj : idx xs j = some y) (hc : ∀ w ds, e.rd w [] y ds → ds = cs) :
    ∀ w, S w → At w [] (eltP a (j.toNat * e.sz)) cs := fun w hw => by
  obtain ⟨h0, hl, h2⟩ := idx_some hj
  obtain ⟨a', cap', hv, _, _, hel⟩ := hS w hw
  simp only [List.cons.injEq, Value.slice.injEq, and_true] at hv
  obtain ⟨rfl, rfl, rfl⟩ := hv
  obtain ⟨p, rfl, hp⟩ := hel (fun e => by subst e; simp at hl)
  obtain ⟨ds, hd, hA⟩ := hp _ y h2
  rw [← hc w ds hd]
  exact hA
/-- the place of an own element taken out, as the code reckons it -/
theorem ow_ixH {α : Type} {e : Enc α} {o : Oper} {t et : TypeId} {x i : Operand} {agg : Bool} {sz by_ : Nat} {z : List Value} {k : IntKind} {j : Int} {nn b cap cap' : Nat} {a : Option Addr} {T : TypeId} {xs : List α} {G : List Nat} {c : List Value}
    (ho : o.op = .indexAddr t x i) (hw : wt l E o.guard = some true) (hd : dstOk n o.dst = true) (hx : ev E x = some (.slice a nn cap')) (hi : ev E i = some (.int k j)) (ht : isSl P t et) (he : isTy P et agg sz by_ z) (_hsz : e.sz = sz)
    (hS : ∀ w, m.cls C w → holeOk e T b cap xs j.toNat G c w) (hnn : nn = xs.length) (ha : a = some ⟨b, 0, none⟩) (h0 : 0 ≤ j)
    (hk : OW P n l C (upd E o.dst (.pointer (some ⟨b, j.toNat * sz, none⟩))) m rest) : OW P n l C E m (o :: rest) := by
  subst ha
  refine ow_r hw (dstOk_lt hd) (v := .pointer (some ⟨b, j.toNat * sz, none⟩)) (fun fr hF w hw' => ?_) hk
  obtain ⟨cur, G1, G2, c1, c2, _, _, _, _, _, _, _, hlt, _⟩ := hS w hw'
  have hr := run_indexAt (P := P) ht he ⟨b, 0, none⟩ nn cap' k j h0 (by omega) w
  rw [add_lit, Nat.zero_add] at hr
  unfold execOp
  simp only [ho, hF.ev hx, hF.ev hi, Sem.run_bind, hr]
  rfl
theorem at_elV {α : Type} {val : α → Value} {h1 : ∀ x, (val x).oneCell' = true} {S : World → Prop} {xs : List α} {a : Option Addr} {nn cap : Nat} {j : Int} {y : α} (hS : ∀ w, S w → rdList (eVal val h1) w [] xs [.slice a nn cap]) (hj : idx xs j = some y) :
    ∀ w, S w → At w [] (eltP a j.toNat) [val y] := fun w hw => by
  have := at_eltE (e := eVal val h1) hS hj (cs := [val y]) (fun _ _ h => h) w hw
  rwa [show (eVal val h1).sz = 1 from rfl, Nat.mul_one] at this
theorem app_ne {α : Type} {xs zs : List α} {y : α} {ys : List α} (h : app xs (y :: ys) = some zs) : zs ≠ [] := by
  rw [(app_some h).1]; simp
theorem ry_nnilB {o : Oper} {t et u : TypeId} {x : Operand} {a : Option Addr} {nn cap : Nat} {b : Bool} (ho : o.op = .binOp .neq t x (.const (.slice none 0 0)) u) (hx : ev E x = some (.slice a nn cap)) (ht : isSl P t et) (hb : a.isNone = b) : Ry P n C E o (.bool (!b)) := hb ▸ ry_nnil ho hx ht
def fsB (P : Program) (s : TypeId) (tab : List (Nat × Nat)) : Bool :=
  match P.underlying s with
  | some (.struct fs) => (match fs.toList.mapM (fun f => (P.info? f.type).map fun i => (f.offset, i.size)) with | some t => t == tab | none => false)
  | _ => false
theorem isFs_of {s : TypeId} {tab : List (Nat × Nat)} (h : fsB P s tab = true) : isFs P s tab := by
  unfold fsB at h
  split at h
  · rename_i fs hu
    refine ⟨fs, hu, ?_⟩
    split at h
    · rename_i t ht
      rw [ht]; simp only [beq_iff_eq] at h; rw [h]
    · cases h
  · cases h
theorem ry_build2 {o : Oper} {t : TypeId} {ps : List (Nat × Operand)} {vs : List Value} (qs : List (Nat × List Value)) (cs : List Value) {tab : List (Nat × Nat)} {sz by_ : Nat} {z : List Value} (ho : o.op = .build t ps.toArray) (hx : evs E (ps.map (·.2)) = some vs)
    (ht : isTy P t true sz by_ z) (hs : isFs P t tab) (hz : z.length = sz) (hp : Parts (tab.toArray[·]?) sz ((ps.map (·.1)).zip vs) qs) (hl : laid z qs = cs) : Ry P n C E o (.agg cs.toArray) := hl ▸ ry_build qs ho hx ht hs hz hp
/-- a read where reads of the region's class are wanted -/
theorem ow_rH {S : World → Prop} {fl : List (Nat × Bool)} {l : List Oper} {o : Oper} {rest : List Oper} {v : Value} (hw : wt l E o.guard = some true) (hd : ∀ t, o.dst = some t → t < n) (hq : Ry P n S E o v)
    (h : OW P n l C (upd E o.dst v) (.held S Q fl) rest) : OW P n l C E (.held S Q fl) (o :: rest) := ow_r (m := .held S Q fl) hw hd hq h
/-- into a variable of the call's own, its cells named -/
theorem ow_storeC {o : Oper} {t : TypeId} {x y : Operand} {b off : Nat} {v : Value} (vs : List Value) (cs' : List Value) {agg : Bool} {sz by_ : Nat} {z : List Value} {i : Nat} {T : TypeId} {cs : List Value} (ho : o.op = .store t x y) (hm : m.here (o :: rest) = true) (hw : wt l E o.guard = some true) (hd : dstOk n o.dst = true)
    (hx : ev E x = some (.pointer (some ⟨b, off, none⟩))) (hy : ev E y = some v) (ht : isTy P t agg sz by_ z) (hv : v.cells = vs.toArray) (hl : vs.length = sz) (h1 : ∀ u ∈ vs, u.oneCell' = true) (hr : L[i]? = some (Res.box b T cs)) (hfit : Nat.ble (off + sz) cs.length = true) (hc : splice cs off vs = cs')
    (hS : Kp m (St w0 M (L.set i (Res.box b T cs')))) (hk : OW P n l (St w0 M (L.set i (Res.box b T cs'))) (upd E o.dst undef) m rest) : OW P n l (St w0 M L) E m (o :: rest) := by
  subst hc
  exact ow_store vs ho hm hw hd hx hy ht hv hl h1 hr hfit hS hk
/-! ### lists of flat data -/
section
variable {α : Type} {f : α → List Value} {k : Nat} {hk : ∀ x, (f x).length = k} {h1 : ∀ x, ∀ u ∈ f x, u.oneCell' = true}
end
/-! ### calls with state -/
theorem ow_callS {o : Oper} {f : FuncId} {xs : List Operand} {ts : Array TypeId} {vs : List Value} {R : Value → World → World → Prop} (ho : o.op = .call { callee := .value (.func f), args := xs.toArray, argTypes := ts }) (hf : isFn P f)
    (hm : m.here (o :: rest) = true) (hw : wt l E o.guard = some true) (hd : dstOk n o.dst = true) (hx : evs E xs = some vs)
    (hc : ∀ w, C w → Calls P f vs.toArray w fun e w' => ∃ v, e = .returned v ∧ R v w w')
    (hk : ∀ v w w', C w → R v w w' → ∃ C' : World → Prop, C' w' ∧ (∀ u, C' u → m.keeps u) ∧ OW P n l C' (upd E o.dst v) m rest) : OW P n l C E m (o :: rest) :=
  ow_call ho hf hm hw hd hx hc hk
/-! ### results -/
def packV : List Value → Value
  | [v] => v
  | vs => .tuple vs.toArray
def resV (P : Program) (C : World → Prop) (E : Env) : List ResultVar → List Value → Prop
  | [], [] => True
  | .tmp t :: rs, v :: vs => look E t = some v ∧ resV P C E rs vs
  | .cell t T :: rs, v :: vs => (∃ p cs sz by_ z, look E t = some (.pointer (some p)) ∧ isTy P T true sz by_ z ∧ (∀ w, C w → At w [] p cs) ∧ cs.length = sz ∧ v = .agg cs.toArray) ∧ resV P C E rs vs
  | _, _ => False
def rvGet (a : Act) : ResultVar → Sem Value
  | .tmp t => pure (a.tmps.getD t undef)
  | .cell p t => do loadVar t (← asAddr (a.tmps.getD p undef))
theorem results_eq (fn : Func) (a : Act) : results fn a.tmps = (do let vs ← fn.results.mapM (rvGet a); pure (if h : vs.size = 1 then vs[0] else .tuple vs)) := by
  unfold results
  have : (fun x => (match x with | .tmp t => pure (a.tmps.getD t undef) | .cell p t => do loadVar t (← asAddr (a.tmps.getD p undef)) : Sem Value)) = rvGet a := by
    funext x; cases x <;> rfl
  rw [← this]
  rfl
theorem resV_run {a : Act} {w : World} (hF : Fr n E a) (hC : C w) : ∀ {rs : List ResultVar} {vs : List Value}, resV P C E rs vs → (rs.mapM (rvGet a)).run P w = .ok vs w
  | [], [], _ => rfl
  | .tmp t :: rs, v :: vs, h => by
    have ih := resV_run hF hC h.2
    have h0 : (rvGet a (.tmp t)).run P w = .ok v w := by simp only [rvGet, Sem.run_pure, hF.at_ t v h.1]
    rw [List.mapM_cons]
    simp only [Sem.run_bind, Sem.run_pure, Result.andThen_ok, h0, ih]
  | .cell t T :: rs, v :: vs, h => by
    have ih := resV_run hF hC h.2
    obtain ⟨p, cs, sz, by_, z, h1, h2, h3, h4, rfl⟩ := h.1
    have h5 := run_loadAt h2 (h3 w hC) h4
    have h0 : (rvGet a (.cell t T)).run P w = .ok (.agg cs.toArray) w := by
      simp only [Instr.loadAt, Instr.sureAddr, Sem.run_bind, Sem.run_pure, Result.andThen_ok, if_true] at h5
      simp only [rvGet, Sem.run_bind, Sem.run_pure, Result.andThen_ok, hF.at_ t _ h1, asAddr, h5]
    rw [List.mapM_cons]
    simp only [Sem.run_bind, Sem.run_pure, Result.andThen_ok, h0, ih]
  | [], _ :: _, h => h.elim
  | .tmp _ :: _, [], h => h.elim
  | .cell _ _ :: _, [], h => h.elim
theorem results_run {fn : Func} {a : Act} {w : World} {rs : List ResultVar} {vs : List Value} (hr : fn.results = rs.toArray) (hF : Fr n E a) (hC : C w) (h : resV P C E rs vs) : (results fn a.tmps).run P w = .ok (packV vs) w := by
  have h1 := resV_run hF hC h
  have h2 : (rs.toArray.mapM (rvGet a)).run P w = .ok vs.toArray w := by
    rw [List.mapM_toArray, map_eq_pure_bind]
    simp only [Sem.run_bind, h1, Result.andThen_ok, Sem.run_pure]
  rw [results_eq, hr]
  simp only [Sem.run_bind, h2, Result.andThen_ok, Sem.run_pure]
  congr 1
  match vs with
  | [] => rfl
  | [v] => rfl
  | v :: u :: vs => rfl
theorem x_retR {fn : Func} {R : Ending → World → Prop} {rs : List ResultVar} {vs : List Value} (hr : fn.results = rs.toArray) (hv : resV P C E rs vs) (hR : ∀ w, C w → R (.returned (packV vs)) w) : XW n C E (bodyPost P fn R) .ret := fun _ w hF hC =>
  ⟨hF.df, packV vs, results_run hr hF hC hv, hR w hC⟩
end Go.Vk
/- Regions whose head makes and reads memory, and whose tail comes in one order. -/
namespace Go.Vk
open Go.RowKit
variable {P : Program} {n : Nat} {C : World → Prop} {E : Env} {m : Md} {l rest : List Oper} {w0 : World} {M : List Nat} {L : List Res} {Q : Exit → Act → World → Prop}
/-- what stands behind the head: the tail -/
def QT (P : Program) (l : List Oper) (nn : Nat) (Q : Exit → Act → World → Prop) : Exit → Act → World → Prop
  | .normal, a, w => wpList P l.toArray Q (l.drop nn) a w
  | e, a, w => Q e a w
theorem upon_q {Q1 Q2 : Exit → Act → World → Prop} (h : ∀ e a w, e ≠ .normal → Q1 e a w → Q2 e a w) {o : Oper} {a : Act} {K : Act → World → Prop} {r : Result Next} (hu : o.upon P a K Q1 r) : o.upon P a K Q2 r := by
  cases r with
  | ok x w' =>
    cases x <;> simp only [Oper.upon] at hu ⊢
    case value => exact hu
    case skip => exact hu
    case defer => exact hu
    case enter f args =>
      refine hu.mono fun e w'' he => ?_
      cases e with
      | returned v => exact he
      | panicked c => exact h _ _ _ (by simp) he
      | outgrown => obtain ⟨a, w, hq⟩ := (show LetsOut Q1 from he); exact ⟨a, w, h _ _ _ (by simp) hq⟩
    case row => exact hu
  | halt x w' =>
    cases x <;> simp only [Oper.upon] at hu ⊢
    exact h _ _ _ (by simp) hu
theorem wpOp_q {Q1 Q2 : Exit → Act → World → Prop} {ops : Array Oper} (h : ∀ e a w, e ≠ .normal → Q1 e a w → Q2 e a w) {i : Nat} {K : Act → World → Prop} {a : Act} {w : World} (hu : wpOp P ops Q1 i K a w) : wpOp P ops Q2 i K a w := by
  unfold wpOp at hu ⊢
  cases ho : ops[i]? with
  | none => rw [ho] at hu; exact hu
  | some o =>
    rw [ho] at hu
    simp only at hu ⊢
    split at hu
    · rename_i hw
      rw [if_pos hw]
      rcases hu with hu | ⟨h1, h2⟩
      · exact .inl (upon_q h hu)
      · obtain ⟨a, w, hq⟩ := h2
        exact .inr ⟨h1, a, w, h _ _ _ (by simp) hq⟩
    · rename_i hw
      rw [if_neg hw]
      exact hu
section
variable {ops : Array Oper} {md : Region.Mode} {S : World → Prop}
def wpAnyLH (P : Program) (md : Region.Mode) (ops : Array Oper) (Q : Exit → Act → World → Prop) (S : World → Prop) (nn : Nat) (K : Array Bool → Act → World → Prop) : Nat → Array Bool → Act → World → Prop
  | 0, listed, a, w => K listed a w
  | f + 1, listed, a, w =>
    Region.ready md ops listed ≠ [] ∧ ∀ i ∈ Region.ready md ops listed, i < nn ∧ wpOp P ops Q i (fun a' w' => S w' ∧ wpAnyLH P md ops Q S nn K f (listed.setIfInBounds i true) a' w') a w
theorem wpAny_of_headH {nn g : Nat} {K : Array Bool → Act → World → Prop} (hL : ∀ listed a w, K listed a w → wpAny P md ops Q g listed a w) :
    ∀ (f : Nat) (listed : Array Bool) (a : Act) (w : World), wpAnyLH P md ops Q S nn K f listed a w → wpAny P md ops Q (f + g) listed a w
  | 0, listed, a, w, h => by rw [Nat.zero_add]; exact hL _ _ _ h
  | f + 1, listed, a, w, h => by
    rw [show f + 1 + g = (f + g) + 1 by omega]
    exact ⟨fun h0 => absurd h0 h.1, fun i hi => wpOp_mono (fun a' w' h' => wpAny_of_headH hL f _ a' w' h'.2) (h.2 i hi).2⟩
theorem wpAnyLH_first {nn i : Nat} {oi : Oper} {v : Value} {K : Array Bool → Act → World → Prop} (hi : ops[i]? = some oi) (hsel : ∀ (j : Nat) (o : Oper) cs b, ops[j]? = some o → o.op ≠ .select cs b)
    (hs : Region.sinkB md ops nn = true) (hc : Region.chainB md ops nn = true) (hn : nn < ops.size) (hin : i < nn) (hQ : PanicOk Q)
    (hdone : ∀ listed a w, K listed a w → ∀ j ∈ Region.ready md ops listed, nn ≤ j) :
    ∀ (f : Nat) (listed : Array Bool) (a : Act) (w : World), HeadInv md ops nn listed →
      (∀ j oj, ops[j]? = some oj → j ≠ i → listed.getD j true = false → (∀ e ∈ oj.after, Region.binds md e = true → e.on ≠ i) → oi.apart ops oj = true) →
      i ∈ Region.ready md ops listed → YieldsIf P ops S oi v a → S w →
      wpAnyLH P md ops Q S nn K f (listed.setIfInBounds i true) (a.put oi.dst v) w → wpAnyLH P md ops Q S nn K (f + 1) listed a w := by
  intro f
  induction f with
  | zero =>
    intro listed a w inv _ hr hy hS H
    have hun := (mem_ready.1 hr).1
    refine ⟨fun h => (by rw [h] at hr; cases hr), fun j hj => ?_⟩
    have hjn : j < nn := by
      rcases Nat.lt_or_ge j nn with h | h
      · exact h
      · exact absurd hj (tail_waits hs hc hn inv _ i rfl hin hun j h)
    refine ⟨hjn, ?_⟩
    by_cases hji : j = i
    · subst hji; exact hy.wpOp hi hS ⟨hS, H⟩
    · have := hdone _ _ _ H j (ready_mono hj hji)
      omega
  | succ f ih =>
    intro listed a w inv hfree hr hy hS H
    have hun := (mem_ready.1 hr).1
    refine ⟨fun h => (by rw [h] at hr; cases hr), fun j hj => ?_⟩
    have hjn : j < nn := by
      rcases Nat.lt_or_ge j nn with h | h
      · exact h
      · exact absurd hj (tail_waits hs hc hn inv _ i rfl hin hun j h)
    refine ⟨hjn, ?_⟩
    by_cases hji : j = i
    · subst hji; exact hy.wpOp hi hS ⟨hS, H⟩
    · have h1 := (H.2 j (ready_mono hj hji)).2
      obtain ⟨hjun, oj, hoj, hall⟩ := mem_ready.1 hj
      have hnot : ∀ e ∈ oj.after, Region.binds md e = true → e.on ≠ i := fun e he hb heq => by
        have h1 := hall e he hb
        rw [heq, getD_both hun] at h1
        cases h1
      have h2 := wpOp_putIf hoj (hfree j oj hoj hji hjun hnot) (fun cs b => hsel i oi cs b hi) (fun cs b => hsel j oj cs b hoj) (fun c a w => hQ c a oi.dst v w) hy h1
      have hfree' : ∀ k ok, ops[k]? = some ok → k ≠ i → (listed.setIfInBounds j true).getD k true = false →
          (∀ e ∈ ok.after, Region.binds md e = true → e.on ≠ i) → oi.apart ops ok = true := fun k ok hk hki hun hno => by
        refine hfree k ok hk hki ?_ hno
        by_cases hjk : j = k
        · subst hjk; exact hjun
        · rw [getD_set_ne true hjk] at hun; exact hun
      refine wpOp_mono (fun a' w' h3 => ⟨h3.2.1, ih (listed.setIfInBounds j true) a' w' (inv.set hj hjn) hfree' (ready_mono hr (Ne.symm hji)) h3.1 h3.2.1 ?_⟩) h2
      rw [Array.setIfInBounds_comm _ _ hji]
      exact h3.2.2
/-- the head's moves (all below nn), then the tail in one order -/
def seqHB (ops : Array Oper) (nn g : Nat) : List (Nat × Bool) → Array Bool → Bool
  | [], listed => Region.seqB .any ops g nn listed
  | (i, q) :: s, listed =>
    Nat.blt i nn && (match q with
     | true => Region.free .any ops listed i && (Region.ready .any ops listed).contains i
     | false => Region.ready .any ops listed == [i]) && seqHB ops nn g s (listed.setIfInBounds i true)
theorem wpAnyLH_of_seq {nn g : Nat} {K : Act → World → Prop} (hsel : Region.noSelect ops = true) (hs : Region.sinkB .any ops nn = true) (hc : Region.chainB .any ops nn = true) (hn : nn < ops.size) (hQ : PanicOk Q) {Q1 : Exit → Act → World → Prop} (hq1 : ∀ e a w, e ≠ .normal → Q1 e a w → Q e a w) (hq2 : ∀ a w, Q1 .normal a w → K a w) :
    ∀ (s : List (Nat × Bool)) (listed : Array Bool) (a : Act) (w : World), HeadInv .any ops nn listed →
    seqHB ops nn g s listed = true → wpSeq P ops S Q1 s a w → wpAnyLH P .any ops Q S nn (fun listed' a' w' => Region.seqB .any ops g nn listed' = true ∧ K a' w') s.length listed a w
  | [], listed, a, w, _, hB, h => by
    rw [wpSeq] at h
    exact ⟨by simpa [seqHB] using hB, hq2 _ _ h⟩
  | (i, true) :: s, listed, a, w, inv, hB, h => by
    simp only [seqHB, Bool.and_eq_true] at hB
    obtain ⟨⟨hlt, hf, hr⟩, hB⟩ := hB
    have hlt := Nat.le_of_ble_eq_true hlt
    rw [wpSeq] at h
    obtain ⟨o, v, ho, hy, hS, h⟩ := h
    have hr' : i ∈ Region.ready .any ops listed := by simpa using hr
    exact wpAnyLH_first ho (Region.noSelect_spec hsel) hs hc hn hlt hQ (fun listed' a' w' hL => seqB_ready hL.1) s.length listed a w inv (Region.free_spec ho hf) hr' hy hS
      (wpAnyLH_of_seq hsel hs hc hn hQ hq1 hq2 s _ _ _ (inv.set hr' hlt) hB h)
  | (i, false) :: s, listed, a, w, inv, hB, h => by
    simp only [seqHB, Bool.and_eq_true, beq_iff_eq] at hB
    obtain ⟨⟨hlt, hr⟩, hB⟩ := hB
    have hlt := Nat.le_of_ble_eq_true hlt
    rw [wpSeq] at h
    have hr' : i ∈ Region.ready .any ops listed := by rw [hr]; simp
    refine ⟨by rw [hr]; simp, fun j hj => ?_⟩
    rw [hr] at hj
    obtain rfl := List.mem_singleton.1 hj
    exact ⟨hlt, wpOp_mono (fun a' w' h' => ⟨h'.1, wpAnyLH_of_seq hsel hs hc hn hQ hq1 hq2 s _ _ _ (inv.set hr' hlt) hB h'.2⟩) (wpOp_q hq1 h)⟩
end
/-- the head (operations below nn) held, then the tail -/
theorem c_regHT {id : Nat} {l : List Oper} (nn : Nat) (fl : List (Nat × Bool)) (S : World → Prop) (hm : P.follows .mixedOrders = true)
    (hB : (Region.noSelect l.toArray && decide (nn < l.toArray.size) && Region.sinkB .any l.toArray nn && Region.chainB .any l.toArray nn && seqHB l.toArray nn (l.toArray.size - nn) fl (Array.replicate l.length false) && inB l fl && Nat.beq fl.length nn) = true)
    (hQ : PanicOk Q) (hS : ∀ w, St w0 M L w → S w) (h : OW P n l (St w0 M L) E (.held S (QT P l nn Q) fl) (permOf l fl)) : CW P n (St w0 M L) E Q (.region id l.toArray true) := fun a w hF hC => by
  simp only [Bool.and_eq_true, decide_eq_true_eq] at hB
  obtain ⟨⟨⟨⟨⟨⟨hsel, hn⟩, hs⟩, hc⟩, h2⟩, h3⟩, h4⟩ := hB
  have hlen : fl.length = nn := Nat.eq_of_beq_eq_true h4
  have hn' : nn < l.length := by simpa using hn
  refine wp_region_any hm ?_
  have inv0 : HeadInv .any l.toArray nn (Array.replicate l.toArray.size false) :=
    ⟨by simp, fun j oj _ hl => (by rw [getD_replicate_false] at hl; cases hl), fun t _ ht => getD_in (by simpa using ht) (getD_replicate_false _ _)⟩
  have hseq := h fl ⟨[], rfl⟩ (cons_perm h3) a _ hF hC.drew (hS _ hC.drew)
  have H := wpAnyLH_of_seq (P := P) (S := S) (Q := Q) (Q1 := QT P l nn Q) (K := fun a w => wpList P l.toArray Q (l.drop nn) a w) (g := l.toArray.size - nn) hsel hs hc hn hQ
    (fun e a w he h => by cases e <;> first | exact absurd rfl he | exact h) (fun a w h => h) fl (Array.replicate l.toArray.size false) a _ inv0 (by simpa using h2) hseq
  have hdl : (l.drop nn).length = l.toArray.size - nn := by simp
  have := wpAny_of_headH (Q := Q) (g := l.toArray.size - nn) (fun listed a' w' hL => by
    have := wpAny_of_seq (md := .any) (Q' := Q) (l.drop nn) nn listed a' w' (fun j => by simp [List.getElem?_drop]) (by rw [hdl]; exact hL.1) hL.2
    rwa [hdl] at this) _ _ _ _ H
  rw [hlen, show nn + (l.toArray.size - nn) = l.toArray.size by omega] at this
  exact this
theorem x_qt {l : List Oper} {nn : Nat} (h : OW P n l C E (.lex Q) (l.drop nn)) : XW n C E (QT P l nn Q) .normal := fun a w hF hC => h a w hF hC
end Go.Vk
/- Calls of function values. -/
namespace Go.Vk
section
variable {P : Program} {n : Nat} {E : Env} {w0 : World} {M : List Nat} {L : List Res}
theorem run_callV {o : Oper} {y : Operand} {f : FuncId} {xs : List Operand} {ts : Array TypeId} {vs cap : List Value} {a : Act} (ho : o.op = .call { callee := .value y, args := xs.toArray, argTypes := ts }) (hf : isFn P f) (hF : Fr n E a)
    (hy : ev E y = some (.func (.func f) #[] cap.toArray)) (hx : evs E xs = some vs) (w : World) : (execOp a.eval o).run P w = .ok (.enter f (vs ++ cap).toArray) w := by
  obtain ⟨fn, h1, h2, h3⟩ := hf
  obtain ⟨c, hc⟩ := Option.isSome_iff_exists.1 h2
  have hm : (xs.toArray.map a.eval) = vs.toArray := by rw [← hF.evs hx]; simp
  unfold execOp
  simp only [ho, resolve, hF.ev hy, Deferred.ofValue, hm]
  simp [invoke, callFunc, h1, h3, hc]
theorem qy_callV {o : Oper} {y : Operand} {f : FuncId} {xs : List Operand} {ts : Array TypeId} {vs cap : List Value} {v : Value} (ho : o.op = .call { callee := .value y, args := xs.toArray, argTypes := ts }) (hf : isFn P f)
    (hy : ev E y = some (.func (.func f) #[] cap.toArray)) (hx : evs E xs = some vs)
    (hc : ∀ w, St w0 M L w → Calls P f (vs ++ cap).toArray w fun e w' => e = .returned v ∧ Ext [] w w') : Qy P n (St w0 M L) E o v := fun a hF w hC => by
  unfold Oper.quietAt
  rw [run_callV ho hf hF hy hx w]
  exact ⟨rfl, (hc w hC).mono fun e w' ⟨he, hw⟩ => ⟨he, hC.step hw⟩⟩
end
end Go.Vk
/- Structs compared, min, maps that the call makes. -/
namespace Go.Vk
open Go.RowKit
section
variable {P : Program} {n : Nat} {S C : World → Prop} {E : Env} {m : Md} {l rest : List Oper} {w0 : World} {M : List Nat} {L : List Res}
/-! ### structs of one level compared -/
def eqLeaf (d : TypeDesc) (x y : Value) : Option Bool :=
  match d, x, y with
  | .int _, .int k a, .int k' b => bif kindEq k k' then some (a == b) else none
  | .bool, .bool a, .bool b => some (a == b)
  | .string, .string a, .string b => some (a.data.toList == b.data.toList)
  | _, _, _ => none
def eqfB (P : Program) (xs ys : List Value) : List Field → Option Bool
  | [] => some true
  | f :: fs =>
    match decide (f.name = "_"), P.underlying f.type, xs[f.offset]?, ys[f.offset]? with
    | false, some d, some x, some y =>
      match eqLeaf d x y, eqfB P xs ys fs with
      | some b, some r => some (b && r)
      | _, _ => none
    | _, _, _, _ => none
def eqSB (P : Program) (t : TypeId) (xs ys : List Value) : Option Bool :=
  match P.underlying t with
  | some (.struct fs) => bif P.stoodInHeld t || P.eqGuardType P.depth t then none else eqfB P xs ys fs.toList
  | _ => none
theorem run_eqLeaf {d : Nat} {t : TypeId} {td : TypeDesc} {x y : Value} {b : Bool} (hu : P.underlying t = some td) (h : eqLeaf td x y = some b) (w : World) :
    (Op.equalIn (d + 1) t x y).run P w = .ok b w ∧ P.plainKey t = true := by
  unfold eqLeaf at h
  split at h
  · rename_i k a k' b'
    cases hk : kindEq k k' with
    | false => rw [hk] at h; cases h
    | true =>
      rw [hk] at h
      obtain rfl := kindEq_eq hk
      cases h
      exact ⟨run_equalIn_int w d t _ _ _ _ hu, by simp [Program.plainKey, hu]⟩
  · cases h
    exact ⟨run_equalIn_bool' w d t _ _ hu, by simp [Program.plainKey, hu]⟩
  · cases h
    exact ⟨by rw [run_equalIn_string w d t _ _ hu, ByteArray.toList_eq, ByteArray.toList_eq], by simp [Program.plainKey, hu]⟩
  · cases h
theorem run_eqfB {d : Nat} {xs ys : List Value} (w : World) : ∀ {fs : List Field} {b : Bool}, eqfB P xs ys fs = some b → (Op.eqFields (d + 1) xs.toArray ys.toArray fs).run P w = .ok b w := by
  intro fs
  induction fs with
  | nil => intro b h; cases h; simp [Op.eqFields]
  | cons f fs ih =>
    intro b h
    unfold eqfB at h
    split at h
    · rename_i hn d' x y h1 h2 hx hy
      split at h
      · rename_i b1 r e1 e2
        cases h
        obtain ⟨hr, hp⟩ := run_eqLeaf (d := d) h2 e1 w
        have hne : f.name ≠ "_" := by simpa using h1
        have px := run_part_plain w hp (xs := xs.toArray) (off := f.offset) (by simpa using hx)
        have py := run_part_plain w hp (xs := ys.toArray) (off := f.offset) (by simpa using hy)
        simp only [Op.eqFields, hne, ne_eq, not_false_eq_true, if_true, Sem.run_bind, px, py, hr, Result.andThen_ok]
        cases b1
        · simp
        · simp [ih e2]
      · cases h
    · cases h
theorem run_eqSB {d : Nat} {t : TypeId} {xs ys : List Value} {b : Bool} (h : eqSB P t xs ys = some b) (w : World) :
    (Op.equalIn (d + 2) t (.agg xs.toArray) (.agg ys.toArray)).run P w = .ok b w ∧ P.eqGuardType P.depth t = false := by
  unfold eqSB at h
  split at h
  · rename_i fs hu
    cases hs : P.stoodInHeld t with
    | true => rw [hs] at h; cases h
    | false =>
      cases hg : P.eqGuardType P.depth t with
      | true => rw [hs, hg] at h; cases h
      | false =>
        rw [hs, hg] at h
        have hf : P.fieldsOf t = fs := by unfold Program.fieldsOf; rw [hu]
        refine ⟨?_, rfl⟩
        rw [run_equalIn_struct w (d + 1) t _ _ (by rw [hf]; exact hu) hs, hf]
        exact run_eqfB w h
  · cases h
theorem ry_seql {o : Oper} {t u : TypeId} {x y : Operand} {xs ys : List Value} {b : Bool} (ho : o.op = .binOp .eql t x y u) (hx : ev E x = some (.agg xs.toArray)) (hy : ev E y = some (.agg ys.toArray)) (h : eqSB P t xs ys = some b) : Ry P n S E o (.bool b) := fun a hF w _ => by
  obtain ⟨h1, h2⟩ := run_eqSB (d := 9998) h w
  unfold execOp
  simp only [ho, hF.ev hx, hF.ev hy, Sem.run_bind, run_eqGuard_agg w _ _ _ _ _ _ h2, Result.andThen_ok, run_eql_struct, h1, Sem.run_pure]
theorem ry_sneq {o : Oper} {t u : TypeId} {x y : Operand} {xs ys : List Value} {b : Bool} (ho : o.op = .binOp .neq t x y u) (hx : ev E x = some (.agg xs.toArray)) (hy : ev E y = some (.agg ys.toArray)) (h : eqSB P t xs ys = some b) : Ry P n S E o (.bool (!b)) := fun a hF w _ => by
  obtain ⟨h1, h2⟩ := run_eqSB (d := 9998) h w
  unfold execOp
  simp only [ho, hF.ev hx, hF.ev hy, Sem.run_bind, run_eqGuard_agg w _ _ _ _ _ _ h2, Result.andThen_ok, run_neq_struct, h1, Sem.run_pure]
theorem ry_min {o : Oper} {x y : Operand} {ts : Array TypeId} {k k' : IntKind} {a b : Int} (ho : o.op = .call { callee := .builtin .min, args := #[x, y], argTypes := ts }) (hx : ev E x = some (.int k a)) (hy : ev E y = some (.int k' b)) : Ry P n S E o (.int k (if b < a then b else a)) := fun fr hF w _ => by
  unfold execOp
  simp [ho, resolve, invoke, builtin, hF.ev hx, hF.ev hy, Builtin.min_, Builtin.min2, List.foldlM]
/-! ### maps -/
variable {κ : Type}
section
variable [DecidableEq κ]
def mGet : List (κ × Int) → κ → Int
  | [], _ => 0
  | (k', v) :: es, k => if k = k' then v else mGet es k
def mFind : List (κ × Int) → κ → Option Nat
  | [], _ => none
  | (k', _) :: es, k => if k = k' then some 0 else (mFind es k).map (· + 1)
/-- the entries, and the entry's number, when an entry is asked for -/
def mEnt (es : List (κ × Int)) (k : κ) : List (κ × Int) × Nat :=
  match mFind es k with
  | some i => (es, i)
  | none => (es ++ [(k, 0)], es.length)
def mPut (es : List (κ × Int)) (k : κ) (x : Int) : List (κ × Int) := (mEnt es k).1.modify (mEnt es k).2 (fun e => (e.1, x))
end
def ents (f : κ → List Value) : Nat → List (κ × Int) → List MapEntry
  | _, [] => []
  | i, (k, v) :: es => { key := .agg (f k).toArray, val := .int .i64 v, born := i } :: ents f (i + 1) es
def Res.map (f : κ → List Value) (b : Nat) (es : List (κ × Int)) : Res :=
  ⟨[b], fun w => w.heap[b]? = some (.map (ents f 0 es).toArray es.length), fun _ _ h ok => (h b (by simp)).trans ok⟩
theorem mapIn {f : κ → List Value} {b : Nat} {es : List (κ × Int)} {i : Nat} (hr : L[i]? = some (Res.map f b es)) : ∀ w, St w0 M L w → w.heap[b]? = some (.map (ents f 0 es).toArray es.length) := fun _ hw => hw.ok _ (List.mem_of_getElem? hr)
theorem ents_get {f : κ → List Value} : ∀ {es : List (κ × Int)} {i q : Nat} {e : κ × Int}, es[q]? = some e → (ents f i es)[q]? = some { key := .agg (f e.1).toArray, val := .int .i64 e.2, born := i + q }
  | (k, v) :: es, i, 0, e, h => by cases h; rfl
  | (k, v) :: es, i, q + 1, e, h => by
    have := ents_get (f := f) (i := i + 1) (q := q) (e := e) (by simpa using h)
    simp only [ents, List.getElem?_cons_succ, this]
    congr 2; omega
  | [], _, _, _, h => by cases h
theorem ents_app {f : κ → List Value} : ∀ (es ds : List (κ × Int)) (i : Nat), ents f i (es ++ ds) = ents f i es ++ ents f (i + es.length) ds
  | [], _, _ => rfl
  | (k, v) :: es, ds, i => by
    simp only [List.cons_append, ents, ents_app es, List.length_cons]
    rw [show i + 1 + es.length = i + (es.length + 1) by omega]
theorem ents_modify {f : κ → List Value} (x : Int) : ∀ (es : List (κ × Int)) (i q : Nat), ents f i (es.modify q fun e => (e.1, x)) = (ents f i es).modify q fun e => { e with val := .int .i64 x }
  | [], _, _ => by simp [ents]
  | (k, v) :: es, i, 0 => rfl
  | (k, v) :: es, i, q + 1 => by simp [ents, ents_modify x es]
theorem ents_born {f : κ → List Value} : ∀ (es : List (κ × Int)) (i q : Nat), q < es.length → (ents f i es).findIdx? (fun e => (e.born : Int) == ((i + q : Nat) : Int)) = some q
  | [], _, _, h => by simp at h
  | (k, v) :: es, i, 0, _ => by simp [ents, List.findIdx?_cons]
  | (k, v) :: es, i, q + 1, h => by
    have := ents_born (f := f) es (i + 1) q (by simpa using h)
    rw [show i + 1 + q = i + (q + 1) by omega] at this
    simp only [ents, List.findIdx?_cons]
    rw [if_neg (by simp; omega), this]
    rfl
section
variable [DecidableEq κ]
/-- keys of this type are compared as data -/
structure KeyOk (P : Program) (kt : TypeId) (f : κ → List Value) : Prop where
  eq : ∀ (a b : κ) (w : World), (Op.equal kt (.agg (f a).toArray) (.agg (f b).toArray)).run P w = .ok (decide (a = b)) w
  chk : ∀ (e : Bool) (a : κ) (w : World), (Instr.checkKey e 10000 kt (.agg (f a).toArray)).run P w = .ok () w
  wide : (match P.underlying kt with | some (.array _ _) | some (.struct _) => true | _ => false) = true
  same : ∀ a : κ, Instr.sameBits 10000 (.agg (f a).toArray) (.agg (f a).toArray) = true
def isMap (P : Program) (t kt et : TypeId) : Prop := P.underlying t = some (.map kt et)
theorem run_find {f : κ → List Value} {kt : TypeId} (hK : KeyOk P kt f) (k : κ) (w : World) : ∀ (es : List (κ × Int)) (i j : Nat),
    (Instr.findAsking kt (.agg (f k).toArray) (ents f i es) j).run P w = .ok ((mFind es k).map fun q => (j + q, .int .i64 (mGet es k))) w := by
  intro es
  induction es with
  | nil => intro i j; simp [ents, Instr.findAsking, mFind]
  | cons e es ih =>
    intro i j
    obtain ⟨k', v⟩ := e
    simp only [ents, Instr.findAsking, Sem.run_bind, hK.eq, Result.andThen_ok]
    by_cases h : k = k'
    · simp [h, mFind, mGet]
    · simp only [h, decide_false, Bool.false_eq_true, if_false, ih, mFind, mGet]
      cases mFind es k with
      | none => rfl
      | some q => simp [Nat.add_comm, Nat.add_left_comm]
theorem run_findKey_m {f : κ → List Value} {kt : TypeId} (hK : KeyOk P kt f) (k : κ) (w : World) (es : List (κ × Int)) :
    (Instr.findKey kt (.agg (f k).toArray) (ents f 0 es)).run P w = .ok ((mFind es k).map fun q => (q, .int .i64 (mGet es k))) w := by
  have hw := hK.wide
  have key := run_find hK k w es 0 0
  cases hu : P.underlying kt with
  | none => simp [hu] at hw
  | some kd =>
    cases hes : ents f 0 es with
    | nil =>
      rw [hes] at key
      rw [show (fun q => (0 + q, Value.int .i64 (mGet es k))) = (fun q => (q, Value.int .i64 (mGet es k))) by funext q; rw [Nat.zero_add]] at key
      rw [← key]
      simp [Instr.findKey, run_underlying hu, Instr.findNow, Instr.findAsking]
    | cons e es' =>
      rw [hes] at key
      rw [show (fun q => (0 + q, Value.int .i64 (mGet es k))) = (fun q => (q, Value.int .i64 (mGet es k))) by funext q; rw [Nat.zero_add]] at key
      rw [← key]
      cases kd <;> simp [hu] at hw <;> simp [Instr.findKey, run_underlying hu, Instr.findNow, Instr.sameNow]
theorem mGet_none {es : List (κ × Int)} {k : κ} (h : mFind es k = none) : mGet es k = 0 := by
  induction es with
  | nil => rfl
  | cons e es ih =>
    obtain ⟨k', v⟩ := e
    unfold mFind at h
    unfold mGet
    by_cases hk : k = k'
    · simp [hk] at h
    · rw [if_neg hk] at h ⊢
      exact ih (by simpa using h)
theorem mFind_lt {es : List (κ × Int)} {k : κ} {i : Nat} (h : mFind es k = some i) : i < es.length ∧ ∃ v, es[i]? = some (k, v) := by
  induction es generalizing i with
  | nil => cases h
  | cons e es ih =>
    obtain ⟨k', v⟩ := e
    unfold mFind at h
    by_cases hk : k = k'
    · rw [if_pos hk] at h
      cases h
      exact ⟨by simp, v, by simp [hk]⟩
    · rw [if_neg hk] at h
      cases hq : mFind es k with
      | none => rw [hq] at h; cases h
      | some q =>
        rw [hq] at h
        cases h
        obtain ⟨h1, v', h2⟩ := ih hq
        exact ⟨by simp; omega, v', by simpa using h2⟩
theorem mEnt_lt (es : List (κ × Int)) (k : κ) : (mEnt es k).2 < (mEnt es k).1.length := by
  unfold mEnt
  cases h : mFind es k with
  | none => simp
  | some i => exact (mFind_lt h).1
theorem modify_same {xs : List MapEntry} {i : Nat} {e : MapEntry} (h : xs[i]? = some e) (g : MapEntry → MapEntry) (hg : g e = e) : xs.modify i g = xs := by
  apply List.ext_getElem?
  intro j
  rw [List.getElem?_modify]
  by_cases hj : i = j
  · subst hj; rw [h]; simp [hg]
  · simp [hj]
end
def World.setMap (w : World) (b : Nat) (o : Obj) : World := { w with heap := w.heap.setIfInBounds b o }
theorem ext_setMap {w : World} {b : Nat} {o : Obj} : Ext [b] w (World.setMap w b o) :=
  ⟨rfl, rfl, rfl, by simp [World.setMap], fun c hc hn => by
    have : b ≠ c := fun e => hn (by simp [e])
    simp [World.setMap, this]⟩
theorem st_map {f : κ → List Value} {b : Nat} {es es' : List (κ × Int)} {i : Nat} {w : World} (hC : St w0 M L w) (hr : L[i]? = some (Res.map f b es)) :
    St w0 M (L.set i (Res.map f b es')) (World.setMap w b (.map (ents f 0 es').toArray es'.length)) :=
  hC.upd hr ext_setMap (Res.map f b es') (Go.MapKept.heap_set (mapIn hr w hC)).1 (by simp [Res.map]) (fun c hc => by
    have hcb : c = b := by simpa [Res.map] using hc
    subst hcb
    exact ⟨by simpa [World.setMap] using (Array.getElem?_eq_some_iff.1 (mapIn hr w hC)).1, .inl (by simp [Res.map])⟩)
theorem ow_makeMap {o : Oper} {T : TypeId} (f : κ → List Value) (ho : o.op = .makeMap T none) (hm : m.here (o :: rest) = true) (hw : wt l E o.guard = some true) (hd : dstOk n o.dst = true)
    (hS : ∀ b, Kp m (St w0 M (L ++ [Res.map f b []]))) (hk : ∀ b, OW P n l (St w0 M (L ++ [Res.map f b []])) (upd E o.dst (.map (some b))) m rest) : OW P n l (St w0 M L) E m (o :: rest) :=
  ow_loud hm hw fun a w hF hC _ _ hK => by
    have hst : St w0 M (L ++ [Res.map f w.heap.size []]) (w.alloc (.map #[] 0)) := hC.push (ext_alloc w _) _ (Go.MapKept.heap_alloc w _).1 (by simp [Res.map]) (by simp [Res.map])
    exact upon_val (by unfold execOp; simp [ho, Instr.makeMap]) (hK _ _ _ _ (hk w.heap.size) (hF.put _ _ (dstOk_lt hd)) hst (hS _ _ hst))
def isZ0B (P : Program) (t : TypeId) : Bool :=
  match P.info? t with
  | some i => (match i.zero with | some (.int .i64 (.ofNat 0)) => true | _ => false)
  | none => false
def isZ0 (P : Program) (t : TypeId) : Prop := ∀ w : World, (zeroValue t).run P w = .ok (.int .i64 0) w
theorem isZ0_of {t : TypeId} (h : isZ0B P t = true) : isZ0 P t := fun w => by
  unfold isZ0B at h
  split at h
  · rename_i i hi
    split at h
    · rename_i hz
      simp [zeroValue, typeInfo, hi, hz]
    · cases h
  · cases h
section
variable [DecidableEq κ]
theorem ry_lookup {f : κ → List Value} {o : Oper} {t kt et : TypeId} {x y : Operand} {b : Nat} {es : List (κ × Int)} {k : κ} (ho : o.op = .lookup t x y false) (hx : ev E x = some (.map (some b))) (hy : ev E y = some (.agg (f k).toArray))
    (ht : isMap P t kt et) (he : isZ0 P et) (hK : KeyOk P kt f) (hr : ∀ w, S w → ∃ es', w.heap[b]? = some (.map (ents f 0 es').toArray es'.length) ∧ ∀ q, mGet es' q = mGet es q) : Ry P n S E o (.int .i64 (mGet es k)) := fun a hF w hw => by
  obtain ⟨es', hb, hg⟩ := hr w hw
  rw [← hg k]
  have ht' : P.underlying t = some (.map kt et) := ht
  unfold execOp
  simp only [ho, hF.ev hx, hF.ev hy]
  simp only [Instr.lookup, Sem.run_bind, run_underlying ht', Result.andThen_ok, Go.MapKept.run_getObj_map hb, Sem.run_pure, hK.chk, run_findKey_m hK]
  cases hf : mFind es' k with
  | none =>
    simp [he w, mGet_none hf]
  | some q => simp
theorem mEnt_get (es : List (κ × Int)) (k k' : κ) : mGet (mEnt es k).1 k' = mGet es k' := by
  unfold mEnt
  cases mFind es k with
  | some i => rfl
  | none =>
    show mGet (es ++ [(k, 0)]) k' = _
    induction es with
    | nil => simp [mGet]
    | cons e es ih =>
      obtain ⟨k2, v2⟩ := e
      simp only [List.cons_append, mGet, ih]
/-- the map whose entries read so -/
def Res.mapG (f : κ → List Value) (b : Nat) (es : List (κ × Int)) : Res :=
  ⟨[b], fun w => ∃ es', w.heap[b]? = some (.map (ents f 0 es').toArray es'.length) ∧ ∀ q, mGet es' q = mGet es q, fun _ _ h ok => by
    obtain ⟨es', h1, h2⟩ := ok
    exact ⟨es', (h b (by simp)).trans h1, h2⟩⟩
theorem St.toG {f : κ → List Value} {b : Nat} {es1 es : List (κ × Int)} {w : World} (i : Nat) (hr : L[i]? = some (Res.map f b es1)) (hg : ∀ q, mGet es1 q = mGet es q) (h : St w0 M L w) : St w0 M (L.set i (Res.mapG f b es)) w :=
  h.recast hr rfl (fun ho => ⟨es1, ho, hg⟩)
theorem mapInR {f : κ → List Value} {b : Nat} {es : List (κ × Int)} {i : Nat} (hr : L[i]? = some (Res.map f b es)) : ∀ w, St w0 M L w → ∃ es', w.heap[b]? = some (.map (ents f 0 es').toArray es'.length) ∧ ∀ q, mGet es' q = mGet es q := fun w hw => ⟨es, mapIn hr w hw, fun _ => rfl⟩
theorem mapInG {f : κ → List Value} {b : Nat} {es : List (κ × Int)} {i : Nat} (hr : L[i]? = some (Res.mapG f b es)) : ∀ w, St w0 M L w → ∃ es', w.heap[b]? = some (.map (ents f 0 es').toArray es'.length) ∧ ∀ q, mGet es' q = mGet es q := fun _ hw => hw.ok _ (List.mem_of_getElem? hr)
theorem ow_mapEntry {f : κ → List Value} {o : Oper} {t kt et : TypeId} {x y : Operand} {b r : Nat} {es : List (κ × Int)} {k : κ} (ho : o.op = .mapEntry t x y) (hm : m.here (o :: rest) = true) (hw : wt l E o.guard = some true) (hd : dstOk n o.dst = true)
    (hx : ev E x = some (.map (some b))) (hy : ev E y = some (.agg (f k).toArray)) (ht : isMap P t kt et) (he : isZ0 P et) (hK : KeyOk P kt f) (hr : L[r]? = some (Res.map f b es))
    (hS : Kp m (St w0 M (L.set r (Res.map f b (mEnt es k).1))))
    (hk : OW P n l (St w0 M (L.set r (Res.map f b (mEnt es k).1))) (upd E o.dst (.tuple #[.int .i64 (mGet es k), .int .i64 ((mEnt es k).2 : Int)])) m rest) : OW P n l (St w0 M L) E m (o :: rest) :=
  ow_loud hm hw fun a w hF hC _ _ hK2 => by
    have hb := mapIn hr w hC
    have ht' : P.underlying t = some (.map kt et) := ht
    have hst := st_map (es' := (mEnt es k).1) hC hr
    refine upon_val ?_ (hK2 _ _ _ _ hk (hF.put _ _ (dstOk_lt hd)) hst (hS _ hst))
    unfold execOp
    simp only [ho, hF.ev hx, hF.ev hy]
    simp only [Instr.mapEntry, Sem.run_bind, run_underlying ht', Result.andThen_ok, Go.MapKept.run_getObj_map hb, hK.chk, run_findKey_m hK]
    cases hf : mFind es k with
    | none =>
      have e1 : (ents f 0 (es ++ [(k, 0)])).toArray = (ents f 0 es).toArray.push { key := .agg (f k).toArray, val := .int .i64 0, born := es.length } := by
        rw [ents_app]; simp [ents]
      simp [he w, mGet_none hf, mEnt, hf, Go.MapKept.run_setObj_map _ hb, World.setMap, goInt, e1]
    | some q =>
      obtain ⟨hq, v, hv⟩ := mFind_lt hf
      have hg := ents_get (f := f) (i := 0) hv
      simp only [Nat.zero_add] at hg
      have e0 : (ents f 0 es)[q]? = some { key := .agg (f k).toArray, val := .int .i64 v, born := q } := hg
      have e1 : (ents f 0 es).modify q (fun e => { key := .agg (f k).toArray, val := e.val, born := e.born }) = ents f 0 es := modify_same e0 _ rfl
      simp only [Option.map_some, List.getElem?_toArray, e0, Option.getD_some, Instr.keyThatStays, hK.same, if_true, Sem.run_pure, Sem.run_bind, Result.andThen_ok, Go.MapKept.run_setObj_map _ hb, mEnt, hf, goInt, List.modify_toArray]
      rw [e1]
      rfl
theorem ow_entryStore {f : κ → List Value} {o : Oper} {t : TypeId} {x y u : Operand} {b r : Nat} {es : List (κ × Int)} {k : κ} {v : Int} (ho : o.op = .entryStore t x y u) (hm : m.here (o :: rest) = true) (hw : wt l E o.guard = some true) (hd : dstOk n o.dst = true)
    (hx : ev E x = some (.map (some b))) (hy : ev E y = some (.int .i64 ((mEnt es k).2 : Int))) (hu : ev E u = some (.int .i64 v)) (hr : L[r]? = some (Res.map f b (mEnt es k).1))
    (hS : Kp m (St w0 M (L.set r (Res.map f b (mPut es k v)))))
    (hk : OW P n l (St w0 M (L.set r (Res.map f b (mPut es k v)))) (upd E o.dst undef) m rest) : OW P n l (St w0 M L) E m (o :: rest) :=
  ow_loud hm hw fun a w hF hC _ _ hK2 => by
    have hb := mapIn hr w hC
    have hst := st_map (es' := mPut es k v) hC hr
    refine upon_skip ?_ (hK2 _ _ _ _ hk (hF.put _ _ (dstOk_lt hd)) hst (hS _ hst))
    unfold execOp
    simp only [ho, hF.ev hx, hF.ev hy, hF.ev hu]
    have hbn := ents_born (f := f) (mEnt es k).1 0 (mEnt es k).2 (mEnt_lt es k)
    simp only [Nat.zero_add] at hbn
    have hl : (mPut es k v).length = (mEnt es k).1.length := by simp [mPut]
    simp only [Instr.entryStore, Sem.run_bind, Go.MapKept.run_getObj_map hb, Result.andThen_ok, asInt, asIntOf, Sem.run_pure, List.findIdx?_toArray, hbn, Go.MapKept.run_setObj_map _ hb, World.setMap, List.modify_toArray, hl]
    rw [mPut, ents_modify]
end
/-- what the plain law wants of 'm[k] = v' -/
theorem mGet_put [DecidableEq κ] (es : List (κ × Int)) (k : κ) (v : Int) (k' : κ) : mGet (mPut es k v) k' = if k' = k then v else mGet es k' := by
  have app : ∀ es : List (κ × Int), mFind es k = none → mGet ((es ++ [(k, 0)]).modify es.length fun e => (e.1, v)) k' = if k' = k then v else mGet es k' := by
    intro es
    induction es with
    | nil => intro _; simp [mGet]
    | cons e es ih =>
      intro h
      obtain ⟨k2, v2⟩ := e
      unfold mFind at h
      by_cases hk : k = k2
      · simp [hk] at h
      · rw [if_neg hk] at h
        have := ih (by simpa using h)
        simp only [List.cons_append, List.length_cons, List.modify_succ_cons, mGet]
        rw [this]
        by_cases h2 : k' = k2
        · have : k' ≠ k := fun e => hk (e ▸ h2)
          simp [h2]
          intro h3; exact absurd h3.symm hk
        · simp [h2]
  have found : ∀ (es : List (κ × Int)) (i : Nat), mFind es k = some i → mGet (es.modify i fun e => (e.1, v)) k' = if k' = k then v else mGet es k' := by
    intro es
    induction es with
    | nil => intro i h; cases h
    | cons e es ih =>
      intro i h
      obtain ⟨k2, v2⟩ := e
      unfold mFind at h
      by_cases hk : k = k2
      · rw [if_pos hk] at h
        cases h
        simp only [List.modify_zero_cons, mGet]
        subst hk
        by_cases h2 : k' = k <;> simp [h2]
      · rw [if_neg hk] at h
        cases hq : mFind es k with
        | none => rw [hq] at h; cases h
        | some q =>
          rw [hq] at h
          cases h
          simp only [List.modify_succ_cons, mGet, ih q hq]
          by_cases h2 : k' = k2
          · have : k' ≠ k := fun e => hk (e ▸ h2)
            simp [h2]
            intro h3; exact absurd h3.symm hk
          · simp [h2]
  unfold mPut mEnt
  cases h : mFind es k with
  | none => exact app es h
  | some i => exact found es i h
theorem run_checkPlain {e : TypeId} (v : Value) (em : Bool) (n : Nat) (w : World) (hv : ∃ d, P.underlying e = some d ∧ ∃ b, eqLeaf d v v = some b) : (Instr.checkKey em (n + 1) e v).run P w = .ok () w := by
  obtain ⟨d, hu, b, hb⟩ := hv
  unfold eqLeaf at hb
  split at hb
  · simp [Instr.checkKey, run_underlying hu]
  · simp [Instr.checkKey, run_underlying hu]
  · simp [Instr.checkKey, run_underlying hu]
  · cases hb
theorem run_checkFields {xs : List Value} {n : Nat} {em : Bool} (w : World) : ∀ {fs : List Field} {b : Bool}, eqfB P xs xs fs = some b →
    (forIn fs PUnit.unit (fun f (_ : PUnit) => (if f.name ≠ "_" then (part f.type xs.toArray f.offset) >>= (fun x => Instr.checkKey em (n + 1) f.type x >>= fun _ => pure (ForInStep.yield PUnit.unit)) else pure (ForInStep.yield PUnit.unit) : Sem (ForInStep PUnit))) : Sem PUnit).run P w = .ok PUnit.unit w := by
  intro fs
  induction fs with
  | nil => intro b _; simp
  | cons f fs ih =>
    intro b h
    unfold eqfB at h
    split at h
    · rename_i hn d' x y h1 h2 hx hy
      rw [hx] at hy
      cases hy
      split at h
      · rename_i b1 r e1 e2
        obtain ⟨hr, hp⟩ := run_eqLeaf (d := 0) h2 e1 w
        have hne : f.name ≠ "_" := by simpa using h1
        have px := run_part_plain w hp (xs := xs.toArray) (off := f.offset) (by simpa using hx)
        have hc := run_checkPlain x em n w ⟨_, h2, _, e1⟩
        simp only [List.forIn_cons, hne, ne_eq, not_false_eq_true, if_true, Sem.run_bind, px, hc, Result.andThen_ok, Sem.run_pure]
        exact ih e2
      · cases h
    · cases h
theorem run_checkS {t : TypeId} {xs : List Value} {b : Bool} {em : Bool} {n : Nat} (h : eqSB P t xs xs = some b) (w : World) : (Instr.checkKey em (n + 2) t (.agg xs.toArray)).run P w = .ok () w := by
  unfold eqSB at h
  split at h
  · rename_i fs hu
    cases hs : P.stoodInHeld t with
    | true => rw [hs] at h; cases h
    | false =>
      cases hg : P.eqGuardType P.depth t with
      | true => rw [hs, hg] at h; cases h
      | false =>
        rw [hs, hg] at h
        have := run_checkFields (n := n) (em := em) w h
        unfold Instr.checkKey
        simp only [Sem.run_bind, run_underlying hu, Result.andThen_ok]
        rw [← Array.forIn_toList]
        exact (congrArg (fun r => Result.andThen r fun _ w' => Result.ok () w') this).trans rfl
  · cases h
theorem keyOk_of [DecidableEq κ] {kt : TypeId} {f : κ → List Value} {g : κ → κ → Bool} (he : ∀ a b, eqSB P kt (f a) (f b) = some (g a b)) (hg : ∀ a b, g a b = decide (a = b)) (hs : ∀ a : κ, Instr.sameBits 10000 (.agg (f a).toArray) (.agg (f a).toArray) = true)
    (hw : (match P.underlying kt with | some (.array _ _) | some (.struct _) => true | _ => false) = true) : KeyOk P kt f :=
  ⟨fun a b w => by rw [← hg]; exact (run_eqSB (d := 9998) (he a b) w).1, fun e a w => run_checkS (n := 9998) (he a a) w, hw, hs⟩
theorem ry_makeFunc {o : Oper} {f : FuncId} {xs : List Operand} {vs : List Value} (ho : o.op = .makeFunc (.func f) #[] xs.toArray) (hx : evs E xs = some vs) : Ry P n S E o (.func (.func f) #[] vs.toArray) := fun a hF w _ => by
  have hm : (xs.toArray.map a.eval) = vs.toArray := by rw [← hF.evs hx]; simp
  unfold execOp
  simp [ho, hm, Instr.makeFunc]
end
end Go.Vk
/- Elements deleted from a slice of the call's own: what stands behind moved up, the rest cleared. -/
namespace Go.Vk
open Go.RowKit
section
variable {α : Type} {e : Enc α} {f : α → List Value}
end
section
variable {P : Program} {n : Nat} {C : World → Prop} {E : Env} {m : Md} {l rest : List Oper} {w0 : World} {M : List Nat} {L : List Res}
end
end Go.Vk
/- Regions whose head comes in several orders: a tree of orders. -/
namespace Go.Vk
open Go.RowKit
variable {P : Program} {n : Nat} {C : World → Prop} {E : Env} {l rest : List Oper} {w0 : World} {M : List Nat} {L : List Res} {Q : Exit → Act → World → Prop}
/-- orders: done; a quiet operation, then t; the one loud operation that may come, then t; a loud operation, then t, or one of u -/
inductive Br where
  | done : Br
  | q (i : Nat) (t : Br) : Br
  | l (i : Nat) (t : Br) : Br
  | alt (i : Nat) (t u : Br) : Br
def Br.depth : Br → Nat
  | .done => 0
  | .q _ t => t.depth + 1
  | .l _ t => t.depth + 1
  | .alt _ t _ => t.depth + 1
def Br.pre : List (Nat × Bool) → Br → Br
  | [], b => b
  | (i, true) :: s, b => .q i (Br.pre s b)
  | (i, false) :: s, b => .l i (Br.pre s b)
section
variable {ops : Array Oper} {S : World → Prop}
end
end Go.Vk
namespace Go.Vk
open Go.RowKit
variable {P : Program} {n : Nat} {C : World → Prop} {E : Env} {m : Md} {l rest : List Oper} {w0 : World} {M : List Nat} {L : List Res} {Q : Exit → Act → World → Prop}
end Go.Vk
/- Plain laws of the loops that copy, compare, mark and weigh. No program in sight. -/
namespace Go.Vk
theorem wrap_id {n : Int} (h0 : -9223372036854775808 ≤ n) (h1 : n ≤ 9223372036854775807) : IntKind.i64.wrap n = n := IntWalk.i64_in n ⟨h0, h1⟩
theorem wrap_nat {n : Nat} (h : n < 9223372036854775808) : IntKind.i64.wrap (n : Int) = n := wrap_id (by omega) (by omega)
theorem wrap_succ {i : Nat} (h : i < 9223372036854775807) : IntKind.i64.wrap ((i : Int) + 1) = ((i + 1 : Nat) : Int) := by rw [wrap_id (by omega) (by omega)]; simp
theorem idx_lt {α : Type} {xs : List α} {i : Nat} (h : i < xs.length) : idx xs (i : Int) = some xs[i] := by simp [idx, h]
theorem app_eq {α : Type} {xs ys : List α} (h : xs.length + ys.length ≤ 68719476736) : app xs ys = some (xs ++ ys) := if_pos h
theorem tmod_nat (a b : Nat) : Int.tmod (a : Int) (b : Int) = ((a % b : Nat) : Int) := by rw [Int.tmod_eq_emod_of_nonneg (by omega)]; simp
theorem mk_eq {α : Type} (z : α) {n : Nat} (h : n ≤ 68719476736) : mk z (n : Int) = some (List.replicate n z) := by
  unfold mk; rw [if_pos (by omega)]; simp
/-! ### copied -/
theorem copy_loop {α β : Type} {F : α → Option β} {g : α → β} {p : List α} (Lp : Nat → List β → Int → Option (List β))
    (step : ∀ k l i, Lp (k + 1) l i = if decide (i < (p.length : Int)) then (idx p i).bind fun e => (F e).bind fun y => (idx l i).bind fun _ => Lp k (l.set i.toNat y) (IntKind.i64.wrap (i + 1)) else some l)
    (hp : p.length < 1000000000000) (hF : ∀ x ∈ p, F x = some (g x)) (z : β) : Lp Fuel (List.replicate p.length z) 0 = some (p.map g) := by
  have key : ∀ (d k i : Nat) (l : List β), p.length - i = d → d < k → i ≤ p.length → l.length = p.length → l.take i = (p.map g).take i → Lp k l (i : Int) = some (p.map g) := by
    intro d
    induction d with
    | zero =>
      intro k i l hd hk hi hl ht
      obtain ⟨k, rfl⟩ : ∃ q, k = q + 1 := ⟨k - 1, by omega⟩
      rw [step, if_neg (by simp; omega)]
      have : i = p.length := by omega
      subst this
      rw [List.take_of_length_le (by omega), List.take_of_length_le (by simp)] at ht
      rw [ht]
    | succ d ih =>
      intro k i l hd hk hi hl ht
      obtain ⟨k, rfl⟩ : ∃ q, k = q + 1 := ⟨k - 1, by omega⟩
      have hlt : i < p.length := by omega
      rw [step, if_pos (by simp; omega), idx_lt hlt]
      simp only [Option.bind_some]
      rw [hF _ (List.getElem_mem hlt)]
      simp only [Option.bind_some]
      rw [idx_lt (by omega : i < l.length)]
      simp only [Option.bind_some]
      rw [wrap_succ (by omega)]
      refine ih k (i + 1) _ (by omega) (by omega) (by omega) (by simp [hl]) ?_
      apply List.ext_getElem?
      intro j
      have hj : (l.take i)[j]? = ((p.map g).take i)[j]? := by rw [ht]
      simp only [List.getElem?_take, List.getElem?_set, Int.toNat_natCast, List.getElem?_map] at hj ⊢
      by_cases c1 : j < i
      · simp only [c1, if_true] at hj
        simp [show j < i + 1 by omega, show ¬ i = j by omega, hj]
      · by_cases c2 : i = j
        · subst c2; simp [show i < l.length by omega, hlt]
        · simp [show ¬ j < i + 1 by omega]
  exact key p.length Fuel 0 _ (by omega) (fuel_gt (by omega)) (by omega) (by simp) (by simp)
/-! ### compared with itself -/
theorem same_loop {α : Type} {p : List α} (Lp : Nat → Int → Option Bool) (G : α → Option Bool → Option Bool)
    (step : ∀ k i, Lp (k + 1) i = if decide (i < (p.length : Int)) then (idx p i).bind fun e => G e (Lp k (IntKind.i64.wrap (i + 1))) else some true)
    (hp : p.length < 1000000000000) (hG : ∀ x ∈ p, ∀ o, G x o = o) : Lp Fuel 0 = some true := by
  have key : ∀ (d k i : Nat), p.length - i = d → d < k → i ≤ p.length → Lp k (i : Int) = some true := by
    intro d
    induction d with
    | zero =>
      intro k i hd hk hi
      obtain ⟨k, rfl⟩ : ∃ q, k = q + 1 := ⟨k - 1, by omega⟩
      rw [step, if_neg (by simp; omega)]
    | succ d ih =>
      intro k i hd hk hi
      obtain ⟨k, rfl⟩ : ∃ q, k = q + 1 := ⟨k - 1, by omega⟩
      have hlt : i < p.length := by omega
      rw [step, if_pos (by simp; omega), idx_lt hlt]
      simp only [Option.bind_some]
      rw [hG _ (List.getElem_mem hlt), wrap_succ (by omega)]
      exact ih k (i + 1) (by omega) (by omega) (by omega)
  exact key p.length Fuel 0 (by omega) (fuel_gt (by omega)) (by omega)
/-- an element marked: the number behind it and what it is then -/
def Marks {α : Type} (Mk : α → Int → Option (Int × α)) (Hd : α → Int → Option Int) (c : Nat) (x : α) : Prop :=
  ∀ m : Nat, m + c < 4611686018427387904 → ∃ (m' : Nat) (x' : α), Mk x (m : Int) = some ((m' : Int), x') ∧ Hd x' (m : Int) = some (m' : Int) ∧ m ≤ m' ∧ m' ≤ m + c
/-! ### weighed -/
/-- what is left, or less than nothing -/
def Weighs {α : Type} (Z : α → Int → Option Int) (size : α → Nat) (x : α) : Prop :=
  ∀ s : Nat, s ≤ 1048576 → ∃ r, Z x (s : Int) = some r ∧ ((r < 0 ∧ s < size x) ∨ (size x ≤ s ∧ r = ((s - size x : Nat) : Int)))
theorem weigh_loop {α : Type} {p : List α} {Z : α → Int → Option Int} {size : α → Nat} (Lp : Nat → Int → Int → Option Int)
    (step : ∀ k s i, Lp (k + 1) s i = if decide (i < (p.length : Int)) then (idx p i).bind fun e => (Z e s).bind fun y => if decide (y < 0) then some (-1) else Lp k y (IntKind.i64.wrap (i + 1)) else some s)
    (hp : p.length ≤ 1048576) (hZ : ∀ x ∈ p, Weighs Z size x) : ∀ s : Nat, s ≤ 1048576 → ∃ r, Lp Fuel (s : Int) 0 = some r ∧ ((r < 0 ∧ s < (p.map size).sum) ∨ ((p.map size).sum ≤ s ∧ r = ((s - (p.map size).sum : Nat) : Int))) := by
  have key : ∀ (d k i s : Nat), p.length - i = d → d < k → i ≤ p.length → s ≤ 1048576 → ∃ r, Lp k (s : Int) (i : Int) = some r ∧ ((r < 0 ∧ s < ((p.drop i).map size).sum) ∨ (((p.drop i).map size).sum ≤ s ∧ r = ((s - ((p.drop i).map size).sum : Nat) : Int))) := by
    intro d
    induction d with
    | zero =>
      intro k i s hd hk hi hs
      obtain ⟨k, rfl⟩ : ∃ q, k = q + 1 := ⟨k - 1, by omega⟩
      rw [step, if_neg (by simp; omega), List.drop_of_length_le (by omega)]
      exact ⟨_, rfl, .inr (by simp)⟩
    | succ d ih =>
      intro k i s hd hk hi hs
      obtain ⟨k, rfl⟩ : ∃ q, k = q + 1 := ⟨k - 1, by omega⟩
      have hlt : i < p.length := by omega
      rw [step, if_pos (by simp; omega), idx_lt hlt]
      simp only [Option.bind_some]
      have hsum : ((p.drop i).map size).sum = size p[i] + ((p.drop (i + 1)).map size).sum := by rw [List.drop_eq_getElem_cons hlt, List.map_cons, List.sum_cons]
      obtain ⟨r, h1, h2⟩ := hZ _ (List.getElem_mem hlt) s hs
      rw [h1]
      simp only [Option.bind_some]
      rcases h2 with ⟨h2, h3⟩ | ⟨h2, rfl⟩
      · rw [if_pos (by simpa using h2)]
        exact ⟨_, rfl, .inl ⟨by omega, by omega⟩⟩
      · rw [if_neg (by simp), wrap_succ (by omega)]
        obtain ⟨r', h4, h5⟩ := ih k (i + 1) (s - size p[i]) (by omega) (by omega) (by omega) (by omega)
        refine ⟨r', h4, ?_⟩
        rcases h5 with ⟨h5, h6⟩ | ⟨h5, h6⟩
        · exact .inl ⟨h5, by omega⟩
        · exact .inr ⟨by omega, by rw [h6]; congr 1; omega⟩
  intro s hs
  have := key p.length Fuel 0 s (by omega) (fuel_gt (by omega)) (by omega) hs
  simpa using this
theorem weigh_list {α : Type} {p : List α} : ∀ s : Nat, s ≤ 1048576 → ∃ r, (if decide ((IntKind.i64.wrap ((s : Int) - (p.length : Int))) < 0) then some (-1) else some (IntKind.i64.wrap ((s : Int) - (p.length : Int)))) = some r ∧ (p.length < 9223372036854775808 → (r < 0 ∧ s < p.length) ∨ (p.length ≤ s ∧ r = ((s - p.length : Nat) : Int))) := by
  intro s hs
  by_cases h : p.length < 9223372036854775808
  · rw [wrap_id (by omega) (by omega)]
    by_cases h1 : s < p.length
    · rw [if_pos (by simp; omega)]; exact ⟨_, rfl, fun _ => .inl ⟨by omega, h1⟩⟩
    · rw [if_neg (by simp; omega)]; exact ⟨_, rfl, fun _ => .inr ⟨by omega, by omega⟩⟩
  · split
    · exact ⟨_, rfl, fun h' => absurd h' h⟩
    · exact ⟨_, rfl, fun h' => absurd h' h⟩
end Go.Vk
/- Bits of words that are not negative; truth of tests. No program in sight. -/
namespace Go.Vk
theorem in_t {x a b : Int} (h : a ≤ x ∧ x ≤ b) : (decide (x ≥ a) && decide (x ≤ b)) = true := by simp; omega
theorem in_f {x a b : Int} (h : ¬ (a ≤ x ∧ x ≤ b)) : (decide (x ≥ a) && decide (x ≤ b)) = false := by
  simp only [Bool.and_eq_false_iff, decide_eq_false_iff_not]; omega
end Go.Vk
/- Loops over a list, as recursion over the list. No program in sight. -/
namespace Go.Vk
/-- a loop over a list: each element either ends it or gives the next state -/
def run {α σ ρ : Type} (f : σ → α → Option ρ ⊕ σ) (fin : σ → Option ρ) : σ → List α → Option ρ
  | s, [] => fin s
  | s, x :: xs => match f s x with
    | .inl r => r
    | .inr s' => run f fin s' xs
theorem run_loop {α σ ρ : Type} {p : List α} (Lp : Nat → σ → Int → Option ρ) (f : σ → α → Option ρ ⊕ σ) (fin : σ → Option ρ) (I : Nat → σ → Prop)
    (hz : ∀ k s, I p.length s → Lp (k + 1) s (p.length : Int) = fin s)
    (hs : ∀ k s (i : Nat) (h : i < p.length), I i s → (Lp (k + 1) s (i : Int) = match f s p[i] with | .inl r => r | .inr s' => Lp k s' ((i + 1 : Nat) : Int)) ∧ ∀ s', f s p[i] = .inr s' → I (i + 1) s')
    (hp : p.length < 1000000000000) : ∀ s, I 0 s → Lp Fuel s 0 = run f fin s p := by
  have key : ∀ (d k i : Nat) (s : σ), p.length - i = d → d < k → i ≤ p.length → I i s → Lp k s (i : Int) = run f fin s (p.drop i) := by
    intro d
    induction d with
    | zero =>
      intro k i s hd hk hi hI
      obtain ⟨k, rfl⟩ : ∃ q, k = q + 1 := ⟨k - 1, by omega⟩
      have : i = p.length := by omega
      subst this
      rw [hz _ _ hI, List.drop_length]
      rfl
    | succ d ih =>
      intro k i s hd hk hi hI
      obtain ⟨k, rfl⟩ : ∃ q, k = q + 1 := ⟨k - 1, by omega⟩
      have hlt : i < p.length := by omega
      obtain ⟨h1, h2⟩ := hs k s i hlt hI
      rw [h1, List.drop_eq_getElem_cons hlt]
      unfold run
      cases h : f s p[i] with
      | inl r => rfl
      | inr s' => exact ih k (i + 1) s' (by omega) (by omega) (by omega) (h2 s' h)
  intro s hI
  have := key p.length Fuel 0 s (by omega) (fuel_gt (by omega)) (by omega) hI
  simpa using this
theorem all_loop2 {α ρ : Type} {p : List α} {P : α → Prop} [DecidablePred P] {fin bad : Option ρ} (Lp : Nat → Int → Option ρ)
    (hz : ∀ k, Lp (k + 1) (p.length : Int) = fin)
    (hs : ∀ k (i : Nat) (h : i < p.length), Lp (k + 1) (i : Int) = if P p[i] then Lp k ((i + 1 : Nat) : Int) else bad)
    (hp : p.length < 1000000000000) : Lp Fuel 0 = if ∀ x ∈ p, P x then fin else bad := by
  rw [run_loop (p := p) (σ := Unit) (fun k _ i => Lp k i) (fun _ x => if P x then .inr () else .inl bad) (fun _ => fin) (fun _ _ => True) (fun k _ _ => hz k) (fun k _ i h _ => ⟨by
    show Lp _ _ = _
    rw [hs k i h]
    split <;> rfl, fun _ _ => trivial⟩) hp () trivial]
  clear hz hs hp Lp
  induction p with
  | nil => simp [run]
  | cons x p ih =>
    unfold run
    by_cases h : P x
    · simp only [h, if_true, ih]
      simp [h]
    · simp [h]
end Go.Vk
/- Tests that are answered alike. No program in sight. -/
namespace Go.Vk
/-- the test answers whether P -/
def Dec (o : Option Bool) (P : Prop) : Prop := ∃ b, o = some b ∧ (b = true ↔ P)
theorem Dec.eq {o o' : Option Bool} {P : Prop} (h : Dec o P) (h' : Dec o' P) : o = o' := by
  obtain ⟨b, rfl, h1⟩ := h
  obtain ⟨c, rfl, h2⟩ := h'
  rw [Bool.eq_iff_iff.2 (h1.trans h2.symm)]
theorem Dec.of_iff {o : Option Bool} {P Q : Prop} (h : Dec o P) (e : P ↔ Q) : Dec o Q := by
  obtain ⟨b, rfl, h1⟩ := h
  exact ⟨b, rfl, h1.trans e⟩
theorem Dec.cases {o : Option Bool} {P : Prop} (h : Dec o P) : (o = some true ∧ P) ∨ (o = some false ∧ ¬ P) := by
  obtain ⟨b, rfl, h1⟩ := h
  cases b
  · exact .inr ⟨rfl, fun p => by have := h1.2 p; cases this⟩
  · exact .inl ⟨rfl, h1.1 rfl⟩
theorem dec_t {P : Prop} (h : P) : Dec (some true) P := ⟨true, rfl, by simp [h]⟩
theorem dec_f {P : Prop} (h : ¬ P) : Dec (some false) P := ⟨false, rfl, by simp [h]⟩
theorem dec_in {x a b : Int} : Dec (some (decide (x ≥ a) && decide (x ≤ b))) (a ≤ x ∧ x ≤ b) := ⟨_, rfl, by simp⟩
theorem all_idx {Lp : Nat → Int → Option Bool} {n : Nat} {Q : Nat → Prop} (i0 : Nat) (hz : ∀ k (i : Nat), n ≤ i → Lp (k + 1) (i : Int) = some true)
    (hs : ∀ k (i : Nat), i0 ≤ i → i < n → (Q i ∧ Lp (k + 1) (i : Int) = Lp k ((i + 1 : Nat) : Int)) ∨ (¬ Q i ∧ Lp (k + 1) (i : Int) = some false)) (hn : n < 1000000000000) : Dec (Lp Fuel (i0 : Int)) (∀ i, i0 ≤ i → i < n → Q i) := by
  have key : ∀ (d k i : Nat), n - i = d → d < k → i0 ≤ i → Dec (Lp k (i : Int)) (∀ j, i ≤ j → j < n → Q j) := by
    intro d
    induction d with
    | zero =>
      intro k i hd hk hi
      obtain ⟨k, rfl⟩ : ∃ q, k = q + 1 := ⟨k - 1, by omega⟩
      rw [hz k i (by omega)]
      exact dec_t fun j h1 h2 => by omega
    | succ d ih =>
      intro k i hd hk hi
      obtain ⟨k, rfl⟩ : ∃ q, k = q + 1 := ⟨k - 1, by omega⟩
      rcases hs k i hi (by omega) with ⟨hq, e⟩ | ⟨hq, e⟩
      · rw [e]
        refine (ih k (i + 1) (by omega) (by omega) (by omega)).of_iff ⟨fun h j h1 h2 => ?_, fun h j h1 h2 => h j (by omega) h2⟩
        by_cases hj : j = i
        · rw [hj]; exact hq
        · exact h j (by omega) h2
      · rw [e]
        exact dec_f fun h => hq (h i (Nat.le_refl _) (by omega))
  exact key (n - i0) Fuel i0 rfl (fuel_gt (by omega)) (Nat.le_refl _)
/-- the first place where it holds, or less than nothing -/
theorem find_idx {Lp : Nat → Int → Option Int} {n : Nat} {Q : Nat → Prop} (hz : ∀ k (i : Nat), n ≤ i → Lp (k + 1) (i : Int) = some (-1))
    (hs : ∀ k (i : Nat), i < n → (Q i ∧ Lp (k + 1) (i : Int) = some (i : Int)) ∨ (¬ Q i ∧ Lp (k + 1) (i : Int) = Lp k ((i + 1 : Nat) : Int))) (hn : n < 1000000000000) :
    Dec ((Lp Fuel 0).bind fun y => some (decide (y ≥ 0))) (∃ i, i < n ∧ Q i) := by
  have key : ∀ (d k i : Nat), n - i = d → d < k → Dec ((Lp k (i : Int)).bind fun y => some (decide (y ≥ 0))) (∃ j, i ≤ j ∧ j < n ∧ Q j) := by
    intro d
    induction d with
    | zero =>
      intro k i hd hk
      obtain ⟨k, rfl⟩ : ∃ q, k = q + 1 := ⟨k - 1, by omega⟩
      rw [hz k i (by omega)]
      exact dec_f fun ⟨j, h1, h2, _⟩ => by omega
    | succ d ih =>
      intro k i hd hk
      obtain ⟨k, rfl⟩ : ∃ q, k = q + 1 := ⟨k - 1, by omega⟩
      rcases hs k i (by omega) with ⟨hq, e⟩ | ⟨hq, e⟩
      · rw [e]
        exact ⟨true, by simp, by simp; exact ⟨i, Nat.le_refl _, by omega, hq⟩⟩
      · rw [e]
        refine (ih k (i + 1) (by omega) (by omega)).of_iff ⟨fun ⟨j, h1, h2, h3⟩ => ⟨j, by omega, h2, h3⟩, fun ⟨j, h1, h2, h3⟩ => ⟨j, ?_, h2, h3⟩⟩
        by_cases hj : j = i
        · rw [hj] at h3; exact absurd h3 hq
        · omega
  refine (key n Fuel 0 rfl (fuel_gt (by omega))).of_iff ⟨fun ⟨j, _, h2, h3⟩ => ⟨j, h2, h3⟩, fun ⟨j, h2, h3⟩ => ⟨j, Nat.zero_le _, h2, h3⟩⟩
end Go.Vk
/- The statement's frame: arguments opened, the row's last step. -/
namespace Go.Vk
open Go.RowKit Go.WideShapes Go.ChangeShapes Go.Deep
section
variable {H : Type} {enc : TypeId × Value → H} {P : Program}
theorem trod_below {W W' : World} (hb : Below W.heap.size W W') {sp : Nat → Bool} {held : Bool} {n : Nat} {t : TypeId} {cs : List Value} {x : DataW H × List MemPlace} (h : DataW.trod enc P W 0 sp held n t cs = some x) : DataW.trod enc P W' 0 sp held n t cs = some x :=
  DataW.trod_carry n t cs x h (fun p hp => hb.same (DataW.trod_lt n t cs x h p hp))
theorem trodAll_below {W W' : World} (hb : Below W.heap.size W W') {sp : Nat → Bool} {held : Bool} : ∀ {ts : List TypeId} {vs : List Value} {ds : List (DataW H)} {ps : List MemPlace}, DataW.TrodAll enc P W 0 sp held ts vs ds ps → DataW.TrodAll enc P W' 0 sp held ts vs ds ps
  | [], [], [], _, h => h
  | _ :: _, _ :: _, _ :: _, _, ⟨p, q, ⟨n, h1⟩, h2, e⟩ => ⟨p, q, ⟨n, trod_below hb h1⟩, trodAll_below hb h2, e⟩
def fullB (P : Program) : Bool := (List.range P.types.size).all fun t => match P.underlying t with | some (.slice e) => decide (0 < P.cellsOf e) | _ => true
/-- the law answered true, and nothing that stood has changed -/
theorem law_post {f : Func} {s : ChangeSpec} {apart fresh handsOn again : Bool} {W W' : World} {args : Array Value} {ds gs : List (DataW H)} {before : List MemPlace} {tb : TypeId}
    (hW : DataW.Whole enc P f.params.toList s.vars apart W args.toList ds gs before) (hv : s.vars = []) (hl : laidOutB P = true) (hm : mapsRowed P = true) (hz : fullB P = true) (hT : ∀ t ∈ f.params.toList, t < P.types.size)
    (hr : f.resultTypes = #[tb]) (htb : P.underlying tb = some .bool) (hfn : s.fn H ds = { results := [.lit (.bool true)], args := ds }) (hb : Below W.heap.size W W') :
    s.post enc P f apart fresh handsOn again W args (.bool true) W' := by
  have hlt : ∀ p ∈ before, p.block < W.heap.size := fun p hp => hW.lt p hp
  have hW' := hW
  obtain ⟨pa, pv, hA, hV, rfl, hfz, hnd⟩ := hW'
  rw [hv] at hV
  obtain ⟨rfl, rfl⟩ := trodVars_none hV
  have hfn' : s.fn H (ds ++ []) = { results := [.lit (.bool true)], args := ds } := by rw [List.append_nil]; exact hfn
  have hA' := trodAll_below hb hA
  have hsp : ∀ sp : Nat → Bool, (∀ p ∈ pa, sp p.block = true) → DataW.TrodAll enc P W' 0 sp true f.params.toList args.toList ds pa := fun sp h =>
    DataW.TrodAll.respare (kids_rows hl hm) (slices_full_of P hz) hT hA' h
  have hres : ∀ (b : Nat) (sp : Nat → Bool) (hd : Bool), DataW.TrodAll enc P W' b sp hd f.resultTypes.toList ((Value.bool true).resultList f.resultTypes.size) [.lit (.bool true)] [] := fun b sp hd => by
    rw [hr]; exact trodAll_mk1 (shut_bool htb _)
  refine ⟨ds, [], pa ++ [], [], pa, [], hW, ?_, ?_, ?_, World.keptBut_mono (fun p hp => ⟨hp, ?_⟩) (hb.frame (· ∈ pa ++ [])), fun _ => ?_⟩
  · rw [hfn']; exact hres _ _ _
  · rw [hfn']; exact hsp _ (fun p hp => by simpa using hlt p (by simpa using hp))
  · rw [hfn', hv]; exact rfl
  · simpa using hp
  · refine ⟨?_, _, [], ([] ++ pa) ++ [], ⟨[] ++ pa, [], trodAll_append (hsp _ (fun _ _ => rfl)) (hres _ _ _), ?_, rfl, ?_, ?_⟩, ?_⟩
    · exact ok_one hr rfl (okWide_bool_mk htb _)
    · rw [hv]; exact rfl
    · intro b off hp
      have hin : MemPlace.cell b off ∈ pa := by simpa using hp
      rw [hb.frozen (hlt _ (by simpa using hin))]
      exact hfz b off (by simpa using hin)
    · intro ha
      have := hnd ha
      simpa using this
    · intro p hp _
      simpa using hp
/-! ### arguments opened -/
/-- what the reader of a statement finds is what the walk wants -/
def Opn {α : Type} (P : Program) (t : TypeId) (e : Enc α) (Ok : α → Prop) : Prop :=
  ∀ {H : Type} {enc : TypeId × Value → H} {w : World} {sp : Nat → Bool} {n : Nat} {cs : List Value} {x : DataW H × List MemPlace}, DataW.trod enc P w 0 sp true n t cs = some x → ∃ a, e.rd w [] a cs ∧ Ok a
def IntOk (k : IntKind) (n : Int) : Prop := (Lit.int k n).wf = true
theorem opn_int {t : TypeId} {k : IntKind} (ht : isInt P t k) : Opn P t (eVal (Value.int k) (fun _ => rfl)) (IntOk k) := fun {H enc w sp n cs x} h => by
  have ht' : P.underlying t = some (.int k) := ht
  cases n with
  | zero => simp [DataW.trod] at h
  | succ n =>
    unfold DataW.trod at h
    rw [ht'] at h
    split at h <;> simp_all
    case h_2 heq =>
      obtain ⟨⟨rfl, h2⟩, _⟩ := h
      exact ⟨_, rfl, h2⟩
theorem opn_bool {t : TypeId} (ht : P.underlying t = some .bool) : Opn P t eBool (fun _ => True) := fun {H enc w sp n cs x} h => by
  cases n with
  | zero => simp [DataW.trod] at h
  | succ n =>
    unfold DataW.trod at h
    rw [ht] at h
    split at h <;> simp_all
    case h_1 => rename_i b; cases b <;> first | exact .inl rfl | exact .inr rfl
theorem opn_str {t : TypeId} (ht : isStr P t) : Opn P t eStr (fun s => s.length ≤ maxLen) := fun {H enc w sp n cs x} h => by
  have ht' : P.underlying t = some .string := ht
  cases n with
  | zero => simp [DataW.trod] at h
  | succ n =>
    unfold DataW.trod at h
    rw [ht'] at h
    split at h <;> simp_all
    case h_4 =>
      rename_i s
      obtain ⟨⟨d⟩⟩ := s
      exact ⟨d, rfl, h.1⟩
theorem cells_at {w : World} {a : Addr} {n : Nat} {cs : List Value} (h : w.cells? 0 a n = some cs) : At w [] a cs ∧ cs.length = n := by
  unfold World.cells? at h
  rw [if_pos (Nat.zero_le _)] at h
  have hl : cs.length = n := by simpa using mapM_some_length h
  refine ⟨⟨fun _ => by simp, fun j v hv => ?_⟩, hl⟩
  have hj : j < n := by rw [← hl]; exact (List.getElem?_eq_some_iff.1 hv).1
  have := mapM_some_get h j j (by simp [hj])
  rw [this, hv]
theorem opn_list {α : Type} {e : Enc α} {Ok : α → Prop} {t et : TypeId} (ht : isSl P t et) (he : Opn P et e Ok) (hc : P.cellsOf et = e.sz) : Opn P t (eList e et) (fun xs => xs.length ≤ maxLen ∧ ∀ x ∈ xs, Ok x) := fun {H enc w sp n cs x} h => by
  rcases open_slice ht h with ⟨rfl, _⟩ | ⟨a, len, cap, m, n', D, Pl, rfl, _, hl, hm, hmm, _, hel⟩
  · exact ⟨[], rd_none, by simp, by simp⟩
  · have hex : ∀ i, i < len → ∃ y, (∃ ds, e.rd w [] y ds ∧ At w [] (a.add (i * e.sz)) ds) ∧ Ok y := fun i hi => by
      obtain ⟨cs', h1, h2⟩ := hel i (by rw [hmm]; split <;> omega)
      obtain ⟨y, h3, h4⟩ := he h2
      exact ⟨y, ⟨cs', h3, by rw [← hc]; exact (cells_at h1).1⟩, h4⟩
    have : ∃ xs : List α, xs.length = len ∧ ∀ i x, xs[i]? = some x → (∃ ds, e.rd w [] x ds ∧ At w [] (a.add (i * e.sz)) ds) ∧ Ok x := by
      clear hl hm hmm hel h
      rename_i hx0
      clear hx0
      induction len with
      | zero => exact ⟨[], rfl, by simp⟩
      | succ k ih =>
        obtain ⟨xs, h1, h2⟩ := ih (fun i hi => hex i (by omega))
        obtain ⟨y, hy⟩ := hex k (by omega)
        refine ⟨xs ++ [y], by simp [h1], fun i x hx => ?_⟩
        by_cases hi : i < k
        · rw [List.getElem?_append_left (by omega)] at hx; exact h2 i x hx
        · have hik : i = k := by
            have := (List.getElem?_eq_some_iff.1 hx).1
            simp [h1] at this; omega
          subst hik
          rw [List.getElem?_append_right (by omega), h1] at hx
          simp at hx; subst hx; exact hy
    obtain ⟨xs, hlen, hxs⟩ := this
    refine ⟨xs, ⟨some a, cap, by rw [hlen], by omega, hm, fun _ => ⟨a, rfl, fun i x hx => (hxs i x hx).1⟩⟩, by omega, fun x hx => ?_⟩
    obtain ⟨i, hi⟩ := List.mem_iff_getElem?.1 hx
    exact (hxs i x hi).2
end
end Go.Vk
/- Arguments that are structs, opened. -/
namespace Go.Vk
open Go.RowKit Go.WideShapes Go.ChangeShapes Go.Deep
section
variable {H : Type} {enc : TypeId × Value → H} {P : Program}
/-- a struct's fields: type and offset -/
def fieldsOf (P : Program) (t : TypeId) : Option (List (TypeId × Nat)) :=
  match P.underlying t with
  | some (.struct fs) => some (fs.toList.map fun f => (f.type, f.offset))
  | _ => none
def OpnF {α : Type} (P : Program) (fs : List (TypeId × Nat)) (o : Nat) (e : Enc α) (Ok : α → Prop) : Prop :=
  ∀ {H : Type} {enc : TypeId × Value → H} {w : World} {sp : Nat → Bool} {cs : List Value}, cs.length = e.sz →
    (∀ f ∈ fs, o ≤ f.2 ∧ ∃ n x, DataW.trod enc P w 0 sp true n f.1 ((cs.drop (f.2 - o)).take (P.cellsOf f.1)) = some x) → ∃ a, e.rd w [] a cs ∧ Ok a
theorem opnF_one {α : Type} {t : TypeId} {o : Nat} {e : Enc α} {Ok : α → Prop} (he : Opn P t e Ok) (hc : P.cellsOf t = e.sz) : OpnF P [(t, o)] o e Ok := fun {H enc w sp cs} hl h => by
  obtain ⟨_, n, x, hx⟩ := h _ (List.mem_singleton.2 rfl)
  rw [Nat.sub_self, List.drop_zero, hc, List.take_of_length_le (by omega)] at hx
  exact he hx
theorem opnF_cons {α β : Type} {t : TypeId} {o : Nat} {fs : List (TypeId × Nat)} {e : Enc α} {Ok : α → Prop} {e2 : Enc β} {Ok2 : β → Prop} (he : Opn P t e Ok) (hc : P.cellsOf t = e.sz)
    (h2 : OpnF P fs (o + e.sz) e2 Ok2) (hf : (fs.all fun f => decide (o + e.sz ≤ f.2)) = true) : OpnF P ((t, o) :: fs) o (ePair e e2) (fun x => Ok x.1 ∧ Ok2 x.2) := fun {H enc w sp cs} hl h => by
  have hl' : cs.length = e.sz + e2.sz := hl
  obtain ⟨_, n, x, hx⟩ := h _ (List.mem_cons_self ..)
  rw [Nat.sub_self, List.drop_zero, hc] at hx
  obtain ⟨a, ha, hok⟩ := he hx
  obtain ⟨b, hb, hok2⟩ := h2 (enc := enc) (w := w) (sp := sp) (cs := cs.drop e.sz) (by simp; omega) (fun f hm => by
    have hle : o + e.sz ≤ f.2 := by simpa using List.all_eq_true.1 hf f hm
    obtain ⟨_, n, x, hx⟩ := h f (List.mem_cons_of_mem _ hm)
    refine ⟨hle, n, x, ?_⟩
    rw [List.drop_drop, show e.sz + (f.2 - (o + e.sz)) = f.2 - o by omega]
    exact hx)
  have := ePair_rd ha hb
  rw [List.take_append_drop] at this
  exact ⟨(a, b), this, hok, hok2⟩
theorem opn_struct {α : Type} {t : TypeId} {fs : List (TypeId × Nat)} {e : Enc α} {Ok : α → Prop} (hf : fieldsOf P t = some fs) (ho : OpnF P fs 0 e Ok) (hc : P.cellsOf t = e.sz) : Opn P t e Ok := fun {H enc w sp n cs x} h => by
  unfold fieldsOf at hf
  split at hf
  · rename_i gs hgs
    obtain rfl := Option.some.inj hf
    obtain ⟨xs, m, _, _, hl, hxl, hg⟩ := DataW.trod_struct hgs h
    refine ho (enc := enc) (sp := sp) (by rw [hl, hc]) fun f hm => ⟨Nat.zero_le _, m, ?_⟩
    obtain ⟨g, hgm, rfl⟩ := List.mem_map.1 hm
    obtain ⟨i, hi⟩ := List.mem_iff_getElem?.1 hgm
    have hi' : gs[i]? = some g := by simpa using hi
    have hlt : i < gs.size := (Array.getElem?_eq_some_iff.1 hi').1
    refine ⟨xs[i]'(by omega), ?_⟩
    have := hg i g hi'
    rw [List.getElem?_eq_getElem (by omega)] at this
    simpa using this
  · exact absurd hf (by simp)
theorem opn_iso {α β : Type} {t : TypeId} {e : Enc α} {Ok : α → Prop} {g : β → α} (he : Opn P t e Ok) (s : α → β) (hs : ∀ a, g (s a) = a) : Opn P t (eIso e g) (fun x => Ok (g x)) := fun {H enc w sp n cs x} h => by
  obtain ⟨a, ha, hok⟩ := he h
  exact ⟨s a, by show e.rd w [] (g (s a)) cs; rw [hs]; exact ha, by show Ok (g (s a)); rw [hs]; exact hok⟩
theorem opn_map {α β : Type} {t : TypeId} {e : Enc α} {Ok : α → Prop} {e' : Enc β} {Ok' : β → Prop} (he : Opn P t e Ok) (s : α → β) (hm : ∀ {w : World} {a : α} {cs : List Value}, e.rd w [] a cs → e'.rd w [] (s a) cs) (hk : ∀ {a}, Ok a → Ok' (s a)) : Opn P t e' Ok' := fun {H enc w sp n cs x} h => by
  obtain ⟨a, ha, hok⟩ := he h
  exact ⟨s a, hm ha, hk hok⟩
/-- an argument that is a struct -/
theorem arg_struct {α : Type} {e : Enc α} {Ok : α → Prop} {w : World} {r : Reach} {b0 : Nat} {t : TypeId} {fs : List (TypeId × Nat)} {v : Value} {d : DataW H} {ps : List MemPlace} (hf : fieldsOf P t = some fs) (ho : Opn P t e Ok)
    (h : Value.okWide P w r b0 t v) (hd : DataW.Trod enc P w 0 (fun _ => true) true t v d ps) : ∃ a cs, v = .agg cs.toArray ∧ e.rd w [] a cs ∧ Ok a := by
  unfold fieldsOf at hf
  split at hf
  · rename_i gs hgs
    obtain ⟨cs, rfl, _⟩ := okWide_struct hgs h
    obtain ⟨n, hd⟩ := hd
    obtain ⟨a, ha, hok⟩ := ho hd
    exact ⟨a, cs.toList, by simp, ha, hok⟩
  · exact absurd hf (by simp)
end
end Go.Vk
/- What the statement's frame says of whole numbers. -/
namespace Go.Vk
theorem i64_of {n : Int} (h : IntOk .i64 n) : -9223372036854775808 ≤ n ∧ n ≤ 9223372036854775807 := by
  simp only [IntOk, Lit.wf] at h
  have h1 : IntKind.i64.min ≤ n ∧ n ≤ IntKind.i64.max := by simpa using h
  exact h1
theorem lt63 {n : Nat} (h : n ≤ maxLen) : n < 9223372036854775808 := Nat.lt_of_le_of_lt h (by decide)
end Go.Vk
/- Loops by index; sums. No program in sight. -/
namespace Go.Vk
theorem mem_sum {α : Type} {f : α → Nat} {p : List α} {x : α} (h : x ∈ p) : f x ≤ (p.map f).sum := by
  induction p with
  | nil => cases h
  | cons y p ih =>
    simp only [List.map_cons, List.sum_cons]
    rcases List.mem_cons.1 h with rfl | h
    · omega
    · have := ih h; omega
/-- a loop that goes on while Q holds -/
theorem if_idx {ρ : Type} {Lp : Nat → Nat → Option ρ} {n : Nat} {Q : Nat → Prop} {fin bad : Option ρ} (hz : ∀ k, (∀ j, j < n → Q j) → Lp (k + 1) n = fin)
    (hs : ∀ k i, i < n → (∀ j, j < i → Q j) → (Q i ∧ Lp (k + 1) i = Lp k (i + 1)) ∨ (¬ Q i ∧ Lp (k + 1) i = bad)) (hn : n < 1000000000000) :
    ((∀ j, j < n → Q j) ∧ Lp Fuel 0 = fin) ∨ ((¬ ∀ j, j < n → Q j) ∧ Lp Fuel 0 = bad) := by
  have key : ∀ (d k i : Nat), n - i = d → d < k → i ≤ n → (∀ j, j < i → Q j) → ((∀ j, j < n → Q j) ∧ Lp k i = fin) ∨ ((¬ ∀ j, j < n → Q j) ∧ Lp k i = bad) := by
    intro d
    induction d with
    | zero =>
      intro k i hd hk hi hq
      obtain ⟨k, rfl⟩ : ∃ q, k = q + 1 := ⟨k - 1, by omega⟩
      have : i = n := by omega
      subst this
      exact .inl ⟨hq, hz k hq⟩
    | succ d ih =>
      intro k i hd hk hi hq
      obtain ⟨k, rfl⟩ : ∃ q, k = q + 1 := ⟨k - 1, by omega⟩
      rcases hs k i (by omega) hq with ⟨h1, h2⟩ | ⟨h1, h2⟩
      · rw [h2]
        exact ih k (i + 1) (by omega) (by omega) (by omega) (fun j hj => by
          by_cases h : j = i
          · subst h; exact h1
          · exact hq j (by omega))
      · exact .inr ⟨fun g => h1 (g i (by omega)), h2⟩
  exact key n Fuel 0 rfl (fuel_gt hn) (Nat.zero_le _) (fun j hj => by omega)
theorem for_idx {ρ : Type} {Lp : Nat → Nat → Option ρ} {n : Nat} {fin : Option ρ} (hz : ∀ k, Lp (k + 1) n = fin) (hs : ∀ k i, i < n → Lp (k + 1) i = Lp k (i + 1)) (hn : n < 1000000000000) : Lp Fuel 0 = fin := by
  rcases if_idx (Lp := Lp) (n := n) (Q := fun _ => True) (fin := fin) (bad := none) (fun k _ => hz k) (fun k i hi _ => .inl ⟨trivial, hs k i hi⟩) hn with ⟨_, h⟩ | ⟨h, _⟩
  · exact h
  · exact absurd (fun _ _ => trivial) h
theorem dec_idx {Lp : Nat → Nat → Option Bool} {n : Nat} {Q : Nat → Prop} {F : Prop} (hz : ∀ k, (∀ j, j < n → Q j) → Dec (Lp (k + 1) n) F)
    (hs : ∀ k i, i < n → (∀ j, j < i → Q j) → (Q i ∧ Lp (k + 1) i = Lp k (i + 1)) ∨ (¬ Q i ∧ Lp (k + 1) i = some false)) (hn : n < 1000000000000) : Dec (Lp Fuel 0) ((∀ j, j < n → Q j) ∧ F) := by
  have key : ∀ (d k i : Nat), n - i = d → d < k → i ≤ n → (∀ j, j < i → Q j) → Dec (Lp k i) ((∀ j, j < n → Q j) ∧ F) := by
    intro d
    induction d with
    | zero =>
      intro k i hd hk hi hq
      obtain ⟨k, rfl⟩ : ∃ q, k = q + 1 := ⟨k - 1, by omega⟩
      have : i = n := by omega
      subst this
      exact (hz k hq).of_iff ⟨fun h => ⟨hq, h⟩, fun h => h.2⟩
    | succ d ih =>
      intro k i hd hk hi hq
      obtain ⟨k, rfl⟩ : ∃ q, k = q + 1 := ⟨k - 1, by omega⟩
      rcases hs k i (by omega) hq with ⟨h1, h2⟩ | ⟨h1, h2⟩
      · rw [h2]
        exact ih k (i + 1) (by omega) (by omega) (by omega) (fun j hj => by
          by_cases h : j = i
          · subst h; exact h1
          · exact hq j (by omega))
      · rw [h2]
        exact dec_f fun g => h1 (g.1 i (by omega))
  exact key n Fuel 0 rfl (fuel_gt hn) (Nat.zero_le _) (fun j hj => by omega)
theorem sum_take {p : List Int} {i : Nat} (h : i < p.length) : (p.take (i + 1)).sum = (p.take i).sum + p[i] := by
  rw [List.take_succ_eq_append_getElem h, List.sum_append]
  simp
theorem sum_bound {p : List Int} {b : Int} (hb : ∀ x ∈ p, 0 ≤ x ∧ x ≤ b) : 0 ≤ p.sum ∧ p.sum ≤ b * p.length := by
  induction p with
  | nil => simp
  | cons x p ih =>
    have h1 := hb x (by simp)
    have h2 := ih (fun y hy => hb y (by simp [hy]))
    simp only [List.sum_cons, List.length_cons]
    have : b * ((p.length + 1 : Nat) : Int) = b * p.length + b := by rw [Int.natCast_add, Int.mul_add]; simp
    omega
theorem mem_take {α : Type} {p : List α} {i : Nat} {x : α} (h : x ∈ p.take i) : x ∈ p := List.mem_of_mem_take h
/-- a loop that adds up -/
theorem sum_loop {α ρ : Type} {p : List α} (v : α → Int) (Lp : Nat → Int → Int → Option ρ) (fin : Int → Option ρ) (hz : ∀ k s, Lp (k + 1) s (p.length : Int) = fin s)
    (hs : ∀ k s (i : Nat) (h : i < p.length), Lp (k + 1) s (i : Int) = Lp k (IntKind.i64.wrap (s + v p[i])) ((i + 1 : Nat) : Int)) (hb : ∀ x ∈ p, 0 ≤ v x ∧ v x ≤ 1000000000) (hl : p.length ≤ 1000000000) : Lp Fuel 0 0 = fin (p.map v).sum := by
  have hb' : ∀ x ∈ p.map v, 0 ≤ x ∧ x ≤ 1000000000 := fun x hx => by
    obtain ⟨y, hy, rfl⟩ := List.mem_map.1 hx
    exact hb y hy
  have := for_idx (Lp := fun k i => Lp k ((p.map v).take i).sum (i : Int)) (n := p.length) (fin := fin (p.map v).sum) (fun k => by
    show Lp _ _ _ = _
    rw [hz, List.take_of_length_le (by simp)]) (fun k i hi => by
    show Lp _ _ _ = Lp _ _ _
    have h1 := sum_bound (p := (p.map v).take (i + 1)) (b := 1000000000) (fun x hx => hb' x (mem_take hx))
    rw [hs _ _ _ hi]
    rw [sum_take (by simpa using hi)] at h1 ⊢
    rw [List.getElem_map] at h1 ⊢
    have h2 : ((p.map v).take (i + 1)).length ≤ 1000000000 := by simp; omega
    rw [wrap_id (by omega) (by omega)]) (by omega)
  simpa using this
/-- the last of its kind -/
theorem count_last {α : Type} [BEq α] [LawfulBEq α] {p : List α} {a : α} (h : a ∈ p) : ∃ q, ∃ hq : q < p.length, p[q] = a ∧ (p.take (q + 1)).count a = p.count a := by
  induction p with
  | nil => cases h
  | cons x p ih =>
    by_cases hm : a ∈ p
    · obtain ⟨q, hq, h1, h2⟩ := ih hm
      refine ⟨q + 1, by simp; omega, by simpa using h1, ?_⟩
      rw [List.take_succ_cons, List.count_cons, List.count_cons, h2]
    · have hx : a = x := by
        rcases List.mem_cons.1 h with h | h
        · exact h
        · exact absurd h hm
      subst hx
      refine ⟨0, by simp, rfl, ?_⟩
      rw [List.take_succ_cons, List.take_zero, List.count_cons, List.count_cons, List.count_eq_zero.2 hm]
      simp
theorem Dec.and {o o' : Option Bool} {P Q : Prop} (h : Dec o P) (h' : P → Dec o' Q) : Dec (o.bind fun y => if y then o' else some false) (P ∧ Q) := by
  rcases h.cases with ⟨rfl, p⟩ | ⟨rfl, p⟩
  · exact (h' p).of_iff ⟨fun q => ⟨p, q⟩, fun q => q.2⟩
  · exact dec_f fun q => p q.1
end Go.Vk
/- Marks, step by step. No program in sight. -/
namespace Go.Vk
end Go.Vk
namespace Go.Vk
end Go.Vk
/- What always answers. No program in sight. -/
namespace Go.Vk
/-- it answers, and what it answers has Q -/
def Tot {α : Type} (o : Option α) (Q : α → Prop) : Prop := ∃ v, o = some v ∧ Q v
theorem Tot.mono {α : Type} {o : Option α} {P Q : α → Prop} (h : Tot o P) (k : ∀ v, P v → Q v) : Tot o Q := by
  obtain ⟨v, e, h⟩ := h
  exact ⟨v, e, k v h⟩
theorem Tot.bind {α β : Type} {o : Option α} {f : α → Option β} {P : α → Prop} {Q : β → Prop} (h : Tot o P) (k : ∀ v, P v → Tot (f v) Q) : Tot (o.bind f) Q := by
  obtain ⟨v, rfl, h⟩ := h
  exact k v h
end Go.Vk
/- A slice whose elements were handed over, and that is read on. A literal that holds what is borrowed. -/
namespace Go.Vk
open Go.RowKit
variable {P : Program} {n : Nat} {C : World → Prop} {E : Env} {m : Md} {l rest : List Oper} {w0 w : World} {M : List Nat} {L : List Res} {Q : Exit → Act → World → Prop}
end Go.Vk
