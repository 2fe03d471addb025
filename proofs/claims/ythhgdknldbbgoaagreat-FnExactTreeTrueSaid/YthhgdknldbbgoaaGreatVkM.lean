/- Flat structs in slices, elements moved, calls with state, results in cells. -/
import Derived.Test.YthhgdknldbbgoaaGreatVkG
import Derived.Laws.StructEq
import Derived.ChangeKeysEq
import Derived.MapKept
import Derived.IntWalk
import Derived.Deep.Slices
import Derived.ReadAgain
import Derived.ChangeSame
import Derived.ChangeMaps5
import Derived.ProofKit
import Derived.Shelf.Strings.OnBuilder
import Derived.Shelf.Strings.Repeat
import Derived.Shelf.Strconv.Itoa3
namespace Go.Vk
open Go.RowKit
variable {P : Program} {n : Nat} {C : World → Prop} {E : Env} {m : Md} {l rest : List Oper} {w0 : World} {M : List Nat} {L : List Res} {Q : Exit → Act → World → Prop}
/-! ### elements by address, of slices that can be read -/
theorem ow_ixE {α : Type} {e : Enc α} {o : Oper} {t et : TypeId} {x i : Operand} {agg : Bool} {sz by_ : Nat} {z : List Value} {xs : List α} {k : IntKind} {j : Int} {y : α} {a : Option Addr} {nn cap : Nat}
    (ho : o.op = .indexAddr t x i) (hw : wt l E o.guard = some true) (hd : dstOk n o.dst = true) (hx : ev E x = some (.slice a nn cap)) (hi : ev E i = some (.int k j)) (ht : isSl P t et) (he : isTy P et agg sz by_ z) (_hsz : e.sz = sz)
    (hS : ∀ w, m.cls C w → rdList e w [] xs [.slice a nn cap]) (hj : idx xs j = some y) {q : Addr} (hq : q = eltP a (j.toNat * sz))
    (hk : OW P n l C (upd E o.dst (.pointer (some q))) m rest) : OW P n l C E m (o :: rest) := by
  subst hq
  obtain ⟨h0, hl, h2⟩ := idx_some hj
  refine ow_r hw (dstOk_lt hd) (v := .pointer (some (eltP a (j.toNat * sz)))) (fun fr hF w hw' => ?_) hk
  obtain ⟨a', cap', hv, _, _, hel⟩ := hS w hw'
  simp only [List.cons.injEq, Value.slice.injEq, and_true] at hv
  obtain ⟨rfl, rfl, rfl⟩ := hv
  obtain ⟨p, rfl, hp⟩ := hel (fun e => by subst e; simp at hl)
  unfold execOp
  simp only [ho, hF.ev hx, hF.ev hi, Sem.run_bind, run_indexAt ht he p xs.length cap k j h0 hl w, eltP, Option.getD_some]
  rfl
theorem at_eltE {α : Type} {e : Enc α} {S : World → Prop} {xs : List α} {a : Option Addr} {nn cap : Nat} {j : Int} {y : α} {cs : List Value} (hS : ∀ w, S w → rdList e w [] xs [.slice a nn cap]) (hj : idx xs j = some y) (hc : ∀ w ds, e.rd w [] y ds → ds = cs) :
    ∀ w, S w → At w [] (eltP a (j.toNat * e.sz)) cs := fun w hw => by
  obtain ⟨h0, hl, h2⟩ := idx_some hj
  obtain ⟨a', cap', hv, _, _, hel⟩ := hS w hw
  simp only [List.cons.injEq, Value.slice.injEq, and_true] at hv
  obtain ⟨rfl, rfl, rfl⟩ := hv
  obtain ⟨p, rfl, hp⟩ := hel (fun e => by subst e; simp at hl)
  obtain ⟨ds, hd, hA⟩ := hp _ y h2
  rw [← hc w ds hd]
  exact hA
/-- the place of an own element taken out, as the code reckons it -/
theorem ow_ixH {α : Type} {e : Enc α} {o : Oper} {t et : TypeId} {x i : Operand} {agg : Bool} {sz by_ : Nat} {z : List Value} {k : IntKind} {j : Int} {nn b cap cap' : Nat} {a : Option Addr} {T : TypeId} {xs : List α} {G : List Nat} {c : List Value}
    (ho : o.op = .indexAddr t x i) (hw : wt l E o.guard = some true) (hd : dstOk n o.dst = true) (hx : ev E x = some (.slice a nn cap')) (hi : ev E i = some (.int k j)) (ht : isSl P t et) (he : isTy P et agg sz by_ z) (_hsz : e.sz = sz)
    (hS : ∀ w, m.cls C w → holeOk e T b cap xs j.toNat G c w) (hnn : nn = xs.length) (ha : a = some ⟨b, 0, none⟩) (h0 : 0 ≤ j)
    (hk : OW P n l C (upd E o.dst (.pointer (some ⟨b, j.toNat * sz, none⟩))) m rest) : OW P n l C E m (o :: rest) := by
  subst ha
  refine ow_r hw (dstOk_lt hd) (v := .pointer (some ⟨b, j.toNat * sz, none⟩)) (fun fr hF w hw' => ?_) hk
  obtain ⟨cur, G1, G2, c1, c2, _, _, _, _, _, _, _, hlt, _⟩ := hS w hw'
  have hr := run_indexAt (P := P) ht he ⟨b, 0, none⟩ nn cap' k j h0 (by omega) w
  rw [add_lit, Nat.zero_add] at hr
  unfold execOp
  simp only [ho, hF.ev hx, hF.ev hi, Sem.run_bind, hr]
  rfl
theorem at_elV {α : Type} {val : α → Value} {h1 : ∀ x, (val x).oneCell' = true} {S : World → Prop} {xs : List α} {a : Option Addr} {nn cap : Nat} {j : Int} {y : α} (hS : ∀ w, S w → rdList (eVal val h1) w [] xs [.slice a nn cap]) (hj : idx xs j = some y) :
    ∀ w, S w → At w [] (eltP a j.toNat) [val y] := fun w hw => by
  have := at_eltE (e := eVal val h1) hS hj (cs := [val y]) (fun _ _ h => h) w hw
  rwa [show (eVal val h1).sz = 1 from rfl, Nat.mul_one] at this
theorem app_ne {α : Type} {xs zs : List α} {y : α} {ys : List α} (h : app xs (y :: ys) = some zs) : zs ≠ [] := by
  rw [(app_some h).1]; simp
theorem ry_nilB {o : Oper} {t et u : TypeId} {x : Operand} {a : Option Addr} {nn cap : Nat} {b : Bool} (ho : o.op = .binOp .eql t x (.const (.slice none 0 0)) u) (hx : ev E x = some (.slice a nn cap)) (ht : isSl P t et) (hb : a.isNone = b) : Ry P n C E o (.bool b) := hb ▸ ry_nil ho hx ht
def fsB (P : Program) (s : TypeId) (tab : List (Nat × Nat)) : Bool :=
  match P.underlying s with
  | some (.struct fs) => (match fs.toList.mapM (fun f => (P.info? f.type).map fun i => (f.offset, i.size)) with | some t => t == tab | none => false)
  | _ => false
theorem isFs_of {s : TypeId} {tab : List (Nat × Nat)} (h : fsB P s tab = true) : isFs P s tab := by
  unfold fsB at h
  split at h
  · rename_i fs hu
    refine ⟨fs, hu, ?_⟩
    split at h
    · rename_i t ht
      rw [ht]; simp only [beq_iff_eq] at h; rw [h]
    · cases h
  · cases h
theorem ry_build2 {o : Oper} {t : TypeId} {ps : List (Nat × Operand)} {vs : List Value} (qs : List (Nat × List Value)) (cs : List Value) {tab : List (Nat × Nat)} {sz by_ : Nat} {z : List Value} (ho : o.op = .build t ps.toArray) (hx : evs E (ps.map (·.2)) = some vs)
    (ht : isTy P t true sz by_ z) (hs : isFs P t tab) (hz : z.length = sz) (hp : Parts (tab.toArray[·]?) sz ((ps.map (·.1)).zip vs) qs) (hl : laid z qs = cs) : Ry P n C E o (.agg cs.toArray) := hl ▸ ry_build qs ho hx ht hs hz hp
/-- a read where reads of the region's class are wanted -/
theorem ow_rH {S : World → Prop} {fl : List (Nat × Bool)} {l : List Oper} {o : Oper} {rest : List Oper} {v : Value} (hw : wt l E o.guard = some true) (hd : ∀ t, o.dst = some t → t < n) (hq : Ry P n S E o v)
    (h : OW P n l C (upd E o.dst v) (.held S Q fl) rest) : OW P n l C E (.held S Q fl) (o :: rest) := ow_r (m := .held S Q fl) hw hd hq h
theorem ry_hole1 {α : Type} {e : Enc α} {o : Oper} {t : TypeId} {x : Operand} {q : Addr} {b cap i : Nat} {T : TypeId} {xs : List α} {G : List Nat} {c : List Value} {v : Value} {sz by_ : Nat} {z : List Value} (p off : Nat) (hr : L[p]? = some (Res.hole e T b cap xs i G c)) (ho : o.op = .load t x) (hx : ev E x = some (.pointer (some q)))
    (ht : isTy P t false sz by_ z) (hq : q = ⟨b, i * e.sz + off, none⟩) (hv : c[off]? = some v) : Ry P n (St w0 M L) E o v :=
  ry_load1 ho hx ht (by
    subst hq
    have h1 := at_subA (at_hole (holeIn (w0 := w0) (M := M) hr)) off (ds := [v]) (by
      obtain ⟨h1, h2⟩ := List.getElem?_eq_some_iff.1 hv
      rw [List.drop_eq_getElem_cons h1, h2]; rfl)
    rwa [add_lit] at h1)
/-- into a variable of the call's own, its cells named -/
theorem ow_storeC {o : Oper} {t : TypeId} {x y : Operand} {b off : Nat} {v : Value} (vs : List Value) (cs' : List Value) {agg : Bool} {sz by_ : Nat} {z : List Value} {i : Nat} {T : TypeId} {cs : List Value} (ho : o.op = .store t x y) (hm : m.here (o :: rest) = true) (hw : wt l E o.guard = some true) (hd : dstOk n o.dst = true)
    (hx : ev E x = some (.pointer (some ⟨b, off, none⟩))) (hy : ev E y = some v) (ht : isTy P t agg sz by_ z) (hv : v.cells = vs.toArray) (hl : vs.length = sz) (h1 : ∀ u ∈ vs, u.oneCell' = true) (hr : L[i]? = some (Res.box b T cs)) (hfit : Nat.ble (off + sz) cs.length = true) (hc : splice cs off vs = cs')
    (hS : Kp m (St w0 M (L.set i (Res.box b T cs')))) (hk : OW P n l (St w0 M (L.set i (Res.box b T cs'))) (upd E o.dst undef) m rest) : OW P n l (St w0 M L) E m (o :: rest) := by
  subst hc
  exact ow_store vs ho hm hw hd hx hy ht hv hl h1 hr hfit hS hk
/-! ### lists of flat data -/
section
variable {α : Type} {f : α → List Value} {k : Nat} {hk : ∀ x, (f x).length = k} {h1 : ∀ x, ∀ u ∈ f x, u.oneCell' = true}
end
/-! ### append that moves the elements of another slice of the call's own -/
theorem ow_appM {α : Type} {e : Enc α} {o : Oper} {t et : TypeId} {x y : Operand} {agg : Bool} {sz by_ : Nat} {z : List Value} {r j : Nat} {F Fy : List Nat} {xs ys zs : List α} {a a2 : Option Addr} {nn cap n2 cap2 : Nat}
    (ho : o.op = .call { callee := .builtin .append, args := #[x, y], argTypes := #[t, t] }) (hm : m.here (o :: rest) = true) (hw : wt l E o.guard = some true) (hd : dstOk n o.dst = true) (hx : ev E x = some (.slice a nn cap)) (hy : ev E y = some (.slice a2 n2 cap2))
    (ht : isSl P t et) (he : isTy P et agg sz by_ z) (hby : Nat.ble by_ 2048 = true) (hsz : e.sz = sz) (hpos : Nat.blt 0 sz = true) (hzl : z.length = sz) (hr : L[r]? = some (Res.own (eList e et) F xs [.slice a nn cap])) (hj : L[j]? = some (Res.own (eList e et) Fy ys [.slice a2 n2 cap2])) (hrj : nodB [r, j] = true) (hz : app xs ys = some zs)
    (hS : ∀ a' c' F', Kp m (St w0 M (nilAt L [r, j] ++ [Res.own (eList e et) F' zs [.slice a' zs.length c']])))
    (hk : ∀ a' c' F', OW P n l (St w0 M (nilAt L [r, j] ++ [Res.own (eList e et) F' zs [.slice a' zs.length c']])) (upd E o.dst (.slice a' zs.length c')) m rest) : OW P n l (St w0 M L) E m (o :: rest) := by
  obtain ⟨rfl, hlen⟩ := app_some hz
  refine ow_loud hm hw fun fr w hF hC _ _ hK => ?_
  have hne : r ≠ j := by
    simp only [nodB, List.all_cons, List.all_nil, Bool.and_true, Bool.not_eq_true'] at hrj
    exact Nat.ne_of_beq_eq_false hrj
  obtain ⟨hok, hnd, hlt⟩ := hC.one hr
  obtain ⟨hok2, hnd2, hlt2⟩ := hC.one hj
  have hdj : ∀ b, b ∈ F → b ∈ Fy → False := fun b hb hs => foot_disj hC.nd hne hr hj (r := Res.own (eList e et) F xs [.slice a nn cap]) (s := Res.own (eList e et) Fy ys [.slice a2 n2 cap2]) hb hs
  have hL : selR L [r, j] = [Res.own (eList e et) F xs [.slice a nn cap], Res.own (eList e et) Fy ys [.slice a2 n2 cap2]] := by simp only [selR_cons, selR_nil, hr, hj]
  obtain ⟨i, zv, hi, hs, hb, hzv, hzc⟩ := he.info
  have fin : ∀ v' w' F', (Builtin.append_ #[t, t] o.type #[.slice a nn cap, .slice a2 n2 cap2]).run P w = .ok v' w' → ownList e et w' F' (xs ++ ys) [v'] → Ext F w w' → F'.Nodup → (∀ b ∈ F', b < w'.heap.size ∧ (b ∈ F ∨ b ∈ Fy ∨ w.heap.size ≤ b)) →
      o.wp P fr w _ m.ends := fun v' w' F' hrun hown hext hnd' hF' => by
    obtain ⟨a', c', hv⟩ := own_sl1 (e := e) (T := et) hown
    simp only [List.cons.injEq, and_true] at hv
    subst hv
    have hst : St w0 M (nilAt L [r, j] ++ [Res.own (eList e et) F' (xs ++ ys) [.slice a' (xs ++ ys).length c']]) w' := by
      refine hC.comp [r, j] hL hrj ⟨hext.mono (fun b hb => .inl (by rw [foot_cons, foot_one]; simp [Res.own, hb])), ?_, ?_, ?_, ?_⟩
      · intro s hs; rw [List.mem_singleton.1 hs]; exact hown
      · rw [foot_one]; exact hnd'
      · intro b hb; rw [foot_one] at hb; exact (hF' b hb).1
      · intro b hb
        rw [foot_one] at hb
        rw [foot_cons, foot_one]
        rcases (hF' b hb).2 with h3 | h3 | h3
        · exact .inr (by simp [Res.own, h3])
        · exact .inr (by simp [Res.own, h3])
        · exact .inl h3
    refine upon_val ?_ (hK _ _ _ _ (hk a' c' F') (hF.put _ _ (dstOk_lt hd)) hst (hS a' c' F' _ hst))
    unfold execOp
    simp only [ho, resolve, invoke, builtin, Sem.run_bind, Sem.run_pure, Result.andThen_ok, List.map_toArray, List.map_cons, List.map_nil, hF.ev hx, hF.ev hy, hrun]
  rcases hok2 with ⟨rfl, rfl, hcs2⟩ | ⟨b, cap', cur, F1, ds, rfl, hcs2, hh, k1, k2, k3, k4, k5⟩
  · simp only [List.cons.injEq, Value.slice.injEq, and_true] at hcs2
    obtain ⟨rfl, rfl, rfl⟩ := hcs2
    have hle : nn ≤ cap := by
      obtain ⟨a', cap', hv, h2, _⟩ := (eList e et).own_rd (X := []) hok (by simp)
      simp only [List.cons.injEq, Value.slice.injEq, and_true] at hv
      obtain ⟨rfl, rfl, rfl⟩ := hv
      exact h2
    have hrun := run_append_nothing (P := P) w t t o.type et i ht hi a nn cap hle (.slice none 0 0) (Src.ofNil w ht 0)
    exact fin _ _ F hrun (by rw [List.append_nil]; exact hok) (Ext.refl _ _) hnd (fun b hb => ⟨hlt b hb, .inl hb⟩)
  · simp only [List.cons.injEq, Value.slice.injEq, and_true] at hcs2
    obtain ⟨rfl, rfl, rfl⟩ := hcs2
    have hAt : At w [] ⟨b, 0, none⟩ ds := by
      refine ⟨fun _ => by simp, fun q c hq => ?_⟩
      rw [add_lit, cell_of_row w b _ cur et (0, 0) hh]
      rw [← k4, List.getElem?_take] at hq
      split at hq
      · simpa using hq
      · cases hq
    have hnd1 : (F ++ F1).Nodup := by
      rw [List.nodup_append]
      exact ⟨hnd, (List.nodup_cons.1 hnd2).2, fun c hc d hd e => by subst e; exact hdj c hc (by simp [hd])⟩
    have hdis : ∀ c, (Value.slice a nn cap).ownBlock = some c → c ∉ F1 := by
      intro c hc hin
      have hcF : c ∈ F := by
        rcases hok with ⟨_, _, hv⟩ | ⟨c', cap', cur', F1', ds', rfl, hcs, _⟩
        · simp only [List.cons.injEq, and_true] at hv; rw [hv] at hc; cases hc
        · simp only [List.cons.injEq, and_true] at hcs; rw [hcs] at hc; cases hc; simp
      exact hdj c hcF (by simp [hin])
    obtain ⟨v', w', F', hrun, hown, hext, hnd', hF'⟩ := append_core (ty := o.type) ht he hby hsz hpos hzl (F := F) (Fy := F1) hok (mm := ys.length) (cap := cap2) rfl hAt k5 hlen hnd1 hdis
    exact fin v' w' F' hrun hown hext hnd' (fun c hc => by
      obtain ⟨h2, h3⟩ := hF' c hc
      refine ⟨h2, ?_⟩
      rcases h3 with h3 | h3 | h3
      · exact .inl h3
      · exact .inr (.inl (by simp [h3]))
      · exact .inr (.inr h3))
/-- a literal of one element with blocks of its own -/
theorem lit1 {α : Type} {e : Enc α} {w : World} {b p q : Nat} {T : TypeId} {Fy : List Nat} {u : α} {cs : List Value} (h : St w0 M L w) (hp : L[p]? = some (Res.box b T cs)) (hq : L[q]? = some (Res.own e Fy u cs)) (hpq : nodB [p, q] = true) :
    St w0 M (nilAt L [p, q] ++ [Res.own (eList e T) (b :: Fy) [u] [.slice (some ⟨b, 0, none⟩) 1 1]]) w := by
  have h1 : w.heap[b]? = some (.cells cs.toArray T (0, 0)) := h.ok _ (List.mem_of_getElem? hp)
  have h2 : e.own w Fy u cs := h.ok _ (List.mem_of_getElem? hq)
  have hl : cs.length = e.sz := e.rd_len (e.own_rd (X := []) h2 (by simp))
  refine h.re [p, q] _ hpq ?_ ?_
  · simp only [selR_cons, selR_nil, hp, hq]
    rw [foot_one, foot_cons, foot_one]
    exact List.Perm.refl _
  · intro s hs
    rw [List.mem_singleton.1 hs]
    exact .inr ⟨b, 1, _, Fy, cs, rfl, rfl, h1, Nat.le_refl _, by simp [maxLen], by simp [hl], by simp only [List.length_singleton, Nat.one_mul]; exact List.take_of_length_le (Nat.le_of_eq hl), ⟨Fy, [], cs, [], by simp, by simp, hl, h2, rfl, rfl⟩⟩
/-! ### calls with state -/
theorem ow_callS {o : Oper} {f : FuncId} {xs : List Operand} {ts : Array TypeId} {vs : List Value} {R : Value → World → World → Prop} (ho : o.op = .call { callee := .value (.func f), args := xs.toArray, argTypes := ts }) (hf : isFn P f)
    (hm : m.here (o :: rest) = true) (hw : wt l E o.guard = some true) (hd : dstOk n o.dst = true) (hx : evs E xs = some vs)
    (hc : ∀ w, C w → Calls P f vs.toArray w fun e w' => ∃ v, e = .returned v ∧ R v w w')
    (hk : ∀ v w w', C w → R v w w' → ∃ C' : World → Prop, C' w' ∧ (∀ u, C' u → m.keeps u) ∧ OW P n l C' (upd E o.dst v) m rest) : OW P n l C E m (o :: rest) :=
  ow_call ho hf hm hw hd hx hc hk
/-! ### results -/
def packV : List Value → Value
  | [v] => v
  | vs => .tuple vs.toArray
def resV (P : Program) (C : World → Prop) (E : Env) : List ResultVar → List Value → Prop
  | [], [] => True
  | .tmp t :: rs, v :: vs => look E t = some v ∧ resV P C E rs vs
  | .cell t T :: rs, v :: vs => (∃ p cs sz by_ z, look E t = some (.pointer (some p)) ∧ isTy P T true sz by_ z ∧ (∀ w, C w → At w [] p cs) ∧ cs.length = sz ∧ v = .agg cs.toArray) ∧ resV P C E rs vs
  | _, _ => False
def rvGet (a : Act) : ResultVar → Sem Value
  | .tmp t => pure (a.tmps.getD t undef)
  | .cell p t => do loadVar t (← asAddr (a.tmps.getD p undef))
theorem results_eq (fn : Func) (a : Act) : results fn a.tmps = (do let vs ← fn.results.mapM (rvGet a); pure (if h : vs.size = 1 then vs[0] else .tuple vs)) := by
  unfold results
  have : (fun x => (match x with | .tmp t => pure (a.tmps.getD t undef) | .cell p t => do loadVar t (← asAddr (a.tmps.getD p undef)) : Sem Value)) = rvGet a := by
    funext x; cases x <;> rfl
  rw [← this]
  rfl
theorem resV_run {a : Act} {w : World} (hF : Fr n E a) (hC : C w) : ∀ {rs : List ResultVar} {vs : List Value}, resV P C E rs vs → (rs.mapM (rvGet a)).run P w = .ok vs w
  | [], [], _ => rfl
  | .tmp t :: rs, v :: vs, h => by
    have ih := resV_run hF hC h.2
    have h0 : (rvGet a (.tmp t)).run P w = .ok v w := by simp only [rvGet, Sem.run_pure, hF.at_ t v h.1]
    rw [List.mapM_cons]
    simp only [Sem.run_bind, Sem.run_pure, Result.andThen_ok, h0, ih]
  | .cell t T :: rs, v :: vs, h => by
    have ih := resV_run hF hC h.2
    obtain ⟨p, cs, sz, by_, z, h1, h2, h3, h4, rfl⟩ := h.1
    have h5 := run_loadAt h2 (h3 w hC) h4
    have h0 : (rvGet a (.cell t T)).run P w = .ok (.agg cs.toArray) w := by
      simp only [Instr.loadAt, Instr.sureAddr, Sem.run_bind, Sem.run_pure, Result.andThen_ok, if_true] at h5
      simp only [rvGet, Sem.run_bind, Sem.run_pure, Result.andThen_ok, hF.at_ t _ h1, asAddr, h5]
    rw [List.mapM_cons]
    simp only [Sem.run_bind, Sem.run_pure, Result.andThen_ok, h0, ih]
  | [], _ :: _, h => h.elim
  | .tmp _ :: _, [], h => h.elim
  | .cell _ _ :: _, [], h => h.elim
theorem results_run {fn : Func} {a : Act} {w : World} {rs : List ResultVar} {vs : List Value} (hr : fn.results = rs.toArray) (hF : Fr n E a) (hC : C w) (h : resV P C E rs vs) : (results fn a.tmps).run P w = .ok (packV vs) w := by
  have h1 := resV_run hF hC h
  have h2 : (rs.toArray.mapM (rvGet a)).run P w = .ok vs.toArray w := by
    rw [List.mapM_toArray, map_eq_pure_bind]
    simp only [Sem.run_bind, h1, Result.andThen_ok, Sem.run_pure]
  rw [results_eq, hr]
  simp only [Sem.run_bind, h2, Result.andThen_ok, Sem.run_pure]
  congr 1
  match vs with
  | [] => rfl
  | [v] => rfl
  | v :: u :: vs => rfl
theorem x_retR {fn : Func} {R : Ending → World → Prop} {rs : List ResultVar} {vs : List Value} (hr : fn.results = rs.toArray) (hv : resV P C E rs vs) (hR : ∀ w, C w → R (.returned (packV vs)) w) : XW n C E (bodyPost P fn R) .ret := fun _ w hF hC =>
  ⟨hF.df, packV vs, results_run hr hF hC hv, hR w hC⟩
end Go.Vk
/- Regions whose head makes and reads memory, and whose tail comes in one order. -/
namespace Go.Vk
open Go.RowKit
variable {P : Program} {n : Nat} {C : World → Prop} {E : Env} {m : Md} {l rest : List Oper} {w0 : World} {M : List Nat} {L : List Res} {Q : Exit → Act → World → Prop}
/-- what stands behind the head: the tail -/
def QT (P : Program) (l : List Oper) (nn : Nat) (Q : Exit → Act → World → Prop) : Exit → Act → World → Prop
  | .normal, a, w => wpList P l.toArray Q (l.drop nn) a w
  | e, a, w => Q e a w
theorem upon_q {Q1 Q2 : Exit → Act → World → Prop} (h : ∀ e a w, e ≠ .normal → Q1 e a w → Q2 e a w) {o : Oper} {a : Act} {K : Act → World → Prop} {r : Result Next} (hu : o.upon P a K Q1 r) : o.upon P a K Q2 r := by
  cases r with
  | ok x w' =>
    cases x <;> simp only [Oper.upon] at hu ⊢
    case value => exact hu
    case skip => exact hu
    case defer => exact hu
    case enter f args =>
      refine hu.mono fun e w'' he => ?_
      cases e with
      | returned v => exact he
      | panicked c => exact h _ _ _ (by simp) he
      | outgrown => obtain ⟨a, w, hq⟩ := (show LetsOut Q1 from he); exact ⟨a, w, h _ _ _ (by simp) hq⟩
    case row => exact hu
  | halt x w' =>
    cases x <;> simp only [Oper.upon] at hu ⊢
    exact h _ _ _ (by simp) hu
theorem wpOp_q {Q1 Q2 : Exit → Act → World → Prop} {ops : Array Oper} (h : ∀ e a w, e ≠ .normal → Q1 e a w → Q2 e a w) {i : Nat} {K : Act → World → Prop} {a : Act} {w : World} (hu : wpOp P ops Q1 i K a w) : wpOp P ops Q2 i K a w := by
  unfold wpOp at hu ⊢
  cases ho : ops[i]? with
  | none => rw [ho] at hu; exact hu
  | some o =>
    rw [ho] at hu
    simp only at hu ⊢
    split at hu
    · rename_i hw
      rw [if_pos hw]
      rcases hu with hu | ⟨h1, h2⟩
      · exact .inl (upon_q h hu)
      · obtain ⟨a, w, hq⟩ := h2
        exact .inr ⟨h1, a, w, h _ _ _ (by simp) hq⟩
    · rename_i hw
      rw [if_neg hw]
      exact hu
section
variable {ops : Array Oper} {md : Region.Mode} {S : World → Prop}
def wpAnyLH (P : Program) (md : Region.Mode) (ops : Array Oper) (Q : Exit → Act → World → Prop) (S : World → Prop) (nn : Nat) (K : Array Bool → Act → World → Prop) : Nat → Array Bool → Act → World → Prop
  | 0, listed, a, w => K listed a w
  | f + 1, listed, a, w =>
    Region.ready md ops listed ≠ [] ∧ ∀ i ∈ Region.ready md ops listed, i < nn ∧ wpOp P ops Q i (fun a' w' => S w' ∧ wpAnyLH P md ops Q S nn K f (listed.setIfInBounds i true) a' w') a w
theorem wpAny_of_headH {nn g : Nat} {K : Array Bool → Act → World → Prop} (hL : ∀ listed a w, K listed a w → wpAny P md ops Q g listed a w) :
    ∀ (f : Nat) (listed : Array Bool) (a : Act) (w : World), wpAnyLH P md ops Q S nn K f listed a w → wpAny P md ops Q (f + g) listed a w
  | 0, listed, a, w, h => by rw [Nat.zero_add]; exact hL _ _ _ h
  | f + 1, listed, a, w, h => by
    rw [show f + 1 + g = (f + g) + 1 by omega]
    exact ⟨fun h0 => absurd h0 h.1, fun i hi => wpOp_mono (fun a' w' h' => wpAny_of_headH hL f _ a' w' h'.2) (h.2 i hi).2⟩
theorem wpAnyLH_first {nn i : Nat} {oi : Oper} {v : Value} {K : Array Bool → Act → World → Prop} (hi : ops[i]? = some oi) (hsel : ∀ (j : Nat) (o : Oper) cs b, ops[j]? = some o → o.op ≠ .select cs b)
    (hs : Region.sinkB md ops nn = true) (hc : Region.chainB md ops nn = true) (hn : nn < ops.size) (hin : i < nn) (hQ : PanicOk Q)
    (hdone : ∀ listed a w, K listed a w → ∀ j ∈ Region.ready md ops listed, nn ≤ j) :
    ∀ (f : Nat) (listed : Array Bool) (a : Act) (w : World), HeadInv md ops nn listed →
      (∀ j oj, ops[j]? = some oj → j ≠ i → listed.getD j true = false → (∀ e ∈ oj.after, Region.binds md e = true → e.on ≠ i) → oi.apart ops oj = true) →
      i ∈ Region.ready md ops listed → YieldsIf P ops S oi v a → S w →
      wpAnyLH P md ops Q S nn K f (listed.setIfInBounds i true) (a.put oi.dst v) w → wpAnyLH P md ops Q S nn K (f + 1) listed a w := by
  intro f
  induction f with
  | zero =>
    intro listed a w inv _ hr hy hS H
    have hun := (mem_ready.1 hr).1
    refine ⟨fun h => (by rw [h] at hr; cases hr), fun j hj => ?_⟩
    have hjn : j < nn := by
      rcases Nat.lt_or_ge j nn with h | h
      · exact h
      · exact absurd hj (tail_waits hs hc hn inv _ i rfl hin hun j h)
    refine ⟨hjn, ?_⟩
    by_cases hji : j = i
    · subst hji; exact hy.wpOp hi hS ⟨hS, H⟩
    · have := hdone _ _ _ H j (ready_mono hj hji)
      omega
  | succ f ih =>
    intro listed a w inv hfree hr hy hS H
    have hun := (mem_ready.1 hr).1
    refine ⟨fun h => (by rw [h] at hr; cases hr), fun j hj => ?_⟩
    have hjn : j < nn := by
      rcases Nat.lt_or_ge j nn with h | h
      · exact h
      · exact absurd hj (tail_waits hs hc hn inv _ i rfl hin hun j h)
    refine ⟨hjn, ?_⟩
    by_cases hji : j = i
    · subst hji; exact hy.wpOp hi hS ⟨hS, H⟩
    · have h1 := (H.2 j (ready_mono hj hji)).2
      obtain ⟨hjun, oj, hoj, hall⟩ := mem_ready.1 hj
      have hnot : ∀ e ∈ oj.after, Region.binds md e = true → e.on ≠ i := fun e he hb heq => by
        have h1 := hall e he hb
        rw [heq, getD_both hun] at h1
        cases h1
      have h2 := wpOp_putIf hoj (hfree j oj hoj hji hjun hnot) (fun cs b => hsel i oi cs b hi) (fun cs b => hsel j oj cs b hoj) (fun c a w => hQ c a oi.dst v w) hy h1
      have hfree' : ∀ k ok, ops[k]? = some ok → k ≠ i → (listed.setIfInBounds j true).getD k true = false →
          (∀ e ∈ ok.after, Region.binds md e = true → e.on ≠ i) → oi.apart ops ok = true := fun k ok hk hki hun hno => by
        refine hfree k ok hk hki ?_ hno
        by_cases hjk : j = k
        · subst hjk; exact hjun
        · rw [getD_set_ne true hjk] at hun; exact hun
      refine wpOp_mono (fun a' w' h3 => ⟨h3.2.1, ih (listed.setIfInBounds j true) a' w' (inv.set hj hjn) hfree' (ready_mono hr (Ne.symm hji)) h3.1 h3.2.1 ?_⟩) h2
      rw [Array.setIfInBounds_comm _ _ hji]
      exact h3.2.2
/-- the head's moves (all below nn), then the tail in one order -/
def seqHB (ops : Array Oper) (nn g : Nat) : List (Nat × Bool) → Array Bool → Bool
  | [], listed => Region.seqB .any ops g nn listed
  | (i, q) :: s, listed =>
    Nat.blt i nn && (match q with
     | true => Region.free .any ops listed i && (Region.ready .any ops listed).contains i
     | false => Region.ready .any ops listed == [i]) && seqHB ops nn g s (listed.setIfInBounds i true)
theorem wpAnyLH_of_seq {nn g : Nat} {K : Act → World → Prop} (hsel : Region.noSelect ops = true) (hs : Region.sinkB .any ops nn = true) (hc : Region.chainB .any ops nn = true) (hn : nn < ops.size) (hQ : PanicOk Q) {Q1 : Exit → Act → World → Prop} (hq1 : ∀ e a w, e ≠ .normal → Q1 e a w → Q e a w) (hq2 : ∀ a w, Q1 .normal a w → K a w) :
    ∀ (s : List (Nat × Bool)) (listed : Array Bool) (a : Act) (w : World), HeadInv .any ops nn listed →
    seqHB ops nn g s listed = true → wpSeq P ops S Q1 s a w → wpAnyLH P .any ops Q S nn (fun listed' a' w' => Region.seqB .any ops g nn listed' = true ∧ K a' w') s.length listed a w
  | [], listed, a, w, _, hB, h => by
    rw [wpSeq] at h
    exact ⟨by simpa [seqHB] using hB, hq2 _ _ h⟩
  | (i, true) :: s, listed, a, w, inv, hB, h => by
    simp only [seqHB, Bool.and_eq_true] at hB
    obtain ⟨⟨hlt, hf, hr⟩, hB⟩ := hB
    have hlt := Nat.le_of_ble_eq_true hlt
    rw [wpSeq] at h
    obtain ⟨o, v, ho, hy, hS, h⟩ := h
    have hr' : i ∈ Region.ready .any ops listed := by simpa using hr
    exact wpAnyLH_first ho (Region.noSelect_spec hsel) hs hc hn hlt hQ (fun listed' a' w' hL => seqB_ready hL.1) s.length listed a w inv (Region.free_spec ho hf) hr' hy hS
      (wpAnyLH_of_seq hsel hs hc hn hQ hq1 hq2 s _ _ _ (inv.set hr' hlt) hB h)
  | (i, false) :: s, listed, a, w, inv, hB, h => by
    simp only [seqHB, Bool.and_eq_true, beq_iff_eq] at hB
    obtain ⟨⟨hlt, hr⟩, hB⟩ := hB
    have hlt := Nat.le_of_ble_eq_true hlt
    rw [wpSeq] at h
    have hr' : i ∈ Region.ready .any ops listed := by rw [hr]; simp
    refine ⟨by rw [hr]; simp, fun j hj => ?_⟩
    rw [hr] at hj
    obtain rfl := List.mem_singleton.1 hj
    exact ⟨hlt, wpOp_mono (fun a' w' h' => ⟨h'.1, wpAnyLH_of_seq hsel hs hc hn hQ hq1 hq2 s _ _ _ (inv.set hr' hlt) hB h'.2⟩) (wpOp_q hq1 h)⟩
end
/-- the head (operations below nn) held, then the tail -/
theorem c_regHT {id : Nat} {l : List Oper} (nn : Nat) (fl : List (Nat × Bool)) (S : World → Prop) (hm : P.follows .mixedOrders = true)
    (hB : (Region.noSelect l.toArray && decide (nn < l.toArray.size) && Region.sinkB .any l.toArray nn && Region.chainB .any l.toArray nn && seqHB l.toArray nn (l.toArray.size - nn) fl (Array.replicate l.length false) && inB l fl && Nat.beq fl.length nn) = true)
    (hQ : PanicOk Q) (hS : ∀ w, St w0 M L w → S w) (h : OW P n l (St w0 M L) E (.held S (QT P l nn Q) fl) (permOf l fl)) : CW P n (St w0 M L) E Q (.region id l.toArray true) := fun a w hF hC => by
  simp only [Bool.and_eq_true, decide_eq_true_eq] at hB
  obtain ⟨⟨⟨⟨⟨⟨hsel, hn⟩, hs⟩, hc⟩, h2⟩, h3⟩, h4⟩ := hB
  have hlen : fl.length = nn := Nat.eq_of_beq_eq_true h4
  have hn' : nn < l.length := by simpa using hn
  refine wp_region_any hm ?_
  have inv0 : HeadInv .any l.toArray nn (Array.replicate l.toArray.size false) :=
    ⟨by simp, fun j oj _ hl => (by rw [getD_replicate_false] at hl; cases hl), fun t _ ht => getD_in (by simpa using ht) (getD_replicate_false _ _)⟩
  have hseq := h fl ⟨[], rfl⟩ (cons_perm h3) a _ hF hC.drew (hS _ hC.drew)
  have H := wpAnyLH_of_seq (P := P) (S := S) (Q := Q) (Q1 := QT P l nn Q) (K := fun a w => wpList P l.toArray Q (l.drop nn) a w) (g := l.toArray.size - nn) hsel hs hc hn hQ
    (fun e a w he h => by cases e <;> first | exact absurd rfl he | exact h) (fun a w h => h) fl (Array.replicate l.toArray.size false) a _ inv0 (by simpa using h2) hseq
  have hdl : (l.drop nn).length = l.toArray.size - nn := by simp
  have := wpAny_of_headH (Q := Q) (g := l.toArray.size - nn) (fun listed a' w' hL => by
    have := wpAny_of_seq (md := .any) (Q' := Q) (l.drop nn) nn listed a' w' (fun j => by simp [List.getElem?_drop]) (by rw [hdl]; exact hL.1) hL.2
    rwa [hdl] at this) _ _ _ _ H
  rw [hlen, show nn + (l.toArray.size - nn) = l.toArray.size by omega] at this
  exact this
theorem x_qt {l : List Oper} {nn : Nat} (h : OW P n l C E (.lex Q) (l.drop nn)) : XW n C E (QT P l nn Q) .normal := fun a w hF hC => h a w hF hC
end Go.Vk
/- Calls of function values. -/
namespace Go.Vk
section
variable {P : Program} {n : Nat} {E : Env} {w0 : World} {M : List Nat} {L : List Res}
theorem run_callV {o : Oper} {y : Operand} {f : FuncId} {xs : List Operand} {ts : Array TypeId} {vs cap : List Value} {a : Act} (ho : o.op = .call { callee := .value y, args := xs.toArray, argTypes := ts }) (hf : isFn P f) (hF : Fr n E a)
    (hy : ev E y = some (.func (.func f) #[] cap.toArray)) (hx : evs E xs = some vs) (w : World) : (execOp a.eval o).run P w = .ok (.enter f (vs ++ cap).toArray) w := by
  obtain ⟨fn, h1, h2, h3⟩ := hf
  obtain ⟨c, hc⟩ := Option.isSome_iff_exists.1 h2
  have hm : (xs.toArray.map a.eval) = vs.toArray := by rw [← hF.evs hx]; simp
  unfold execOp
  simp only [ho, resolve, hF.ev hy, Deferred.ofValue, hm]
  simp [invoke, callFunc, h1, h3, hc]
theorem qy_callV {o : Oper} {y : Operand} {f : FuncId} {xs : List Operand} {ts : Array TypeId} {vs cap : List Value} {v : Value} (ho : o.op = .call { callee := .value y, args := xs.toArray, argTypes := ts }) (hf : isFn P f)
    (hy : ev E y = some (.func (.func f) #[] cap.toArray)) (hx : evs E xs = some vs)
    (hc : ∀ w, St w0 M L w → Calls P f (vs ++ cap).toArray w fun e w' => e = .returned v ∧ Ext [] w w') : Qy P n (St w0 M L) E o v := fun a hF w hC => by
  unfold Oper.quietAt
  rw [run_callV ho hf hF hy hx w]
  exact ⟨rfl, (hc w hC).mono fun e w' ⟨he, hw⟩ => ⟨he, hC.step hw⟩⟩
end
end Go.Vk
/- Structs compared, min, maps that the call makes. -/
namespace Go.Vk
open Go.RowKit
section
variable {P : Program} {n : Nat} {S C : World → Prop} {E : Env} {m : Md} {l rest : List Oper} {w0 : World} {M : List Nat} {L : List Res}
/-! ### structs of one level compared -/
def eqLeaf (d : TypeDesc) (x y : Value) : Option Bool :=
  match d, x, y with
  | .int _, .int k a, .int k' b => bif kindEq k k' then some (a == b) else none
  | .bool, .bool a, .bool b => some (a == b)
  | .string, .string a, .string b => some (a.data.toList == b.data.toList)
  | _, _, _ => none
def eqfB (P : Program) (xs ys : List Value) : List Field → Option Bool
  | [] => some true
  | f :: fs =>
    match decide (f.name = "_"), P.underlying f.type, xs[f.offset]?, ys[f.offset]? with
    | false, some d, some x, some y =>
      match eqLeaf d x y, eqfB P xs ys fs with
      | some b, some r => some (b && r)
      | _, _ => none
    | _, _, _, _ => none
def eqSB (P : Program) (t : TypeId) (xs ys : List Value) : Option Bool :=
  match P.underlying t with
  | some (.struct fs) => bif P.stoodInHeld t || P.eqGuardType P.depth t then none else eqfB P xs ys fs.toList
  | _ => none
theorem run_eqLeaf {d : Nat} {t : TypeId} {td : TypeDesc} {x y : Value} {b : Bool} (hu : P.underlying t = some td) (h : eqLeaf td x y = some b) (w : World) :
    (Op.equalIn (d + 1) t x y).run P w = .ok b w ∧ P.plainKey t = true := by
  unfold eqLeaf at h
  split at h
  · rename_i k a k' b'
    cases hk : kindEq k k' with
    | false => rw [hk] at h; cases h
    | true =>
      rw [hk] at h
      obtain rfl := kindEq_eq hk
      cases h
      exact ⟨run_equalIn_int w d t _ _ _ _ hu, by simp [Program.plainKey, hu]⟩
  · cases h
    exact ⟨run_equalIn_bool' w d t _ _ hu, by simp [Program.plainKey, hu]⟩
  · cases h
    exact ⟨by rw [run_equalIn_string w d t _ _ hu, ByteArray.toList_eq, ByteArray.toList_eq], by simp [Program.plainKey, hu]⟩
  · cases h
theorem run_eqfB {d : Nat} {xs ys : List Value} (w : World) : ∀ {fs : List Field} {b : Bool}, eqfB P xs ys fs = some b → (Op.eqFields (d + 1) xs.toArray ys.toArray fs).run P w = .ok b w := by
  intro fs
  induction fs with
  | nil => intro b h; cases h; simp [Op.eqFields]
  | cons f fs ih =>
    intro b h
    unfold eqfB at h
    split at h
    · rename_i hn d' x y h1 h2 hx hy
      split at h
      · rename_i b1 r e1 e2
        cases h
        obtain ⟨hr, hp⟩ := run_eqLeaf (d := d) h2 e1 w
        have hne : f.name ≠ "_" := by simpa using h1
        have px := run_part_plain w hp (xs := xs.toArray) (off := f.offset) (by simpa using hx)
        have py := run_part_plain w hp (xs := ys.toArray) (off := f.offset) (by simpa using hy)
        simp only [Op.eqFields, hne, ne_eq, not_false_eq_true, if_true, Sem.run_bind, px, py, hr, Result.andThen_ok]
        cases b1
        · simp
        · simp [ih e2]
      · cases h
    · cases h
theorem run_eqSB {d : Nat} {t : TypeId} {xs ys : List Value} {b : Bool} (h : eqSB P t xs ys = some b) (w : World) :
    (Op.equalIn (d + 2) t (.agg xs.toArray) (.agg ys.toArray)).run P w = .ok b w ∧ P.eqGuardType P.depth t = false := by
  unfold eqSB at h
  split at h
  · rename_i fs hu
    cases hs : P.stoodInHeld t with
    | true => rw [hs] at h; cases h
    | false =>
      cases hg : P.eqGuardType P.depth t with
      | true => rw [hs, hg] at h; cases h
      | false =>
        rw [hs, hg] at h
        have hf : P.fieldsOf t = fs := by unfold Program.fieldsOf; rw [hu]
        refine ⟨?_, rfl⟩
        rw [run_equalIn_struct w (d + 1) t _ _ (by rw [hf]; exact hu) hs, hf]
        exact run_eqfB w h
  · cases h
theorem ry_seql {o : Oper} {t u : TypeId} {x y : Operand} {xs ys : List Value} {b : Bool} (ho : o.op = .binOp .eql t x y u) (hx : ev E x = some (.agg xs.toArray)) (hy : ev E y = some (.agg ys.toArray)) (h : eqSB P t xs ys = some b) : Ry P n S E o (.bool b) := fun a hF w _ => by
  obtain ⟨h1, h2⟩ := run_eqSB (d := 9998) h w
  unfold execOp
  simp only [ho, hF.ev hx, hF.ev hy, Sem.run_bind, run_eqGuard_agg w _ _ _ _ _ _ h2, Result.andThen_ok, run_eql_struct, h1, Sem.run_pure]
theorem ry_sneq {o : Oper} {t u : TypeId} {x y : Operand} {xs ys : List Value} {b : Bool} (ho : o.op = .binOp .neq t x y u) (hx : ev E x = some (.agg xs.toArray)) (hy : ev E y = some (.agg ys.toArray)) (h : eqSB P t xs ys = some b) : Ry P n S E o (.bool (!b)) := fun a hF w _ => by
  obtain ⟨h1, h2⟩ := run_eqSB (d := 9998) h w
  unfold execOp
  simp only [ho, hF.ev hx, hF.ev hy, Sem.run_bind, run_eqGuard_agg w _ _ _ _ _ _ h2, Result.andThen_ok, run_neq_struct, h1, Sem.run_pure]
theorem ry_min {o : Oper} {x y : Operand} {ts : Array TypeId} {k k' : IntKind} {a b : Int} (ho : o.op = .call { callee := .builtin .min, args := #[x, y], argTypes := ts }) (hx : ev E x = some (.int k a)) (hy : ev E y = some (.int k' b)) : Ry P n S E o (.int k (if b < a then b else a)) := fun fr hF w _ => by
  unfold execOp
  simp [ho, resolve, invoke, builtin, hF.ev hx, hF.ev hy, Builtin.min_, Builtin.min2, List.foldlM]
theorem rd_isNone {α : Type} {e : Enc α} {w : World} {X : List Nat} {xs : List α} {a : Option Addr} {nn c : Nat} (h : rdList e w X xs [.slice a nn c]) (ha : a.isNone = true) : xs = [] := by
  obtain ⟨a', c', hv, _, _, hel⟩ := h
  simp only [List.cons.injEq, Value.slice.injEq, and_true] at hv
  obtain ⟨rfl, _, _⟩ := hv
  by_cases hne : xs = []
  · exact hne
  · obtain ⟨p, rfl, _⟩ := hel hne
    cases ha
/-! ### maps -/
variable {κ : Type}
section
variable [DecidableEq κ]
end
def ents (f : κ → List Value) : Nat → List (κ × Int) → List MapEntry
  | _, [] => []
  | i, (k, v) :: es => { key := .agg (f k).toArray, val := .int .i64 v, born := i } :: ents f (i + 1) es
def Res.map (f : κ → List Value) (b : Nat) (es : List (κ × Int)) : Res :=
  ⟨[b], fun w => w.heap[b]? = some (.map (ents f 0 es).toArray es.length), fun _ _ h ok => (h b (by simp)).trans ok⟩
section
variable [DecidableEq κ]
end
section
variable [DecidableEq κ]
end
theorem ry_makeFunc {o : Oper} {f : FuncId} {xs : List Operand} {vs : List Value} (ho : o.op = .makeFunc (.func f) #[] xs.toArray) (hx : evs E xs = some vs) : Ry P n S E o (.func (.func f) #[] vs.toArray) := fun a hF w _ => by
  have hm : (xs.toArray.map a.eval) = vs.toArray := by rw [← hF.evs hx]; simp
  unfold execOp
  simp [ho, hm, Instr.makeFunc]
end
end Go.Vk
/- Elements deleted from a slice of the call's own: what stands behind moved up, the rest cleared. -/
namespace Go.Vk
open Go.RowKit
section
variable {α : Type} {e : Enc α} {f : α → List Value}
end
section
variable {P : Program} {n : Nat} {C : World → Prop} {E : Env} {m : Md} {l rest : List Oper} {w0 : World} {M : List Nat} {L : List Res}
end
end Go.Vk
/- Regions whose head comes in several orders: a tree of orders. -/
namespace Go.Vk
open Go.RowKit
variable {P : Program} {n : Nat} {C : World → Prop} {E : Env} {l rest : List Oper} {w0 : World} {M : List Nat} {L : List Res} {Q : Exit → Act → World → Prop}
/-- orders: done; a quiet operation, then t; the one loud operation that may come, then t; a loud operation, then t, or one of u -/
inductive Br where
  | done : Br
  | q (i : Nat) (t : Br) : Br
  | l (i : Nat) (t : Br) : Br
  | alt (i : Nat) (t u : Br) : Br
def Br.depth : Br → Nat
  | .done => 0
  | .q _ t => t.depth + 1
  | .l _ t => t.depth + 1
  | .alt _ t _ => t.depth + 1
def Br.heads : Br → List Nat
  | .alt i _ u => i :: u.heads
  | .l i _ => [i]
  | _ => []
def Br.pre : List (Nat × Bool) → Br → Br
  | [], b => b
  | (i, true) :: s, b => .q i (Br.pre s b)
  | (i, false) :: s, b => .l i (Br.pre s b)
def wpBr (P : Program) (ops : Array Oper) (S : World → Prop) (Q : Exit → Act → World → Prop) : Br → Act → World → Prop
  | .done, a, w => Q .normal a w
  | .q i t, a, w => ∃ o v, ops[i]? = some o ∧ YieldsIf P ops S o v a ∧ S w ∧ wpBr P ops S Q t (a.put o.dst v) w
  | .l i t, a, w => wpOp P ops Q i (fun a' w' => S w' ∧ wpBr P ops S Q t a' w') a w
  | .alt i t u, a, w => wpOp P ops Q i (fun a' w' => S w' ∧ wpBr P ops S Q t a' w') a w ∧ wpBr P ops S Q u a w
section
variable {ops : Array Oper} {S : World → Prop}
/-- what stands behind a way: the orders that are left -/
def QBr (P : Program) (ops : Array Oper) (S : World → Prop) (Q1 : Exit → Act → World → Prop) (b : Br) : Exit → Act → World → Prop
  | .normal, a, w => wpBr P ops S Q1 b a w
  | e, a, w => Q1 e a w
theorem qb_q {Q1 : Exit → Act → World → Prop} {b : Br} (e : Exit) (a : Act) (w : World) (he : e ≠ .normal) (h : QBr P ops S Q1 b e a w) : Q1 e a w := by
  cases e <;> first | exact absurd rfl he | exact h
theorem wpBr_pre {Q1 : Exit → Act → World → Prop} {b : Br} : ∀ (s : List (Nat × Bool)) (a : Act) (w : World), wpSeq P ops S (QBr P ops S Q1 b) s a w → wpBr P ops S Q1 (Br.pre s b) a w
  | [], a, w, h => h
  | (i, true) :: s, a, w, h => by
    rw [wpSeq] at h
    obtain ⟨o, v, ho, hy, hS, h⟩ := h
    exact ⟨o, v, ho, hy, hS, wpBr_pre s _ _ h⟩
  | (i, false) :: s, a, w, h => by
    rw [wpSeq] at h
    exact wpOp_mono (fun a' w' h' => ⟨h'.1, wpBr_pre s _ _ h'.2⟩) (wpOp_q qb_q h)
end
end Go.Vk
namespace Go.Vk
open Go.RowKit
variable {P : Program} {n : Nat} {C : World → Prop} {E : Env} {m : Md} {l rest : List Oper} {w0 : World} {M : List Nat} {L : List Res} {Q : Exit → Act → World → Prop}
/-! without a tail -/
def cov0 (ops : Array Oper) : Bool → Br → Array Bool → Bool
  | top, .done, listed => top && (Region.ready .any ops listed).isEmpty
  | top, .q i t, listed => top && Region.free .any ops listed i && (Region.ready .any ops listed).contains i && cov0 ops true t (listed.setIfInBounds i true)
  | top, .l i t, listed => (!top || Region.ready .any ops listed == [i]) && cov0 ops true t (listed.setIfInBounds i true)
  | top, .alt i t u, listed => (!top || Region.ready .any ops listed == i :: u.heads) && Nat.beq u.depth (t.depth + 1) && cov0 ops true t (listed.setIfInBounds i true) && cov0 ops false u listed
theorem wpAnyH_of_br {ops : Array Oper} {S : World → Prop} (hsel : Region.noSelect ops = true) (hQ : PanicOk Q) :
    ∀ (b : Br) (listed : Array Bool) (a : Act) (w : World), wpBr P ops S Q b a w →
      (cov0 ops true b listed = true → wpAnyH P .any ops Q S b.depth listed a w) ∧
      (cov0 ops false b listed = true → ∀ j ∈ b.heads, wpOp P ops Q j (fun a' w' => S w' ∧ wpAnyH P .any ops Q S (b.depth - 1) (listed.setIfInBounds j true) a' w') a w) := by
  intro b
  induction b with
  | done =>
    intro listed a w h
    refine ⟨fun hB => wpAnyH_done (by simpa [cov0] using hB) h 0, fun hB => ?_⟩
    simp [cov0] at hB
  | q i t ih =>
    intro listed a w h
    refine ⟨fun hB => ?_, fun hB => ?_⟩
    · simp only [cov0, Bool.and_eq_true] at hB
      obtain ⟨⟨⟨_, hf⟩, hr⟩, hB⟩ := hB
      obtain ⟨o, v, ho, hy, hS, h⟩ := h
      exact wpAnyH_take ho hsel hf hr (fun c a' w' => hQ c a' o.dst v w') hy hS ((ih _ _ _ h).1 hB)
    · simp [cov0] at hB
  | l i t ih =>
    intro listed a w h
    have key : ∀ j ∈ [i], cov0 ops true t (listed.setIfInBounds i true) = true → wpOp P ops Q j (fun a' w' => S w' ∧ wpAnyH P .any ops Q S t.depth (listed.setIfInBounds j true) a' w') a w := by
      intro j hj hB
      obtain rfl := List.mem_singleton.1 hj
      exact wpOp_mono (fun a' w' h' => ⟨h'.1, (ih _ _ _ h'.2).1 hB⟩) h
    refine ⟨fun hB => ?_, fun hB => ?_⟩
    · simp only [cov0, Bool.and_eq_true, Bool.not_true, Bool.false_or, beq_iff_eq] at hB
      exact wpAnyH_all hB.1 (by simp) (fun j hj => key j hj hB.2)
    · simp only [cov0, Bool.and_eq_true] at hB
      exact fun j hj => key j hj hB.2
  | alt i t u iht ihu =>
    intro listed a w h
    have key : u.depth = t.depth + 1 → cov0 ops true t (listed.setIfInBounds i true) = true → cov0 ops false u listed = true → ∀ j ∈ i :: u.heads, wpOp P ops Q j (fun a' w' => S w' ∧ wpAnyH P .any ops Q S t.depth (listed.setIfInBounds j true) a' w') a w := by
      intro hd hB hU j hj
      rcases List.mem_cons.1 hj with rfl | hj
      · exact wpOp_mono (fun a' w' h' => ⟨h'.1, (iht _ _ _ h'.2).1 hB⟩) h.1
      · have := (ihu listed a w h.2).2 hU j hj
        rwa [hd, Nat.add_sub_cancel] at this
    refine ⟨fun hB => ?_, fun hB => ?_⟩
    · simp only [cov0, Bool.and_eq_true, Bool.not_true, Bool.false_or, beq_iff_eq] at hB
      obtain ⟨⟨⟨hr, hd⟩, hB⟩, hU⟩ := hB
      exact wpAnyH_all hr (by simp) (key (Nat.eq_of_beq_eq_true hd) hB hU)
    · simp only [cov0, Bool.and_eq_true] at hB
      obtain ⟨⟨⟨_, hd⟩, hB⟩, hU⟩ := hB
      exact key (Nat.eq_of_beq_eq_true hd) hB hU
theorem c_regB0 {id : Nat} {l : List Oper} (fl : List (Nat × Bool)) (b : Br) (S : World → Prop) (hm : P.follows .mixedOrders = true)
    (hB : (Region.noSelect l.toArray && cov0 l.toArray true (Br.pre fl b) (Array.replicate l.length false) && inB l fl && Nat.beq (Br.pre fl b).depth l.length) = true)
    (hQ : PanicOk Q) (hS : ∀ w, St w0 M L w → S w) (h : OW P n l (St w0 M L) E (.held S (QBr P l.toArray S Q b) fl) (permOf l fl)) : CW P n (St w0 M L) E Q (.region id l.toArray true) := fun a w hF hC => by
  simp only [Bool.and_eq_true] at hB
  obtain ⟨⟨⟨h1, h2⟩, h3⟩, h4⟩ := hB
  refine wp_region_held (S := S) hm ?_
  have hlen : (Br.pre fl b).depth = l.toArray.size := by simpa using Nat.eq_of_beq_eq_true h4
  have hseq := wpBr_pre fl a _ (h fl ⟨[], rfl⟩ (cons_perm h3) a _ hF hC.drew (hS _ hC.drew))
  rw [← hlen]
  exact (wpAnyH_of_br h1 hQ (Br.pre fl b) _ a _ hseq).1 (by rw [hlen]; simpa using h2)
theorem x_done0 {S : World → Prop} (h : XW n C E Q .normal) : XW n C E (QBr P l.toArray S Q .done) .normal := fun a w hF hC => h a w hF hC
/-- a read that is carried out where it stands -/
theorem ow_rL {o : Oper} {v : Value} (hm : m.here (o :: rest) = true) (hw : wt l E o.guard = some true) (hd : ∀ t, o.dst = some t → t < n) (hq : Ry P n C E o v)
    (h : OW P n l C (upd E o.dst v) m rest) : OW P n l C E m (o :: rest) :=
  ow_loud hm hw fun a w hF hC hS _ hK => upon_val (hq a hF w hC) (hK _ _ _ _ h (hF.put _ _ hd) hC hS)
end Go.Vk
/- Plain laws of the loops that copy, compare, mark and weigh. No program in sight. -/
namespace Go.Vk
theorem wrap_id {n : Int} (h0 : -9223372036854775808 ≤ n) (h1 : n ≤ 9223372036854775807) : IntKind.i64.wrap n = n := IntWalk.i64_in n ⟨h0, h1⟩
theorem wrap_nat {n : Nat} (h : n < 9223372036854775808) : IntKind.i64.wrap (n : Int) = n := wrap_id (by omega) (by omega)
theorem wrap_succ {i : Nat} (h : i < 9223372036854775807) : IntKind.i64.wrap ((i : Int) + 1) = ((i + 1 : Nat) : Int) := by rw [wrap_id (by omega) (by omega)]; simp
theorem idx_lt {α : Type} {xs : List α} {i : Nat} (h : i < xs.length) : idx xs (i : Int) = some xs[i] := by simp [idx, h]
theorem app_eq {α : Type} {xs ys : List α} (h : xs.length + ys.length ≤ 68719476736) : app xs ys = some (xs ++ ys) := if_pos h
theorem tmod_nat (a b : Nat) : Int.tmod (a : Int) (b : Int) = ((a % b : Nat) : Int) := by rw [Int.tmod_eq_emod_of_nonneg (by omega)]; simp
theorem mk_eq {α : Type} (z : α) {n : Nat} (h : n ≤ 68719476736) : mk z (n : Int) = some (List.replicate n z) := by
  unfold mk; rw [if_pos (by omega)]; simp
/-! ### copied -/
theorem copy_loop {α β : Type} {F : α → Option β} {g : α → β} {p : List α} (Lp : Nat → List β → Int → Option (List β))
    (step : ∀ k l i, Lp (k + 1) l i = if decide (i < (p.length : Int)) then (idx p i).bind fun e => (F e).bind fun y => (idx l i).bind fun _ => Lp k (l.set i.toNat y) (IntKind.i64.wrap (i + 1)) else some l)
    (hp : p.length < 1000000000000) (hF : ∀ x ∈ p, F x = some (g x)) (z : β) : Lp Fuel (List.replicate p.length z) 0 = some (p.map g) := by
  have key : ∀ (d k i : Nat) (l : List β), p.length - i = d → d < k → i ≤ p.length → l.length = p.length → l.take i = (p.map g).take i → Lp k l (i : Int) = some (p.map g) := by
    intro d
    induction d with
    | zero =>
      intro k i l hd hk hi hl ht
      obtain ⟨k, rfl⟩ : ∃ q, k = q + 1 := ⟨k - 1, by omega⟩
      rw [step, if_neg (by simp; omega)]
      have : i = p.length := by omega
      subst this
      rw [List.take_of_length_le (by omega), List.take_of_length_le (by simp)] at ht
      rw [ht]
    | succ d ih =>
      intro k i l hd hk hi hl ht
      obtain ⟨k, rfl⟩ : ∃ q, k = q + 1 := ⟨k - 1, by omega⟩
      have hlt : i < p.length := by omega
      rw [step, if_pos (by simp; omega), idx_lt hlt]
      simp only [Option.bind_some]
      rw [hF _ (List.getElem_mem hlt)]
      simp only [Option.bind_some]
      rw [idx_lt (by omega : i < l.length)]
      simp only [Option.bind_some]
      rw [wrap_succ (by omega)]
      refine ih k (i + 1) _ (by omega) (by omega) (by omega) (by simp [hl]) ?_
      apply List.ext_getElem?
      intro j
      have hj : (l.take i)[j]? = ((p.map g).take i)[j]? := by rw [ht]
      simp only [List.getElem?_take, List.getElem?_set, Int.toNat_natCast, List.getElem?_map] at hj ⊢
      by_cases c1 : j < i
      · simp only [c1, if_true] at hj
        simp [show j < i + 1 by omega, show ¬ i = j by omega, hj]
      · by_cases c2 : i = j
        · subst c2; simp [show i < l.length by omega, hlt]
        · simp [show ¬ j < i + 1 by omega]
  exact key p.length Fuel 0 _ (by omega) (fuel_gt (by omega)) (by omega) (by simp) (by simp)
/-! ### compared with itself -/
theorem same_loop {α : Type} {p : List α} (Lp : Nat → Int → Option Bool) (G : α → Option Bool → Option Bool)
    (step : ∀ k i, Lp (k + 1) i = if decide (i < (p.length : Int)) then (idx p i).bind fun e => G e (Lp k (IntKind.i64.wrap (i + 1))) else some true)
    (hp : p.length < 1000000000000) (hG : ∀ x ∈ p, ∀ o, G x o = o) : Lp Fuel 0 = some true := by
  have key : ∀ (d k i : Nat), p.length - i = d → d < k → i ≤ p.length → Lp k (i : Int) = some true := by
    intro d
    induction d with
    | zero =>
      intro k i hd hk hi
      obtain ⟨k, rfl⟩ : ∃ q, k = q + 1 := ⟨k - 1, by omega⟩
      rw [step, if_neg (by simp; omega)]
    | succ d ih =>
      intro k i hd hk hi
      obtain ⟨k, rfl⟩ : ∃ q, k = q + 1 := ⟨k - 1, by omega⟩
      have hlt : i < p.length := by omega
      rw [step, if_pos (by simp; omega), idx_lt hlt]
      simp only [Option.bind_some]
      rw [hG _ (List.getElem_mem hlt), wrap_succ (by omega)]
      exact ih k (i + 1) (by omega) (by omega) (by omega)
  exact key p.length Fuel 0 (by omega) (fuel_gt (by omega)) (by omega)
/-- an element marked: the number behind it and what it is then -/
def Marks {α : Type} (Mk : α → Int → Option (Int × α)) (Hd : α → Int → Option Int) (c : Nat) (x : α) : Prop :=
  ∀ m : Nat, m + c < 4611686018427387904 → ∃ (m' : Nat) (x' : α), Mk x (m : Int) = some ((m' : Int), x') ∧ Hd x' (m : Int) = some (m' : Int) ∧ m ≤ m' ∧ m' ≤ m + c
/-! ### weighed -/
/-- what is left, or less than nothing -/
def Weighs {α : Type} (Z : α → Int → Option Int) (size : α → Nat) (x : α) : Prop :=
  ∀ s : Nat, s ≤ 1048576 → ∃ r, Z x (s : Int) = some r ∧ ((r < 0 ∧ s < size x) ∨ (size x ≤ s ∧ r = ((s - size x : Nat) : Int)))
theorem weigh_loop {α : Type} {p : List α} {Z : α → Int → Option Int} {size : α → Nat} (Lp : Nat → Int → Int → Option Int)
    (step : ∀ k s i, Lp (k + 1) s i = if decide (i < (p.length : Int)) then (idx p i).bind fun e => (Z e s).bind fun y => if decide (y < 0) then some (-1) else Lp k y (IntKind.i64.wrap (i + 1)) else some s)
    (hp : p.length ≤ 1048576) (hZ : ∀ x ∈ p, Weighs Z size x) : ∀ s : Nat, s ≤ 1048576 → ∃ r, Lp Fuel (s : Int) 0 = some r ∧ ((r < 0 ∧ s < (p.map size).sum) ∨ ((p.map size).sum ≤ s ∧ r = ((s - (p.map size).sum : Nat) : Int))) := by
  have key : ∀ (d k i s : Nat), p.length - i = d → d < k → i ≤ p.length → s ≤ 1048576 → ∃ r, Lp k (s : Int) (i : Int) = some r ∧ ((r < 0 ∧ s < ((p.drop i).map size).sum) ∨ (((p.drop i).map size).sum ≤ s ∧ r = ((s - ((p.drop i).map size).sum : Nat) : Int))) := by
    intro d
    induction d with
    | zero =>
      intro k i s hd hk hi hs
      obtain ⟨k, rfl⟩ : ∃ q, k = q + 1 := ⟨k - 1, by omega⟩
      rw [step, if_neg (by simp; omega), List.drop_of_length_le (by omega)]
      exact ⟨_, rfl, .inr (by simp)⟩
    | succ d ih =>
      intro k i s hd hk hi hs
      obtain ⟨k, rfl⟩ : ∃ q, k = q + 1 := ⟨k - 1, by omega⟩
      have hlt : i < p.length := by omega
      rw [step, if_pos (by simp; omega), idx_lt hlt]
      simp only [Option.bind_some]
      have hsum : ((p.drop i).map size).sum = size p[i] + ((p.drop (i + 1)).map size).sum := by rw [List.drop_eq_getElem_cons hlt, List.map_cons, List.sum_cons]
      obtain ⟨r, h1, h2⟩ := hZ _ (List.getElem_mem hlt) s hs
      rw [h1]
      simp only [Option.bind_some]
      rcases h2 with ⟨h2, h3⟩ | ⟨h2, rfl⟩
      · rw [if_pos (by simpa using h2)]
        exact ⟨_, rfl, .inl ⟨by omega, by omega⟩⟩
      · rw [if_neg (by simp), wrap_succ (by omega)]
        obtain ⟨r', h4, h5⟩ := ih k (i + 1) (s - size p[i]) (by omega) (by omega) (by omega) (by omega)
        refine ⟨r', h4, ?_⟩
        rcases h5 with ⟨h5, h6⟩ | ⟨h5, h6⟩
        · exact .inl ⟨h5, by omega⟩
        · exact .inr ⟨by omega, by rw [h6]; congr 1; omega⟩
  intro s hs
  have := key p.length Fuel 0 s (by omega) (fuel_gt (by omega)) (by omega) hs
  simpa using this
theorem weigh_list {α : Type} {p : List α} : ∀ s : Nat, s ≤ 1048576 → ∃ r, (if decide ((IntKind.i64.wrap ((s : Int) - (p.length : Int))) < 0) then some (-1) else some (IntKind.i64.wrap ((s : Int) - (p.length : Int)))) = some r ∧ (p.length < 9223372036854775808 → (r < 0 ∧ s < p.length) ∨ (p.length ≤ s ∧ r = ((s - p.length : Nat) : Int))) := by
  intro s hs
  by_cases h : p.length < 9223372036854775808
  · rw [wrap_id (by omega) (by omega)]
    by_cases h1 : s < p.length
    · rw [if_pos (by simp; omega)]; exact ⟨_, rfl, fun _ => .inl ⟨by omega, h1⟩⟩
    · rw [if_neg (by simp; omega)]; exact ⟨_, rfl, fun _ => .inr ⟨by omega, by omega⟩⟩
  · split
    · exact ⟨_, rfl, fun h' => absurd h' h⟩
    · exact ⟨_, rfl, fun h' => absurd h' h⟩
end Go.Vk
/- Bits of words that are not negative; truth of tests. No program in sight. -/
namespace Go.Vk
theorem in_t {x a b : Int} (h : a ≤ x ∧ x ≤ b) : (decide (x ≥ a) && decide (x ≤ b)) = true := by simp; omega
theorem in_f {x a b : Int} (h : ¬ (a ≤ x ∧ x ≤ b)) : (decide (x ≥ a) && decide (x ≤ b)) = false := by
  simp only [Bool.and_eq_false_iff, decide_eq_false_iff_not]; omega
end Go.Vk
/- Loops over a list, as recursion over the list. No program in sight. -/
namespace Go.Vk
/-- a loop over a list: each element either ends it or gives the next state -/
def run {α σ ρ : Type} (f : σ → α → Option ρ ⊕ σ) (fin : σ → Option ρ) : σ → List α → Option ρ
  | s, [] => fin s
  | s, x :: xs => match f s x with
    | .inl r => r
    | .inr s' => run f fin s' xs
end Go.Vk
/- Tests that are answered alike. No program in sight. -/
namespace Go.Vk
/-- the test answers whether P -/
def Dec (o : Option Bool) (P : Prop) : Prop := ∃ b, o = some b ∧ (b = true ↔ P)
theorem Dec.eq {o o' : Option Bool} {P : Prop} (h : Dec o P) (h' : Dec o' P) : o = o' := by
  obtain ⟨b, rfl, h1⟩ := h
  obtain ⟨c, rfl, h2⟩ := h'
  rw [Bool.eq_iff_iff.2 (h1.trans h2.symm)]
theorem Dec.of_iff {o : Option Bool} {P Q : Prop} (h : Dec o P) (e : P ↔ Q) : Dec o Q := by
  obtain ⟨b, rfl, h1⟩ := h
  exact ⟨b, rfl, h1.trans e⟩
theorem Dec.cases {o : Option Bool} {P : Prop} (h : Dec o P) : (o = some true ∧ P) ∨ (o = some false ∧ ¬ P) := by
  obtain ⟨b, rfl, h1⟩ := h
  cases b
  · exact .inr ⟨rfl, fun p => by have := h1.2 p; cases this⟩
  · exact .inl ⟨rfl, h1.1 rfl⟩
theorem dec_t {P : Prop} (h : P) : Dec (some true) P := ⟨true, rfl, by simp [h]⟩
theorem dec_f {P : Prop} (h : ¬ P) : Dec (some false) P := ⟨false, rfl, by simp [h]⟩
theorem dec_in {x a b : Int} : Dec (some (decide (x ≥ a) && decide (x ≤ b))) (a ≤ x ∧ x ≤ b) := ⟨_, rfl, by simp⟩
theorem all_idx {Lp : Nat → Int → Option Bool} {n : Nat} {Q : Nat → Prop} (i0 : Nat) (hz : ∀ k (i : Nat), n ≤ i → Lp (k + 1) (i : Int) = some true)
    (hs : ∀ k (i : Nat), i0 ≤ i → i < n → (Q i ∧ Lp (k + 1) (i : Int) = Lp k ((i + 1 : Nat) : Int)) ∨ (¬ Q i ∧ Lp (k + 1) (i : Int) = some false)) (hn : n < 1000000000000) : Dec (Lp Fuel (i0 : Int)) (∀ i, i0 ≤ i → i < n → Q i) := by
  have key : ∀ (d k i : Nat), n - i = d → d < k → i0 ≤ i → Dec (Lp k (i : Int)) (∀ j, i ≤ j → j < n → Q j) := by
    intro d
    induction d with
    | zero =>
      intro k i hd hk hi
      obtain ⟨k, rfl⟩ : ∃ q, k = q + 1 := ⟨k - 1, by omega⟩
      rw [hz k i (by omega)]
      exact dec_t fun j h1 h2 => by omega
    | succ d ih =>
      intro k i hd hk hi
      obtain ⟨k, rfl⟩ : ∃ q, k = q + 1 := ⟨k - 1, by omega⟩
      rcases hs k i hi (by omega) with ⟨hq, e⟩ | ⟨hq, e⟩
      · rw [e]
        refine (ih k (i + 1) (by omega) (by omega) (by omega)).of_iff ⟨fun h j h1 h2 => ?_, fun h j h1 h2 => h j (by omega) h2⟩
        by_cases hj : j = i
        · rw [hj]; exact hq
        · exact h j (by omega) h2
      · rw [e]
        exact dec_f fun h => hq (h i (Nat.le_refl _) (by omega))
  exact key (n - i0) Fuel i0 rfl (fuel_gt (by omega)) (Nat.le_refl _)
/-- the first place where it holds, or less than nothing -/
theorem find_idx {Lp : Nat → Int → Option Int} {n : Nat} {Q : Nat → Prop} (hz : ∀ k (i : Nat), n ≤ i → Lp (k + 1) (i : Int) = some (-1))
    (hs : ∀ k (i : Nat), i < n → (Q i ∧ Lp (k + 1) (i : Int) = some (i : Int)) ∨ (¬ Q i ∧ Lp (k + 1) (i : Int) = Lp k ((i + 1 : Nat) : Int))) (hn : n < 1000000000000) :
    Dec ((Lp Fuel 0).bind fun y => some (decide (y ≥ 0))) (∃ i, i < n ∧ Q i) := by
  have key : ∀ (d k i : Nat), n - i = d → d < k → Dec ((Lp k (i : Int)).bind fun y => some (decide (y ≥ 0))) (∃ j, i ≤ j ∧ j < n ∧ Q j) := by
    intro d
    induction d with
    | zero =>
      intro k i hd hk
      obtain ⟨k, rfl⟩ : ∃ q, k = q + 1 := ⟨k - 1, by omega⟩
      rw [hz k i (by omega)]
      exact dec_f fun ⟨j, h1, h2, _⟩ => by omega
    | succ d ih =>
      intro k i hd hk
      obtain ⟨k, rfl⟩ : ∃ q, k = q + 1 := ⟨k - 1, by omega⟩
      rcases hs k i (by omega) with ⟨hq, e⟩ | ⟨hq, e⟩
      · rw [e]
        exact ⟨true, by simp, by simp; exact ⟨i, Nat.le_refl _, by omega, hq⟩⟩
      · rw [e]
        refine (ih k (i + 1) (by omega) (by omega)).of_iff ⟨fun ⟨j, h1, h2, h3⟩ => ⟨j, by omega, h2, h3⟩, fun ⟨j, h1, h2, h3⟩ => ⟨j, ?_, h2, h3⟩⟩
        by_cases hj : j = i
        · rw [hj] at h3; exact absurd h3 hq
        · omega
  refine (key n Fuel 0 rfl (fuel_gt (by omega))).of_iff ⟨fun ⟨j, _, h2, h3⟩ => ⟨j, h2, h3⟩, fun ⟨j, h2, h3⟩ => ⟨j, Nat.zero_le _, h2, h3⟩⟩
end Go.Vk
/- The statement's frame: arguments opened, the row's last step. -/
namespace Go.Vk
open Go.RowKit Go.WideShapes Go.ChangeShapes Go.Deep
section
variable {H : Type} {enc : TypeId × Value → H} {P : Program}
theorem trod_below {W W' : World} (hb : Below W.heap.size W W') {sp : Nat → Bool} {held : Bool} {n : Nat} {t : TypeId} {cs : List Value} {x : DataW H × List MemPlace} (h : DataW.trod enc P W 0 sp held n t cs = some x) : DataW.trod enc P W' 0 sp held n t cs = some x :=
  DataW.trod_carry n t cs x h (fun p hp => hb.same (DataW.trod_lt n t cs x h p hp))
theorem trodAll_below {W W' : World} (hb : Below W.heap.size W W') {sp : Nat → Bool} {held : Bool} : ∀ {ts : List TypeId} {vs : List Value} {ds : List (DataW H)} {ps : List MemPlace}, DataW.TrodAll enc P W 0 sp held ts vs ds ps → DataW.TrodAll enc P W' 0 sp held ts vs ds ps
  | [], [], [], _, h => h
  | _ :: _, _ :: _, _ :: _, _, ⟨p, q, ⟨n, h1⟩, h2, e⟩ => ⟨p, q, ⟨n, trod_below hb h1⟩, trodAll_below hb h2, e⟩
def fullB (P : Program) : Bool := (List.range P.types.size).all fun t => match P.underlying t with | some (.slice e) => decide (0 < P.cellsOf e) | _ => true
/-- the law answered true, and nothing that stood has changed -/
theorem law_post {f : Func} {s : ChangeSpec} {apart fresh handsOn again : Bool} {W W' : World} {args : Array Value} {ds gs : List (DataW H)} {before : List MemPlace} {tb : TypeId}
    (hW : DataW.Whole enc P f.params.toList s.vars apart W args.toList ds gs before) (hv : s.vars = []) (hl : laidOutB P = true) (hm : mapsRowed P = true) (hz : fullB P = true) (hT : ∀ t ∈ f.params.toList, t < P.types.size)
    (hr : f.resultTypes = #[tb]) (htb : P.underlying tb = some .bool) (hfn : s.fn H ds = { results := [.lit (.bool true)], args := ds }) (hb : Below W.heap.size W W') :
    s.post enc P f apart fresh handsOn again W args (.bool true) W' := by
  have hlt : ∀ p ∈ before, p.block < W.heap.size := fun p hp => hW.lt p hp
  have hW' := hW
  obtain ⟨pa, pv, hA, hV, rfl, hfz, hnd⟩ := hW'
  rw [hv] at hV
  obtain ⟨rfl, rfl⟩ := trodVars_none hV
  have hfn' : s.fn H (ds ++ []) = { results := [.lit (.bool true)], args := ds } := by rw [List.append_nil]; exact hfn
  have hA' := trodAll_below hb hA
  have hsp : ∀ sp : Nat → Bool, (∀ p ∈ pa, sp p.block = true) → DataW.TrodAll enc P W' 0 sp true f.params.toList args.toList ds pa := fun sp h =>
    DataW.TrodAll.respare (kids_rows hl hm) (slices_full_of P hz) hT hA' h
  have hres : ∀ (b : Nat) (sp : Nat → Bool) (hd : Bool), DataW.TrodAll enc P W' b sp hd f.resultTypes.toList ((Value.bool true).resultList f.resultTypes.size) [.lit (.bool true)] [] := fun b sp hd => by
    rw [hr]; exact trodAll_mk1 (shut_bool htb _)
  refine ⟨ds, [], pa ++ [], [], pa, [], hW, ?_, ?_, ?_, World.keptBut_mono (fun p hp => ⟨hp, ?_⟩) (hb.frame (· ∈ pa ++ [])), fun _ => ?_⟩
  · rw [hfn']; exact hres _ _ _
  · rw [hfn']; exact hsp _ (fun p hp => by simpa using hlt p (by simpa using hp))
  · rw [hfn', hv]; exact rfl
  · simpa using hp
  · refine ⟨?_, _, [], ([] ++ pa) ++ [], ⟨[] ++ pa, [], trodAll_append (hsp _ (fun _ _ => rfl)) (hres _ _ _), ?_, rfl, ?_, ?_⟩, ?_⟩
    · exact ok_one hr rfl (okWide_bool_mk htb _)
    · rw [hv]; exact rfl
    · intro b off hp
      have hin : MemPlace.cell b off ∈ pa := by simpa using hp
      rw [hb.frozen (hlt _ (by simpa using hin))]
      exact hfz b off (by simpa using hin)
    · intro ha
      have := hnd ha
      simpa using this
    · intro p hp _
      simpa using hp
/-! ### arguments opened -/
/-- what the reader of a statement finds is what the walk wants -/
def Opn {α : Type} (P : Program) (t : TypeId) (e : Enc α) (Ok : α → Prop) : Prop :=
  ∀ {H : Type} {enc : TypeId × Value → H} {w : World} {sp : Nat → Bool} {n : Nat} {cs : List Value} {x : DataW H × List MemPlace}, DataW.trod enc P w 0 sp true n t cs = some x → ∃ a, e.rd w [] a cs ∧ Ok a
def IntOk (k : IntKind) (n : Int) : Prop := (Lit.int k n).wf = true
theorem opn_int {t : TypeId} {k : IntKind} (ht : isInt P t k) : Opn P t (eVal (Value.int k) (fun _ => rfl)) (IntOk k) := fun {H enc w sp n cs x} h => by
  have ht' : P.underlying t = some (.int k) := ht
  cases n with
  | zero => simp [DataW.trod] at h
  | succ n =>
    unfold DataW.trod at h
    rw [ht'] at h
    split at h <;> simp_all
    case h_2 heq =>
      obtain ⟨⟨rfl, h2⟩, _⟩ := h
      exact ⟨_, rfl, h2⟩
theorem opn_bool {t : TypeId} (ht : P.underlying t = some .bool) : Opn P t eBool (fun _ => True) := fun {H enc w sp n cs x} h => by
  cases n with
  | zero => simp [DataW.trod] at h
  | succ n =>
    unfold DataW.trod at h
    rw [ht] at h
    split at h <;> simp_all
    case h_1 => rename_i b; cases b <;> first | exact .inl rfl | exact .inr rfl
theorem opn_str {t : TypeId} (ht : isStr P t) : Opn P t eStr (fun s => s.length ≤ maxLen) := fun {H enc w sp n cs x} h => by
  have ht' : P.underlying t = some .string := ht
  cases n with
  | zero => simp [DataW.trod] at h
  | succ n =>
    unfold DataW.trod at h
    rw [ht'] at h
    split at h <;> simp_all
    case h_4 =>
      rename_i s
      obtain ⟨⟨d⟩⟩ := s
      exact ⟨d, rfl, h.1⟩
theorem cells_at {w : World} {a : Addr} {n : Nat} {cs : List Value} (h : w.cells? 0 a n = some cs) : At w [] a cs ∧ cs.length = n := by
  unfold World.cells? at h
  rw [if_pos (Nat.zero_le _)] at h
  have hl : cs.length = n := by simpa using mapM_some_length h
  refine ⟨⟨fun _ => by simp, fun j v hv => ?_⟩, hl⟩
  have hj : j < n := by rw [← hl]; exact (List.getElem?_eq_some_iff.1 hv).1
  have := mapM_some_get h j j (by simp [hj])
  rw [this, hv]
theorem opn_list {α : Type} {e : Enc α} {Ok : α → Prop} {t et : TypeId} (ht : isSl P t et) (he : Opn P et e Ok) (hc : P.cellsOf et = e.sz) : Opn P t (eList e et) (fun xs => xs.length ≤ maxLen ∧ ∀ x ∈ xs, Ok x) := fun {H enc w sp n cs x} h => by
  rcases open_slice ht h with ⟨rfl, _⟩ | ⟨a, len, cap, m, n', D, Pl, rfl, _, hl, hm, hmm, _, hel⟩
  · exact ⟨[], rd_none, by simp, by simp⟩
  · have hex : ∀ i, i < len → ∃ y, (∃ ds, e.rd w [] y ds ∧ At w [] (a.add (i * e.sz)) ds) ∧ Ok y := fun i hi => by
      obtain ⟨cs', h1, h2⟩ := hel i (by rw [hmm]; split <;> omega)
      obtain ⟨y, h3, h4⟩ := he h2
      exact ⟨y, ⟨cs', h3, by rw [← hc]; exact (cells_at h1).1⟩, h4⟩
    have : ∃ xs : List α, xs.length = len ∧ ∀ i x, xs[i]? = some x → (∃ ds, e.rd w [] x ds ∧ At w [] (a.add (i * e.sz)) ds) ∧ Ok x := by
      clear hl hm hmm hel h
      rename_i hx0
      clear hx0
      induction len with
      | zero => exact ⟨[], rfl, by simp⟩
      | succ k ih =>
        obtain ⟨xs, h1, h2⟩ := ih (fun i hi => hex i (by omega))
        obtain ⟨y, hy⟩ := hex k (by omega)
        refine ⟨xs ++ [y], by simp [h1], fun i x hx => ?_⟩
        by_cases hi : i < k
        · rw [List.getElem?_append_left (by omega)] at hx; exact h2 i x hx
        · have hik : i = k := by
            have := (List.getElem?_eq_some_iff.1 hx).1
            simp [h1] at this; omega
          subst hik
          rw [List.getElem?_append_right (by omega), h1] at hx
          simp at hx; subst hx; exact hy
    obtain ⟨xs, hlen, hxs⟩ := this
    refine ⟨xs, ⟨some a, cap, by rw [hlen], by omega, hm, fun _ => ⟨a, rfl, fun i x hx => (hxs i x hx).1⟩⟩, by omega, fun x hx => ?_⟩
    obtain ⟨i, hi⟩ := List.mem_iff_getElem?.1 hx
    exact (hxs i x hi).2
theorem cells_sl {w : World} {r : Reach} {b0 : Nat} {t et : TypeId} {v : Value} (ht : isSl P t et) (h : Value.okWide P w r b0 t v) : v.cells.toList = [v] := by
  have ht' : P.underlying t = some (.slice et) := ht
  cases v with
  | agg cs => simp [Value.okWide, ht', Cell.okWide, Cell.ok] at h
  | _ => rfl
/-- an argument that is a slice -/
theorem arg_sl {α : Type} {e : Enc α} {Ok : α → Prop} {w : World} {r : Reach} {b0 : Nat} {t et : TypeId} {v : Value} {d : DataW H} {ps : List MemPlace} (ht : isSl P t et) (ho : Opn P t e Ok) (h : Value.okWide P w r b0 t v) (hd : DataW.Trod enc P w 0 (fun _ => true) true t v d ps) : ∃ a, e.rd w [] a [v] ∧ Ok a := by
  obtain ⟨n, hd⟩ := hd
  rw [cells_sl ht h] at hd
  exact ho hd
end
end Go.Vk
/- Arguments that are structs, opened. -/
namespace Go.Vk
open Go.RowKit Go.WideShapes Go.ChangeShapes Go.Deep
section
variable {H : Type} {enc : TypeId × Value → H} {P : Program}
/-- a struct's fields: type and offset -/
def fieldsOf (P : Program) (t : TypeId) : Option (List (TypeId × Nat)) :=
  match P.underlying t with
  | some (.struct fs) => some (fs.toList.map fun f => (f.type, f.offset))
  | _ => none
def OpnF {α : Type} (P : Program) (fs : List (TypeId × Nat)) (o : Nat) (e : Enc α) (Ok : α → Prop) : Prop :=
  ∀ {H : Type} {enc : TypeId × Value → H} {w : World} {sp : Nat → Bool} {cs : List Value}, cs.length = e.sz →
    (∀ f ∈ fs, o ≤ f.2 ∧ ∃ n x, DataW.trod enc P w 0 sp true n f.1 ((cs.drop (f.2 - o)).take (P.cellsOf f.1)) = some x) → ∃ a, e.rd w [] a cs ∧ Ok a
theorem opnF_one {α : Type} {t : TypeId} {o : Nat} {e : Enc α} {Ok : α → Prop} (he : Opn P t e Ok) (hc : P.cellsOf t = e.sz) : OpnF P [(t, o)] o e Ok := fun {H enc w sp cs} hl h => by
  obtain ⟨_, n, x, hx⟩ := h _ (List.mem_singleton.2 rfl)
  rw [Nat.sub_self, List.drop_zero, hc, List.take_of_length_le (by omega)] at hx
  exact he hx
theorem opnF_cons {α β : Type} {t : TypeId} {o : Nat} {fs : List (TypeId × Nat)} {e : Enc α} {Ok : α → Prop} {e2 : Enc β} {Ok2 : β → Prop} (he : Opn P t e Ok) (hc : P.cellsOf t = e.sz)
    (h2 : OpnF P fs (o + e.sz) e2 Ok2) (hf : (fs.all fun f => decide (o + e.sz ≤ f.2)) = true) : OpnF P ((t, o) :: fs) o (ePair e e2) (fun x => Ok x.1 ∧ Ok2 x.2) := fun {H enc w sp cs} hl h => by
  have hl' : cs.length = e.sz + e2.sz := hl
  obtain ⟨_, n, x, hx⟩ := h _ (List.mem_cons_self ..)
  rw [Nat.sub_self, List.drop_zero, hc] at hx
  obtain ⟨a, ha, hok⟩ := he hx
  obtain ⟨b, hb, hok2⟩ := h2 (enc := enc) (w := w) (sp := sp) (cs := cs.drop e.sz) (by simp; omega) (fun f hm => by
    have hle : o + e.sz ≤ f.2 := by simpa using List.all_eq_true.1 hf f hm
    obtain ⟨_, n, x, hx⟩ := h f (List.mem_cons_of_mem _ hm)
    refine ⟨hle, n, x, ?_⟩
    rw [List.drop_drop, show e.sz + (f.2 - (o + e.sz)) = f.2 - o by omega]
    exact hx)
  have := ePair_rd ha hb
  rw [List.take_append_drop] at this
  exact ⟨(a, b), this, hok, hok2⟩
theorem opn_struct {α : Type} {t : TypeId} {fs : List (TypeId × Nat)} {e : Enc α} {Ok : α → Prop} (hf : fieldsOf P t = some fs) (ho : OpnF P fs 0 e Ok) (hc : P.cellsOf t = e.sz) : Opn P t e Ok := fun {H enc w sp n cs x} h => by
  unfold fieldsOf at hf
  split at hf
  · rename_i gs hgs
    obtain rfl := Option.some.inj hf
    obtain ⟨xs, m, _, _, hl, hxl, hg⟩ := DataW.trod_struct hgs h
    refine ho (enc := enc) (sp := sp) (by rw [hl, hc]) fun f hm => ⟨Nat.zero_le _, m, ?_⟩
    obtain ⟨g, hgm, rfl⟩ := List.mem_map.1 hm
    obtain ⟨i, hi⟩ := List.mem_iff_getElem?.1 hgm
    have hi' : gs[i]? = some g := by simpa using hi
    have hlt : i < gs.size := (Array.getElem?_eq_some_iff.1 hi').1
    refine ⟨xs[i]'(by omega), ?_⟩
    have := hg i g hi'
    rw [List.getElem?_eq_getElem (by omega)] at this
    simpa using this
  · exact absurd hf (by simp)
theorem opn_iso {α β : Type} {t : TypeId} {e : Enc α} {Ok : α → Prop} {g : β → α} (he : Opn P t e Ok) (s : α → β) (hs : ∀ a, g (s a) = a) : Opn P t (eIso e g) (fun x => Ok (g x)) := fun {H enc w sp n cs x} h => by
  obtain ⟨a, ha, hok⟩ := he h
  exact ⟨s a, by show e.rd w [] (g (s a)) cs; rw [hs]; exact ha, by show Ok (g (s a)); rw [hs]; exact hok⟩
theorem opn_map {α β : Type} {t : TypeId} {e : Enc α} {Ok : α → Prop} {e' : Enc β} {Ok' : β → Prop} (he : Opn P t e Ok) (s : α → β) (hm : ∀ {w : World} {a : α} {cs : List Value}, e.rd w [] a cs → e'.rd w [] (s a) cs) (hk : ∀ {a}, Ok a → Ok' (s a)) : Opn P t e' Ok' := fun {H enc w sp n cs x} h => by
  obtain ⟨a, ha, hok⟩ := he h
  exact ⟨s a, hm ha, hk hok⟩
/-- an argument that is a struct -/
theorem arg_struct {α : Type} {e : Enc α} {Ok : α → Prop} {w : World} {r : Reach} {b0 : Nat} {t : TypeId} {fs : List (TypeId × Nat)} {v : Value} {d : DataW H} {ps : List MemPlace} (hf : fieldsOf P t = some fs) (ho : Opn P t e Ok)
    (h : Value.okWide P w r b0 t v) (hd : DataW.Trod enc P w 0 (fun _ => true) true t v d ps) : ∃ a cs, v = .agg cs.toArray ∧ e.rd w [] a cs ∧ Ok a := by
  unfold fieldsOf at hf
  split at hf
  · rename_i gs hgs
    obtain ⟨cs, rfl, _⟩ := okWide_struct hgs h
    obtain ⟨n, hd⟩ := hd
    obtain ⟨a, ha, hok⟩ := ho hd
    exact ⟨a, cs.toList, by simp, ha, hok⟩
  · exact absurd hf (by simp)
end
end Go.Vk
/- What the statement's frame says of whole numbers. -/
namespace Go.Vk
theorem i64_of {n : Int} (h : IntOk .i64 n) : -9223372036854775808 ≤ n ∧ n ≤ 9223372036854775807 := by
  simp only [IntOk, Lit.wf] at h
  have h1 : IntKind.i64.min ≤ n ∧ n ≤ IntKind.i64.max := by simpa using h
  exact h1
theorem lt63 {n : Nat} (h : n ≤ maxLen) : n < 9223372036854775808 := Nat.lt_of_le_of_lt h (by decide)
end Go.Vk
/- Loops by index; sums. No program in sight. -/
namespace Go.Vk
theorem mem_sum {α : Type} {f : α → Nat} {p : List α} {x : α} (h : x ∈ p) : f x ≤ (p.map f).sum := by
  induction p with
  | nil => cases h
  | cons y p ih =>
    simp only [List.map_cons, List.sum_cons]
    rcases List.mem_cons.1 h with rfl | h
    · omega
    · have := ih h; omega
/-- a loop that goes on while Q holds -/
theorem if_idx {ρ : Type} {Lp : Nat → Nat → Option ρ} {n : Nat} {Q : Nat → Prop} {fin bad : Option ρ} (hz : ∀ k, (∀ j, j < n → Q j) → Lp (k + 1) n = fin)
    (hs : ∀ k i, i < n → (∀ j, j < i → Q j) → (Q i ∧ Lp (k + 1) i = Lp k (i + 1)) ∨ (¬ Q i ∧ Lp (k + 1) i = bad)) (hn : n < 1000000000000) :
    ((∀ j, j < n → Q j) ∧ Lp Fuel 0 = fin) ∨ ((¬ ∀ j, j < n → Q j) ∧ Lp Fuel 0 = bad) := by
  have key : ∀ (d k i : Nat), n - i = d → d < k → i ≤ n → (∀ j, j < i → Q j) → ((∀ j, j < n → Q j) ∧ Lp k i = fin) ∨ ((¬ ∀ j, j < n → Q j) ∧ Lp k i = bad) := by
    intro d
    induction d with
    | zero =>
      intro k i hd hk hi hq
      obtain ⟨k, rfl⟩ : ∃ q, k = q + 1 := ⟨k - 1, by omega⟩
      have : i = n := by omega
      subst this
      exact .inl ⟨hq, hz k hq⟩
    | succ d ih =>
      intro k i hd hk hi hq
      obtain ⟨k, rfl⟩ : ∃ q, k = q + 1 := ⟨k - 1, by omega⟩
      rcases hs k i (by omega) hq with ⟨h1, h2⟩ | ⟨h1, h2⟩
      · rw [h2]
        exact ih k (i + 1) (by omega) (by omega) (by omega) (fun j hj => by
          by_cases h : j = i
          · subst h; exact h1
          · exact hq j (by omega))
      · exact .inr ⟨fun g => h1 (g i (by omega)), h2⟩
  exact key n Fuel 0 rfl (fuel_gt hn) (Nat.zero_le _) (fun j hj => by omega)
theorem for_idx {ρ : Type} {Lp : Nat → Nat → Option ρ} {n : Nat} {fin : Option ρ} (hz : ∀ k, Lp (k + 1) n = fin) (hs : ∀ k i, i < n → Lp (k + 1) i = Lp k (i + 1)) (hn : n < 1000000000000) : Lp Fuel 0 = fin := by
  rcases if_idx (Lp := Lp) (n := n) (Q := fun _ => True) (fin := fin) (bad := none) (fun k _ => hz k) (fun k i hi _ => .inl ⟨trivial, hs k i hi⟩) hn with ⟨_, h⟩ | ⟨h, _⟩
  · exact h
  · exact absurd (fun _ _ => trivial) h
theorem dec_idx {Lp : Nat → Nat → Option Bool} {n : Nat} {Q : Nat → Prop} {F : Prop} (hz : ∀ k, (∀ j, j < n → Q j) → Dec (Lp (k + 1) n) F)
    (hs : ∀ k i, i < n → (∀ j, j < i → Q j) → (Q i ∧ Lp (k + 1) i = Lp k (i + 1)) ∨ (¬ Q i ∧ Lp (k + 1) i = some false)) (hn : n < 1000000000000) : Dec (Lp Fuel 0) ((∀ j, j < n → Q j) ∧ F) := by
  have key : ∀ (d k i : Nat), n - i = d → d < k → i ≤ n → (∀ j, j < i → Q j) → Dec (Lp k i) ((∀ j, j < n → Q j) ∧ F) := by
    intro d
    induction d with
    | zero =>
      intro k i hd hk hi hq
      obtain ⟨k, rfl⟩ : ∃ q, k = q + 1 := ⟨k - 1, by omega⟩
      have : i = n := by omega
      subst this
      exact (hz k hq).of_iff ⟨fun h => ⟨hq, h⟩, fun h => h.2⟩
    | succ d ih =>
      intro k i hd hk hi hq
      obtain ⟨k, rfl⟩ : ∃ q, k = q + 1 := ⟨k - 1, by omega⟩
      rcases hs k i (by omega) hq with ⟨h1, h2⟩ | ⟨h1, h2⟩
      · rw [h2]
        exact ih k (i + 1) (by omega) (by omega) (by omega) (fun j hj => by
          by_cases h : j = i
          · subst h; exact h1
          · exact hq j (by omega))
      · rw [h2]
        exact dec_f fun g => h1 (g.1 i (by omega))
  exact key n Fuel 0 rfl (fuel_gt hn) (Nat.zero_le _) (fun j hj => by omega)
theorem sum_take {p : List Int} {i : Nat} (h : i < p.length) : (p.take (i + 1)).sum = (p.take i).sum + p[i] := by
  rw [List.take_succ_eq_append_getElem h, List.sum_append]
  simp
theorem sum_bound {p : List Int} {b : Int} (hb : ∀ x ∈ p, 0 ≤ x ∧ x ≤ b) : 0 ≤ p.sum ∧ p.sum ≤ b * p.length := by
  induction p with
  | nil => simp
  | cons x p ih =>
    have h1 := hb x (by simp)
    have h2 := ih (fun y hy => hb y (by simp [hy]))
    simp only [List.sum_cons, List.length_cons]
    have : b * ((p.length + 1 : Nat) : Int) = b * p.length + b := by rw [Int.natCast_add, Int.mul_add]; simp
    omega
theorem mem_take {α : Type} {p : List α} {i : Nat} {x : α} (h : x ∈ p.take i) : x ∈ p := List.mem_of_mem_take h
/-- a loop that adds up -/
theorem sum_loop {α ρ : Type} {p : List α} (v : α → Int) (Lp : Nat → Int → Int → Option ρ) (fin : Int → Option ρ) (hz : ∀ k s, Lp (k + 1) s (p.length : Int) = fin s)
    (hs : ∀ k s (i : Nat) (h : i < p.length), Lp (k + 1) s (i : Int) = Lp k (IntKind.i64.wrap (s + v p[i])) ((i + 1 : Nat) : Int)) (hb : ∀ x ∈ p, 0 ≤ v x ∧ v x ≤ 1000000000) (hl : p.length ≤ 1000000000) : Lp Fuel 0 0 = fin (p.map v).sum := by
  have hb' : ∀ x ∈ p.map v, 0 ≤ x ∧ x ≤ 1000000000 := fun x hx => by
    obtain ⟨y, hy, rfl⟩ := List.mem_map.1 hx
    exact hb y hy
  have := for_idx (Lp := fun k i => Lp k ((p.map v).take i).sum (i : Int)) (n := p.length) (fin := fin (p.map v).sum) (fun k => by
    show Lp _ _ _ = _
    rw [hz, List.take_of_length_le (by simp)]) (fun k i hi => by
    show Lp _ _ _ = Lp _ _ _
    have h1 := sum_bound (p := (p.map v).take (i + 1)) (b := 1000000000) (fun x hx => hb' x (mem_take hx))
    rw [hs _ _ _ hi]
    rw [sum_take (by simpa using hi)] at h1 ⊢
    rw [List.getElem_map] at h1 ⊢
    have h2 : ((p.map v).take (i + 1)).length ≤ 1000000000 := by simp; omega
    rw [wrap_id (by omega) (by omega)]) (by omega)
  simpa using this
/-- two lists compared, element by element -/
theorem same_dec {α β : Type} {p : List α} {q : List β} {D : α → β → Prop} {o : Option Bool} (Lp : Nat → Int → Option Bool) (ho : o = if ((p.length : Int) != (q.length : Int)) then some false else Lp Fuel 0) (hz : ∀ k, Lp (k + 1) (p.length : Int) = some true)
    (hs : ∀ k (i : Nat) (hp : i < p.length) (hq : i < q.length), (D p[i] q[i] ∧ Lp (k + 1) (i : Int) = Lp k ((i + 1 : Nat) : Int)) ∨ (¬ D p[i] q[i] ∧ Lp (k + 1) (i : Int) = some false)) (hl : p.length < 1000000000000) :
    Dec o (p.length = q.length ∧ ∀ i, (hp : i < p.length) → (hq : i < q.length) → D p[i] q[i]) := by
  rw [ho]
  by_cases h : p.length = q.length
  · rw [if_neg (by simp [h])]
    refine (dec_idx (Lp := fun k i => Lp k (i : Int)) (n := p.length) (Q := fun i => ∀ (hp : i < p.length) (hq : i < q.length), D p[i] q[i]) (F := True) (fun k _ => ?_) (fun k i hi _ => ?_) hl).of_iff ⟨fun g => ⟨h, fun i hp hq => g.1 i hp hp hq⟩, fun g => ⟨fun i _ => g.2 i, trivial⟩⟩
    · show Dec (Lp (k + 1) _) _
      rw [hz]; exact dec_t trivial
    · rcases hs k i hi (by omega) with ⟨h1, h2⟩ | ⟨h1, h2⟩
      · exact .inl ⟨fun _ _ => h1, h2⟩
      · exact .inr ⟨fun g => h1 (g _ _), h2⟩
  · rw [if_pos (by simp; omega)]
    exact dec_f fun g => h g.1
theorem eq_dec {α : Type} {p q : List α} {o : Option Bool} (Lp : Nat → Int → Option Bool) (ho : o = if ((p.length : Int) != (q.length : Int)) then some false else Lp Fuel 0) (hz : ∀ k, Lp (k + 1) (p.length : Int) = some true)
    (hs : ∀ k (i : Nat) (hp : i < p.length) (hq : i < q.length), (p[i] = q[i] ∧ Lp (k + 1) (i : Int) = Lp k ((i + 1 : Nat) : Int)) ∨ (¬ p[i] = q[i] ∧ Lp (k + 1) (i : Int) = some false)) (hl : p.length < 1000000000000) : Dec o (p = q) :=
  (same_dec (D := fun a b => a = b) Lp ho hz hs hl).of_iff ⟨fun ⟨h1, h2⟩ => List.ext_getElem h1 h2, fun h => by subst h; exact ⟨rfl, fun _ _ _ => rfl⟩⟩
theorem Dec.and {o o' : Option Bool} {P Q : Prop} (h : Dec o P) (h' : P → Dec o' Q) : Dec (o.bind fun y => if y then o' else some false) (P ∧ Q) := by
  rcases h.cases with ⟨rfl, p⟩ | ⟨rfl, p⟩
  · exact (h' p).of_iff ⟨fun q => ⟨p, q⟩, fun q => q.2⟩
  · exact dec_f fun q => p q.1
end Go.Vk
/- Marks, step by step. No program in sight. -/
namespace Go.Vk
end Go.Vk
namespace Go.Vk
end Go.Vk
/- What always answers. No program in sight. -/
namespace Go.Vk
/-- it answers, and what it answers has Q -/
def Tot {α : Type} (o : Option α) (Q : α → Prop) : Prop := ∃ v, o = some v ∧ Q v
theorem Tot.mono {α : Type} {o : Option α} {P Q : α → Prop} (h : Tot o P) (k : ∀ v, P v → Q v) : Tot o Q := by
  obtain ⟨v, e, h⟩ := h
  exact ⟨v, e, k v h⟩
theorem tot_some {α : Type} {v : α} {Q : α → Prop} (h : Q v) : Tot (some v) Q := ⟨v, rfl, h⟩
theorem Tot.bind {α β : Type} {o : Option α} {f : α → Option β} {P : α → Prop} {Q : β → Prop} (h : Tot o P) (k : ∀ v, P v → Tot (f v) Q) : Tot (o.bind f) Q := by
  obtain ⟨v, rfl, h⟩ := h
  exact k v h
/-- a counted loop -/
theorem tot_for {σ ρ : Type} (Lp : Nat → σ → Int → Option ρ) (n : Nat) (I : Nat → σ → Prop) {Q : ρ → Prop}
    (hz : ∀ k s, I n s → Tot (Lp (k + 1) s (n : Int)) Q)
    (hs : ∀ k s i, i < n → I i s → (∀ s', I (i + 1) s' → Tot (Lp k s' ((i + 1 : Nat) : Int)) Q) → Tot (Lp (k + 1) s (i : Int)) Q)
    (hn : n < 1000000000000) {s : σ} (h0 : I 0 s) : Tot (Lp Fuel s 0) Q := by
  have key : ∀ (d k i : Nat) (s : σ), n - i = d → d < k → i ≤ n → I i s → Tot (Lp k s (i : Int)) Q := by
    intro d
    induction d with
    | zero =>
      intro k i s hd hk hi h
      obtain ⟨k, rfl⟩ : ∃ q, k = q + 1 := ⟨k - 1, by omega⟩
      have : i = n := by omega
      subst this
      exact hz k s h
    | succ d ih =>
      intro k i s hd hk hi h
      obtain ⟨k, rfl⟩ : ∃ q, k = q + 1 := ⟨k - 1, by omega⟩
      exact hs k s i (by omega) h (fun s' h' => ih k (i + 1) s' (by omega) (by omega) (by omega) h')
  exact key n Fuel 0 s (by omega) (fuel_gt hn) (Nat.zero_le _) h0
/-- a loop that appends what it makes of each element -/
theorem map_loop {α β ρ : Type} {p : List α} (g : α → β) (Lp : Nat → List β → Int → Option ρ) (fin : List β → Option ρ)
    (hz : ∀ k l, Lp (k + 1) l (p.length : Int) = fin l)
    (hs : ∀ k l (i : Nat) (h : i < p.length), l.length = i → Lp (k + 1) l (i : Int) = Lp k (l ++ [g p[i]]) ((i + 1 : Nat) : Int))
    (hp : p.length < 1000000000000) : Lp Fuel [] 0 = fin (p.map g) := by
  have key : ∀ (d k i : Nat), p.length - i = d → d < k → i ≤ p.length → Lp k ((p.take i).map g) (i : Int) = fin (p.map g) := by
    intro d
    induction d with
    | zero =>
      intro k i hd hk hi
      obtain ⟨k, rfl⟩ : ∃ q, k = q + 1 := ⟨k - 1, by omega⟩
      have : i = p.length := by omega
      subst this
      rw [hz, List.take_length]
    | succ d ih =>
      intro k i hd hk hi
      obtain ⟨k, rfl⟩ : ∃ q, k = q + 1 := ⟨k - 1, by omega⟩
      have hlt : i < p.length := by omega
      rw [hs k _ i hlt (by simp; omega), ← ih k (i + 1) (by omega) (by omega) (by omega), List.take_succ_eq_append_getElem hlt, List.map_append]
      rfl
  exact key p.length Fuel 0 (by omega) (fuel_gt hp) (Nat.zero_le _)
end Go.Vk
/- A slice whose elements were handed over, and that is read on. A literal that holds what is borrowed. -/
namespace Go.Vk
open Go.RowKit
variable {P : Program} {n : Nat} {C : World → Prop} {E : Env} {m : Md} {l rest : List Oper} {w0 w : World} {M : List Nat} {L : List Res} {Q : Exit → Act → World → Prop}
end Go.Vk
/- The steps of a walk, said shortly. -/
namespace Go.Vk
variable {P : Program} {n : Nat} {C : World → Prop} {E : Env} {m : Md} {l rest : List Oper} {w0 : World} {M : List Nat} {L : List Res} {Q : Exit → Act → World → Prop}
theorem bE {α β : Type} {o : Option α} {f : α → Option β} {r : β} {G : Prop} (h : o.bind f = some r) (k : ∀ z, o = some z → f z = some r → G) : G := by
  obtain ⟨z, h1, h2⟩ := of_bind h
  exact k z h1 h2
theorem cI {α : Type} {x : Operand} {c d : Code} {b : Bool} {A B r : Option α} (H : (if b then A else B) = r) (hx : ev E x = some (.bool b)) (ht : A = r → CW P n C E Q c) (hf : B = r → CW P n C E Q d) : CW P n C E Q (.cond x c d) :=
  c_if hx (fun hb => ht (of_if_t hb H)) (fun hb => hf (of_if_f hb H))
theorem o1 {o : Oper} {v : Value} (h : (wt l E o.guard, dstOk n o.dst) = (some true, true)) (hq : Ry P n (m.cls C) E o v) (k : OW P n l C (upd E o.dst v) m rest) : OW P n l C E m (o :: rest) := by
  obtain ⟨h1, h2⟩ := Prod.mk.inj h
  exact ow_r h1 (dstOk_lt h2) hq k
theorem r1 (off i : Nat) {o : Oper} {t : TypeId} {x : Operand} {b : Nat} {v : Value} {sz by_ : Nat} {z : List Value} {T : TypeId} {cs : List Value} (h1 : (o.op, ev E x) = (.load t x, some (.pointer (some ⟨b, off, none⟩)))) (ht : isTy P t false sz by_ z)
    (h2 : (L[i]?, cs[off]?) = (some (Res.box b T cs), some v)) : Ry P n (St w0 M L) E o v := by
  obtain ⟨h1, h3⟩ := Prod.mk.inj h1
  obtain ⟨h2, h4⟩ := Prod.mk.inj h2
  exact ry_box1 h1 h3 ht (boxIn h2) h4
theorem rx (off i : Nat) (ds : List Value) {o : Oper} {t : TypeId} {x : Operand} {b : Nat} {sz by_ : Nat} {z : List Value} {T : TypeId} {cs : List Value} (h1 : (o.op, ev E x) = (.load t x, some (.pointer (some ⟨b, off, none⟩)))) (ht : isTy P t true sz by_ z)
    (h2 : (L[i]?, (cs.drop off).take sz, ds.length) = (some (Res.box b T cs), ds, sz)) : Ry P n (St w0 M L) E o (.agg ds.toArray) := by
  obtain ⟨h1, h3⟩ := Prod.mk.inj h1
  obtain ⟨h2, h4⟩ := Prod.mk.inj h2
  obtain ⟨h4, h5⟩ := Prod.mk.inj h4
  exact ry_box h1 h3 ht (boxIn h2) h4 h5
theorem ob (cs : List Value) {Q : Exit → Act → World → Prop} {o : Oper} {T : TypeId} {x : Operand} {v : Value} (h : (o.op, wt l E o.guard, dstOk n o.dst, ev E x, v.cells) = (.box T x, some true, true, some v, cs.toArray))
    (hk : ∀ b, OW P n l (St w0 M (L ++ [Res.box b T cs])) (upd E o.dst (.pointer (some ⟨b, 0, none⟩))) (.lex Q) rest) : OW P n l (St w0 M L) E (.lex Q) (o :: rest) := by
  simp only [Prod.mk.injEq] at h
  obtain ⟨h1, h2, h3, h4, h5⟩ := h
  exact ow_box h1 rfl h2 h3 h4 h5 (fun _ => kp) hk
theorem sC (off : Nat) (vs cs' : List Value) (i : Nat) {Q : Exit → Act → World → Prop} {o : Oper} {t : TypeId} {x y : Operand} {b : Nat} {v : Value} {agg : Bool} {sz by_ : Nat} {z : List Value} {T : TypeId} {cs : List Value}
    (h : (o.op, wt l E o.guard, dstOk n o.dst, ev E x, ev E y) = (.store t x y, some true, true, some (.pointer (some ⟨b, off, none⟩)), some v)) (ht : isTy P t agg sz by_ z)
    (h2 : (v.cells, vs.length, vs.all Value.oneCell', L[i]?, Nat.ble (off + sz) cs.length, splice cs off vs) = (vs.toArray, sz, true, some (Res.box b T cs), true, cs'))
    (hk : OW P n l (St w0 M (L.set i (Res.box b T cs'))) (upd E o.dst undef) (.lex Q) rest) : OW P n l (St w0 M L) E (.lex Q) (o :: rest) := by
  simp only [Prod.mk.injEq] at h h2
  obtain ⟨h1, h3, h4, h5, h6⟩ := h
  obtain ⟨g1, g2, g3, g4, g5, g6⟩ := h2
  exact ow_storeC vs cs' h1 rfl h3 h4 h5 h6 ht g1 g2 (List.all_eq_true.1 g3) g4 g5 g6 kp hk
theorem tt2 {α : Sort _} {β : α → Sort _} : ∀ a, β a → True := fun _ _ => trivial
theorem oq {o : Oper} {v : Value} (h : (m.loud (o :: rest), wt l E o.guard, dstOk n o.dst) = (true, some true, true)) (hq : Qy P n C E o v) (hS : ∀ w, C w → m.keeps w) (k : OW P n l C (upd E o.dst v) m rest) : OW P n l C E m (o :: rest) := by
  simp only [Prod.mk.injEq] at h
  exact ow_q h.1 h.2.1 (dstOk_lt h.2.2) hq hS k
theorem qc {o : Oper} {f : FuncId} {xs : List Operand} {ts : Array TypeId} {vs : List Value} {v : Value} (h : (o.op, evs E xs) = (.call { callee := .value (.func f), args := xs.toArray, argTypes := ts }, some vs)) (hf : isFn P f)
    (hc : ∀ w, St w0 M L w → Calls P f vs.toArray w fun e w' => e = .returned v ∧ Ext [] w w') : Qy P n (St w0 M L) E o v := by
  obtain ⟨h1, h2⟩ := Prod.mk.inj h
  exact qy_call h1 hf h2 hc
theorem xr (t : Nat) {fn : Func} {R : Ending → World → Prop} {v : Value} (h : (fn.results, look E t) = (#[.tmp t], some v)) (hR : ∀ w, C w → R (.returned v) w) : XW n C E (bodyPost P fn R) .ret := by
  obtain ⟨h1, h2⟩ := Prod.mk.inj h
  exact x_retR (rs := [.tmp t]) (vs := [v]) h1 ⟨h2, trivial⟩ hR
theorem q1 {v : Value} : ∀ w, St w0 M L w → (Ending.returned v = .returned v ∧ Ext M w0 w) := fun _ h => ⟨rfl, h.ext⟩
theorem sb {E : Env} : ∀ {R : Env}, R.map (fun p => look E p.1) = R.map (fun p => some p.2) → Sub R E
  | [], _ => trivial
  | (t, v) :: R, h => by
    simp only [List.map_cons, List.cons.injEq] at h
    exact ⟨h.1, sb h.2⟩
/-- a datum of which only some cells are told -/
def eOpq {α : Type} (f : α → List Value) (k j : Nat) (hk : ∀ x, (f x).length = k) (h1 : ∀ x, ∀ u ∈ f x, u.oneCell' = true) : Enc α where
  sz := k + j
  rd _ _ x cs := ∃ t, cs = f x ++ t ∧ t.length = j ∧ ∀ u ∈ t, u.oneCell' = true
  own _ F x cs := F = [] ∧ ∃ t, cs = f x ++ t ∧ t.length = j ∧ ∀ u ∈ t, u.oneCell' = true
  rd_len h := by obtain ⟨t, rfl, h2, _⟩ := h; rw [List.length_append, hk, h2]
  rd_loc h _ := h
  rd_anti h _ := h
  own_loc h _ := h
  own_rd h _ := h.2
  own_lt h b hb := by rw [h.1] at hb; cases hb
  one h u hu := by
    obtain ⟨t, rfl, _, h3⟩ := h
    rcases List.mem_append.1 hu with hu | hu
    · exact h1 _ u hu
    · exact h3 u hu
/-! the commonest steps -/
abbrev eI : Enc Int := eVal (Value.int .i64) (fun _ => rfl)
theorem oP {P : Program} {n : Nat} {C : World → Prop} {m : Md} {l rest rest' : List Oper} {E E' : Env} (h : batch n l [Hint.p (P := P)] rest E = some (rest', E')) (k : OW P n l C E' m rest') : OW P n l C E m rest := ow_batch _ h k
theorem oPP {P : Program} {n : Nat} {C : World → Prop} {m : Md} {l rest rest' : List Oper} {E E' : Env} (h : batch n l [Hint.p (P := P), Hint.p (P := P)] rest E = some (rest', E')) (k : OW P n l C E' m rest') : OW P n l C E m rest := ow_batch _ h k
theorem nQ {P : Program} {n : Nat} {C : World → Prop} {E : Env} {Q : Exit → Act → World → Prop} {l : List Oper} {y : Code} (h : CW P n C E Q y) : OW P n l C E (.lex (QS P y Q)) [] := ow_nil (x_qs h)
theorem sR {P : Program} {n : Nat} {C : World → Prop} {E : Env} {Q : Exit → Act → World → Prop} {y : Code} {id : Nat} {l : List Oper} (h : OW P n l C E (.lex (QS P y Q)) l) : CW P n C E Q (.seq (.region id l.toArray false) y) := c_seq (c_reg h)
theorem nR {P : Program} {n : Nat} {C : World → Prop} {E : Env} {Q : Exit → Act → World → Prop} {l l' : List Oper} {y : Code} {id : Nat} (h : OW P n l' C E (.lex (QS P y Q)) l') : OW P n l C E (.lex (QS P (.seq (.region id l'.toArray false) y) Q)) [] := ow_nil (x_qs (c_seq (c_reg h)))
theorem nT {P : Program} {n : Nat} {C : World → Prop} {E : Env} {Q : Exit → Act → World → Prop} {l : List Oper} (h : XW n C E Q .ret) : OW P n l C E (.lex (QS P .ret Q)) [] := ow_nil (x_qs (c_ret h))
end Go.Vk
/- The library's functions of strings, by their contracts: joined, repeated, numbers in decimal; a table of the library's that is read. -/
namespace Go.Vk
open Go.RowKit Go.Proofs Go.Shelf
variable {P : Program} {ρ : Ren}
end Go.Vk
