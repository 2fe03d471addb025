/- Flat structs in slices, elements moved, calls with state, results in cells. -/
import Derived.Test.YtddoligbabahbaaGreatVkL
namespace Go.Vk
open Go.RowKit
variable {P : Program} {n : Nat} {C : World → Prop} {E : Env} {m : Md} {l rest : List Oper} {w0 : World} {M : List Nat} {L : List Res} {Q : Exit → Act → World → Prop}
/-! ### elements by address, of slices that can be read -/
theorem ow_ixE {α : Type} {e : Enc α} {o : Oper} {t et : TypeId} {x i : Operand} {agg : Bool} {sz by_ : Nat} {z : List Value} {xs : List α} {k : IntKind} {j : Int} {y : α} {a : Option Addr} {nn cap : Nat}
    (ho : o.op = .indexAddr t x i) (hw : wt l E o.guard = some true) (hd : dstOk n o.dst = true) (hx : ev E x = some (.slice a nn cap)) (hi : ev E i = some (.int k j)) (ht : isSl P t et) (he : isTy P et agg sz by_ z) (_hsz : e.sz = sz)
    (hS : ∀ w, m.cls C w → rdList e w [] xs [.slice a nn cap]) (hj : idx xs j = some y) {q : Addr} (hq : q = eltP a (j.toNat * sz))
    (hk : OW P n l C (upd E o.dst (.pointer (some q))) m rest) : OW P n l C E m (o :: rest) := by
  subst hq
  obtain ⟨h0, hl, h2⟩ := idx_some hj
  refine ow_r hw (dstOk_lt hd) (v := .pointer (some (eltP a (j.toNat * sz)))) (fun fr hF w hw' => ?_) hk
  obtain ⟨a', cap', hv, _, _, hel⟩ := hS w hw'
  simp only [List.cons.injEq, Value.slice.injEq, and_true] at hv
  obtain ⟨rfl, rfl, rfl⟩ := hv
  obtain ⟨p, rfl, hp⟩ := hel (fun e => by subst e; simp at hl)
  unfold execOp
  simp only [ho, hF.ev hx, hF.ev hi, Sem.run_bind, run_indexAt ht he p xs.length cap k j h0 hl w, eltP, Option.getD_some]
  rfl
theorem at_eltE {α : Type} {e : Enc α} {S : World → Prop} {xs : List α} {a : Option Addr} {nn cap : Nat} {j : Int} {y : α} {cs : List Value} (hS : ∀ w, S w → rdList e w [] xs [.slice a nn cap]) (hj : idx xs j = some y) (hc : ∀ w ds, e.rd w [] y ds → ds = cs) :
    ∀ w, S w → At w [] (eltP a (j.toNat * e.sz)) cs := fun w hw => by
  obtain ⟨h0, hl, h2⟩ := idx_some hj
  obtain ⟨a', cap', hv, _, _, hel⟩ := hS w hw
  simp only [List.cons.injEq, Value.slice.injEq, and_true] at hv
  obtain ⟨rfl, rfl, rfl⟩ := hv
  obtain ⟨p, rfl, hp⟩ := hel (fun e => by subst e; simp at hl)
  obtain ⟨ds, hd, hA⟩ := hp _ y h2
  rw [← hc w ds hd]
  exact hA
/-- the place of an own element taken out, as the code reckons it -/
theorem ow_ixH {α : Type} {e : Enc α} {o : Oper} {t et : TypeId} {x i : Operand} {agg : Bool} {sz by_ : Nat} {z : List Value} {k : IntKind} {j : Int} {nn b cap cap' : Nat} {a : Option Addr} {T : TypeId} {xs : List α} {G : List Nat} {c : List Value}
    (ho : o.op = .indexAddr t x i) (hw : wt l E o.guard = some true) (hd : dstOk n o.dst = true) (hx : ev E x = some (.slice a nn cap')) (hi : ev E i = some (.int k j)) (ht : isSl P t et) (he : isTy P et agg sz by_ z) (_hsz : e.sz = sz)
    (hS : ∀ w, m.cls C w → holeOk e T b cap xs j.toNat G c w) (hnn : nn = xs.length) (ha : a = some ⟨b, 0, none⟩) (h0 : 0 ≤ j)
    (hk : OW P n l C (upd E o.dst (.pointer (some ⟨b, j.toNat * sz, none⟩))) m rest) : OW P n l C E m (o :: rest) := by
  subst ha
  refine ow_r hw (dstOk_lt hd) (v := .pointer (some ⟨b, j.toNat * sz, none⟩)) (fun fr hF w hw' => ?_) hk
  obtain ⟨cur, G1, G2, c1, c2, _, _, _, _, _, _, _, hlt, _⟩ := hS w hw'
  have hr := run_indexAt (P := P) ht he ⟨b, 0, none⟩ nn cap' k j h0 (by omega) w
  rw [add_lit, Nat.zero_add] at hr
  unfold execOp
  simp only [ho, hF.ev hx, hF.ev hi, Sem.run_bind, hr]
  rfl
theorem at_elV {α : Type} {val : α → Value} {h1 : ∀ x, (val x).oneCell' = true} {S : World → Prop} {xs : List α} {a : Option Addr} {nn cap : Nat} {j : Int} {y : α} (hS : ∀ w, S w → rdList (eVal val h1) w [] xs [.slice a nn cap]) (hj : idx xs j = some y) :
    ∀ w, S w → At w [] (eltP a j.toNat) [val y] := fun w hw => by
  have := at_eltE (e := eVal val h1) hS hj (cs := [val y]) (fun _ _ h => h) w hw
  rwa [show (eVal val h1).sz = 1 from rfl, Nat.mul_one] at this
theorem app_ne {α : Type} {xs zs : List α} {y : α} {ys : List α} (h : app xs (y :: ys) = some zs) : zs ≠ [] := by
  rw [(app_some h).1]; simp
theorem ry_nilB {o : Oper} {t et u : TypeId} {x : Operand} {a : Option Addr} {nn cap : Nat} {b : Bool} (ho : o.op = .binOp .eql t x (.const (.slice none 0 0)) u) (hx : ev E x = some (.slice a nn cap)) (ht : isSl P t et) (hb : a.isNone = b) : Ry P n C E o (.bool b) := hb ▸ ry_nil ho hx ht
theorem ry_nnilB {o : Oper} {t et u : TypeId} {x : Operand} {a : Option Addr} {nn cap : Nat} {b : Bool} (ho : o.op = .binOp .neq t x (.const (.slice none 0 0)) u) (hx : ev E x = some (.slice a nn cap)) (ht : isSl P t et) (hb : a.isNone = b) : Ry P n C E o (.bool (!b)) := hb ▸ ry_nnil ho hx ht
def fsB (P : Program) (s : TypeId) (tab : List (Nat × Nat)) : Bool :=
  match P.underlying s with
  | some (.struct fs) => (match fs.toList.mapM (fun f => (P.info? f.type).map fun i => (f.offset, i.size)) with | some t => t == tab | none => false)
  | _ => false
theorem isFs_of {s : TypeId} {tab : List (Nat × Nat)} (h : fsB P s tab = true) : isFs P s tab := by
  unfold fsB at h
  split at h
  · rename_i fs hu
    refine ⟨fs, hu, ?_⟩
    split at h
    · rename_i t ht
      rw [ht]; simp only [beq_iff_eq] at h; rw [h]
    · cases h
  · cases h
theorem ry_build2 {o : Oper} {t : TypeId} {ps : List (Nat × Operand)} {vs : List Value} (qs : List (Nat × List Value)) (cs : List Value) {tab : List (Nat × Nat)} {sz by_ : Nat} {z : List Value} (ho : o.op = .build t ps.toArray) (hx : evs E (ps.map (·.2)) = some vs)
    (ht : isTy P t true sz by_ z) (hs : isFs P t tab) (hz : z.length = sz) (hp : Parts (tab.toArray[·]?) sz ((ps.map (·.1)).zip vs) qs) (hl : laid z qs = cs) : Ry P n C E o (.agg cs.toArray) := hl ▸ ry_build qs ho hx ht hs hz hp
/-- a read where reads of the region's class are wanted -/
theorem ow_rH {S : World → Prop} {fl : List (Nat × Bool)} {l : List Oper} {o : Oper} {rest : List Oper} {v : Value} (hw : wt l E o.guard = some true) (hd : ∀ t, o.dst = some t → t < n) (hq : Ry P n S E o v)
    (h : OW P n l C (upd E o.dst v) (.held S Q fl) rest) : OW P n l C E (.held S Q fl) (o :: rest) := ow_r (m := .held S Q fl) hw hd hq h
theorem ry_hole1 {α : Type} {e : Enc α} {o : Oper} {t : TypeId} {x : Operand} {q : Addr} {b cap i : Nat} {T : TypeId} {xs : List α} {G : List Nat} {c : List Value} {v : Value} {sz by_ : Nat} {z : List Value} (p off : Nat) (hr : L[p]? = some (Res.hole e T b cap xs i G c)) (ho : o.op = .load t x) (hx : ev E x = some (.pointer (some q)))
    (ht : isTy P t false sz by_ z) (hq : q = ⟨b, i * e.sz + off, none⟩) (hv : c[off]? = some v) : Ry P n (St w0 M L) E o v :=
  ry_load1 ho hx ht (by
    subst hq
    have h1 := at_subA (at_hole (holeIn (w0 := w0) (M := M) hr)) off (ds := [v]) (by
      obtain ⟨h1, h2⟩ := List.getElem?_eq_some_iff.1 hv
      rw [List.drop_eq_getElem_cons h1, h2]; rfl)
    rwa [add_lit] at h1)
/-- into a variable of the call's own, its cells named -/
theorem ow_storeC {o : Oper} {t : TypeId} {x y : Operand} {b off : Nat} {v : Value} (vs : List Value) (cs' : List Value) {agg : Bool} {sz by_ : Nat} {z : List Value} {i : Nat} {T : TypeId} {cs : List Value} (ho : o.op = .store t x y) (hm : m.here (o :: rest) = true) (hw : wt l E o.guard = some true) (hd : dstOk n o.dst = true)
    (hx : ev E x = some (.pointer (some ⟨b, off, none⟩))) (hy : ev E y = some v) (ht : isTy P t agg sz by_ z) (hv : v.cells = vs.toArray) (hl : vs.length = sz) (h1 : ∀ u ∈ vs, u.oneCell' = true) (hr : L[i]? = some (Res.box b T cs)) (hfit : Nat.ble (off + sz) cs.length = true) (hc : splice cs off vs = cs')
    (hS : Kp m (St w0 M (L.set i (Res.box b T cs')))) (hk : OW P n l (St w0 M (L.set i (Res.box b T cs'))) (upd E o.dst undef) m rest) : OW P n l (St w0 M L) E m (o :: rest) := by
  subst hc
  exact ow_store vs ho hm hw hd hx hy ht hv hl h1 hr hfit hS hk
/-! ### lists of flat data -/
section
variable {α : Type} {f : α → List Value} {k : Nat} {hk : ∀ x, (f x).length = k} {h1 : ∀ x, ∀ u ∈ f x, u.oneCell' = true}
end
/-! ### append that moves the elements of another slice of the call's own -/
theorem ow_appM {α : Type} {e : Enc α} {o : Oper} {t et : TypeId} {x y : Operand} {agg : Bool} {sz by_ : Nat} {z : List Value} {r j : Nat} {F Fy : List Nat} {xs ys zs : List α} {a a2 : Option Addr} {nn cap n2 cap2 : Nat}
    (ho : o.op = .call { callee := .builtin .append, args := #[x, y], argTypes := #[t, t] }) (hm : m.here (o :: rest) = true) (hw : wt l E o.guard = some true) (hd : dstOk n o.dst = true) (hx : ev E x = some (.slice a nn cap)) (hy : ev E y = some (.slice a2 n2 cap2))
    (ht : isSl P t et) (he : isTy P et agg sz by_ z) (hby : Nat.ble by_ 2048 = true) (hsz : e.sz = sz) (hpos : Nat.blt 0 sz = true) (hzl : z.length = sz) (hr : L[r]? = some (Res.own (eList e et) F xs [.slice a nn cap])) (hj : L[j]? = some (Res.own (eList e et) Fy ys [.slice a2 n2 cap2])) (hrj : nodB [r, j] = true) (hz : app xs ys = some zs)
    (hS : ∀ a' c' F', Kp m (St w0 M (nilAt L [r, j] ++ [Res.own (eList e et) F' zs [.slice a' zs.length c']])))
    (hk : ∀ a' c' F', OW P n l (St w0 M (nilAt L [r, j] ++ [Res.own (eList e et) F' zs [.slice a' zs.length c']])) (upd E o.dst (.slice a' zs.length c')) m rest) : OW P n l (St w0 M L) E m (o :: rest) := by
  obtain ⟨rfl, hlen⟩ := app_some hz
  refine ow_loud hm hw fun fr w hF hC _ _ hK => ?_
  have hne : r ≠ j := by
    simp only [nodB, List.all_cons, List.all_nil, Bool.and_true, Bool.not_eq_true'] at hrj
    exact Nat.ne_of_beq_eq_false hrj
  obtain ⟨hok, hnd, hlt⟩ := hC.one hr
  obtain ⟨hok2, hnd2, hlt2⟩ := hC.one hj
  have hdj : ∀ b, b ∈ F → b ∈ Fy → False := fun b hb hs => foot_disj hC.nd hne hr hj (r := Res.own (eList e et) F xs [.slice a nn cap]) (s := Res.own (eList e et) Fy ys [.slice a2 n2 cap2]) hb hs
  have hL : selR L [r, j] = [Res.own (eList e et) F xs [.slice a nn cap], Res.own (eList e et) Fy ys [.slice a2 n2 cap2]] := by simp only [selR_cons, selR_nil, hr, hj]
  obtain ⟨i, zv, hi, hs, hb, hzv, hzc⟩ := he.info
  have fin : ∀ v' w' F', (Builtin.append_ #[t, t] o.type #[.slice a nn cap, .slice a2 n2 cap2]).run P w = .ok v' w' → ownList e et w' F' (xs ++ ys) [v'] → Ext F w w' → F'.Nodup → (∀ b ∈ F', b < w'.heap.size ∧ (b ∈ F ∨ b ∈ Fy ∨ w.heap.size ≤ b)) →
      o.wp P fr w _ m.ends := fun v' w' F' hrun hown hext hnd' hF' => by
    obtain ⟨a', c', hv⟩ := own_sl1 (e := e) (T := et) hown
    simp only [List.cons.injEq, and_true] at hv
    subst hv
    have hst : St w0 M (nilAt L [r, j] ++ [Res.own (eList e et) F' (xs ++ ys) [.slice a' (xs ++ ys).length c']]) w' := by
      refine hC.comp [r, j] hL hrj ⟨hext.mono (fun b hb => .inl (by rw [foot_cons, foot_one]; simp [Res.own, hb])), ?_, ?_, ?_, ?_⟩
      · intro s hs; rw [List.mem_singleton.1 hs]; exact hown
      · rw [foot_one]; exact hnd'
      · intro b hb; rw [foot_one] at hb; exact (hF' b hb).1
      · intro b hb
        rw [foot_one] at hb
        rw [foot_cons, foot_one]
        rcases (hF' b hb).2 with h3 | h3 | h3
        · exact .inr (by simp [Res.own, h3])
        · exact .inr (by simp [Res.own, h3])
        · exact .inl h3
    refine upon_val ?_ (hK _ _ _ _ (hk a' c' F') (hF.put _ _ (dstOk_lt hd)) hst (hS a' c' F' _ hst))
    unfold execOp
    simp only [ho, resolve, invoke, builtin, Sem.run_bind, Sem.run_pure, Result.andThen_ok, List.map_toArray, List.map_cons, List.map_nil, hF.ev hx, hF.ev hy, hrun]
  rcases hok2 with ⟨rfl, rfl, hcs2⟩ | ⟨b, cap', cur, F1, ds, rfl, hcs2, hh, k1, k2, k3, k4, k5⟩
  · simp only [List.cons.injEq, Value.slice.injEq, and_true] at hcs2
    obtain ⟨rfl, rfl, rfl⟩ := hcs2
    have hle : nn ≤ cap := by
      obtain ⟨a', cap', hv, h2, _⟩ := (eList e et).own_rd (X := []) hok (by simp)
      simp only [List.cons.injEq, Value.slice.injEq, and_true] at hv
      obtain ⟨rfl, rfl, rfl⟩ := hv
      exact h2
    have hrun := run_append_nothing (P := P) w t t o.type et i ht hi a nn cap hle (.slice none 0 0) (Src.ofNil w ht 0)
    exact fin _ _ F hrun (by rw [List.append_nil]; exact hok) (Ext.refl _ _) hnd (fun b hb => ⟨hlt b hb, .inl hb⟩)
  · simp only [List.cons.injEq, Value.slice.injEq, and_true] at hcs2
    obtain ⟨rfl, rfl, rfl⟩ := hcs2
    have hAt : At w [] ⟨b, 0, none⟩ ds := by
      refine ⟨fun _ => by simp, fun q c hq => ?_⟩
      rw [add_lit, cell_of_row w b _ cur et (0, 0) hh]
      rw [← k4, List.getElem?_take] at hq
      split at hq
      · simpa using hq
      · cases hq
    have hnd1 : (F ++ F1).Nodup := by
      rw [List.nodup_append]
      exact ⟨hnd, (List.nodup_cons.1 hnd2).2, fun c hc d hd e => by subst e; exact hdj c hc (by simp [hd])⟩
    have hdis : ∀ c, (Value.slice a nn cap).ownBlock = some c → c ∉ F1 := by
      intro c hc hin
      have hcF : c ∈ F := by
        rcases hok with ⟨_, _, hv⟩ | ⟨c', cap', cur', F1', ds', rfl, hcs, _⟩
        · simp only [List.cons.injEq, and_true] at hv; rw [hv] at hc; cases hc
        · simp only [List.cons.injEq, and_true] at hcs; rw [hcs] at hc; cases hc; simp
      exact hdj c hcF (by simp [hin])
    obtain ⟨v', w', F', hrun, hown, hext, hnd', hF'⟩ := append_core (ty := o.type) ht he hby hsz hpos hzl (F := F) (Fy := F1) hok (mm := ys.length) (cap := cap2) rfl hAt k5 hlen hnd1 hdis
    exact fin v' w' F' hrun hown hext hnd' (fun c hc => by
      obtain ⟨h2, h3⟩ := hF' c hc
      refine ⟨h2, ?_⟩
      rcases h3 with h3 | h3 | h3
      · exact .inl h3
      · exact .inr (.inl (by simp [h3]))
      · exact .inr (.inr h3))
/-- a literal of one element with blocks of its own -/
theorem lit1 {α : Type} {e : Enc α} {w : World} {b p q : Nat} {T : TypeId} {Fy : List Nat} {u : α} {cs : List Value} (h : St w0 M L w) (hp : L[p]? = some (Res.box b T cs)) (hq : L[q]? = some (Res.own e Fy u cs)) (hpq : nodB [p, q] = true) :
    St w0 M (nilAt L [p, q] ++ [Res.own (eList e T) (b :: Fy) [u] [.slice (some ⟨b, 0, none⟩) 1 1]]) w := by
  have h1 : w.heap[b]? = some (.cells cs.toArray T (0, 0)) := h.ok _ (List.mem_of_getElem? hp)
  have h2 : e.own w Fy u cs := h.ok _ (List.mem_of_getElem? hq)
  have hl : cs.length = e.sz := e.rd_len (e.own_rd (X := []) h2 (by simp))
  refine h.re [p, q] _ hpq ?_ ?_
  · simp only [selR_cons, selR_nil, hp, hq]
    rw [foot_one, foot_cons, foot_one]
    exact List.Perm.refl _
  · intro s hs
    rw [List.mem_singleton.1 hs]
    exact .inr ⟨b, 1, _, Fy, cs, rfl, rfl, h1, Nat.le_refl _, by simp [maxLen], by simp [hl], by simp only [List.length_singleton, Nat.one_mul]; exact List.take_of_length_le (Nat.le_of_eq hl), ⟨Fy, [], cs, [], by simp, by simp, hl, h2, rfl, rfl⟩⟩
/-! ### calls with state -/
theorem ow_callS {o : Oper} {f : FuncId} {xs : List Operand} {ts : Array TypeId} {vs : List Value} {R : Value → World → World → Prop} (ho : o.op = .call { callee := .value (.func f), args := xs.toArray, argTypes := ts }) (hf : isFn P f)
    (hm : m.here (o :: rest) = true) (hw : wt l E o.guard = some true) (hd : dstOk n o.dst = true) (hx : evs E xs = some vs)
    (hc : ∀ w, C w → Calls P f vs.toArray w fun e w' => ∃ v, e = .returned v ∧ R v w w')
    (hk : ∀ v w w', C w → R v w w' → ∃ C' : World → Prop, C' w' ∧ (∀ u, C' u → m.keeps u) ∧ OW P n l C' (upd E o.dst v) m rest) : OW P n l C E m (o :: rest) :=
  ow_call ho hf hm hw hd hx hc hk
/-! ### results -/
def packV : List Value → Value
  | [v] => v
  | vs => .tuple vs.toArray
def resV (P : Program) (C : World → Prop) (E : Env) : List ResultVar → List Value → Prop
  | [], [] => True
  | .tmp t :: rs, v :: vs => look E t = some v ∧ resV P C E rs vs
  | .cell t T :: rs, v :: vs => (∃ p cs sz by_ z, look E t = some (.pointer (some p)) ∧ isTy P T true sz by_ z ∧ (∀ w, C w → At w [] p cs) ∧ cs.length = sz ∧ v = .agg cs.toArray) ∧ resV P C E rs vs
  | _, _ => False
def rvGet (a : Act) : ResultVar → Sem Value
  | .tmp t => pure (a.tmps.getD t undef)
  | .cell p t => do loadVar t (← asAddr (a.tmps.getD p undef))
theorem results_eq (fn : Func) (a : Act) : results fn a.tmps = (do let vs ← fn.results.mapM (rvGet a); pure (if h : vs.size = 1 then vs[0] else .tuple vs)) := by
  unfold results
  have : (fun x => (match x with | .tmp t => pure (a.tmps.getD t undef) | .cell p t => do loadVar t (← asAddr (a.tmps.getD p undef)) : Sem Value)) = rvGet a := by
    funext x; cases x <;> rfl
  rw [← this]
  rfl
theorem resV_run {a : Act} {w : World} (hF : Fr n E a) (hC : C w) : ∀ {rs : List ResultVar} {vs : List Value}, resV P C E rs vs → (rs.mapM (rvGet a)).run P w = .ok vs w
  | [], [], _ => rfl
  | .tmp t :: rs, v :: vs, h => by
    have ih := resV_run hF hC h.2
    have h0 : (rvGet a (.tmp t)).run P w = .ok v w := by simp only [rvGet, Sem.run_pure, hF.at_ t v h.1]
    rw [List.mapM_cons]
    simp only [Sem.run_bind, Sem.run_pure, Result.andThen_ok, h0, ih]
  | .cell t T :: rs, v :: vs, h => by
    have ih := resV_run hF hC h.2
    obtain ⟨p, cs, sz, by_, z, h1, h2, h3, h4, rfl⟩ := h.1
    have h5 := run_loadAt h2 (h3 w hC) h4
    have h0 : (rvGet a (.cell t T)).run P w = .ok (.agg cs.toArray) w := by
      simp only [Instr.loadAt, Instr.sureAddr, Sem.run_bind, Sem.run_pure, Result.andThen_ok, if_true] at h5
      simp only [rvGet, Sem.run_bind, Sem.run_pure, Result.andThen_ok, hF.at_ t _ h1, asAddr, h5]
    rw [List.mapM_cons]
    simp only [Sem.run_bind, Sem.run_pure, Result.andThen_ok, h0, ih]
  | [], _ :: _, h => h.elim
  | .tmp _ :: _, [], h => h.elim
  | .cell _ _ :: _, [], h => h.elim
theorem results_run {fn : Func} {a : Act} {w : World} {rs : List ResultVar} {vs : List Value} (hr : fn.results = rs.toArray) (hF : Fr n E a) (hC : C w) (h : resV P C E rs vs) : (results fn a.tmps).run P w = .ok (packV vs) w := by
  have h1 := resV_run hF hC h
  have h2 : (rs.toArray.mapM (rvGet a)).run P w = .ok vs.toArray w := by
    rw [List.mapM_toArray, map_eq_pure_bind]
    simp only [Sem.run_bind, h1, Result.andThen_ok, Sem.run_pure]
  rw [results_eq, hr]
  simp only [Sem.run_bind, h2, Result.andThen_ok, Sem.run_pure]
  congr 1
  match vs with
  | [] => rfl
  | [v] => rfl
  | v :: u :: vs => rfl
theorem x_retR {fn : Func} {R : Ending → World → Prop} {rs : List ResultVar} {vs : List Value} (hr : fn.results = rs.toArray) (hv : resV P C E rs vs) (hR : ∀ w, C w → R (.returned (packV vs)) w) : XW n C E (bodyPost P fn R) .ret := fun _ w hF hC =>
  ⟨hF.df, packV vs, results_run hr hF hC hv, hR w hC⟩
end Go.Vk
