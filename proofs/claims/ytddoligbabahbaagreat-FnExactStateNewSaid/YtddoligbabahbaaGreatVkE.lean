/- Operations on memory. -/
import Derived.Test.YtddoligbabahbaaGreatVkD
import Derived.Laws.MakeOwn
import Derived.Laws.Tables
import Derived.Great.BuildSlice
namespace Go.Vk
open Go.RowKit
variable {P : Program} {n : Nat} {C : World → Prop} {E : Env} {m : Md} {l rest : List Oper} {w0 : World} {M : List Nat} {L : List Res} {Q : Exit → Act → World → Prop}
def idx {α : Type} (xs : List α) (j : Int) : Option α := if 0 ≤ j then xs[j.toNat]? else none
theorem idx_some {α : Type} {xs : List α} {j : Int} {x : α} (h : idx xs j = some x) : 0 ≤ j ∧ j.toNat < xs.length ∧ xs[j.toNat]? = some x := by
  unfold idx at h
  split at h
  · exact ⟨‹_›, (List.getElem?_eq_some_iff.1 h).1, h⟩
  · cases h
/-! ### loads -/
theorem run_loadAt {t : TypeId} {sz by_ : Nat} {z : List Value} {w : World} {X : List Nat} {p : Addr} {agg : Bool} {cs : List Value} (ht : isTy P t agg sz by_ z) (hA : At w X p cs) (hl : cs.length = sz) :
    (Instr.loadAt t (.pointer (some p))).run P w = .ok (if agg then .agg cs.toArray else cs.headD undef) w := by
  obtain ⟨i, zv, hi, hs, _, _, _⟩ := ht.info
  have hlc := run_loadCells_list (P := P) w p cs hA.2
  rw [hl] at hlc
  cases agg with
  | true => simp [Instr.loadAt, Instr.sureAddr, loadVar, ht.ag w, sizeOf, typeInfo, hi, hs, hlc]
  | false =>
    have h1 := ht.one rfl
    rw [h1] at hl
    match cs, hl with
    | [v], _ =>
      have h0 := hA.2 0 v rfl
      rw [add_zero] at h0
      simp [Instr.loadAt, Instr.sureAddr, loadVar, ht.ag w, h0]
/-- a load of cells that stand in every world of C -/
theorem ry_load {o : Oper} {t : TypeId} {x : Operand} {p : Addr} {cs : List Value} {sz by_ : Nat} {z : List Value} (ho : o.op = .load t x) (hx : ev E x = some (.pointer (some p))) (ht : isTy P t true sz by_ z)
    (hc : ∀ w, C w → At w [] p cs) (hl : cs.length = sz) : Ry P n C E o (.agg cs.toArray) := fun a hF w hC => by
  unfold execOp
  simp only [ho, hF.ev hx, Sem.run_bind, run_loadAt ht (hc w hC) hl]
  rfl
theorem ry_load1 {o : Oper} {t : TypeId} {x : Operand} {p : Addr} {v : Value} {sz by_ : Nat} {z : List Value} (ho : o.op = .load t x) (hx : ev E x = some (.pointer (some p))) (ht : isTy P t false sz by_ z)
    (hc : ∀ w, C w → At w [] p [v]) : Ry P n C E o v := fun a hF w hC => by
  unfold execOp
  simp only [ho, hF.ev hx, Sem.run_bind, run_loadAt ht (hc w hC) (by rw [ht.one rfl]; rfl)]
  rfl
/-- worlds that have all that w0 has, but for M -/
def Bor (w0 : World) (M : List Nat) (S : World → Prop) : Prop := ∀ w, S w → Ext M w0 w
theorem bor {w0 : World} {M : List Nat} {L : List Res} : Bor w0 M (St w0 M L) := fun _ h => h.ext
theorem at_bor {S : World → Prop} {p : Addr} {cs : List Value} (hB : Bor w0 M S) (h : At w0 M p cs) : ∀ w, S w → At w [] p cs := fun w hw =>
  (h.loc (fun b hb hm => (hB w hw).block b hb hm)).anti (by simp)
theorem at_sub {w : World} {X : List Nat} {p : Addr} {cs ds : List Value} (h : At w X p cs) (o : Nat) (hd : (cs.drop o).take ds.length = ds) : At w X (p.add o) ds := by
  refine ⟨fun hne => ?_, fun j v hv => ?_⟩
  · rw [add_block]
    refine h.1 (fun e => hne ?_)
    subst e; simp at hd; exact hd
  · rw [add_add]
    refine h.2 _ v ?_
    rw [← hd, List.getElem?_take] at hv
    split at hv
    · simpa using hv
    · cases hv
/-- block b holds cs, in every world of S -/
def BoxIn (S : World → Prop) (b : Nat) (T : TypeId) (cs : List Value) : Prop := ∀ w, S w → w.heap[b]? = some (.cells cs.toArray T (0, 0))
theorem boxIn {i b : Nat} {T : TypeId} {cs : List Value} (hr : L[i]? = some (Res.box b T cs)) : BoxIn (St w0 M L) b T cs := fun _ hw => hw.ok _ (List.mem_of_getElem? hr)
theorem at_box {S : World → Prop} {b : Nat} {T : TypeId} {cs ds : List Value} (o : Nat) (hr : BoxIn S b T cs) (hd : (cs.drop o).take ds.length = ds) : ∀ w, S w → At w [] ⟨b, o, none⟩ ds := fun w hw => by
  have hb : w.heap[b]? = some (.cells cs.toArray T (0, 0)) := hr w hw
  refine ⟨fun _ => by simp, fun j v hv => ?_⟩
  rw [add_lit, cell_of_row w b _ cs.toArray T (0, 0) hb]
  rw [← hd, List.getElem?_take] at hv
  split at hv
  · simpa using hv
  · cases hv
theorem ry_box1 {o : Oper} {t : TypeId} {x : Operand} {b off : Nat} {v : Value} {sz by_ : Nat} {z : List Value} {T : TypeId} {cs : List Value} (ho : o.op = .load t x) (hx : ev E x = some (.pointer (some ⟨b, off, none⟩)))
    (ht : isTy P t false sz by_ z) (hr : BoxIn C b T cs) (hv : cs[off]? = some v) : Ry P n C E o v :=
  ry_load1 ho hx ht (at_box off hr (by
    obtain ⟨h1, h2⟩ := List.getElem?_eq_some_iff.1 hv
    rw [List.drop_eq_getElem_cons h1, h2]; rfl))
theorem ry_box {o : Oper} {t : TypeId} {x : Operand} {b off : Nat} {ds : List Value} {sz by_ : Nat} {z : List Value} {T : TypeId} {cs : List Value} (ho : o.op = .load t x) (hx : ev E x = some (.pointer (some ⟨b, off, none⟩)))
    (ht : isTy P t true sz by_ z) (hr : BoxIn C b T cs) (hd : (cs.drop off).take sz = ds) (hl : ds.length = sz) : Ry P n C E o (.agg ds.toArray) :=
  ry_load ho hx ht (at_box off hr (by rw [hl]; exact hd)) hl
/-! ### indexing -/
theorem run_indexAt {t et : TypeId} {agg : Bool} {sz by_ : Nat} {z : List Value} (ht : isSl P t et) (he : isTy P et agg sz by_ z) (p : Addr) (len cap : Nat) (k : IntKind) (j : Int) (h0 : 0 ≤ j) (h1 : j.toNat < len) (w : World) :
    (Instr.indexAt t (.slice (some p) len cap) (.int k j)).run P w = .ok (.pointer (some (p.add (j.toNat * sz)))) w := by
  obtain ⟨i, zv, hi, hs, _, _, _⟩ := he.info
  have h2 : j < (len : Int) := by omega
  simp [Instr.indexAt, asIntOf, run_underlying ht, h0, h2, sizeOf, typeInfo, hi, hs]
/-- what is known of a slice's element -/
theorem elemB {α : Type} {e : Enc α} {w : World} {X : List Nat} {xs : List α} {v : Value} {j : Int} {x : α} (h : rdList e w X xs [v]) (hj : idx xs j = some x) :
    ∃ p cap ds, v = .slice (some p) xs.length cap ∧ e.rd w X x ds ∧ At w X (p.add (j.toNat * e.sz)) ds := by
  obtain ⟨h0, h1, h2⟩ := idx_some hj
  obtain ⟨a, cap, hv, _, _, hel⟩ := h
  have hne : xs ≠ [] := fun e => by subst e; simp at h1
  obtain ⟨p, rfl, hp⟩ := hel hne
  obtain ⟨ds, hd, hA⟩ := hp _ x h2
  exact ⟨p, cap, ds, by simpa using hv, hd, hA⟩
/-- an element's address, of a slice that came in -/
theorem ow_ixB {α : Type} {e : Enc α} {o : Oper} {t et : TypeId} {x i : Operand} {agg : Bool} {sz by_ : Nat} {z : List Value} {xs : List α} {v : Value} {k : IntKind} {j : Int} {y : α}
    (ho : o.op = .indexAddr t x i) (hw : wt l E o.guard = some true) (hd : dstOk n o.dst = true) (hx : ev E x = some v) (hi : ev E i = some (.int k j)) (ht : isSl P t et) (he : isTy P et agg sz by_ z) (hsz : e.sz = sz)
    (h : rdList e w0 M xs [v]) (hj : idx xs j = some y) (hk : ∀ q ds, e.rd w0 M y ds → At w0 M q ds → OW P n l C (upd E o.dst (.pointer (some q))) m rest) : OW P n l C E m (o :: rest) := by
  obtain ⟨p, cap, ds, rfl, hrd, hA⟩ := elemB h hj
  obtain ⟨h0, h1, _⟩ := idx_some hj
  refine ow_r hw (dstOk_lt hd) (v := .pointer (some (p.add (j.toNat * e.sz)))) (fun a hF w _ => ?_) (hk _ ds hrd hA)
  unfold execOp
  simp only [ho, hF.ev hx, hF.ev hi, Sem.run_bind, run_indexAt ht he p _ cap k j h0 h1 w, hsz]
  rfl
theorem ownAll_val {α : Type} {val : α → Value} {h1 : ∀ x, (val x).oneCell' = true} {w : World} : ∀ {ys : List α} {F : List Nat} {ds : List Value}, ownAll (eVal val h1) w F ys ds → F = [] ∧ ds = ys.map val := by
  intro ys
  induction ys with
  | nil => intro F ds h; exact h
  | cons y ys ih =>
    intro F ds h
    obtain ⟨Fa, Fb, c1, c2, rfl, rfl, _, hh, h3⟩ := h
    obtain ⟨rfl, rfl⟩ := ih h3
    rw [hh.1, hh.2]
    exact ⟨rfl, rfl⟩
theorem ownAll_vals {α : Type} {val : α → Value} {h1 : ∀ x, (val x).oneCell' = true} {w : World} : ∀ (ys : List α), ownAll (eVal val h1) w [] ys (ys.map val)
  | [] => ⟨rfl, rfl⟩
  | y :: ys => ⟨[], [], [val y], ys.map val, rfl, rfl, rfl, ⟨rfl, rfl⟩, ownAll_vals ys⟩
/-- a slice of the call's own, its elements of one known cell: what the world holds -/
def flat {α : Type} (val : α → Value) (T : TypeId) (b cap : Nat) (xs : List α) (w : World) : Prop :=
  ∃ cur, w.heap[b]? = some (.cells cur T (0, 0)) ∧ xs.length ≤ cap ∧ cap ≤ maxLen ∧ cur.size = cap ∧ cur.toList.take xs.length = xs.map val
theorem own_flat {α : Type} {val : α → Value} {h1 : ∀ x, (val x).oneCell' = true} {T : TypeId} {w : World} {F : List Nat} {xs : List α} {v : Value} (h : (eList (eVal val h1) T).own w F xs [v]) :
    (xs = [] ∧ F = [] ∧ v = .slice none 0 0) ∨ ∃ b cap, F = [b] ∧ v = .slice (some ⟨b, 0, none⟩) xs.length cap ∧ flat val T b cap xs w := by
  have h : ownList (eVal val h1) T w F xs [v] := h
  rcases h with ⟨h1, h2, h3⟩ | ⟨b, cap, cur, F1, ds, rfl, hcs, hh, h3, h4, h5, h6, h7⟩
  · exact .inl ⟨h1, h2, by simpa using h3⟩
  · obtain ⟨rfl, rfl⟩ := ownAll_val h7
    refine .inr ⟨b, cap, rfl, by simpa using hcs, cur, hh, h3, h4, ?_, ?_⟩
    · simpa [eVal] using h5
    · simpa [eVal] using h6
theorem flat_own {α : Type} {val : α → Value} {h1 : ∀ x, (val x).oneCell' = true} {T : TypeId} {w : World} {b cap : Nat} {xs : List α} (h : flat val T b cap xs w) :
    (eList (eVal val h1) T).own w [b] xs [.slice (some ⟨b, 0, none⟩) xs.length cap] := by
  obtain ⟨cur, h1, h2, h3, h4, h5⟩ := h
  exact .inr ⟨b, cap, cur, [], xs.map val, rfl, rfl, h1, h2, h3, by simpa [eVal] using h4, by simpa [eVal] using h5, ownAll_vals xs⟩
/-- a string's byte -/
theorem ry_sidx {o : Oper} {t : TypeId} {x i : Operand} {s : List UInt8} {k : IntKind} {j : Int} {c : UInt8} (ho : o.op = .index t x i) (hx : ev E x = some (vS s)) (hi : ev E i = some (.int k j)) (ht : isStr P t) (hj : idx s j = some c) :
    Ry P n C E o (.int .u8 (c.toNat : Int)) := fun a hF w _ => by
  obtain ⟨h0, h1, h2⟩ := idx_some hj
  have ht' : P.underlying t = some .string := ht
  have hg : (⟨s.toArray⟩ : ByteArray)[j.toNat]? = some c := by
    have hlt : j.toNat < (⟨s.toArray⟩ : ByteArray).size := by simpa [ByteArray.size] using h1
    rw [getElem?_pos (⟨s.toArray⟩ : ByteArray) j.toNat hlt]
    have : s[j.toNat]'h1 = c := by rw [List.getElem?_eq_getElem h1] at h2; simpa using h2
    simp [ByteArray.getElem_eq_getElem_data, this]
  unfold execOp
  simp [ho, hF.ev hx, hF.ev hi, Instr.index, asIntOf, run_underlying ht', vS, h0, hg]
/-! ### calls -/
def isFn (P : Program) (f : FuncId) : Prop := ∃ fn, P.funcs[f]? = some fn ∧ fn.body.isSome = true ∧ fn.name ≠ "runtime.NumGoroutine"
def evs (E : Env) : List Operand → Option (List Value)
  | [] => some []
  | x :: xs =>
    match ev E x, evs E xs with
    | some v, some vs => some (v :: vs)
    | _, _ => none
theorem Fr.evs {a : Act} (hF : Fr n E a) : ∀ {xs : List Operand} {vs : List Value}, evs E xs = some vs → xs.map a.eval = vs
  | [], vs, h => by simp [Vk.evs] at h; subst h; rfl
  | x :: xs, vs, h => by
    simp only [Vk.evs] at h
    split at h
    · rename_i hx hxs
      simp only [Option.some.injEq] at h; subst h
      simp [hF.ev hx, hF.evs hxs]
    · cases h
theorem run_call {o : Oper} {f : FuncId} {xs : List Operand} {ts : Array TypeId} {vs : List Value} {a : Act} (ho : o.op = .call { callee := .value (.func f), args := xs.toArray, argTypes := ts }) (hf : isFn P f) (hF : Fr n E a) (hx : evs E xs = some vs) (w : World) :
    (execOp a.eval o).run P w = .ok (.enter f vs.toArray) w := by
  obtain ⟨fn, h1, h2, h3⟩ := hf
  obtain ⟨c, hc⟩ := Option.isSome_iff_exists.1 h2
  have hm : (xs.toArray.map a.eval) = vs.toArray := by rw [← hF.evs hx]; simp
  unfold execOp
  simp only [ho, resolve, Act.eval, Deferred.ofValue, hm]
  simp [invoke, callFunc, h1, h3, hc]
/-- a call that hands back one value, the same in every world of C, and makes at most new blocks -/
theorem qy_call {o : Oper} {f : FuncId} {xs : List Operand} {ts : Array TypeId} {vs : List Value} {v : Value} (ho : o.op = .call { callee := .value (.func f), args := xs.toArray, argTypes := ts }) (hf : isFn P f) (hx : evs E xs = some vs)
    (hc : ∀ w, St w0 M L w → Calls P f vs.toArray w fun e w' => e = .returned v ∧ Ext [] w w') : Qy P n (St w0 M L) E o v := fun a hF w hC => by
  unfold Oper.quietAt
  rw [run_call ho hf hF hx w]
  exact ⟨rfl, (hc w hC).mono fun e w' ⟨he, hw⟩ => ⟨he, hC.step hw⟩⟩
/-- a call whose result is known when it is back -/
theorem ow_call {o : Oper} {f : FuncId} {xs : List Operand} {ts : Array TypeId} {vs : List Value} {R : Value → World → World → Prop} (ho : o.op = .call { callee := .value (.func f), args := xs.toArray, argTypes := ts }) (hf : isFn P f)
    (hm : m.here (o :: rest) = true) (hw : wt l E o.guard = some true) (hd : dstOk n o.dst = true) (hx : evs E xs = some vs)
    (hc : ∀ w, C w → Calls P f vs.toArray w fun e w' => ∃ v, e = .returned v ∧ R v w w')
    (hk : ∀ v w w', C w → R v w w' → ∃ C' : World → Prop, C' w' ∧ (∀ u, C' u → m.keeps u) ∧ OW P n l C' (upd E o.dst v) m rest) : OW P n l C E m (o :: rest) :=
  ow_loud hm hw fun a w hF hC _ K hK => by
    unfold Oper.wp
    rw [run_call ho hf hF hx w, Oper.upon_enter]
    refine (hc w hC).mono fun e w' ⟨v, he, hR⟩ => ?_
    subst he
    obtain ⟨C', hC', hS', h⟩ := hk v w w' hC hR
    exact hK C' _ _ w' h (hF.put _ _ (dstOk_lt hd)) hC' (hS' w' hC')
end Go.Vk
