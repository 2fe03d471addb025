/- Operations that make or write memory. -/
import Derived.Test.YtddoligbabahbaaGreatVkF
namespace Go.Vk
open Go.RowKit
variable {P : Program} {n : Nat} {C : World → Prop} {E : Env} {m : Md} {l rest : List Oper} {w0 : World} {M : List Nat} {L : List Res} {Q : Exit → Act → World → Prop}
/-- what stands behind is let in by the mode -/
def Kp (m : Md) (C : World → Prop) : Prop := ∀ w, C w → m.keeps w
theorem kp {Q : Exit → Act → World → Prop} : Kp (.lex Q) C := fun _ _ => trivial
theorem upon_val {o : Oper} {a : Act} {K : Act → World → Prop} {w w' : World} {v : Value} (hr : (execOp a.eval o).run P w = .ok (.value v) w') (hK : K (a.put o.dst v) w') : o.wp P a w K Q := by
  unfold Oper.wp
  rw [hr]
  exact hK
theorem upon_skip {o : Oper} {a : Act} {K : Act → World → Prop} {w w' : World} (hr : (execOp a.eval o).run P w = .ok .skip w') (hK : K (a.put o.dst undef) w') : o.wp P a w K Q := by
  unfold Oper.wp
  rw [hr]
  exact hK
theorem ext_alloc (w : World) (o : Obj) : Ext [] w (w.alloc o) := ⟨rfl, rfl, rfl, by simp, fun b hb _ => Below.heap_alloc w o b hb⟩
theorem st_box {w : World} (h : St w0 M L w) (T : TypeId) (cs : List Value) : St w0 M (L ++ [Res.box w.heap.size T cs]) (w.alloc (.cells cs.toArray T)) :=
  h.push (ext_alloc w _) _ (heap_alloc_new w _) (by simp [Res.box]) (by simp [Res.box])
/-- a new block whose cells are known -/
theorem ow_new {o : Oper} {v : Nat → Value} {T : TypeId} {cs : List Value} (hm : m.here (o :: rest) = true) (hw : wt l E o.guard = some true) (hd : dstOk n o.dst = true)
    (hr : ∀ a w, Fr n E a → (execOp a.eval o).run P w = .ok (.value (v w.heap.size)) (w.alloc (.cells cs.toArray T)))
    (hS : ∀ b, Kp m (St w0 M (L ++ [Res.box b T cs]))) (hk : ∀ b, OW P n l (St w0 M (L ++ [Res.box b T cs])) (upd E o.dst (v b)) m rest) : OW P n l (St w0 M L) E m (o :: rest) :=
  ow_loud hm hw fun a w hF hC _ _ hK => upon_val (hr a w hF) (hK _ _ _ _ (hk w.heap.size) (hF.put _ _ (dstOk_lt hd)) (st_box hC T cs) (hS _ _ (st_box hC T cs)))
/-- a variable of its own for a value -/
theorem ow_box {o : Oper} {T : TypeId} {x : Operand} {v : Value} {cs : List Value} (ho : o.op = .box T x) (hm : m.here (o :: rest) = true) (hw : wt l E o.guard = some true) (hd : dstOk n o.dst = true)
    (hx : ev E x = some v) (hv : v.cells = cs.toArray) (hS : ∀ b, Kp m (St w0 M (L ++ [Res.box b T cs]))) (hk : ∀ b, OW P n l (St w0 M (L ++ [Res.box b T cs])) (upd E o.dst (.pointer (some ⟨b, 0, none⟩))) m rest) : OW P n l (St w0 M L) E m (o :: rest) :=
  ow_new (v := fun b => .pointer (some ⟨b, 0, none⟩)) hm hw hd (fun a w hF => by unfold execOp; simp [ho, hF.ev hx, Instr.box, newVar, newRow, hv]) hS hk
/-- a new variable at zero -/
theorem ow_alloc {o : Oper} {T : TypeId} {agg : Bool} {sz by_ : Nat} {z : List Value} (ho : o.op = .alloc T) (hm : m.here (o :: rest) = true) (hw : wt l E o.guard = some true) (hd : dstOk n o.dst = true)
    (ht : isTy P T agg sz by_ z) (hS : ∀ b, Kp m (St w0 M (L ++ [Res.box b T z]))) (hk : ∀ b, OW P n l (St w0 M (L ++ [Res.box b T z])) (upd E o.dst (.pointer (some ⟨b, 0, none⟩))) m rest) : OW P n l (St w0 M L) E m (o :: rest) := by
  obtain ⟨i, zv, hi, _, _, hz, hzc⟩ := ht.info
  exact ow_new (v := fun b => .pointer (some ⟨b, 0, none⟩)) hm hw hd (fun a w hF => by unfold execOp; simp [ho, Instr.alloc, zeroValue, typeInfo, hi, hz, newVar, newRow, hzc]) hS hk
/-! ### literals -/
def splice (cs : List Value) (off : Nat) (vs : List Value) : List Value := cs.take off ++ vs ++ cs.drop (off + vs.length)
theorem foldl_set (vs : List Value) : ∀ (k off : Nat) (cs : Array Value), off + k + vs.length ≤ cs.size →
    (vs.zipIdx k).foldl (fun (a : Array Value) (x : Value × Nat) => a.setIfInBounds (off + x.2) x.1) cs = (splice cs.toList (off + k) vs).toArray := by
  induction vs with
  | nil => intro k off cs _; simp [splice]
  | cons v vs ih =>
    intro k off cs h
    simp only [List.length_cons] at h
    rw [List.zipIdx_cons, List.foldl_cons, ih (k + 1) off _ (by simp; omega)]
    apply Array.ext'
    simp only [Array.toList_setIfInBounds]
    simp only [splice, List.length_cons]
    apply List.ext_getElem?
    intro j
    have h1 : (cs.toList.set (off + k) v).length = cs.size := by simp
    have h2 : cs.toList.length = cs.size := by simp
    simp only [List.append_assoc, List.getElem?_append, List.length_take, List.getElem?_take, List.getElem?_set, List.getElem?_drop, h1, h2, List.length_cons]
    by_cases c1 : j < off + k
    · have : j < off + (k + 1) := by omega
      simp [Nat.min_eq_left (show off + k ≤ cs.size by omega), Nat.min_eq_left (show off + (k+1) ≤ cs.size by omega), c1, this, show ¬ off + k = j by omega]
    · by_cases c2 : j = off + k
      · subst c2
        simp [Nat.min_eq_left (show off + k ≤ cs.size by omega), Nat.min_eq_left (show off + (k+1) ≤ cs.size by omega), show off + k < off + (k + 1) by omega, show off + k < cs.size by omega]
      · have h3 : ¬ j < off + (k + 1) := by omega
        simp only [Nat.min_eq_left (show off + k ≤ cs.size by omega), Nat.min_eq_left (show off + (k+1) ≤ cs.size by omega), c1, h3, if_false]
        rw [show j - (off + k) = (j - (off + (k + 1))) + 1 by omega]
        simp only [List.getElem?_cons_succ]
        by_cases c3 : j - (off + (k + 1)) < vs.length
        · rw [if_pos c3, if_pos (by omega)]
        · rw [if_neg c3, if_neg (by omega)]
          rw [if_neg (by omega)]
          congr 1; omega
/-- the parts of a literal, laid into the zero value: (offset, cells) -/
def laid : List Value → List (Nat × List Value) → List Value
  | cs, [] => cs
  | cs, (off, vs) :: r => laid (splice cs off vs) r
theorem splice_len {cs vs : List Value} {off : Nat} (h : off + vs.length ≤ cs.length) : (splice cs off vs).length = cs.length := by
  simp [splice]; omega
/-- parts as the model has them, and where they go -/
def Parts (place : Nat → Option (Nat × Nat)) (len : Nat) : List (Nat × Value) → List (Nat × List Value) → Prop
  | [], [] => True
  | (i, v) :: r, (off, vs) :: s => place i = some (off, vs.length) ∧ v.cells = vs.toArray ∧ off + vs.length ≤ len ∧ Parts place len r s
  | _, _ => False
theorem fill_laid {place : Nat → Option (Nat × Nat)} {len : Nat} : ∀ {ps : List (Nat × Value)} {qs : List (Nat × List Value)} {cs : List Value}, cs.length = len → Parts place len ps qs →
    Instr.fill place cs.toArray ps = some (laid cs qs).toArray
  | [], [], cs, _, _ => rfl
  | (i, v) :: r, (off, vs) :: s, cs, hl, h => by
    obtain ⟨h1, h2, h3, h4⟩ := h
    simp only [Instr.fill, h1, h2, List.size_toArray]
    rw [if_neg (by simp; omega)]
    have hf := foldl_set vs 0 off cs.toArray (by simpa [hl] using h3)
    simp only [Nat.add_zero] at hf
    have hz : (vs.toArray.zipIdx) = (vs.zipIdx).toArray := by simp
    rw [hz]
    have e : List.foldl (fun (a : Array Value) (x : Value × Nat) => a.setIfInBounds (off + x.2) x.1) cs.toArray vs.zipIdx = (splice cs off vs).toArray := hf
    simp only [List.foldl_toArray]
    rw [e]
    exact fill_laid (by rw [splice_len (by omega)]; exact hl) h4
  | [], _ :: _, _, _, h => h.elim
  | _ :: _, [], _, _, h => h.elim
/-- a struct's fields: offset and cells, by number -/
def isFs (P : Program) (s : TypeId) (tab : List (Nat × Nat)) : Prop := ∃ fs, P.underlying s = some (.struct fs) ∧ fs.toList.mapM (fun f => (P.info? f.type).map fun i => (f.offset, i.size)) = some tab
theorem parts_ev {a : Act} (hF : Fr n E a) : ∀ {ps : List (Nat × Operand)} {vs : List Value}, evs E (ps.map (·.2)) = some vs → (ps.toArray.map fun (i, x) => (i, a.eval x)).toList = (ps.map (·.1)).zip vs := by
  intro ps vs hx
  have hev := hF.evs hx
  rw [← hev]; clear hev hx
  simp only [List.map_toArray]
  induction ps with
  | nil => rfl
  | cons p ps ih => simp at ih ⊢; exact ih
theorem ry_build {o : Oper} {t : TypeId} {ps : List (Nat × Operand)} {vs : List Value} (qs : List (Nat × List Value)) {tab : List (Nat × Nat)} {sz by_ : Nat} {z : List Value} (ho : o.op = .build t ps.toArray) (hx : evs E (ps.map (·.2)) = some vs)
    (ht : isTy P t true sz by_ z) (hs : isFs P t tab) (hz : z.length = sz) (hp : Parts (tab.toArray[·]?) sz ((ps.map (·.1)).zip vs) qs) : Ry P n C E o (.agg (laid z qs).toArray) := fun a hF w _ => by
  obtain ⟨i, zv, hi, _, _, hzv, hzc⟩ := ht.info
  obtain ⟨fs, hu, hm⟩ := hs
  have hb : P.built t (ps.toArray.map fun (i, x) => (i, a.eval x)).toList = some (laid z qs).toArray := by
    rw [parts_ev hF hx]
    simp only [Program.built, hi, hu, hzv, hm, hzc]
    exact fill_laid hz hp
  unfold execOp
  simp only [ho, Sem.run_bind, run_build w t _ _ hb]
  rfl
/-- a slice literal -/
theorem ow_bslice {o : Oper} {t et : TypeId} {len : Nat} {ps : List (Nat × Operand)} {vs : List Value} (qs : List (Nat × List Value)) {agg : Bool} {sz by_ : Nat} {z : List Value} (ho : o.op = .buildSlice t len ps.toArray) (hm : m.here (o :: rest) = true) (hw : wt l E o.guard = some true) (hd : dstOk n o.dst = true)
    (hx : evs E (ps.map (·.2)) = some vs) (ht : isSl P t et) (he : isTy P et agg sz by_ z) (hpos : Nat.blt 0 (len * sz) = true) (hsm : Nat.ble (len * sz) 16777216 = true)
    (hp : Parts (fun i => some (i * sz, sz)) (len * sz) ((ps.map (·.1)).zip vs) qs) (ds : List Value) (hds : laid ((List.range (len * sz)).map fun i => z[i % z.length]!) qs = ds)
    (hS : ∀ b, Kp m (St w0 M (L ++ [Res.box b et ds]))) (hk : ∀ b, OW P n l (St w0 M (L ++ [Res.box b et ds])) (upd E o.dst (.slice (some ⟨b, 0, none⟩) len len)) m rest) : OW P n l (St w0 M L) E m (o :: rest) := by
  obtain ⟨i, zv, hi, hsz, _, hzv, hzc⟩ := he.info
  have h0 : ¬ len * i.size = 0 := by have := Nat.le_of_ble_eq_true hpos; rw [hsz]; omega
  have h1 : ¬ len * i.size > 2 ^ 24 := by have := Nat.le_of_ble_eq_true hsm; rw [hsz]; omega
  subst hds
  refine ow_new (v := fun b => .slice (some ⟨b, 0, none⟩) len len) (cs := laid _ qs) hm hw hd (fun a w hF => ?_) hS hk
  have hf : Instr.fill (fun j => some (j * i.size, i.size)) ((Array.range (len * i.size)).map (zv.cells[· % zv.cells.size]!)) (ps.toArray.map fun (i, x) => (i, a.eval x)).toList =
      some (laid ((List.range (len * sz)).map fun i => z[i % z.length]!) qs).toArray := by
    rw [parts_ev hF hx, hsz, hzc]
    have := fill_laid (cs := (List.range (len * sz)).map fun i => z[i % z.length]!) (by simp) hp
    rw [← this]
    congr 1
    apply Array.ext'
    simp
  unfold execOp
  simp only [ho, Sem.run_bind, run_buildSlice w t et len _ _ i zv ht hi hzv h1 h0 hf]
  rfl
/-- the empty slice literal: a block of no cells -/
theorem ow_bslice0 {o : Oper} {t et : TypeId} {agg : Bool} {sz by_ : Nat} {z : List Value} (ho : o.op = .buildSlice t 0 #[]) (hm : m.here (o :: rest) = true) (hw : wt l E o.guard = some true) (hd : dstOk n o.dst = true)
    (ht : isSl P t et) (he : isTy P et agg sz by_ z)
    (hS : ∀ b, Kp m (St w0 M (L ++ [Res.box b et []]))) (hk : ∀ b, OW P n l (St w0 M (L ++ [Res.box b et []])) (upd E o.dst (.slice (some ⟨b, 0, none⟩) 0 0)) m rest) : OW P n l (St w0 M L) E m (o :: rest) := by
  obtain ⟨i, zv, hi, hsz, _, hzv, hzc⟩ := he.info
  have ht' : P.underlying t = some (.slice et) := ht
  refine ow_new (v := fun b => .slice (some ⟨b, 0, none⟩) 0 0) (cs := []) hm hw hd (fun a w hF => ?_) hS hk
  unfold execOp
  simp [ho, Instr.buildSlice, run_underlying ht', sizeOf, typeInfo, hi, Instr.fill, newRow, Array.range_zero']
/-- a block of no cells is a slice of the call's own -/
theorem own_empty {α : Type} {e : Enc α} {b : Nat} {T : TypeId} {w : World} (h : (Res.box b T []).ok w) : (Res.own (eList e T) [b] [] [.slice (some ⟨b, 0, none⟩) 0 0]).ok w :=
  .inr ⟨b, 0, #[], [], [], rfl, rfl, h, Nat.le_refl _, by simp [maxLen], by simp, by simp, rfl, rfl⟩
theorem own_nil {α : Type} {e : Enc α} {T : TypeId} {w : World} : (Res.own (eList e T) [] [] [.slice none 0 0]).ok w := .inl ⟨rfl, rfl, rfl⟩
/-- a block of known elements -/
theorem own_lit {α : Type} {val : α → Value} {h1 : ∀ x, (val x).oneCell' = true} {b : Nat} {T : TypeId} {w : World} (xs : List α) (hl : xs.length ≤ maxLen) (h : (Res.box b T (xs.map val)).ok w) :
    (Res.own (eList (eVal val h1) T) [b] xs [.slice (some ⟨b, 0, none⟩) xs.length xs.length]).ok w :=
  flat_own ⟨_, h, Nat.le_refl _, hl, by simp, by rw [List.take_of_length_le (by simp)]⟩
/-! ### make -/
def mk {α : Type} (z : α) (n : Int) : Option (List α) := if 0 ≤ n ∧ n ≤ 68719476736 then some (List.replicate n.toNat z) else none
theorem cyc (z : List Value) (hz : 0 < z.length) : ∀ (N s : Nat), (List.range' (s * z.length) (N * z.length)).map (fun i => z[i % z.length]!) = (List.replicate N z).flatten
  | 0, s => by simp
  | N + 1, s => by
    have h : (N + 1) * z.length = z.length + N * z.length := by rw [Nat.add_mul]; omega
    rw [h, ← List.range'_append_1, List.map_append, List.replicate_succ, List.flatten_cons]
    congr 1
    · apply List.ext_getElem?
      intro q
      by_cases hq : q < z.length
      · simp [hq, Nat.add_mod, Nat.mod_eq_of_lt]
      · simp [hq]
    · have := cyc z hz N (s + 1)
      rw [Nat.add_mul, Nat.one_mul] at this
      exact this
theorem madeCells_rep (z : List Value) (N : Nat) (hz : 0 < z.length) : (madeCells z.toArray (N * z.length)).toList = (List.replicate N z).flatten := by
  have := cyc z hz N 0
  rw [← this]
  simp [madeCells, List.range_eq_range']
theorem ownAll_rep {α : Type} {e : Enc α} {zero : α} {z : List Value} {w : World} (hzl : z.length = e.sz) (hz : e.own w [] zero z) : ∀ N, ownAll e w [] (List.replicate N zero) (List.replicate N z).flatten
  | 0 => ⟨rfl, rfl⟩
  | N + 1 => ⟨[], [], z, _, rfl, by rw [List.replicate_succ, List.flatten_cons], hzl, hz, ownAll_rep hzl hz N⟩
theorem ow_make {α : Type} {e : Enc α} {zero : α} {o : Oper} {t et : TypeId} {x y : Operand} {k k' : IntKind} {j : Int} {agg : Bool} {sz by_ : Nat} {z : List Value} {xs : List α} (ho : o.op = .makeSlice t x y) (hm : m.here (o :: rest) = true) (hw : wt l E o.guard = some true) (hd : dstOk n o.dst = true)
    (hx : ev E x = some (.int k j)) (hy : ev E y = some (.int k' j)) (ht : isSl P t et) (he : isTy P et agg sz by_ z) (hby : Nat.ble by_ 2048 = true) (hsz : e.sz = sz) (hzl : z.length = sz) (hpos : Nat.blt 0 sz = true) (hz : ∀ w, e.own w [] zero z) (hj : mk zero j = some xs)
    (hS : ∀ b, Kp m (St w0 M (L ++ [Res.own (eList e et) [b] xs [.slice (some ⟨b, 0, none⟩) xs.length xs.length]])))
    (hk : ∀ b, OW P n l (St w0 M (L ++ [Res.own (eList e et) [b] xs [.slice (some ⟨b, 0, none⟩) xs.length xs.length]])) (upd E o.dst (.slice (some ⟨b, 0, none⟩) xs.length xs.length)) m rest) : OW P n l (St w0 M L) E m (o :: rest) := by
  obtain ⟨i, zv, hi, hs, hb, hzv, hzc⟩ := he.info
  unfold mk at hj
  split at hj
  · rename_i hjj
    obtain ⟨h0, h1⟩ := hjj
    simp only [Option.some.injEq] at hj
    have hlen : xs.length = j.toNat := by rw [← hj]; simp
    have hby' := Nat.le_of_ble_eq_true hby
    refine ow_loud hm hw fun a w hF hC _ _ hK => ?_
    have hbytes : (i.bytes : Int) * j ≤ 281474976710656 := by
      rw [hb]
      have h2 : (by_ : Int) ≤ 2048 := by omega
      have : (by_ : Int) * j ≤ 2048 * 68719476736 := Int.mul_le_mul h2 h1 h0 (by omega)
      omega
    have hrun := run_make (P := P) w t et i zv ht hi hzv k k' j j h0 (Int.le_refl _) hbytes (by omega)
    rw [← hlen] at hrun
    have hown : (Res.own (eList e et) [w.heap.size] xs [.slice (some ⟨w.heap.size, 0, none⟩) xs.length xs.length]).ok (w.alloc (.cells (madeCells zv.cells (xs.length * i.size)) et)) := by
      refine .inr ⟨_, _, _, [], _, rfl, rfl, heap_alloc_new w _, Nat.le_refl _, by simp only [maxLen]; omega, by rw [size_madeCells, hs, hsz], rfl, ?_⟩
      have hzp : 0 < z.length := by rw [hzl]; exact Nat.le_of_ble_eq_true hpos
      rw [List.take_of_length_le (by simp [size_madeCells, hs, hsz]), hs, hzc, ← hzl, madeCells_rep z _ hzp]
      have := ownAll_rep (e := e) (zero := zero) (w := w.alloc (.cells (madeCells z.toArray (xs.length * z.length)) et)) (by rw [hzl, hsz]) (hz _) xs.length
      rw [show List.replicate xs.length zero = xs from by rw [hlen, hj]] at this
      exact this
    have hst := hC.push (ext_alloc w (.cells (madeCells zv.cells (xs.length * i.size)) et)) _ hown (by simp [Res.own]) (by simp [Res.own])
    refine upon_val (w' := w.alloc (.cells (madeCells zv.cells (xs.length * i.size)) et)) ?_ (hK _ _ _ _ (hk w.heap.size) (hF.put _ _ (dstOk_lt hd)) hst (hS _ _ hst))
    unfold execOp
    simp only [ho, hF.ev hx, hF.ev hy, Sem.run_bind, hrun]
    rfl
  · cases hj
/-! ### stores -/
theorem run_storeAt {t : TypeId} {agg : Bool} {sz by_ : Nat} {z : List Value} (ht : isTy P t agg sz by_ z) {w : World} {b off : Nat} {T : TypeId} {cur : Array Value} {v : Value} {vs : List Value} (hb : w.heap[b]? = some (.cells cur T (0, 0))) (hv : v.cells = vs.toArray) (hl : vs.length = sz) (hfit : off + sz ≤ cur.size)
    (h1 : ∀ u ∈ vs, u.oneCell' = true) : (Instr.storeAt t (.pointer (some ⟨b, off, none⟩)) v).run P w = .ok () (w.setRow b (splice cur.toList off vs).toArray) := by
  obtain ⟨i, zv, hi, hs, _, _, _⟩ := ht.info
  have hst := run_storeCells_at P b off T vs 0 cur w hb (by simpa [hl] using hfit) h1
  simp only [Nat.add_zero] at hst
  have h3 : ¬ (vs.length ≠ i.size) := by rw [hl, hs]; simp
  simp [Instr.storeAt, Instr.sureAddr, storeVar, sizeOf, typeInfo, hi, hv, hl, hs, hst, splice]
theorem ext_setRow {w : World} {b : Nat} {cur cs : Array Value} {T : TypeId} {fr : Nat × Nat} (_hb : w.heap[b]? = some (.cells cur T fr)) : Ext [b] w (w.setRow b cs) :=
  ⟨rfl, rfl, rfl, by simp, fun k _ hk => setRow_other w b k _ (by simpa using hk)⟩
/-- into a variable of the call's own -/
theorem ow_store {o : Oper} {t : TypeId} {x y : Operand} {b off : Nat} {v : Value} (vs : List Value) {agg : Bool} {sz by_ : Nat} {z : List Value} {i : Nat} {T : TypeId} {cs : List Value} (ho : o.op = .store t x y) (hm : m.here (o :: rest) = true) (hw : wt l E o.guard = some true) (hd : dstOk n o.dst = true)
    (hx : ev E x = some (.pointer (some ⟨b, off, none⟩))) (hy : ev E y = some v) (ht : isTy P t agg sz by_ z) (hv : v.cells = vs.toArray) (hl : vs.length = sz) (h1 : ∀ u ∈ vs, u.oneCell' = true) (hr : L[i]? = some (Res.box b T cs)) (hfit : Nat.ble (off + sz) cs.length = true)
    (hS : Kp m (St w0 M (L.set i (Res.box b T (splice cs off vs))))) (hk : OW P n l (St w0 M (L.set i (Res.box b T (splice cs off vs)))) (upd E o.dst undef) m rest) : OW P n l (St w0 M L) E m (o :: rest) :=
  ow_loud hm hw fun a w hF hC _ _ hK => by
    have hb : w.heap[b]? = some (.cells cs.toArray T (0, 0)) := hC.ok _ (List.mem_of_getElem? hr)
    have hrun := run_storeAt ht hb hv hl (by simpa using Nat.le_of_ble_eq_true hfit) h1
    simp only at hrun
    have hst : St w0 M (L.set i (Res.box b T (splice cs off vs))) (w.setRow b (splice cs off vs).toArray) :=
      hC.upd hr (ext_setRow hb) (Res.box b T (splice cs off vs)) (setRow_heap w b _ _ T _ hb) (by simp [Res.box])
        (fun c hc => by
          have : c = b := by simpa [Res.box] using hc
          subst this
          exact ⟨by simpa using (Array.getElem?_eq_some_iff.1 hb).1, .inl (by simp [Res.box])⟩)
    refine upon_skip ?_ (hK _ _ _ _ hk (hF.put _ _ (dstOk_lt hd)) hst (hS _ hst))
    unfold execOp
    simp only [ho, hF.ev hx, hF.ev hy, Sem.run_bind, hrun]
    rfl
end Go.Vk
