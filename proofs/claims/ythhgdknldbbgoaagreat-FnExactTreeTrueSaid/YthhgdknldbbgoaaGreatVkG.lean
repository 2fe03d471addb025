/- Operations that make or write memory. -/
import Derived.Test.YthhgdknldbbgoaaGreatVkA
import Derived.Lib.AppendStr
import Derived.WalkSpells
import Derived.Deep.Upon
import Derived.Lib.Bytealg
import Derived.StillTail
namespace Go.Vk
open Go.RowKit
variable {P : Program} {n : Nat} {C : World → Prop} {E : Env} {m : Md} {l rest : List Oper} {w0 : World} {M : List Nat} {L : List Res} {Q : Exit → Act → World → Prop}
/-- what stands behind is let in by the mode -/
def Kp (m : Md) (C : World → Prop) : Prop := ∀ w, C w → m.keeps w
theorem kp {Q : Exit → Act → World → Prop} : Kp (.lex Q) C := fun _ _ => trivial
theorem upon_val {o : Oper} {a : Act} {K : Act → World → Prop} {w w' : World} {v : Value} (hr : (execOp a.eval o).run P w = .ok (.value v) w') (hK : K (a.put o.dst v) w') : o.wp P a w K Q := by
  unfold Oper.wp
  rw [hr]
  exact hK
theorem upon_skip {o : Oper} {a : Act} {K : Act → World → Prop} {w w' : World} (hr : (execOp a.eval o).run P w = .ok .skip w') (hK : K (a.put o.dst undef) w') : o.wp P a w K Q := by
  unfold Oper.wp
  rw [hr]
  exact hK
theorem ext_alloc (w : World) (o : Obj) : Ext [] w (w.alloc o) := ⟨rfl, rfl, rfl, by simp, fun b hb _ => Below.heap_alloc w o b hb⟩
theorem st_box {w : World} (h : St w0 M L w) (T : TypeId) (cs : List Value) : St w0 M (L ++ [Res.box w.heap.size T cs]) (w.alloc (.cells cs.toArray T)) :=
  h.push (ext_alloc w _) _ (heap_alloc_new w _) (by simp [Res.box]) (by simp [Res.box])
/-- a new block whose cells are known -/
theorem ow_new {o : Oper} {v : Nat → Value} {T : TypeId} {cs : List Value} (hm : m.here (o :: rest) = true) (hw : wt l E o.guard = some true) (hd : dstOk n o.dst = true)
    (hr : ∀ a w, Fr n E a → (execOp a.eval o).run P w = .ok (.value (v w.heap.size)) (w.alloc (.cells cs.toArray T)))
    (hS : ∀ b, Kp m (St w0 M (L ++ [Res.box b T cs]))) (hk : ∀ b, OW P n l (St w0 M (L ++ [Res.box b T cs])) (upd E o.dst (v b)) m rest) : OW P n l (St w0 M L) E m (o :: rest) :=
  ow_loud hm hw fun a w hF hC _ _ hK => upon_val (hr a w hF) (hK _ _ _ _ (hk w.heap.size) (hF.put _ _ (dstOk_lt hd)) (st_box hC T cs) (hS _ _ (st_box hC T cs)))
/-- a variable of its own for a value -/
theorem ow_box {o : Oper} {T : TypeId} {x : Operand} {v : Value} {cs : List Value} (ho : o.op = .box T x) (hm : m.here (o :: rest) = true) (hw : wt l E o.guard = some true) (hd : dstOk n o.dst = true)
    (hx : ev E x = some v) (hv : v.cells = cs.toArray) (hS : ∀ b, Kp m (St w0 M (L ++ [Res.box b T cs]))) (hk : ∀ b, OW P n l (St w0 M (L ++ [Res.box b T cs])) (upd E o.dst (.pointer (some ⟨b, 0, none⟩))) m rest) : OW P n l (St w0 M L) E m (o :: rest) :=
  ow_new (v := fun b => .pointer (some ⟨b, 0, none⟩)) hm hw hd (fun a w hF => by unfold execOp; simp [ho, hF.ev hx, Instr.box, newVar, newRow, hv]) hS hk
/-- a new variable at zero -/
theorem ow_alloc {o : Oper} {T : TypeId} {agg : Bool} {sz by_ : Nat} {z : List Value} (ho : o.op = .alloc T) (hm : m.here (o :: rest) = true) (hw : wt l E o.guard = some true) (hd : dstOk n o.dst = true)
    (ht : isTy P T agg sz by_ z) (hS : ∀ b, Kp m (St w0 M (L ++ [Res.box b T z]))) (hk : ∀ b, OW P n l (St w0 M (L ++ [Res.box b T z])) (upd E o.dst (.pointer (some ⟨b, 0, none⟩))) m rest) : OW P n l (St w0 M L) E m (o :: rest) := by
  obtain ⟨i, zv, hi, _, _, hz, hzc⟩ := ht.info
  exact ow_new (v := fun b => .pointer (some ⟨b, 0, none⟩)) hm hw hd (fun a w hF => by unfold execOp; simp [ho, Instr.alloc, zeroValue, typeInfo, hi, hz, newVar, newRow, hzc]) hS hk
/-! ### literals -/
def splice (cs : List Value) (off : Nat) (vs : List Value) : List Value := cs.take off ++ vs ++ cs.drop (off + vs.length)
theorem foldl_set (vs : List Value) : ∀ (k off : Nat) (cs : Array Value), off + k + vs.length ≤ cs.size →
    (vs.zipIdx k).foldl (fun (a : Array Value) (x : Value × Nat) => a.setIfInBounds (off + x.2) x.1) cs = (splice cs.toList (off + k) vs).toArray := by
  induction vs with
  | nil => intro k off cs _; simp [splice]
  | cons v vs ih =>
    intro k off cs h
    simp only [List.length_cons] at h
    rw [List.zipIdx_cons, List.foldl_cons, ih (k + 1) off _ (by simp; omega)]
    apply Array.ext'
    simp only [Array.toList_setIfInBounds]
    simp only [splice, List.length_cons]
    apply List.ext_getElem?
    intro j
    have h1 : (cs.toList.set (off + k) v).length = cs.size := by simp
    have h2 : cs.toList.length = cs.size := by simp
    simp only [List.append_assoc, List.getElem?_append, List.length_take, List.getElem?_take, List.getElem?_set, List.getElem?_drop, h1, h2, List.length_cons]
    by_cases c1 : j < off + k
    · have : j < off + (k + 1) := by omega
      simp [Nat.min_eq_left (show off + k ≤ cs.size by omega), Nat.min_eq_left (show off + (k+1) ≤ cs.size by omega), c1, this, show ¬ off + k = j by omega]
    · by_cases c2 : j = off + k
      · subst c2
        simp [Nat.min_eq_left (show off + k ≤ cs.size by omega), Nat.min_eq_left (show off + (k+1) ≤ cs.size by omega), show off + k < off + (k + 1) by omega, show off + k < cs.size by omega]
      · have h3 : ¬ j < off + (k + 1) := by omega
        simp only [Nat.min_eq_left (show off + k ≤ cs.size by omega), Nat.min_eq_left (show off + (k+1) ≤ cs.size by omega), c1, h3, if_false]
        rw [show j - (off + k) = (j - (off + (k + 1))) + 1 by omega]
        simp only [List.getElem?_cons_succ]
        by_cases c3 : j - (off + (k + 1)) < vs.length
        · rw [if_pos c3, if_pos (by omega)]
        · rw [if_neg c3, if_neg (by omega)]
          rw [if_neg (by omega)]
          congr 1; omega
/-- the parts of a literal, laid into the zero value: (offset, cells) -/
def laid : List Value → List (Nat × List Value) → List Value
  | cs, [] => cs
  | cs, (off, vs) :: r => laid (splice cs off vs) r
theorem splice_len {cs vs : List Value} {off : Nat} (h : off + vs.length ≤ cs.length) : (splice cs off vs).length = cs.length := by
  simp [splice]; omega
/-- parts as the model has them, and where they go -/
def Parts (place : Nat → Option (Nat × Nat)) (len : Nat) : List (Nat × Value) → List (Nat × List Value) → Prop
  | [], [] => True
  | (i, v) :: r, (off, vs) :: s => place i = some (off, vs.length) ∧ v.cells = vs.toArray ∧ off + vs.length ≤ len ∧ Parts place len r s
  | _, _ => False
theorem fill_laid {place : Nat → Option (Nat × Nat)} {len : Nat} : ∀ {ps : List (Nat × Value)} {qs : List (Nat × List Value)} {cs : List Value}, cs.length = len → Parts place len ps qs →
    Instr.fill place cs.toArray ps = some (laid cs qs).toArray
  | [], [], cs, _, _ => rfl
  | (i, v) :: r, (off, vs) :: s, cs, hl, h => by
    obtain ⟨h1, h2, h3, h4⟩ := h
    simp only [Instr.fill, h1, h2, List.size_toArray]
    rw [if_neg (by simp; omega)]
    have hf := foldl_set vs 0 off cs.toArray (by simpa [hl] using h3)
    simp only [Nat.add_zero] at hf
    have hz : (vs.toArray.zipIdx) = (vs.zipIdx).toArray := by simp
    rw [hz]
    have e : List.foldl (fun (a : Array Value) (x : Value × Nat) => a.setIfInBounds (off + x.2) x.1) cs.toArray vs.zipIdx = (splice cs off vs).toArray := hf
    simp only [List.foldl_toArray]
    rw [e]
    exact fill_laid (by rw [splice_len (by omega)]; exact hl) h4
  | [], _ :: _, _, _, h => h.elim
  | _ :: _, [], _, _, h => h.elim
/-- a struct's fields: offset and cells, by number -/
def isFs (P : Program) (s : TypeId) (tab : List (Nat × Nat)) : Prop := ∃ fs, P.underlying s = some (.struct fs) ∧ fs.toList.mapM (fun f => (P.info? f.type).map fun i => (f.offset, i.size)) = some tab
theorem parts_ev {a : Act} (hF : Fr n E a) : ∀ {ps : List (Nat × Operand)} {vs : List Value}, evs E (ps.map (·.2)) = some vs → (ps.toArray.map fun (i, x) => (i, a.eval x)).toList = (ps.map (·.1)).zip vs := by
  intro ps vs hx
  have hev := hF.evs hx
  rw [← hev]; clear hev hx
  simp only [List.map_toArray]
  induction ps with
  | nil => rfl
  | cons p ps ih => simp at ih ⊢; exact ih
theorem ry_build {o : Oper} {t : TypeId} {ps : List (Nat × Operand)} {vs : List Value} (qs : List (Nat × List Value)) {tab : List (Nat × Nat)} {sz by_ : Nat} {z : List Value} (ho : o.op = .build t ps.toArray) (hx : evs E (ps.map (·.2)) = some vs)
    (ht : isTy P t true sz by_ z) (hs : isFs P t tab) (hz : z.length = sz) (hp : Parts (tab.toArray[·]?) sz ((ps.map (·.1)).zip vs) qs) : Ry P n C E o (.agg (laid z qs).toArray) := fun a hF w _ => by
  obtain ⟨i, zv, hi, _, _, hzv, hzc⟩ := ht.info
  obtain ⟨fs, hu, hm⟩ := hs
  have hb : P.built t (ps.toArray.map fun (i, x) => (i, a.eval x)).toList = some (laid z qs).toArray := by
    rw [parts_ev hF hx]
    simp only [Program.built, hi, hu, hzv, hm, hzc]
    exact fill_laid hz hp
  unfold execOp
  simp only [ho, Sem.run_bind, run_build w t _ _ hb]
  rfl
/-- a slice literal -/
theorem ow_bslice {o : Oper} {t et : TypeId} {len : Nat} {ps : List (Nat × Operand)} {vs : List Value} (qs : List (Nat × List Value)) {agg : Bool} {sz by_ : Nat} {z : List Value} (ho : o.op = .buildSlice t len ps.toArray) (hm : m.here (o :: rest) = true) (hw : wt l E o.guard = some true) (hd : dstOk n o.dst = true)
    (hx : evs E (ps.map (·.2)) = some vs) (ht : isSl P t et) (he : isTy P et agg sz by_ z) (hpos : Nat.blt 0 (len * sz) = true) (hsm : Nat.ble (len * sz) 16777216 = true)
    (hp : Parts (fun i => some (i * sz, sz)) (len * sz) ((ps.map (·.1)).zip vs) qs) (ds : List Value) (hds : laid ((List.range (len * sz)).map fun i => z[i % z.length]!) qs = ds)
    (hS : ∀ b, Kp m (St w0 M (L ++ [Res.box b et ds]))) (hk : ∀ b, OW P n l (St w0 M (L ++ [Res.box b et ds])) (upd E o.dst (.slice (some ⟨b, 0, none⟩) len len)) m rest) : OW P n l (St w0 M L) E m (o :: rest) := by
  obtain ⟨i, zv, hi, hsz, _, hzv, hzc⟩ := he.info
  have h0 : ¬ len * i.size = 0 := by have := Nat.le_of_ble_eq_true hpos; rw [hsz]; omega
  have h1 : ¬ len * i.size > 2 ^ 24 := by have := Nat.le_of_ble_eq_true hsm; rw [hsz]; omega
  subst hds
  refine ow_new (v := fun b => .slice (some ⟨b, 0, none⟩) len len) (cs := laid _ qs) hm hw hd (fun a w hF => ?_) hS hk
  have hf : Instr.fill (fun j => some (j * i.size, i.size)) ((Array.range (len * i.size)).map (zv.cells[· % zv.cells.size]!)) (ps.toArray.map fun (i, x) => (i, a.eval x)).toList =
      some (laid ((List.range (len * sz)).map fun i => z[i % z.length]!) qs).toArray := by
    rw [parts_ev hF hx, hsz, hzc]
    have := fill_laid (cs := (List.range (len * sz)).map fun i => z[i % z.length]!) (by simp) hp
    rw [← this]
    congr 1
    apply Array.ext'
    simp
  unfold execOp
  simp only [ho, Sem.run_bind, run_buildSlice w t et len _ _ i zv ht hi hzv h1 h0 hf]
  rfl
/-- the empty slice literal: a block of no cells -/
theorem ow_bslice0 {o : Oper} {t et : TypeId} {agg : Bool} {sz by_ : Nat} {z : List Value} (ho : o.op = .buildSlice t 0 #[]) (hm : m.here (o :: rest) = true) (hw : wt l E o.guard = some true) (hd : dstOk n o.dst = true)
    (ht : isSl P t et) (he : isTy P et agg sz by_ z)
    (hS : ∀ b, Kp m (St w0 M (L ++ [Res.box b et []]))) (hk : ∀ b, OW P n l (St w0 M (L ++ [Res.box b et []])) (upd E o.dst (.slice (some ⟨b, 0, none⟩) 0 0)) m rest) : OW P n l (St w0 M L) E m (o :: rest) := by
  obtain ⟨i, zv, hi, hsz, _, hzv, hzc⟩ := he.info
  have ht' : P.underlying t = some (.slice et) := ht
  refine ow_new (v := fun b => .slice (some ⟨b, 0, none⟩) 0 0) (cs := []) hm hw hd (fun a w hF => ?_) hS hk
  unfold execOp
  simp [ho, Instr.buildSlice, run_underlying ht', sizeOf, typeInfo, hi, Instr.fill, newRow, Array.range_zero']
/-- a block of no cells is a slice of the call's own -/
theorem own_empty {α : Type} {e : Enc α} {b : Nat} {T : TypeId} {w : World} (h : (Res.box b T []).ok w) : (Res.own (eList e T) [b] [] [.slice (some ⟨b, 0, none⟩) 0 0]).ok w :=
  .inr ⟨b, 0, #[], [], [], rfl, rfl, h, Nat.le_refl _, by simp [maxLen], by simp, by simp, rfl, rfl⟩
theorem own_nil {α : Type} {e : Enc α} {T : TypeId} {w : World} : (Res.own (eList e T) [] [] [.slice none 0 0]).ok w := .inl ⟨rfl, rfl, rfl⟩
/-- a block of known elements -/
theorem own_lit {α : Type} {val : α → Value} {h1 : ∀ x, (val x).oneCell' = true} {b : Nat} {T : TypeId} {w : World} (xs : List α) (hl : xs.length ≤ maxLen) (h : (Res.box b T (xs.map val)).ok w) :
    (Res.own (eList (eVal val h1) T) [b] xs [.slice (some ⟨b, 0, none⟩) xs.length xs.length]).ok w :=
  flat_own ⟨_, h, Nat.le_refl _, hl, by simp, by rw [List.take_of_length_le (by simp)]⟩
/-! ### make -/
def mk {α : Type} (z : α) (n : Int) : Option (List α) := if 0 ≤ n ∧ n ≤ 68719476736 then some (List.replicate n.toNat z) else none
theorem cyc (z : List Value) (hz : 0 < z.length) : ∀ (N s : Nat), (List.range' (s * z.length) (N * z.length)).map (fun i => z[i % z.length]!) = (List.replicate N z).flatten
  | 0, s => by simp
  | N + 1, s => by
    have h : (N + 1) * z.length = z.length + N * z.length := by rw [Nat.add_mul]; omega
    rw [h, ← List.range'_append_1, List.map_append, List.replicate_succ, List.flatten_cons]
    congr 1
    · apply List.ext_getElem?
      intro q
      by_cases hq : q < z.length
      · simp [hq, Nat.add_mod, Nat.mod_eq_of_lt]
      · simp [hq]
    · have := cyc z hz N (s + 1)
      rw [Nat.add_mul, Nat.one_mul] at this
      exact this
theorem madeCells_rep (z : List Value) (N : Nat) (hz : 0 < z.length) : (madeCells z.toArray (N * z.length)).toList = (List.replicate N z).flatten := by
  have := cyc z hz N 0
  rw [← this]
  simp [madeCells, List.range_eq_range']
theorem ownAll_rep {α : Type} {e : Enc α} {zero : α} {z : List Value} {w : World} (hzl : z.length = e.sz) (hz : e.own w [] zero z) : ∀ N, ownAll e w [] (List.replicate N zero) (List.replicate N z).flatten
  | 0 => ⟨rfl, rfl⟩
  | N + 1 => ⟨[], [], z, _, rfl, by rw [List.replicate_succ, List.flatten_cons], hzl, hz, ownAll_rep hzl hz N⟩
theorem ow_make {α : Type} {e : Enc α} {zero : α} {o : Oper} {t et : TypeId} {x y : Operand} {k k' : IntKind} {j : Int} {agg : Bool} {sz by_ : Nat} {z : List Value} {xs : List α} (ho : o.op = .makeSlice t x y) (hm : m.here (o :: rest) = true) (hw : wt l E o.guard = some true) (hd : dstOk n o.dst = true)
    (hx : ev E x = some (.int k j)) (hy : ev E y = some (.int k' j)) (ht : isSl P t et) (he : isTy P et agg sz by_ z) (hby : Nat.ble by_ 2048 = true) (hsz : e.sz = sz) (hzl : z.length = sz) (hpos : Nat.blt 0 sz = true) (hz : ∀ w, e.own w [] zero z) (hj : mk zero j = some xs)
    (hS : ∀ b, Kp m (St w0 M (L ++ [Res.own (eList e et) [b] xs [.slice (some ⟨b, 0, none⟩) xs.length xs.length]])))
    (hk : ∀ b, OW P n l (St w0 M (L ++ [Res.own (eList e et) [b] xs [.slice (some ⟨b, 0, none⟩) xs.length xs.length]])) (upd E o.dst (.slice (some ⟨b, 0, none⟩) xs.length xs.length)) m rest) : OW P n l (St w0 M L) E m (o :: rest) := by
  obtain ⟨i, zv, hi, hs, hb, hzv, hzc⟩ := he.info
  unfold mk at hj
  split at hj
  · rename_i hjj
    obtain ⟨h0, h1⟩ := hjj
    simp only [Option.some.injEq] at hj
    have hlen : xs.length = j.toNat := by rw [← hj]; simp
    have hby' := Nat.le_of_ble_eq_true hby
    refine ow_loud hm hw fun a w hF hC _ _ hK => ?_
    have hbytes : (i.bytes : Int) * j ≤ 281474976710656 := by
      rw [hb]
      have h2 : (by_ : Int) ≤ 2048 := by omega
      have : (by_ : Int) * j ≤ 2048 * 68719476736 := Int.mul_le_mul h2 h1 h0 (by omega)
      omega
    have hrun := run_make (P := P) w t et i zv ht hi hzv k k' j j h0 (Int.le_refl _) hbytes (by omega)
    rw [← hlen] at hrun
    have hown : (Res.own (eList e et) [w.heap.size] xs [.slice (some ⟨w.heap.size, 0, none⟩) xs.length xs.length]).ok (w.alloc (.cells (madeCells zv.cells (xs.length * i.size)) et)) := by
      refine .inr ⟨_, _, _, [], _, rfl, rfl, heap_alloc_new w _, Nat.le_refl _, by simp only [maxLen]; omega, by rw [size_madeCells, hs, hsz], rfl, ?_⟩
      have hzp : 0 < z.length := by rw [hzl]; exact Nat.le_of_ble_eq_true hpos
      rw [List.take_of_length_le (by simp [size_madeCells, hs, hsz]), hs, hzc, ← hzl, madeCells_rep z _ hzp]
      have := ownAll_rep (e := e) (zero := zero) (w := w.alloc (.cells (madeCells z.toArray (xs.length * z.length)) et)) (by rw [hzl, hsz]) (hz _) xs.length
      rw [show List.replicate xs.length zero = xs from by rw [hlen, hj]] at this
      exact this
    have hst := hC.push (ext_alloc w (.cells (madeCells zv.cells (xs.length * i.size)) et)) _ hown (by simp [Res.own]) (by simp [Res.own])
    refine upon_val (w' := w.alloc (.cells (madeCells zv.cells (xs.length * i.size)) et)) ?_ (hK _ _ _ _ (hk w.heap.size) (hF.put _ _ (dstOk_lt hd)) hst (hS _ _ hst))
    unfold execOp
    simp only [ho, hF.ev hx, hF.ev hy, Sem.run_bind, hrun]
    rfl
  · cases hj
/-! ### stores -/
theorem run_storeAt {t : TypeId} {agg : Bool} {sz by_ : Nat} {z : List Value} (ht : isTy P t agg sz by_ z) {w : World} {b off : Nat} {T : TypeId} {cur : Array Value} {v : Value} {vs : List Value} (hb : w.heap[b]? = some (.cells cur T (0, 0))) (hv : v.cells = vs.toArray) (hl : vs.length = sz) (hfit : off + sz ≤ cur.size)
    (h1 : ∀ u ∈ vs, u.oneCell' = true) : (Instr.storeAt t (.pointer (some ⟨b, off, none⟩)) v).run P w = .ok () (w.setRow b (splice cur.toList off vs).toArray) := by
  obtain ⟨i, zv, hi, hs, _, _, _⟩ := ht.info
  have hst := run_storeCells_at P b off T vs 0 cur w hb (by simpa [hl] using hfit) h1
  simp only [Nat.add_zero] at hst
  have h3 : ¬ (vs.length ≠ i.size) := by rw [hl, hs]; simp
  simp [Instr.storeAt, Instr.sureAddr, storeVar, sizeOf, typeInfo, hi, hv, hl, hs, hst, splice]
theorem ext_setRow {w : World} {b : Nat} {cur cs : Array Value} {T : TypeId} {fr : Nat × Nat} (_hb : w.heap[b]? = some (.cells cur T fr)) : Ext [b] w (w.setRow b cs) :=
  ⟨rfl, rfl, rfl, by simp, fun k _ hk => setRow_other w b k _ (by simpa using hk)⟩
/-- into a variable of the call's own -/
theorem ow_store {o : Oper} {t : TypeId} {x y : Operand} {b off : Nat} {v : Value} (vs : List Value) {agg : Bool} {sz by_ : Nat} {z : List Value} {i : Nat} {T : TypeId} {cs : List Value} (ho : o.op = .store t x y) (hm : m.here (o :: rest) = true) (hw : wt l E o.guard = some true) (hd : dstOk n o.dst = true)
    (hx : ev E x = some (.pointer (some ⟨b, off, none⟩))) (hy : ev E y = some v) (ht : isTy P t agg sz by_ z) (hv : v.cells = vs.toArray) (hl : vs.length = sz) (h1 : ∀ u ∈ vs, u.oneCell' = true) (hr : L[i]? = some (Res.box b T cs)) (hfit : Nat.ble (off + sz) cs.length = true)
    (hS : Kp m (St w0 M (L.set i (Res.box b T (splice cs off vs))))) (hk : OW P n l (St w0 M (L.set i (Res.box b T (splice cs off vs)))) (upd E o.dst undef) m rest) : OW P n l (St w0 M L) E m (o :: rest) :=
  ow_loud hm hw fun a w hF hC _ _ hK => by
    have hb : w.heap[b]? = some (.cells cs.toArray T (0, 0)) := hC.ok _ (List.mem_of_getElem? hr)
    have hrun := run_storeAt ht hb hv hl (by simpa using Nat.le_of_ble_eq_true hfit) h1
    simp only at hrun
    have hst : St w0 M (L.set i (Res.box b T (splice cs off vs))) (w.setRow b (splice cs off vs).toArray) :=
      hC.upd hr (ext_setRow hb) (Res.box b T (splice cs off vs)) (setRow_heap w b _ _ T _ hb) (by simp [Res.box])
        (fun c hc => by
          have : c = b := by simpa [Res.box] using hc
          subst this
          exact ⟨by simpa using (Array.getElem?_eq_some_iff.1 hb).1, .inl (by simp [Res.box])⟩)
    refine upon_skip ?_ (hK _ _ _ _ hk (hF.put _ _ (dstOk_lt hd)) hst (hS _ hst))
    unfold execOp
    simp only [ho, hF.ev hx, hF.ev hy, Sem.run_bind, hrun]
    rfl
end Go.Vk
/- append, strings, slices of slices. -/
namespace Go.Vk
open Go.RowKit
variable {P : Program} {n : Nat} {C : World → Prop} {E : Env} {m : Md} {l rest : List Oper} {w0 : World} {M : List Nat} {L : List Res} {Q : Exit → Act → World → Prop}
def app {α : Type} (xs ys : List α) : Option (List α) := if xs.length + ys.length ≤ 68719476736 then some (xs ++ ys) else none
theorem app_some {α : Type} {xs ys zs : List α} (h : app xs ys = some zs) : zs = xs ++ ys ∧ xs.length + ys.length ≤ 68719476736 := by
  unfold app at h
  split at h
  · exact ⟨(Option.some.inj h).symm, ‹_›⟩
  · cases h
theorem own_row {α : Type} {e : Enc α} {T : TypeId} {w : World} {F : List Nat} {xs : List α} {v : Value} (h : ownList e T w F xs [v]) :
    ∃ ds F1, w.ownsRow 0 T e.sz v xs.length ds ∧ ownAll e w F1 xs ds ∧ ((F = [] ∧ F1 = [] ∧ xs = [] ∧ v = .slice none 0 0) ∨ ∃ b, F = b :: F1 ∧ v.ownBlock = some b) := by
  rcases h with ⟨rfl, rfl, hv⟩ | ⟨b, cap, cur, F1, ds, rfl, hcs, hh, h1, h2, h3, h4, h5⟩
  · simp only [List.cons.injEq, and_true] at hv
    subst hv
    exact ⟨[], [], World.ownsRow_nil w 0 T e.sz, ⟨rfl, rfl⟩, .inl ⟨rfl, rfl, rfl, rfl⟩⟩
  · simp only [List.cons.injEq, and_true] at hcs
    subst hcs
    exact ⟨ds, F1, ⟨ownAll_len h5, .inr ⟨b, cap, cur, rfl, Nat.zero_le _, hh, h1, h2, h3, h4⟩⟩, h5, .inr ⟨b, rfl, rfl⟩⟩
theorem row_own {α : Type} {e : Enc α} {T : TypeId} {w : World} {F1 : List Nat} {xs : List α} {v : Value} {ds : List Value} (h : w.ownsRow 0 T e.sz v xs.length ds) (ha : ownAll e w F1 xs ds) (hnil : v = .slice none 0 0 → F1 = []) :
    ∃ F, ownList e T w F xs [v] ∧ ((F = [] ∧ v = .slice none 0 0) ∨ ∃ b, F = b :: F1 ∧ v.ownBlock = some b) := by
  rcases h.2 with ⟨rfl, hn⟩ | ⟨b, cap, cur, rfl, _, hh, h1, h2, h3, h4⟩
  · have hx := List.eq_nil_of_length_eq_zero hn
    subst hx
    exact ⟨[], .inl ⟨rfl, rfl, rfl⟩, .inl ⟨rfl, rfl⟩⟩
  · exact ⟨b :: F1, .inr ⟨b, cap, cur, F1, ds, rfl, rfl, hh, h1, h2, h3, h4, ha⟩, .inr ⟨b, rfl, rfl⟩⟩
/-- what an append leaves -/
theorem append_core {α : Type} {e : Enc α} {t ty et : TypeId} {agg : Bool} {sz by_ : Nat} {z : List Value} (ht : isSl P t et) (he : isTy P et agg sz by_ z) (hby : Nat.ble by_ 2048 = true) (hsz : e.sz = sz) (hpos : Nat.blt 0 sz = true) (hzl : z.length = sz)
    {w : World} {F Fy : List Nat} {xs ys : List α} {v : Value} (hown : ownList e et w F xs [v]) {p : Addr} {mm cap : Nat} {news : List Value} (hm : mm = ys.length) (hA : At w [] p news) (hnew : ownAll e w Fy ys news)
    (hlen : xs.length + ys.length ≤ 68719476736) (hnd : (F ++ Fy).Nodup) (hdis : ∀ b, v.ownBlock = some b → b ∉ Fy) :
    ∃ v' w' F', (Builtin.append_ #[t, t] ty #[v, .slice (some p) mm cap]).run P w = .ok v' w' ∧ ownList e et w' F' (xs ++ ys) [v'] ∧ Ext F w w' ∧ F'.Nodup ∧ (∀ b ∈ F', b < w'.heap.size ∧ (b ∈ F ∨ b ∈ Fy ∨ w.heap.size ≤ b)) := by
  obtain ⟨i, zv, hi, hs, hb, hzv, hzc⟩ := he.info
  obtain ⟨ds, F1, hrow, hall, hF⟩ := own_row hown
  have hby' := Nat.le_of_ble_eq_true hby
  have hsp : 0 < i.size := by rw [hs]; exact Nat.le_of_ble_eq_true hpos
  have hbytes : (xs.length + ys.length) * i.bytes ≤ 140737488355328 := by
    rw [hb]
    calc (xs.length + ys.length) * by_ ≤ 68719476736 * 2048 := Nat.mul_le_mul hlen hby'
      _ ≤ 140737488355328 := by omega
  have hl' : news.length = ys.length * e.sz := ownAll_len hnew
  obtain ⟨v', w', hrun, hown', hgr, hnil⟩ := run_append_own (P := P) w 0 t ty et i zv e.sz i.bytes ht hi hzv (by rw [hs, hsz]) rfl (by rw [hzc]; simp [hzl, hsz]) (by rw [hsz, ← hs]; exact hsp) v xs.length ds hrow p mm cap news
    (by rw [hm]; exact hl') hA.2 (ownAll_one hnew) (by rw [hm]; simp only [maxLen]; omega) (by rw [hm]; exact hbytes) (Nat.zero_le _)
  have hvb : v' = .slice none 0 0 ∨ v'.ownBlock = v.ownBlock ∨ v'.ownBlock = some w.heap.size := by
    have hnl : news.length = mm * i.size := by rw [hm, hs, ← hsz]; exact hl'
    rcases hrow.2 with ⟨hv, hn0⟩ | ⟨g, cp, cur, hv, _, hg, h1, h2, h3, h4⟩
    · by_cases h0 : mm = 0
      · exact .inl (hnil.2 ⟨hv, h0⟩)
      · subst hv
        have hr := run_append_nil (P := P) w t ty et i zv ht hi hzv p mm cap news hnl hA.2 (by omega) (by rw [hm]; omega) (by
          have : ys.length * i.bytes ≤ (xs.length + ys.length) * i.bytes := Nat.mul_le_mul_right _ (by omega)
          rw [hm]; omega)
        rw [hr] at hrun
        cases hrun
        exact .inr (.inr rfl)
    · subst hv
      by_cases hroom : xs.length + mm ≤ cp
      · have hfit : xs.length * i.size + news.length ≤ cur.size := by
          rw [hnl, h3, hs, hsz, ← Nat.add_mul]; exact Nat.mul_le_mul_right _ hroom
        have hr := run_append_room (P := P) w t ty et i ht hi g xs.length cp cur hg p mm cap news hnl hA.2 (ownAll_one hnew) hroom hfit
        rw [hr] at hrun
        cases hrun
        exact .inr (.inl rfl)
      · have hr := run_append_grow (P := P) w t ty et i zv ht hi hzv ⟨g, 0, none⟩ xs.length cp ds (by rw [ownAll_len hall, hs, hsz]) (hrow.cells (g := g) rfl) p mm cap news hnl hA.2 (by omega) (by rw [hm]; omega) (growslice_fits (by omega) (by rw [hm]; exact hbytes))
        rw [hr] at hrun
        cases hrun
        exact .inr (.inr rfl)
  have hvF : ∀ b, v.ownBlock = some b → b ∈ F := by
    intro b hb
    rcases hF with ⟨_, _, _, rfl⟩ | ⟨c, rfl, hc⟩
    · cases hb
    · rw [hc] at hb; cases hb; simp
  have hext : Ext F w w' := ⟨hgr.os, hgr.tape, hgr.output, hgr.size, fun b hb hn => hgr.block b hb (fun e => hn (hvF b e.symm))⟩
  have hF1 : ∀ b ∈ F1, b ∈ F := by
    intro b hb
    rcases hF with ⟨_, rfl, _, _⟩ | ⟨c, rfl, _⟩
    · cases hb
    · exact List.mem_cons_of_mem _ hb
  have hndF : F.Nodup := (List.nodup_append.1 hnd).1
  have hvF1 : ∀ b ∈ F1, some b ≠ v.ownBlock := by
    intro b hb e
    rcases hF with ⟨_, rfl, _, _⟩ | ⟨c, rfl, hc⟩
    · cases hb
    · rw [hc] at e; cases e
      exact (List.nodup_cons.1 hndF).1 hb
  have hlt : ∀ b ∈ F, b < w.heap.size := fun b hb => (eList e et).own_lt hown b hb
  have hlty := ownAll_lt hnew
  have hall' : ownAll e w' (F1 ++ Fy) (xs ++ ys) (ds ++ news) :=
    ownAll_append (ownAll_loc hall (fun b hb => hgr.block b (hlt b (hF1 b hb)) (hvF1 b hb))) (ownAll_loc hnew (fun b hb => hgr.block b (hlty b hb) (fun e => hdis b e.symm hb)))
  rw [hm] at hown'
  rw [← List.length_append] at hown'
  obtain ⟨F', ho, hF'⟩ := row_own hown' hall' (fun hv => by
    obtain ⟨h1, h2⟩ := hnil.1 hv
    rw [hm] at h2
    have := List.eq_nil_of_length_eq_zero h2
    subst this
    rcases hF with ⟨_, rfl, _, _⟩ | ⟨c, _, hc⟩
    · rw [hnew.1]; rfl
    · rw [h1] at hc; cases hc)
  refine ⟨v', w', F', hrun, ho, hext, ?_, ?_⟩
  · rcases hF' with ⟨rfl, _⟩ | ⟨b, rfl, hb⟩
    · simp
    · have hnd1 : (F1 ++ Fy).Nodup := by
        rcases hF with ⟨_, rfl, _, _⟩ | ⟨c, rfl, _⟩
        · exact (List.nodup_append.1 hnd).2.1
        · exact (List.nodup_cons.1 hnd).2
      refine List.nodup_cons.2 ⟨fun hin => ?_, hnd1⟩
      rcases hvb with h1 | h1 | h1
      · rw [h1] at hb; cases hb
      · rw [hb] at h1
        rcases List.mem_append.1 hin with h2 | h2
        · exact hvF1 b h2 h1
        · exact hdis b h1.symm h2
      · rw [hb] at h1; cases h1
        rcases List.mem_append.1 hin with h2 | h2
        · have := hlt _ (hF1 _ h2); omega
        · have := hlty _ h2; omega
  · intro b hb
    refine ⟨(eList e et).own_lt ho b hb, ?_⟩
    rcases hF' with ⟨rfl, _⟩ | ⟨c, rfl, hc⟩
    · cases hb
    · cases hb with
      | head =>
        rcases hvb with h1 | h1 | h1
        · rw [h1] at hc; cases hc
        · rw [hc] at h1; exact .inl (hvF b h1.symm)
        · rw [hc] at h1; cases h1; exact .inr (.inr (Nat.le_refl _))
      | tail _ hb =>
        rcases List.mem_append.1 hb with h2 | h2
        · exact .inl (hF1 b h2)
        · exact .inr (.inl h2)
theorem rd_cells {α : Type} {val : α → Value} {h1 : ∀ x, (val x).oneCell' = true} {w : World} {X : List Nat} {xs : List α} {p : Addr} {nn cap : Nat} (h : rdList (eVal val h1) w X xs [.slice (some p) nn cap]) : nn = xs.length ∧ At w X p (xs.map val) := by
  obtain ⟨a, cap', hv, hle, hc, hel⟩ := h
  simp only [List.cons.injEq, Value.slice.injEq, and_true] at hv
  obtain ⟨rfl, rfl, rfl⟩ := hv
  refine ⟨rfl, ?_⟩
  by_cases hne : xs = []
  · subst hne
    exact ⟨fun h => absurd rfl h, fun j v hv => by simp at hv⟩
  · obtain ⟨q, hq, hp⟩ := hel hne
    cases hq
    refine ⟨fun _ => ?_, fun j v hv => ?_⟩
    · obtain ⟨x, hx⟩ : ∃ x, xs[0]? = some x := by cases xs with | nil => exact absurd rfl hne | cons x _ => exact ⟨x, rfl⟩
      obtain ⟨ds, hd, hA⟩ := hp 0 x hx
      have hd' : ds = [val x] := hd
      subst hd'
      have := hA.1 (by simp)
      rwa [add_block] at this
    · rw [List.getElem?_map] at hv
      cases hx : xs[j]? with
      | none => rw [hx] at hv; cases hv
      | some x =>
        rw [hx] at hv
        obtain ⟨ds, hd, hA⟩ := hp j x hx
        have hd' : ds = [val x] := hd
        subst hd'
        have := hA.2 0 (val x) rfl
        simp only [eVal, Nat.mul_one, add_zero] at this
        rw [this, ← hv]; rfl
/-- s[lo:hi] -/
def sub {α : Type} (xs : List α) (lo hi : Int) : Option (List α) := if 0 ≤ lo ∧ lo ≤ hi ∧ hi ≤ xs.length then some ((xs.drop lo.toNat).take (hi.toNat - lo.toNat)) else none
theorem sub_some {α : Type} {xs ys : List α} {lo hi : Int} (h : sub xs lo hi = some ys) : 0 ≤ lo ∧ lo ≤ hi ∧ hi ≤ xs.length ∧ ys = (xs.drop lo.toNat).take (hi.toNat - lo.toNat) := by
  unfold sub at h
  split at h
  · rename_i hc; exact ⟨hc.1, hc.2.1, hc.2.2, (Option.some.inj h).symm⟩
  · cases h
/-- a bound that is given, or the default -/
def bnd (E : Env) : Option Operand → Int → Option Int
  | none, d => some d
  | some x, _ => match ev E x with | some (.int _ j) => some j | _ => none
theorem bnd_ev {a : Act} (hF : Fr n E a) {x : Option Operand} {d j : Int} (h : bnd E x d = some j) : (x = none ∧ j = d) ∨ ∃ y k, x = some y ∧ a.eval y = .int k j := by
  cases x with
  | none => exact .inl ⟨rfl, (Option.some.inj h).symm⟩
  | some y =>
    simp only [bnd] at h
    split at h
    · rename_i k q hy
      simp only [Option.some.injEq] at h; subst h
      exact .inr ⟨y, k, rfl, hF.ev hy⟩
    · cases h
theorem run_bounds {isSl : Bool} {len cap : Nat} {lo hi : Option Value} {i j : Int} (hlo : (lo = none ∧ i = 0) ∨ ∃ k, lo = some (.int k i)) (hhi : (hi = none ∧ j = len) ∨ ∃ k, hi = some (.int k j)) (h0 : 0 ≤ i) (h1 : i ≤ j) (h2 : j ≤ len) (hc : len ≤ cap) (_hs : isSl = false → cap = len) (w : World) :
    (Instr.sliceBounds isSl len cap lo hi none).run P w = .ok (i.toNat, j.toNat, cap) w := by
  have hb : ∀ (k : IntKind) (q : Int) (y : Nat) (c : BoundsCode), 0 ≤ q → q ≤ y → (Instr.sliceBound (.int k q) y c).run P w = .ok q.toNat w := by
    intro k q y c hq hy
    simp [Instr.sliceBound, asIntOf, hq, hy]
  rcases hhi with ⟨rfl, rfl⟩ | ⟨k, rfl⟩
  · rcases hlo with ⟨rfl, rfl⟩ | ⟨k', rfl⟩
    · simp [Instr.sliceBounds]
    · simp [Instr.sliceBounds, hb k' i len .sliceB h0 h1]
  · have h4 := hb k j cap (if isSl = true then BoundsCode.sliceAcap else BoundsCode.sliceAlen) (by omega) (by omega)
    rcases hlo with ⟨rfl, rfl⟩ | ⟨k', rfl⟩
    · simp [Instr.sliceBounds, h4]
    · have h5 := hb k' i j.toNat .sliceB h0 (by omega)
      simp [Instr.sliceBounds, h4, h5]
/-- xs[lo:hi] of a slice that can be read -/
theorem ow_lsub {α : Type} {e : Enc α} {o : Oper} {t et : TypeId} {x : Operand} {lo hi : Option Operand} {xs ys : List α} {v : Value} {i j : Int} {agg : Bool} {sz by_ : Nat} {z : List Value} (ho : o.op = .slice t x lo hi none) (hw : wt l E o.guard = some true) (hd : dstOk n o.dst = true) (hx : ev E x = some v) (ht : isSl P t et) (he : isTy P et agg sz by_ z) (hsz : e.sz = sz)
    (hi' : bnd E lo 0 = some i) (hj' : bnd E hi xs.length = some j) (h : sub xs i j = some ys) (hr : rdList e w0 M xs [v]) (hk : ∀ v', rdList e w0 M ys [v'] → OW P n l C (upd E o.dst v') m rest) : OW P n l C E m (o :: rest) := by
  obtain ⟨h0, h1, h2, rfl⟩ := sub_some h
  obtain ⟨a, cap, hv, hle, hc, hel⟩ := hr
  simp only [List.cons.injEq, and_true] at hv
  subst hv
  obtain ⟨ti, zv, hti, hs, _, _, _⟩ := he.info
  have ht' : P.underlying t = some (.slice et) := ht
  have hylen : ((xs.drop i.toNat).take (j.toNat - i.toNat)).length = j.toNat - i.toNat := by simp; omega
  refine ow_r hw (dstOk_lt hd) (v := .slice (if cap = i.toNat then a else a.map (·.add (i.toNat * sz))) (j.toNat - i.toNat) (cap - i.toNat)) (fun fr hF w _ => ?_) (hk _ ?_)
  · have hlo : (lo.map fr.eval = none ∧ i = 0) ∨ ∃ k, lo.map fr.eval = some (.int k i) := by
      rcases bnd_ev hF hi' with ⟨rfl, rfl⟩ | ⟨y, k, rfl, hy⟩
      · exact .inl ⟨rfl, rfl⟩
      · exact .inr ⟨k, by simp [hy]⟩
    have hhi : (hi.map fr.eval = none ∧ j = xs.length) ∨ ∃ k, hi.map fr.eval = some (.int k j) := by
      rcases bnd_ev hF hj' with ⟨rfl, rfl⟩ | ⟨y, k, rfl, hy⟩
      · exact .inl ⟨rfl, rfl⟩
      · exact .inr ⟨k, by simp [hy]⟩
    have hb := run_bounds (P := P) (isSl := true) (len := xs.length) (cap := cap) hlo hhi h0 h1 h2 hle (fun h => by cases h) w
    unfold execOp
    simp [ho, hF.ev hx, Instr.sliceAt, Instr.slice, run_underlying ht', hb, sizeOf, typeInfo, hti, hs]
  · refine ⟨_, cap - i.toNat, by rw [hylen], by rw [hylen]; omega, by omega, fun hne => ?_⟩
    have hxs : xs ≠ [] := fun e => by subst e; simp at hne
    obtain ⟨p, rfl, hp⟩ := hel hxs
    have hlt : i.toNat < cap := by
      have : 0 < ((xs.drop i.toNat).take (j.toNat - i.toNat)).length := List.length_pos_iff.2 hne
      rw [hylen] at this; omega
    rw [if_neg (by omega)]
    refine ⟨p.add (i.toNat * sz), rfl, fun q x hq => ?_⟩
    rw [List.getElem?_take] at hq
    split at hq
    · rw [List.getElem?_drop] at hq
      obtain ⟨ds, hd', hA⟩ := hp _ x hq
      refine ⟨ds, hd', ?_⟩
      have hmul : i.toNat * sz + q * sz = (i.toNat + q) * sz := by rw [Nat.add_mul]
      rw [hsz] at hA ⊢
      rw [add_add, hmul]
      exact hA
    · cases hq
/-- s == nil, s != nil -/
theorem ry_nil {o : Oper} {t et u : TypeId} {x : Operand} {a : Option Addr} {nn cap : Nat} (ho : o.op = .binOp .eql t x (.const (.slice none 0 0)) u) (hx : ev E x = some (.slice a nn cap)) (ht : isSl P t et) : Ry P n C E o (.bool a.isNone) := fun fr hF w _ => by
  have ht' : P.underlying t = some (.slice et) := ht
  have hc : fr.eval (.const (.slice none 0 0)) = .slice none 0 0 := rfl
  have hn := Lib.run_eql_slice_nil (P := P) w t et a nn cap 0 0 ht'
  unfold execOp
  simp only [ho, hF.ev hx, hc, eqGuard_at_slice, Sem.run_bind, Sem.run_pure, Result.andThen_ok, hn]
end Go.Vk
/- Own slices by address, calls with results of their own, joins. -/
namespace Go.Vk
open Go.RowKit
variable {P : Program} {n : Nat} {C : World → Prop} {E : Env} {m : Md} {l rest : List Oper} {w0 : World} {M : List Nat} {L : List Res} {Q : Exit → Act → World → Prop}
theorem fuelEx : ∃ n : Nat, 1000000000000 ≤ n := ⟨_, Nat.le_refl _⟩
/-- how many rounds a loop is given: more than any has -/
noncomputable def Fuel : Nat := Classical.choose fuelEx
theorem fuel_gt {n : Nat} (h : n < 1000000000000) : n < Fuel := Nat.lt_of_lt_of_le h (Classical.choose_spec fuelEx)
def eltP (a : Option Addr) (k : Nat) : Addr := (a.getD ⟨0, 0, none⟩).add k
theorem rds_own {α : Type} {e : Enc α} {F : List Nat} {xs : α} {cs : List Value} {r : Nat} (hr : L[r]? = some (Res.own e F xs cs)) : ∀ w, St w0 M L w → e.rd w [] xs cs :=
  fun w hw => e.own_rd (hw.ok _ (List.mem_of_getElem? hr)) (by simp)
theorem rds_bor {α : Type} {e : Enc α} {xs : α} {cs : List Value} (h : e.rd w0 M xs cs) : ∀ w, St w0 M L w → e.rd w [] xs cs := Rds.bor h
theorem rd_none {α : Type} {e : Enc α} {w : World} {X : List Nat} : rdList e w X [] [.slice none 0 0] := ⟨none, 0, rfl, by simp, by simp [maxLen], fun h => absurd rfl h⟩
/-- into an element of a slice of the call's own -/
theorem ow_storeV {α : Type} {val : α → Value} {h1 : ∀ x, (val x).oneCell' = true} {o : Oper} {t : TypeId} {x y : Operand} {a : Option Addr} {j : Int} {nn cap : Nat} {u : α} {sz by_ : Nat} {z : List Value} {i : Nat} {T : TypeId} {xs : List α} {F : List Nat} {u0 : α} (ho : o.op = .store t x y) (hm : m.here (o :: rest) = true) (hw : wt l E o.guard = some true) (hd : dstOk n o.dst = true)
    (hx : ev E x = some (.pointer (some (eltP a j.toNat)))) (hy : ev E y = some (val u)) (ht : isTy P t false sz by_ z) (hr : L[i]? = some (Res.own (eList (eVal val h1) T) F xs [.slice a nn cap])) (hj : idx xs j = some u0) (hvc : ∀ u, (val u).cells = #[val u])
    (hS : Kp m (St w0 M (L.set i (Res.own (eList (eVal val h1) T) F (xs.set j.toNat u) [.slice a nn cap]))))
    (hk : OW P n l (St w0 M (L.set i (Res.own (eList (eVal val h1) T) F (xs.set j.toNat u) [.slice a nn cap]))) (upd E o.dst undef) m rest) : OW P n l (St w0 M L) E m (o :: rest) :=
  ow_loud hm hw fun fr w hF hC _ _ hK => by
    obtain ⟨_, hlt, _⟩ := idx_some hj
    generalize hjj : j.toNat = jj at *
    rcases own_flat (hC.ok _ (List.mem_of_getElem? hr)) with ⟨rfl, _, _⟩ | ⟨b, cap', rfl, hv, cur, hb, h2, h3, h4, h5⟩
    · simp at hlt
    · simp only [Value.slice.injEq] at hv
      obtain ⟨rfl, rfl, rfl⟩ := hv
      have h6 := ht.one rfl
      subst h6
      have hp : eltP (some ⟨b, 0, none⟩) jj = ⟨b, jj, none⟩ := by simp [eltP, add_lit]
      rw [hp] at hx
      have hrun := run_storeAt (vs := [val u]) ht hb (hvc u) rfl (off := jj) (by omega) (by simp [h1])
      have hfl : flat val T b cap (xs.set jj u) (w.setRow b (splice cur.toList jj [val u]).toArray) := by
        refine ⟨_, setRow_heap w b _ _ T _ hb, by simpa using h2, h3, ?_, ?_⟩
        · simp only [List.size_toArray]; rw [splice_len (by simp; omega)]; simpa using h4
        · apply List.ext_getElem?
          intro q
          have h7 : (cur.toList.take xs.length)[q]? = (xs.map val)[q]? := by rw [h5]
          simp only [List.length_set, List.getElem?_take, List.getElem?_map, List.getElem?_set] at h7 ⊢
          by_cases hq : q < xs.length
          · simp only [hq, if_true] at h7 ⊢
            by_cases hqj : jj = q
            · subst hqj
              simp [splice, hlt, Nat.min_eq_left (show jj ≤ cur.size by omega)]
            · simp only [hqj, if_false]
              rw [← h7]
              simp only [splice, List.getElem?_append, List.length_take, List.getElem?_take, List.length_append, List.length_singleton, List.getElem?_drop, Array.length_toList, Nat.min_eq_left (show jj ≤ cur.size by omega)]
              by_cases c1 : q < jj
              · simp [c1, show q < jj + 1 by omega]
              · simp only [show ¬ q < jj + 1 by omega, if_false]
                congr 1; omega
          · have : jj ≠ q := by omega
            simp [hq, this]
      have hst : St w0 M (L.set i (Res.own (eList (eVal val h1) T) [b] (xs.set jj u) [.slice (some ⟨b, 0, none⟩) xs.length cap])) (w.setRow b (splice cur.toList jj [val u]).toArray) := by
        refine hC.upd hr (ext_setRow hb) _ ?_ (by simp [Res.own]) (fun c hc => ?_)
        · have := flat_own (h1 := h1) hfl
          rwa [List.length_set] at this
        · have : c = b := by simpa [Res.own] using hc
          subst this
          exact ⟨by simpa using (Array.getElem?_eq_some_iff.1 hb).1, .inl (by simp [Res.own])⟩
      refine upon_skip ?_ (hK _ _ _ _ hk (hF.put _ _ (dstOk_lt hd)) hst (hS _ hst))
      unfold execOp
      simp only [ho, hF.ev hx, hF.ev hy, Sem.run_bind, hrun]
      rfl
/-- a literal of known elements, as a slice of the call's own -/
theorem ow_blit {α : Type} {val : α → Value} {h1 : ∀ x, (val x).oneCell' = true} {o : Oper} {t et : TypeId} {len : Nat} {ps : List (Nat × Operand)} {vs : List Value} (xs : List α) (qs : List (Nat × List Value)) {agg : Bool} {sz by_ : Nat} {z : List Value} (ho : o.op = .buildSlice t len ps.toArray) (hm : m.here (o :: rest) = true) (hw : wt l E o.guard = some true) (hd : dstOk n o.dst = true)
    (hx : evs E (ps.map (·.2)) = some vs) (ht : isSl P t et) (he : isTy P et agg sz by_ z) (hpos : Nat.blt 0 (len * sz) = true) (hsm : Nat.ble (len * sz) 16777216 = true) (hlen : xs.length = len)
    (hp : Parts (fun i => some (i * sz, sz)) (len * sz) ((ps.map (·.1)).zip vs) qs) (hds : laid ((List.range (len * sz)).map fun i => z[i % z.length]!) qs = xs.map val) (hsz : 1 = sz)
    (hS : ∀ b, Kp m (St w0 M (L ++ [Res.own (eList (eVal val h1) et) [b] xs [.slice (some ⟨b, 0, none⟩) xs.length len]])))
    (hk : ∀ b, OW P n l (St w0 M (L ++ [Res.own (eList (eVal val h1) et) [b] xs [.slice (some ⟨b, 0, none⟩) xs.length len]])) (upd E o.dst (.slice (some ⟨b, 0, none⟩) xs.length len)) m rest) : OW P n l (St w0 M L) E m (o :: rest) := by
  have hst : ∀ b w, St w0 M (L ++ [Res.box b et (xs.map val)]) w → St w0 M (L ++ [Res.own (eList (eVal val h1) et) [b] xs [.slice (some ⟨b, 0, none⟩) xs.length len]]) w := fun b w h => by
    have hi : (L ++ [Res.box b et (xs.map val)])[L.length]? = some (Res.box b et (xs.map val)) := by simp
    have := h.recast (r' := Res.own (eList (eVal val h1) et) [b] xs [.slice (some ⟨b, 0, none⟩) xs.length len]) hi rfl (fun ho => by
      have hmx : xs.length ≤ maxLen := by
        rw [hlen]; have := Nat.le_of_ble_eq_true hsm; rw [← hsz] at this; simp only [maxLen]; omega
      have := own_lit (h1 := h1) xs hmx ho
      rwa [← hlen])
    simpa using this
  subst hlen
  refine ow_bslice qs ho hm hw hd hx ht he hpos hsm hp _ hds (fun b w hw' => hS b w (hst b w hw')) (fun b => ?_)
  have := hk b
  cases m with
  | lex Q => exact fun a w hF hC => this a w hF (hst b w hC)
  | any K => cases hm
  | held S Q fl => exact fun s h1 h2 a w hF hC => this s h1 h2 a w hF (hst b w hC)
theorem ow_blit0 {α : Type} {e : Enc α} {o : Oper} {t et : TypeId} {agg : Bool} {sz by_ : Nat} {z : List Value} (ho : o.op = .buildSlice t 0 #[]) (hm : m.here (o :: rest) = true) (hw : wt l E o.guard = some true) (hd : dstOk n o.dst = true)
    (ht : isSl P t et) (he : isTy P et agg sz by_ z)
    (hS : ∀ b, Kp m (St w0 M (L ++ [Res.own (eList e et) [b] [] [.slice (some ⟨b, 0, none⟩) 0 0]])))
    (hk : ∀ b, OW P n l (St w0 M (L ++ [Res.own (eList e et) [b] [] [.slice (some ⟨b, 0, none⟩) 0 0]])) (upd E o.dst (.slice (some ⟨b, 0, none⟩) 0 0)) m rest) : OW P n l (St w0 M L) E m (o :: rest) := by
  have hst : ∀ b w, St w0 M (L ++ [Res.box b et []]) w → St w0 M (L ++ [Res.own (eList e et) [b] [] [.slice (some ⟨b, 0, none⟩) 0 0]]) w := fun b w h => by
    have hi : (L ++ [Res.box b et []])[L.length]? = some (Res.box b et []) := by simp
    have := h.recast (r' := Res.own (eList e et) [b] [] [.slice (some ⟨b, 0, none⟩) 0 0]) hi rfl (fun ho => own_empty ho)
    simpa using this
  refine ow_bslice0 ho hm hw hd ht he (fun b w hw' => hS b w (hst b w hw')) (fun b => ?_)
  have := hk b
  cases m with
  | lex Q => exact fun a w hF hC => this a w hF (hst b w hC)
  | any K => cases hm
  | held S Q fl => exact fun s h1 h2 a w hF hC => this s h1 h2 a w hF (hst b w hC)
/-- append, its second operand whatever slice can be read -/
theorem ow_appR {α : Type} {val : α → Value} {h1 : ∀ x, (val x).oneCell' = true} {o : Oper} {t et : TypeId} {x y : Operand} {agg : Bool} {by_ : Nat} {z : List Value} {r : Nat} {F : List Nat} {xs ys zs : List α} {a : Option Addr} {nn cap : Nat} {a2 : Option Addr} {n2 cap2 : Nat}
    (ho : o.op = .call { callee := .builtin .append, args := #[x, y], argTypes := #[t, t] }) (hm : m.here (o :: rest) = true) (hw : wt l E o.guard = some true) (hd : dstOk n o.dst = true) (hx : ev E x = some (.slice a nn cap)) (hy : ev E y = some (.slice a2 n2 cap2))
    (ht : isSl P t et) (he : isTy P et agg 1 by_ z) (hby : Nat.ble by_ 2048 = true) (hzl : z.length = 1) (hr : L[r]? = some (Res.own (eList (eVal val h1) et) F xs [.slice a nn cap])) (hA : ∀ w, St w0 M L w → rdList (eVal val h1) w [] ys [.slice a2 n2 cap2]) (hz : app xs ys = some zs)
    (hS : ∀ a' c' F', Kp m (St w0 M (L.set r (Res.own (eList (eVal val h1) et) F' zs [.slice a' zs.length c']))))
    (hk : ∀ a' c' F', OW P n l (St w0 M (L.set r (Res.own (eList (eVal val h1) et) F' zs [.slice a' zs.length c']))) (upd E o.dst (.slice a' zs.length c')) m rest) : OW P n l (St w0 M L) E m (o :: rest) := by
  obtain ⟨rfl, hlen⟩ := app_some hz
  refine ow_loud hm hw fun fr w hF hC _ _ hK => ?_
  obtain ⟨hok, hnd, hlt⟩ := hC.one hr
  have hr2 := hA w hC
  obtain ⟨i, zv, hi, hs, hb, hzv, hzc⟩ := he.info
  have fin : ∀ v' w' F', (Builtin.append_ #[t, t] o.type #[.slice a nn cap, .slice a2 n2 cap2]).run P w = .ok v' w' → ownList (eVal val h1) et w' F' (xs ++ ys) [v'] → Ext F w w' → F'.Nodup → (∀ b ∈ F', b < w'.heap.size ∧ (b ∈ F ∨ w.heap.size ≤ b)) →
      o.wp P fr w _ m.ends := fun v' w' F' hrun hown hext hnd' hF' => by
    obtain ⟨a', c', hv, _⟩ := (eList (eVal val h1) et).own_rd (X := []) hown (by simp)
    simp only [List.cons.injEq, and_true] at hv
    subst hv
    have hst : St w0 M (L.set r (Res.own (eList (eVal val h1) et) F' (xs ++ ys) [.slice a' (xs ++ ys).length c'])) w' := hC.upd hr hext _ hown hnd' hF'
    refine upon_val ?_ (hK _ _ _ _ (hk a' c' F') (hF.put _ _ (dstOk_lt hd)) hst (hS a' c' F' _ hst))
    unfold execOp
    simp only [ho, resolve, invoke, builtin, Sem.run_bind, Sem.run_pure, Result.andThen_ok, List.map_toArray, List.map_cons, List.map_nil, hF.ev hx, hF.ev hy, hrun]
  cases a2 with
  | none =>
    have hys : ys = [] ∧ n2 = 0 := by
      obtain ⟨a', cap', hv, _, _, hel⟩ := hr2
      simp only [List.cons.injEq, Value.slice.injEq, and_true] at hv
      obtain ⟨rfl, rfl, rfl⟩ := hv
      by_cases hne : ys = []
      · subst hne; exact ⟨rfl, rfl⟩
      · obtain ⟨p, hp, _⟩ := hel hne; cases hp
    obtain ⟨rfl, rfl⟩ := hys
    have hle : nn ≤ cap := by
      obtain ⟨a', cap', hv, h2, _⟩ := (eList (eVal val h1) et).own_rd (X := []) hok (by simp)
      simp only [List.cons.injEq, Value.slice.injEq, and_true] at hv
      obtain ⟨rfl, rfl, rfl⟩ := hv
      exact h2
    have hrun := run_append_nothing (P := P) w t t o.type et i ht hi a nn cap hle (.slice none 0 cap2) (Src.ofNil w ht cap2)
    exact fin _ _ F hrun (by rw [List.append_nil]; exact hok) (Ext.refl _ _) hnd (fun b hb => ⟨hlt b hb, .inl hb⟩)
  | some p =>
    obtain ⟨hn, hAt⟩ := rd_cells hr2
    obtain ⟨v', w', F', hrun, hown, hext, hnd', hF'⟩ := append_core (ty := o.type) ht he hby rfl rfl hzl (F := F) (Fy := []) hok (mm := n2) (cap := cap2) hn hAt (ownAll_vals ys) hlen (by rw [List.append_nil]; exact hnd) (by simp)
    exact fin v' w' F' hrun hown hext hnd' (fun b hb => by
      obtain ⟨h2, h3⟩ := hF' b hb
      refine ⟨h2, ?_⟩
      rcases h3 with h3 | h3 | h3
      · exact .inl h3
      · cases h3
      · exact .inr h3)
theorem XW.at {C' : World → Prop} {R : Env} {x : Exit} (h : XW n C' R Q x) (hC : ∀ w, C w → C' w) (hs : Sub R E) : XW n C E Q x := fun a w hF hw => h a w (hF.sub hs) (hC w hw)
/-- what comes behind the next k operations, shown once -/
theorem ow_cut (R : Env) (k : Nat) (hk : OW P n l C R m (rest.drop k)) (hs : OW P n l C R m (rest.drop k) → OW P n l C E m rest) : OW P n l C E m rest := hs hk
theorem panicOk_qs {y : Code} (h : PanicOk Q) : PanicOk (QS P y Q) := fun c a d v w hq => h c a d v w hq
theorem panicOk_qb {id : Nat} (h : PanicOk Q) : PanicOk (QB id Q) := fun c a d v w hq => h c a d v w hq
theorem panicOk_ql {c : Code} {k : Nat} (h : PanicOk Q) : PanicOk (QL P c k Q) := fun c a d v w hq => h c a d v w hq
/-! ### division, shifts -/
def quo (k : IntKind) (x y : Int) : Option Int := if y = 0 then none else some (k.wrap (x.tdiv y))
def rem (x y : Int) : Option Int := if y = 0 then none else some (x.tmod y)
def shl (k : IntKind) (x y : Int) : Option Int := if y < 0 then none else some (ishl k x y)
def shr (k : IntKind) (x y : Int) : Option Int := if y < 0 then none else some (ishr k x y)
theorem ry_rem {o : Oper} {t u : TypeId} {x y : Operand} {k : IntKind} {a b c : Int} (ho : o.op = .binOp .rem t x y u) (hx : ev E x = some (.int k a)) (hy : ev E y = some (.int k b)) (h : rem a b = some c) : Ry P n C E o (.int k c) := fun fr hF w _ => by
  unfold rem at h
  split at h
  · cases h
  · rename_i hb
    simp only [Option.some.injEq] at h; subst h
    unfold execOp
    simp [ho, hF.ev hx, hF.ev hy, eqGuard_at_int, binOp_rem, Op.intDiv, hb]
def isBl (P : Program) (t : TypeId) : Prop := P.underlying t = some .bool
def blB (P : Program) (t : TypeId) : Bool := match P.underlying t with | some .bool => true | _ => false
theorem isBl_of {t : TypeId} (h : blB P t = true) : isBl P t := by
  unfold blB at h
  split at h
  · assumption
  · cases h
theorem ry_bneq {o : Oper} {t u : TypeId} {x y : Operand} {a b : Bool} (ho : o.op = .binOp .neq t x y u) (hx : ev E x = some (.bool a)) (hy : ev E y = some (.bool b)) (ht : isBl P t) : Ry P n C E o (.bool (a != b)) := fun fr hF w _ => by
  have ht' : P.underlying t = some .bool := ht
  have h1 : (eqGuard .neq t x y (.bool a) (.bool b) : Sem Unit).run P w = .ok () w := rfl
  have h2 : (binOp .neq t (.bool a) (.bool b)).run P w = .ok (.bool (a != b)) w := by
    have h3 := run_eql_bool (P := P) w t a b ht'
    simp only [binOp, Sem.run_bind] at h3 ⊢
    generalize (Op.equal t (Value.bool a) (Value.bool b)).run P w = q at h3 ⊢
    cases q with
    | ok v w' =>
      simp only [Result.andThen_ok, Sem.run_pure, Result.ok.injEq, Value.bool.injEq] at h3 ⊢
      obtain ⟨rfl, rfl⟩ := h3
      exact ⟨rfl, rfl⟩
    | _ => simp [Result.andThen] at h3
  unfold execOp
  simp only [ho, hF.ev hx, hF.ev hy, Sem.run_bind, h1, h2, Result.andThen_ok]
  rfl
end Go.Vk
/- Joins of ways. -/
namespace Go.Vk
open Go.RowKit
theorem c_join1 {α0 : Type} {P : Program} {n : Nat} {C : World → Prop} {E : Env} {Q : Exit → Act → World → Prop} {x y : Code} (Cf : α0 → World → Prop) (Ef : α0 → Env) (g : α0 → Prop)
    (hy : ∀ s0, (g s0) → CW P n (Cf s0) (Ef s0) Q y) (hx : (∀ s0, (g s0) → XW n (Cf s0) (Ef s0) (QS P y Q) .normal) → CW P n C E (QS P y Q) x) : CW P n C E Q (.seq x y) :=
  c_seq (hx (fun s0 H => x_qs (hy s0 H)))
end Go.Vk
/- Structs: flat data, pairs of data; resources arranged anew. -/
namespace Go.Vk
open Go.RowKit
/-- a datum whose cells are known by its value -/
def eFlat {α : Type} (f : α → List Value) (k : Nat) (hk : ∀ x, (f x).length = k) (h1 : ∀ x, ∀ u ∈ f x, u.oneCell' = true) : Enc α where
  sz := k
  rd _ _ x cs := cs = f x
  own _ F x cs := F = [] ∧ cs = f x
  rd_len h := by rw [h]; exact hk _
  rd_loc h _ := h
  rd_anti h _ := h
  own_loc h _ := h
  own_rd h _ := h.2
  own_lt h b hb := by rw [h.1] at hb; cases hb
  one h u hu := by rw [h] at hu; exact h1 _ u hu
/-- two data one behind the other -/
def ePair {α β : Type} (e : Enc α) (f : Enc β) : Enc (α × β) where
  sz := e.sz + f.sz
  rd w X x cs := ∃ c1 c2, cs = c1 ++ c2 ∧ e.rd w X x.1 c1 ∧ f.rd w X x.2 c2
  own w F x cs := ∃ F1 F2 c1 c2, F = F1 ++ F2 ∧ cs = c1 ++ c2 ∧ e.own w F1 x.1 c1 ∧ f.own w F2 x.2 c2
  rd_len := by rintro w X x cs ⟨c1, c2, rfl, h1, h2⟩; rw [List.length_append, e.rd_len h1, f.rd_len h2]
  rd_loc := by rintro w w' X x cs ⟨c1, c2, rfl, h1, h2⟩ hb; exact ⟨c1, c2, rfl, e.rd_loc h1 hb, f.rd_loc h2 hb⟩
  rd_anti := by rintro w X X' x cs ⟨c1, c2, rfl, h1, h2⟩ hb; exact ⟨c1, c2, rfl, e.rd_anti h1 hb, f.rd_anti h2 hb⟩
  own_loc := by
    rintro w w' F x cs ⟨F1, F2, c1, c2, rfl, rfl, h1, h2⟩ hb
    exact ⟨F1, F2, c1, c2, rfl, rfl, e.own_loc h1 (fun b h => hb b (by simp [h])), f.own_loc h2 (fun b h => hb b (by simp [h]))⟩
  own_rd := by
    rintro w F X x cs ⟨F1, F2, c1, c2, rfl, rfl, h1, h2⟩ hb
    exact ⟨c1, c2, rfl, e.own_rd h1 (fun b h => hb b (by simp [h])), f.own_rd h2 (fun b h => hb b (by simp [h]))⟩
  own_lt := by
    rintro w F x cs ⟨F1, F2, c1, c2, rfl, rfl, h1, h2⟩ b hb
    rcases List.mem_append.1 hb with h | h
    · exact e.own_lt h1 b h
    · exact f.own_lt h2 b h
  one := by
    rintro w X x cs ⟨c1, c2, rfl, h1, h2⟩ u hu
    rcases List.mem_append.1 hu with h | h
    · exact e.one h1 u h
    · exact f.one h2 u h
theorem ePair_rd {α β : Type} {e : Enc α} {f : Enc β} {w : World} {X : List Nat} {x : α} {y : β} {c1 c2 : List Value} (h1 : e.rd w X x c1) (h2 : f.rd w X y c2) : (ePair e f).rd w X (x, y) (c1 ++ c2) := ⟨c1, c2, rfl, h1, h2⟩
theorem ePair_own {α β : Type} {e : Enc α} {f : Enc β} {w : World} {F1 F2 : List Nat} {x : α} {y : β} {c1 c2 : List Value} (h1 : e.own w F1 x c1) (h2 : f.own w F2 y c2) : (ePair e f).own w (F1 ++ F2) (x, y) (c1 ++ c2) := ⟨F1, F2, c1, c2, rfl, rfl, h1, h2⟩
/-- a datum read through another type -/
def eIso {α β : Type} (e : Enc α) (g : β → α) : Enc β where
  sz := e.sz
  rd w X x cs := e.rd w X (g x) cs
  own w F x cs := e.own w F (g x) cs
  rd_len h := e.rd_len h
  rd_loc h hb := e.rd_loc h hb
  rd_anti h hb := e.rd_anti h hb
  own_loc h hb := e.own_loc h hb
  own_rd h hb := e.own_rd h hb
  own_lt h := e.own_lt h
  one h := e.one h
theorem rd_sl1 {α : Type} {e : Enc α} {w : World} {X : List Nat} {xs : List α} {cs : List Value} (h : rdList e w X xs cs) : ∃ a cap, cs = [.slice a xs.length cap] := by
  obtain ⟨a, cap, hv, _⟩ := h
  exact ⟨a, cap, hv⟩
theorem own_sl1 {α : Type} {e : Enc α} {T : TypeId} {w : World} {F : List Nat} {xs : List α} {cs : List Value} (h : (eList e T).own w F xs cs) : ∃ a cap, cs = [.slice a xs.length cap] := rd_sl1 (e := e) ((eList e T).own_rd (X := []) h (by simp))
theorem own_n {α : Type} {e : Enc α} {T : TypeId} {w : World} {F : List Nat} {xs : List α} {a : Option Addr} {n c : Nat} (h : (eList e T).own w F xs [.slice a n c]) : n = xs.length := by
  obtain ⟨a', c', hv⟩ := own_sl1 h
  simp only [List.cons.injEq, Value.slice.injEq, and_true] at hv
  exact hv.2.1
theorem rd_n {α : Type} {e : Enc α} {w : World} {X : List Nat} {xs : List α} {a : Option Addr} {n c : Nat} (h : rdList e w X xs [.slice a n c]) : n = xs.length := by
  obtain ⟨a', c', hv⟩ := rd_sl1 h
  simp only [List.cons.injEq, Value.slice.injEq, and_true] at hv
  exact hv.2.1
theorem own_a {α : Type} {e : Enc α} {T : TypeId} {w : World} {F : List Nat} {xs : List α} {a : Option Addr} {n c : Nat} (h : (eList e T).own w F xs [.slice a n c]) (hne : xs ≠ []) : a.isNone = false := by
  rcases h with ⟨rfl, _, _⟩ | ⟨b, cap, cur, F1, ds, rfl, hcs, _⟩
  · exact absurd rfl hne
  · simp only [List.cons.injEq, Value.slice.injEq, and_true] at hcs
    rw [hcs.1]; rfl
theorem own_nS {α : Type} {e : Enc α} {T : TypeId} {w0 w : World} {M : List Nat} {L : List Res} {F : List Nat} {xs : List α} {a : Option Addr} {n c i : Nat} (h : St w0 M L w) (hi : L[i]? = some (Res.own (eList e T) F xs [.slice a n c])) : n = xs.length := own_n (h.ok _ (List.mem_of_getElem? hi))
theorem own_nn {α : Type} {e : Enc α} {T : TypeId} {w0 w : World} {M : List Nat} {L : List Res} {F : List Nat} {xs : List α} {a : Option Addr} {n c i : Nat} (h : St w0 M L w) (hi : L[i]? = some (Res.own (eList e T) F xs [.slice a n c])) (hne : xs ≠ []) : a.isNone = false := own_a (h.ok _ (List.mem_of_getElem? hi)) hne
section
variable {w0 : World} {M : List Nat} {L : List Res} {w : World}
/-! ### resources picked and let go by number -/
def getR : List Res → Nat → (Res → List Res) → List Res
  | [], _, k => k Res.nil
  | r :: _, 0, k => k r
  | _ :: L, i + 1, k => getR L i k
def selR (L : List Res) : List Nat → List Res
  | [] => []
  | i :: is => getR L i (fun r => r :: selR L is)
theorem getR_eq : ∀ (L : List Res) (i : Nat) (k : Res → List Res), getR L i k = k (match L[i]? with | some r => r | none => Res.nil)
  | [], i, k => by simp [getR]
  | r :: L, 0, k => by simp [getR]
  | r :: L, i + 1, k => by rw [getR, getR_eq L i k]; simp
theorem selR_nil (L : List Res) : selR L [] = [] := rfl
theorem selR_cons (L : List Res) (i : Nat) (is : List Nat) : selR L (i :: is) = (match L[i]? with | some r => r | none => Res.nil) :: selR L is := by rw [selR, getR_eq]
def nilAt (L : List Res) : List Nat → List Res
  | [] => L
  | i :: is => nilAt (L.set i Res.nil) is
def nodB : List Nat → Bool
  | [] => true
  | i :: is => is.all (fun j => !(Nat.beq i j)) && nodB is
theorem foot_set (L : List Res) (i : Nat) : (foot L).Perm ((match L[i]? with | some r => r | none => Res.nil).F ++ foot (L.set i Res.nil)) := by
  cases hi : L[i]? with
  | some r => exact foot_perm hi
  | none =>
    have hlen : L.length ≤ i := by simpa using hi
    rw [List.set_eq_of_length_le hlen]
    exact List.Perm.refl _
theorem sel_set {L : List Res} {i : Nat} : ∀ {is : List Nat}, is.all (fun j => !(Nat.beq i j)) = true → selR (L.set i Res.nil) is = selR L is
  | [], _ => rfl
  | j :: is, h => by
    simp only [List.all_cons, Bool.and_eq_true, Bool.not_eq_true'] at h
    have hne : i ≠ j := Nat.ne_of_beq_eq_false h.1
    rw [selR_cons, selR_cons, List.getElem?_set_ne hne, sel_set h.2]
theorem foot_nilAt : ∀ {is : List Nat} {L : List Res}, nodB is = true → (foot L).Perm (foot (selR L is) ++ foot (nilAt L is))
  | [], L, _ => List.Perm.refl _
  | i :: is, L, h => by
    simp only [nodB, Bool.and_eq_true] at h
    have h1 := foot_set L i
    have h2 := foot_nilAt (is := is) (L := L.set i Res.nil) h.2
    rw [sel_set h.1] at h2
    refine h1.trans ?_
    rw [selR_cons, foot_cons]
    show ((match L[i]? with | some r => r | none => Res.nil).F ++ foot (L.set i Res.nil)).Perm (((match L[i]? with | some r => r | none => Res.nil).F ++ foot (selR L is)) ++ foot (nilAt (L.set i Res.nil) is))
    rw [List.append_assoc]
    exact List.Perm.append_left _ h2
theorem mem_nilAt : ∀ {is : List Nat} {L : List Res} {r : Res}, r ∈ nilAt L is → r ∈ L ∨ r = Res.nil
  | [], _, _, h => .inl h
  | i :: is, L, r, h => by
    rcases mem_nilAt (is := is) h with h1 | h1
    · rcases List.mem_or_eq_of_mem_set h1 with h2 | h2
      · exact .inl h2
      · exact .inr h2
    · exact .inr h1
theorem mem_sel : ∀ {is : List Nat} {r : Res}, r ∈ selR L is → r ∈ L ∨ r = Res.nil
  | [], _, h => by cases h
  | i :: is, r, h => by
    rw [selR_cons] at h
    cases h with
    | head =>
      cases hi : L[i]? with
      | some r => exact .inl (List.mem_of_getElem? hi)
      | none => exact .inr rfl
    | tail _ h => exact mem_sel h
theorem St.ok' (h : St w0 M L w) {r : Res} (hr : r ∈ L ∨ r = Res.nil) : r.ok w := by
  rcases hr with hr | rfl
  · exact h.ok r hr
  · trivial
/-- the resources of the numbers idx are replaced by Rs, over the same blocks -/
theorem St.re (idx : List Nat) (Rs : List Res) (h : St w0 M L w) (hn : nodB idx = true) (hF : (foot Rs).Perm (foot (selR L idx))) (ho : ∀ r ∈ Rs, r.ok w) : St w0 M (nilAt L idx ++ Rs) w := by
  have hp : (foot L).Perm (foot (nilAt L idx ++ Rs)) := by
    rw [foot_append]
    refine (foot_nilAt hn).trans (List.perm_append_comm.trans ?_)
    exact List.Perm.append_left _ hF.symm
  refine ⟨h.ext, fun r hr => ?_, hp.nodup_iff.1 h.nd, fun b hb => h.lt b (hp.mem_iff.2 hb), fun b hb => h.new b (hp.mem_iff.2 hb)⟩
  rcases List.mem_append.1 hr with h1 | h1
  · exact h.ok' (mem_nilAt h1)
  · exact ho r h1
theorem St.sel (idx : List Nat) {L' : List Res} (hL : selR L idx = L') (hn : nodB idx = true) (h : St w0 M L w) : St w0 M L' w := by
  subst hL
  have hp := foot_nilAt (L := L) hn
  have hsub : ∀ b ∈ foot (selR L idx), b ∈ foot L := fun b hb => hp.mem_iff.2 (by simp [hb])
  refine ⟨h.ext, fun r hr => h.ok' (mem_sel hr), ?_, fun b hb => h.lt b (hsub b hb), fun b hb => h.new b (hsub b hb)⟩
  have := hp.nodup_iff.1 h.nd
  exact (List.nodup_append.1 this).1
/-- what a callee gets -/
theorem St.carve (idx : List Nat) {L' : List Res} (hL : selR L idx = L') (hn : nodB idx = true) (h : St w0 M L w) : St w (foot L') L' w := by
  have h' := h.sel idx hL hn
  exact ⟨Ext.refl _ _, h'.ok, h'.nd, h'.lt, fun b hb => .inr hb⟩
/-- what it gives back -/
theorem St.comp {Rs : List Res} {w' : World} (idx : List Nat) {L' : List Res} (hL : selR L idx = L') (hn : nodB idx = true) (h : St w0 M L w) (k : St w (foot L') Rs w') : St w0 M (nilAt L idx ++ Rs) w' := by
  subst hL
  have hp := foot_nilAt (L := L) hn
  have hnd := hp.nodup_iff.1 h.nd
  rw [List.nodup_append] at hnd
  obtain ⟨hS, hN, hSN⟩ := hnd
  have hsub : ∀ b ∈ foot (selR L idx), b ∈ foot L := fun b hb => hp.mem_iff.2 (by simp [hb])
  have hsubN : ∀ b ∈ foot (nilAt L idx), b ∈ foot L := fun b hb => hp.mem_iff.2 (by simp [hb])
  have hNx : ∀ b ∈ foot (nilAt L idx), b ∉ foot (selR L idx) := fun b hb hs => hSN b hs b hb rfl
  refine ⟨?_, ?_, ?_, ?_, ?_⟩
  · refine ⟨k.ext.os.trans h.ext.os, k.ext.tape.trans h.ext.tape, k.ext.output.trans h.ext.output, Nat.le_trans h.ext.size k.ext.size, fun b hb hm => ?_⟩
    have hbs : b ∉ foot (selR L idx) := fun hin => by
      rcases h.new b (hsub b hin) with h1 | h1
      · omega
      · exact hm h1
    exact (k.ext.block b (Nat.lt_of_lt_of_le hb h.ext.size) hbs).trans (h.ext.block b hb hm)
  · intro r hr
    rcases List.mem_append.1 hr with h1 | h1
    · exact r.loc w w' (fun b hb => k.ext.block b (h.lt b (hsubN b (mem_foot h1 hb))) (hNx b (mem_foot h1 hb))) (h.ok' (mem_nilAt h1))
    · exact k.ok r h1
  · rw [foot_append, List.nodup_append]
    refine ⟨hN, k.nd, fun a ha b hb e => ?_⟩
    subst e
    rcases k.new a hb with h1 | h1
    · have := h.lt a (hsubN a ha); omega
    · exact hNx a ha h1
  · intro b hb
    rw [foot_append] at hb
    rcases List.mem_append.1 hb with h1 | h1
    · exact Nat.lt_of_lt_of_le (h.lt b (hsubN b h1)) k.ext.size
    · exact k.lt b h1
  · intro b hb
    rw [foot_append] at hb
    rcases List.mem_append.1 hb with h1 | h1
    · exact h.new b (hsubN b h1)
    · rcases k.new b h1 with h2 | h2
      · exact .inl (Nat.le_trans h.ext.size h2)
      · exact h.new b (hsub b h2)
theorem St.app {Rs : List Res} {w' : World} (h : St w0 M L w) (k : St w [] Rs w') : St w0 M (L ++ Rs) w' := h.comp [] rfl rfl k
theorem foot_disj {L : List Res} (hnd : (foot L).Nodup) {i j : Nat} {r s : Res} (hij : i ≠ j) (hi : L[i]? = some r) (hj : L[j]? = some s) {b : Nat} (hb : b ∈ r.F) (hs : b ∈ s.F) : False := by
  have hp := (foot_perm hi).nodup_iff.1 hnd
  rw [List.nodup_append] at hp
  refine hp.2.2 b hb b ?_ rfl
  have hj' : (L.set i Res.nil)[j]? = some s := by rw [List.getElem?_set_ne hij]; exact hj
  exact mem_foot (List.mem_of_getElem? hj') hs
end
end Go.Vk
/- Steps of the walk over structs, nested slices, callees that write. -/
namespace Go.Vk
open Go.RowKit
variable {P : Program} {n : Nat} {C : World → Prop} {E : Env} {m : Md} {l rest : List Oper} {w0 : World} {M : List Nat} {L : List Res} {Q : Exit → Act → World → Prop}
/-! ### the class opened where the walk stands -/
def Md.actual : Md → Bool
  | .any _ => false
  | _ => true
theorem xw_ex {X : Type} {D : X → World → Prop} {c : Exit} (h : ∀ w, C w → ∃ x, D x w) (k : ∀ x, XW n (D x) E Q c) : XW n C E Q c := fun a w hF hC => by
  obtain ⟨x, hx⟩ := h w hC; exact k x a w hF hx
theorem ow_ex2 {X0 : Type} {X1 : Type} {D : X0 → X1 → World → Prop} (hm : m.actual = true) (h : ∀ w, C w → ∃ x0 x1, D x0 x1 w) (k : ∀ x0 x1, OW P n l (D x0 x1) E m rest) : OW P n l C E m rest := by
  cases m with
  | lex Q => exact fun a w hF hC => by obtain ⟨x0, x1, hx⟩ := h w hC; exact k x0 x1 a w hF hx
  | any K => cases hm
  | held S Q fl => exact fun s h1 h2 a w hF hC hS => by obtain ⟨x0, x1, hx⟩ := h w hC; exact k x0 x1 s h1 h2 a w hF hx hS
theorem cw_ex2 {X0 : Type} {X1 : Type} {D : X0 → X1 → World → Prop} {c : Code} (h : ∀ w, C w → ∃ x0 x1, D x0 x1 w) (k : ∀ x0 x1, CW P n (D x0 x1) E Q c) : CW P n C E Q c := fun a w hF hC => by
  obtain ⟨x0, x1, hx⟩ := h w hC; exact k x0 x1 a w hF hx
theorem ow_ex3 {X0 : Type} {X1 : Type} {X2 : Type} {D : X0 → X1 → X2 → World → Prop} (hm : m.actual = true) (h : ∀ w, C w → ∃ x0 x1 x2, D x0 x1 x2 w) (k : ∀ x0 x1 x2, OW P n l (D x0 x1 x2) E m rest) : OW P n l C E m rest := by
  cases m with
  | lex Q => exact fun a w hF hC => by obtain ⟨x0, x1, x2, hx⟩ := h w hC; exact k x0 x1 x2 a w hF hx
  | any K => cases hm
  | held S Q fl => exact fun s h1 h2 a w hF hC hS => by obtain ⟨x0, x1, x2, hx⟩ := h w hC; exact k x0 x1 x2 s h1 h2 a w hF hx hS
theorem ow_ex4 {X0 : Type} {X1 : Type} {X2 : Type} {X3 : Type} {D : X0 → X1 → X2 → X3 → World → Prop} (hm : m.actual = true) (h : ∀ w, C w → ∃ x0 x1 x2 x3, D x0 x1 x2 x3 w) (k : ∀ x0 x1 x2 x3, OW P n l (D x0 x1 x2 x3) E m rest) : OW P n l C E m rest := by
  cases m with
  | lex Q => exact fun a w hF hC => by obtain ⟨x0, x1, x2, x3, hx⟩ := h w hC; exact k x0 x1 x2 x3 a w hF hx
  | any K => cases hm
  | held S Q fl => exact fun s h1 h2 a w hF hC hS => by obtain ⟨x0, x1, x2, x3, hx⟩ := h w hC; exact k x0 x1 x2 x3 s h1 h2 a w hF hx hS
theorem cw_ex4 {X0 : Type} {X1 : Type} {X2 : Type} {X3 : Type} {D : X0 → X1 → X2 → X3 → World → Prop} {c : Code} (h : ∀ w, C w → ∃ x0 x1 x2 x3, D x0 x1 x2 x3 w) (k : ∀ x0 x1 x2 x3, CW P n (D x0 x1 x2 x3) E Q c) : CW P n C E Q c := fun a w hF hC => by
  obtain ⟨x0, x1, x2, x3, hx⟩ := h w hC; exact k x0 x1 x2 x3 a w hF hx
/-- a fact that holds in every world of the class, known to the walk from here on -/
theorem ow_fact {φ : Prop} (hm : m.actual = true) (h : ∀ w, C w → φ) (k : φ → OW P n l C E m rest) : OW P n l C E m rest := by
  cases m with
  | lex Q => exact fun a w hF hC => k (h w hC) a w hF hC
  | any K => cases hm
  | held S Q fl => exact fun s h1 h2 a w hF hC hS => k (h w hC) s h1 h2 a w hF hC hS
theorem cw_fact {φ : Prop} {c : Code} (h : ∀ w, C w → φ) (k : φ → CW P n C E Q c) : CW P n C E Q c := fun a w hF hC => k (h w hC) a w hF hC
theorem ow_st {C' : World → Prop} (hm : m.actual = true) (h : ∀ w, C w → C' w) (k : OW P n l C' E m rest) : OW P n l C E m rest := by
  cases m with
  | lex Q => exact fun a w hF hC => k a w hF (h w hC)
  | any K => cases hm
  | held S Q fl => exact fun s h1 h2 a w hF hC hS => k s h1 h2 a w hF (h w hC) hS
theorem xw_st {C' : World → Prop} {c : Exit} (h : ∀ w, C w → C' w) (k : XW n C' E Q c) : XW n C E Q c := fun a w hF hC => k a w hF (h w hC)
/-- resources let go, their places kept; later ones dropped -/
def maskL : List Bool → List Res → List Res
  | true :: bs, r :: L => r :: maskL bs L
  | false :: bs, _ :: L => Res.nil :: maskL bs L
  | _, _ => []
theorem mask_foot : ∀ (bs : List Bool) (L : List Res), (foot (maskL bs L)).Sublist (foot L)
  | [], L => by unfold maskL; simp [foot]
  | true :: bs, [] => by unfold maskL; simp
  | false :: bs, [] => by unfold maskL; simp
  | true :: bs, r :: L => by rw [show maskL (true :: bs) (r :: L) = r :: maskL bs L from rfl, foot_cons, foot_cons]; exact List.Sublist.append (List.Sublist.refl _) (mask_foot bs L)
  | false :: bs, r :: L => by
    rw [show maskL (false :: bs) (r :: L) = Res.nil :: maskL bs L from rfl, foot_cons, foot_cons]
    exact (mask_foot bs L).trans (List.sublist_append_right _ _)
theorem mask_mem : ∀ (bs : List Bool) (L : List Res) {r : Res}, r ∈ maskL bs L → r ∈ L ∨ r = Res.nil
  | [], L, r, h => by unfold maskL at h; cases h
  | true :: bs, [], r, h => by unfold maskL at h; cases h
  | false :: bs, [], r, h => by unfold maskL at h; cases h
  | true :: bs, s :: L, r, h => by
    rw [show maskL (true :: bs) (s :: L) = s :: maskL bs L from rfl] at h
    cases h with
    | head => exact .inl (by simp)
    | tail _ h => rcases mask_mem bs L h with h1 | h1
                  · exact .inl (by simp [h1])
                  · exact .inr h1
  | false :: bs, s :: L, r, h => by
    rw [show maskL (false :: bs) (s :: L) = Res.nil :: maskL bs L from rfl] at h
    cases h with
    | head => exact .inr rfl
    | tail _ h => rcases mask_mem bs L h with h1 | h1
                  · exact .inl (by simp [h1])
                  · exact .inr h1
theorem St.mask {L' : List Res} {w : World} (bs : List Bool) (hL : maskL bs L = L') (h : St w0 M L w) : St w0 M L' w := by
  subst hL
  have hf := mask_foot bs L
  exact ⟨h.ext, fun r hr => h.ok' (mask_mem bs L hr), hf.nodup h.nd, fun b hb => h.lt b (hf.subset hb), fun b hb => h.new b (hf.subset hb)⟩
theorem St.push0 {w : World} (h : St w0 M L w) (r : Res) (hF : r.F = []) (ho : r.ok w) : St w0 M (L ++ [r]) w := by
  have := h.re [] [r] rfl (by rw [foot_one, hF]; exact List.Perm.refl _) (fun s hs => by rw [List.mem_singleton.1 hs]; exact ho)
  exact this
theorem St.pushNil {α : Type} {e : Enc α} {T : TypeId} {w : World} (h : St w0 M L w) : St w0 M (L ++ [Res.own (eList e T) [] [] [.slice none 0 0]]) w := h.push0 _ rfl own_nil
/-! ### a region whose head is quiet and whose tail comes in one order -/
section
variable {ops : Array Oper} {md : Region.Mode}
def wpAnyLQ (P : Program) (md : Region.Mode) (ops : Array Oper) (C : World → Prop) (nn : Nat) (K : Array Bool → Act → Prop) : Nat → Array Bool → Act → Prop
  | 0, listed, a => K listed a
  | f + 1, listed, a =>
    Region.ready md ops listed ≠ [] ∧ ∀ i ∈ Region.ready md ops listed, i < nn ∧ qOp P ops C i (wpAnyLQ P md ops C nn K f (listed.setIfInBounds i true)) a
theorem wpAny_of_headQ {nn g : Nat} {K : Array Bool → Act → Prop} {Q' : Exit → Act → World → Prop} (hL : ∀ listed a w, C w → K listed a → wpAny P md ops Q' g listed a w) :
    ∀ (f : Nat) (listed : Array Bool) (a : Act) (w : World), C w → wpAnyLQ P md ops C nn K f listed a → wpAny P md ops Q' (f + g) listed a w
  | 0, listed, a, w, hw, h => by rw [Nat.zero_add]; exact hL _ _ _ hw h
  | f + 1, listed, a, w, hw, h => by
    rw [show f + 1 + g = (f + g) + 1 by omega]
    exact ⟨fun h0 => absurd h0 h.1, fun i hi => wpOp_of_qOp hw (fun a' w' hw' h' => wpAny_of_headQ hL f _ a' w' hw' h') (h.2 i hi).2⟩
theorem wpAnyLQ_first {nn i : Nat} {oi : Oper} {v : Value} {K : Array Bool → Act → Prop} (hi : ops[i]? = some oi) (hsel : ∀ (j : Nat) (o : Oper) cs b, ops[j]? = some o → o.op ≠ .select cs b)
    (hs : Region.sinkB md ops nn = true) (hc : Region.chainB md ops nn = true) (hn : nn < ops.size) (hin : i < nn)
    (hdone : ∀ listed a, K listed a → ∀ j ∈ Region.ready md ops listed, nn ≤ j) :
    ∀ (f : Nat) (listed : Array Bool) (a : Act), HeadInv md ops nn listed →
      (∀ j oj, ops[j]? = some oj → j ≠ i → listed.getD j true = false → (∀ e ∈ oj.after, Region.binds md e = true → e.on ≠ i) → oi.apart ops oj = true) →
      i ∈ Region.ready md ops listed → YieldsIn P ops C oi v a →
      wpAnyLQ P md ops C nn K f (listed.setIfInBounds i true) (a.put oi.dst v) → wpAnyLQ P md ops C nn K (f + 1) listed a := by
  intro f
  induction f with
  | zero =>
    intro listed a inv _ hr hy H
    have hun := (mem_ready.1 hr).1
    refine ⟨fun h => (by rw [h] at hr; cases hr), fun j hj => ?_⟩
    have hjn : j < nn := by
      rcases Nat.lt_or_ge j nn with h | h
      · exact h
      · exact absurd hj (tail_waits hs hc hn inv _ i rfl hin hun j h)
    refine ⟨hjn, ?_⟩
    by_cases hji : j = i
    · subst hji; exact hy.qOp hi H
    · have := hdone _ _ H j (ready_mono hj hji)
      omega
  | succ f ih =>
    intro listed a inv hfree hr hy H
    have hun := (mem_ready.1 hr).1
    refine ⟨fun h => (by rw [h] at hr; cases hr), fun j hj => ?_⟩
    have hjn : j < nn := by
      rcases Nat.lt_or_ge j nn with h | h
      · exact h
      · exact absurd hj (tail_waits hs hc hn inv _ i rfl hin hun j h)
    refine ⟨hjn, ?_⟩
    by_cases hji : j = i
    · subst hji; exact hy.qOp hi H
    · have h1 := (H.2 j (ready_mono hj hji)).2
      obtain ⟨hjun, oj, hoj, hall⟩ := mem_ready.1 hj
      have hnot : ∀ e ∈ oj.after, Region.binds md e = true → e.on ≠ i := fun e he hb heq => by
        have h1 := hall e he hb
        rw [heq, getD_both hun] at h1
        cases h1
      have h2 := qOp_put hoj (hfree j oj hoj hji hjun hnot) (fun cs b => hsel i oi cs b hi) (fun cs b => hsel j oj cs b hoj) hy h1
      have hfree' : ∀ k ok, ops[k]? = some ok → k ≠ i → (listed.setIfInBounds j true).getD k true = false →
          (∀ e ∈ ok.after, Region.binds md e = true → e.on ≠ i) → oi.apart ops ok = true := fun k ok hk hki hun hno => by
        refine hfree k ok hk hki ?_ hno
        by_cases hjk : j = k
        · subst hjk; exact hjun
        · rw [getD_set_ne true hjk] at hun; exact hun
      refine qOp_mono (fun a' h3 => ih (listed.setIfInBounds j true) a' (inv.set hj hjn) hfree' (ready_mono hr (Ne.symm hji)) h3.1 ?_) h2
      rw [Array.setIfInBounds_comm _ _ hji]
      exact h3.2
theorem wpAnyLQ_lex {nn g : Nat} {Lq : Act → Prop} (hsel : Region.noSelect ops = true) (hs : Region.sinkB md ops nn = true) (hc : Region.chainB md ops nn = true) (hn : nn < ops.size) :
    ∀ (l : List Oper) (k : Nat) (listed : Array Bool) (a : Act), (∀ j, j < l.length → l[j]? = ops[k + j]?) → k + l.length = nn → HeadInv md ops nn listed →
    Region.lexHead md ops g l.length k listed = true → wpQuiet P ops C Lq l a →
    wpAnyLQ P md ops C nn (fun listed' a' => Region.seqB md ops g nn listed' = true ∧ Lq a') l.length listed a
  | [], k, listed, a, _, hk, _, hB, h => by
    have : k = nn := by simpa using hk
    subst this
    exact ⟨by simpa [Region.lexHead] using hB, h⟩
  | o :: l, k, listed, a, hl, hk, inv, hB, h => by
    have h0 : ops[k]? = some o := by simpa using (hl 0 (by simp)).symm
    simp only [List.length_cons, Region.lexHead, Bool.and_eq_true] at hB
    obtain ⟨⟨hr, hf⟩, hB'⟩ := hB
    have hkn : k < nn := by simp only [List.length_cons] at hk; omega
    have hr' : k ∈ Region.ready md ops listed := by simpa using hr
    have hst : qOp P ops C k (wpQuiet P ops C Lq l) a := by unfold qOp; simp only [h0]; exact h
    obtain ⟨v, hy, hK⟩ := yieldsIn_of_qOp h0 hst
    exact wpAnyLQ_first h0 (Region.noSelect_spec hsel) hs hc hn hkn (fun listed' a' hL => seqB_ready hL.1) l.length listed a inv (Region.free_spec h0 hf) hr' hy
      (wpAnyLQ_lex hsel hs hc hn l (k + 1) _ _ (fun j hj => by have := hl (j + 1) (by simp; omega); simpa [Nat.add_assoc, Nat.add_comm 1 j] using this) (by simp only [List.length_cons] at hk; omega) (inv.set hr' hkn) hB' hK)
theorem wp_region_quiet_tail {id : Nat} {a : Act} {w : World} {l : List Oper} (nn : Nat) (hm : P.follows .mixedOrders = true) (hB : Region.lexTailB .any l.toArray nn = true) (hC : C { w with drawn := w.drawn + 1 })
    (h : wpQuiet P l.toArray C (fun a' => ∀ w', C w' → wpList P l.toArray Q (l.drop nn) a' w') (l.take nn) a) : (Code.region id l.toArray true).wp P Q a w := by
  simp only [Region.lexTailB, Bool.and_eq_true, decide_eq_true_eq] at hB
  obtain ⟨⟨⟨⟨hsel, hn⟩, hs⟩, hc⟩, hlex⟩ := hB
  have hn' : nn < l.length := by simpa using hn
  have htl : (l.take nn).length = nn := by simp; omega
  have hdl : (l.drop nn).length = l.toArray.size - nn := by simp
  have inv0 : HeadInv .any l.toArray nn (Array.replicate l.toArray.size false) :=
    ⟨by simp, fun j oj _ hl => (by rw [getD_replicate_false] at hl; cases hl), fun t _ ht => getD_in (by simpa using ht) (getD_replicate_false _ _)⟩
  have H := wpAnyLQ_lex (md := .any) (g := l.toArray.size - nn) hsel hs hc hn (l.take nn) 0 _ a (fun j hj => by
    have hj' : j < nn := by rw [htl] at hj; exact hj
    simp [hj']) (by simpa using htl) inv0 (by rw [htl]; exact hlex) h
  refine wp_region_any hm ?_
  have := wpAny_of_headQ (C := C) (Q' := Q) (g := l.toArray.size - nn) (fun listed a' w' hw' hL => by
    have := wpAny_of_seq (md := .any) (Q' := Q) (l.drop nn) nn listed a' w' (fun j => by simp [List.getElem?_drop]) (by rw [hdl]; exact hL.1) (hL.2 w' hw')
    rwa [hdl] at this) _ _ _ _ hC H
  rw [htl, show nn + (l.toArray.size - nn) = l.toArray.size by omega] at this
  exact this
end
/-- the head (n operations, quiet) in whatever order, then the tail -/
theorem c_regT {id : Nat} {l : List Oper} (nn : Nat) (hm : P.follows .mixedOrders = true) (hB : Region.lexTailB .any l.toArray nn = true)
    (h : OW P n l (St w0 M L) E (.any (fun E' => OW P n l (St w0 M L) E' (.lex Q) (l.drop nn))) (l.take nn)) : CW P n (St w0 M L) E Q (.region id l.toArray true) := fun a w hF hC =>
  wp_region_quiet_tail (C := St w0 M L) nn hm hB hC.drew (by
    refine wpQuiet_weak ?_ _ _ (h a hF)
    rintro a' ⟨E', hF', hK⟩ w' hC'
    exact hK a' w' hF' hC')
/-! ### an own slice with one element taken out -/
def holeOk {α : Type} (e : Enc α) (T : TypeId) (b cap : Nat) (xs : List α) (i : Nat) (G : List Nat) (c : List Value) (w : World) : Prop :=
  ∃ cur G1 G2 c1 c2, w.heap[b]? = some (.cells cur T (0, 0)) ∧ xs.length ≤ cap ∧ cap ≤ maxLen ∧ cur.size = cap * e.sz ∧ cur.toList.take (xs.length * e.sz) = c1 ++ (c ++ c2) ∧ c1.length = i * e.sz ∧ c.length = e.sz ∧ i < xs.length ∧
    G = G1 ++ G2 ∧ ownAll e w G1 (xs.take i) c1 ∧ ownAll e w G2 (xs.drop (i + 1)) c2
def Res.hole {α : Type} (e : Enc α) (T : TypeId) (b cap : Nat) (xs : List α) (i : Nat) (G : List Nat) (c : List Value) : Res :=
  ⟨b :: G, holeOk e T b cap xs i G c, fun w w' h ok => by
    obtain ⟨cur, G1, G2, c1, c2, h1, h2, h3, h4, h5, h6, h7, h8, rfl, h9, h10⟩ := ok
    exact ⟨cur, G1, G2, c1, c2, (h b (by simp)).trans h1, h2, h3, h4, h5, h6, h7, h8, rfl, ownAll_loc h9 (fun c hc => h c (by simp [hc])), ownAll_loc h10 (fun c hc => h c (by simp [hc]))⟩⟩
theorem ownAll_split {α : Type} {e : Enc α} {w : World} : ∀ {xs : List α} {F : List Nat} {cs : List Value} {i : Nat} {x : α}, ownAll e w F xs cs → xs[i]? = some x →
    ∃ G1 Fi G2 c1 ci c2, F = G1 ++ (Fi ++ G2) ∧ cs = c1 ++ (ci ++ c2) ∧ c1.length = i * e.sz ∧ ci.length = e.sz ∧ ownAll e w G1 (xs.take i) c1 ∧ e.own w Fi x ci ∧ ownAll e w G2 (xs.drop (i + 1)) c2
  | [], _, _, i, x, _, hx => by simp at hx
  | y :: xs, F, cs, 0, x, h, hx => by
    obtain ⟨F1, F2, c1, c2, rfl, rfl, h1, h2, h3⟩ := h
    simp at hx; subst hx
    exact ⟨[], F1, F2, [], c1, c2, rfl, rfl, by simp, h1, ⟨rfl, rfl⟩, h2, by simpa using h3⟩
  | y :: xs, F, cs, i + 1, x, h, hx => by
    obtain ⟨F1, F2, c1, c2, rfl, rfl, h1, h2, h3⟩ := h
    simp only [List.getElem?_cons_succ] at hx
    obtain ⟨G1, Fi, G2, d1, di, d2, rfl, rfl, k1, k2, k3, k4, k5⟩ := ownAll_split h3 hx
    refine ⟨F1 ++ G1, Fi, G2, c1 ++ d1, di, d2, by simp, by simp, ?_, k2, ⟨F1, G1, c1, d1, rfl, rfl, h1, h2, k3⟩, k4, by simpa using k5⟩
    rw [List.length_append, h1, k1, Nat.add_mul]; omega
theorem ownAll_join {α : Type} {e : Enc α} {w : World} {xs : List α} {i : Nat} {x : α} (hi : i < xs.length) {G1 Fi G2 : List Nat} {c1 ci c2 : List Value} (h1 : ownAll e w G1 (xs.take i) c1) (h2 : e.own w Fi x ci) (hl : ci.length = e.sz) (h3 : ownAll e w G2 (xs.drop (i + 1)) c2) :
    ownAll e w (G1 ++ (Fi ++ G2)) (xs.set i x) (c1 ++ (ci ++ c2)) := by
  rw [List.set_eq_take_append_cons_drop, if_pos hi]
  exact ownAll_append h1 ⟨Fi, G2, ci, c2, rfl, rfl, hl, h2, h3⟩
theorem foc {α : Type} {e : Enc α} {T : TypeId} {w : World} {F : List Nat} {xs : List α} {a : Option Addr} {nn c : Nat} {j : Int} {x : α} {r : Nat} (h : St w0 M L w) (hr : L[r]? = some (Res.own (eList e T) F xs [.slice a nn c])) (hj : idx xs j = some x) :
    ∃ (b : Nat) (G Fi : List Nat) (ci : List Value), (a = some ⟨b, 0, none⟩ ∧ nn = xs.length) ∧ St w0 M (nilAt L [r] ++ [Res.hole e T b c xs j.toNat G ci, Res.own e Fi x ci]) w := by
  obtain ⟨h0, hlt, hx⟩ := idx_some hj
  obtain ⟨hok, _, _⟩ := h.one hr
  rcases hok with ⟨rfl, _, _⟩ | ⟨b, cap, cur, F1, ds, rfl, hcs, hh, h1, h2, h3, h4, h5⟩
  · simp at hlt
  · simp only [List.cons.injEq, Value.slice.injEq, and_true] at hcs
    obtain ⟨rfl, rfl, rfl⟩ := hcs
    obtain ⟨G1, Fi, G2, c1, ci, c2, rfl, rfl, k1, k2, k3, k4, k5⟩ := ownAll_split h5 hx
    refine ⟨b, G1 ++ G2, Fi, ci, ⟨rfl, rfl⟩, h.re [r] _ rfl ?_ ?_⟩
    · have hs : selR L [r] = [Res.own (eList e T) (b :: (G1 ++ (Fi ++ G2))) xs [.slice (some ⟨b, 0, none⟩) xs.length c]] := by
        simp only [selR_cons, selR_nil, hr]
      rw [hs, foot_one]
      show (foot [Res.hole e T b c xs j.toNat (G1 ++ G2) ci, Res.own e Fi x ci]).Perm (b :: (G1 ++ (Fi ++ G2)))
      rw [foot_cons, foot_one]
      show (b :: ((G1 ++ G2) ++ Fi)).Perm (b :: (G1 ++ (Fi ++ G2)))
      refine List.Perm.cons _ ?_
      rw [List.append_assoc]
      exact List.Perm.append_left _ List.perm_append_comm
    · intro s hs
      simp only [List.mem_cons, List.not_mem_nil, or_false] at hs
      rcases hs with rfl | rfl
      · exact ⟨cur, G1, G2, c1, c2, hh, h1, h2, h3, h4, k1, k2, hlt, rfl, k3, k5⟩
      · exact k4
theorem unf {α : Type} {e : Enc α} {T : TypeId} {w : World} {b cap i : Nat} {xs : List α} {G Fi : List Nat} {c : List Value} {x' : α} {nn : Nat} {p q : Nat} (h : St w0 M L w) (hp : L[p]? = some (Res.hole e T b cap xs i G c)) (hq : L[q]? = some (Res.own e Fi x' c)) (hpq : nodB [p, q] = true) (hn : nn = xs.length) {a : Option Addr} (ha : a = some ⟨b, 0, none⟩) :
    ∃ F', St w0 M (nilAt L [p, q] ++ [Res.own (eList e T) F' (xs.set i x') [.slice a nn cap]]) w := by
  subst ha
  obtain ⟨cur, G1, G2, c1, c2, h1, h2, h3, h4, h5, h6, h7, h8, rfl, h9, h10⟩ := h.ok _ (List.mem_of_getElem? hp)
  have hx : e.own w Fi x' c := h.ok _ (List.mem_of_getElem? hq)
  have hs : selR L [p, q] = [Res.hole e T b cap xs i (G1 ++ G2) c, Res.own e Fi x' c] := by simp only [selR_cons, selR_nil, hp, hq]
  refine ⟨b :: (G1 ++ (Fi ++ G2)), h.re [p, q] _ hpq ?_ ?_⟩
  · rw [hs, foot_one, foot_cons, foot_one]
    show (b :: (G1 ++ (Fi ++ G2))).Perm (b :: ((G1 ++ G2) ++ Fi))
    refine List.Perm.cons _ ?_
    rw [List.append_assoc]
    exact List.Perm.append_left _ List.perm_append_comm
  · intro s hs
    rw [List.mem_singleton.1 hs]
    refine .inr ⟨b, cap, cur, _, _, rfl, by rw [hn, List.length_set], h1, by rw [List.length_set]; exact h2, h3, h4, by rw [List.length_set]; exact h5, ownAll_join h8 h9 hx h7 h10⟩
theorem set_same {α : Type} {xs : List α} {j : Int} {x : α} (h : idx xs j = some x) : xs.set j.toNat x = xs := by
  obtain ⟨_, h1, h2⟩ := idx_some h
  rw [List.getElem?_eq_getElem h1] at h2
  rw [← Option.some.inj h2]
  exact List.set_getElem_self _
/-- put back as it was -/
theorem unf0 {α : Type} {e : Enc α} {T : TypeId} {w : World} {b cap : Nat} {xs : List α} {G Fi : List Nat} {c : List Value} {x : α} {j : Int} {nn : Nat} {p q : Nat} (h : St w0 M L w) (hp : L[p]? = some (Res.hole e T b cap xs j.toNat G c)) (hq : L[q]? = some (Res.own e Fi x c)) (hpq : nodB [p, q] = true) (hn : nn = xs.length) {a : Option Addr} (ha : a = some ⟨b, 0, none⟩) (hj : idx xs j = some x) :
    ∃ F', St w0 M (nilAt L [p, q] ++ [Res.own (eList e T) F' xs [.slice a nn cap]]) w := by
  have := unf h hp hq hpq hn ha
  rwa [set_same hj] at this
/-! ### opened data -/
theorem opn_sl {α : Type} {e : Enc α} {T : TypeId} {w : World} {F : List Nat} {xs : List α} {cs : List Value} {i : Nat} (h : St w0 M L w) (hi : L[i]? = some (Res.own (eList e T) F xs cs)) :
    ∃ (a : Option Addr) (c : Nat), cs = [.slice a xs.length c] ∧ St w0 M L w := by
  obtain ⟨a, c, hc⟩ := own_sl1 (h.ok _ (List.mem_of_getElem? hi))
  exact ⟨a, c, hc, h⟩
/-! ### cells of boxes and holes -/
theorem at_hole {α : Type} {e : Enc α} {T : TypeId} {S : World → Prop} {b cap i : Nat} {xs : List α} {G : List Nat} {c : List Value} (hr : ∀ w, S w → holeOk e T b cap xs i G c w) : ∀ w, S w → At w [] ⟨b, i * e.sz, none⟩ c := fun w hw => by
  obtain ⟨cur, G1, G2, c1, c2, h1, h2, h3, h4, h5, h6, h7, h8, _⟩ := hr w hw
  refine ⟨fun _ => by simp, fun j v hv => ?_⟩
  have hj : j < c.length := (List.getElem?_eq_some_iff.1 hv).1
  rw [add_lit, cell_of_row w b _ cur T (0, 0) h1]
  have hg : (c1 ++ (c ++ c2))[i * e.sz + j]? = some v := by
    rw [← h6, List.getElem?_append_right (by omega), show c1.length + j - c1.length = j by omega, List.getElem?_append_left hj]; exact hv
  rw [← h5, List.getElem?_take] at hg
  split at hg
  · simpa using hg
  · cases hg
theorem holeIn {α : Type} {e : Enc α} {T : TypeId} {b cap i : Nat} {xs : List α} {G : List Nat} {c : List Value} {p : Nat} (hr : L[p]? = some (Res.hole e T b cap xs i G c)) : ∀ w, St w0 M L w → holeOk e T b cap xs i G c w := fun _ hw => hw.ok _ (List.mem_of_getElem? hr)
theorem at_subA {S : World → Prop} {p : Addr} {cs ds : List Value} (h : ∀ w, S w → At w [] p cs) (o : Nat) (hd : (cs.drop o).take ds.length = ds) : ∀ w, S w → At w [] (p.add o) ds := fun w hw => at_sub (h w hw) o hd
theorem at_K {w : World} {X : List Nat} {p : Addr} {cs : List Value} (h : At w X p cs) (o k : Nat) : At w X (p.add o) ((cs.drop o).take k) := by
  refine ⟨fun hne => ?_, fun j v hv => ?_⟩
  · rw [add_block]
    refine h.1 (fun e => hne ?_)
    subst e; simp
  · rw [add_add]
    refine h.2 _ v ?_
    rw [List.getElem?_take] at hv
    split at hv
    · simpa using hv
    · cases hv
/-- into the element taken out -/
theorem ow_storeH {α : Type} {e : Enc α} {o : Oper} {t : TypeId} {x y : Operand} {q : Addr} {b cap i off : Nat} {v : Value} (vs : List Value) {agg : Bool} {sz by_ : Nat} {z : List Value} {p : Nat} {T : TypeId} {xs : List α} {G : List Nat} {c : List Value} (ho : o.op = .store t x y) (hm : m.here (o :: rest) = true) (hw : wt l E o.guard = some true) (hd : dstOk n o.dst = true)
    (hx : ev E x = some (.pointer (some q))) (hq : q = ⟨b, i * e.sz + off, none⟩) (hy : ev E y = some v) (ht : isTy P t agg sz by_ z) (hv : v.cells = vs.toArray) (hl : vs.length = sz) (h1 : ∀ u ∈ vs, u.oneCell' = true) (hr : L[p]? = some (Res.hole e T b cap xs i G c)) (hfit : Nat.ble (off + sz) e.sz = true) {c' : List Value} (hc' : splice c off vs = c')
    (hS : Kp m (St w0 M (L.set p (Res.hole e T b cap xs i G c')))) (hk : OW P n l (St w0 M (L.set p (Res.hole e T b cap xs i G c'))) (upd E o.dst undef) m rest) : OW P n l (St w0 M L) E m (o :: rest) :=
  ow_loud hm hw fun a w hF hC _ _ hK => by
    subst hq hc'
    obtain ⟨hok, hnd, hlt⟩ := hC.one hr
    obtain ⟨cur, G1, G2, c1, c2, hb, h2, h3, h4, h5, h6, h7, h8, rfl, h9, h10⟩ := hok
    have hfit' := Nat.le_of_ble_eq_true hfit
    have hpos : (i + 1) * e.sz ≤ xs.length * e.sz := Nat.mul_le_mul_right _ h8
    have hpos2 : xs.length * e.sz ≤ cap * e.sz := Nat.mul_le_mul_right _ h2
    rw [Nat.add_mul, Nat.one_mul] at hpos
    have hrun := run_storeAt ht hb hv hl (off := i * e.sz + off) (by omega) h1
    have hb1 : b ∉ G1 ++ G2 := by
      have := hnd
      simp only [Res.hole] at this
      exact (List.nodup_cons.1 this).1
    have hst : St w0 M (L.set p (Res.hole e T b cap xs i (G1 ++ G2) (splice c off vs))) (w.setRow b (splice cur.toList (i * e.sz + off) vs).toArray) := by
      refine hC.upd hr (Ext.mono (ext_setRow hb) (by simp [Res.hole])) _ ?_ hnd (fun d hd' => ⟨by have := hlt d hd'; simpa using this, .inl hd'⟩)
      refine ⟨_, G1, G2, c1, c2, setRow_heap w b _ _ T _ hb, h2, h3, ?_, ?_, h6, ?_, h8, rfl, ?_, ?_⟩
      · simp only [List.size_toArray]; rw [splice_len (by simp; omega)]; simpa using h4
      · have hcl : (cur.toList.take (xs.length * e.sz)).length = xs.length * e.sz := by simp; omega
        have hc2l : c1.length + (c.length + c2.length) = xs.length * e.sz := by rw [← hcl, h5]; simp
        have key : splice (cur.toList.take (xs.length * e.sz)) (i * e.sz + off) vs = c1 ++ (splice c off vs ++ c2) := by
          rw [h5]
          simp only [splice]
          have hA : i * e.sz + off = c1.length + off := by rw [h6]
          rw [hA, List.take_length_add_append, List.take_append_of_le_length (by omega), show c1.length + off + vs.length = c1.length + (off + vs.length) by omega, List.drop_length_add_append, List.drop_append_of_le_length (by omega)]
          simp [List.append_assoc]
        rw [← key]
        show (splice cur.toList (i * e.sz + off) vs).take (xs.length * e.sz) = _
        simp only [splice]
        rw [List.take_append, List.take_append, List.take_take, List.take_take, List.drop_take]
        have e1 : min (xs.length * e.sz) (i * e.sz + off) = i * e.sz + off := by omega
        have e2 : (cur.toList.take (i * e.sz + off)).length = i * e.sz + off := by simp; omega
        rw [e1, show min (i * e.sz + off) (xs.length * e.sz) = i * e.sz + off by omega, e2, List.take_of_length_le (l := vs) (by omega)]
        congr 2
        rw [List.length_append, e2]
      · rw [splice_len (by omega)]; exact h7
      · exact ownAll_loc h9 (fun d hd' => setRow_other w b d _ (fun e => hb1 (by rw [← e]; simp [hd'])))
      · exact ownAll_loc h10 (fun d hd' => setRow_other w b d _ (fun e => hb1 (by rw [← e]; simp [hd'])))
    refine upon_skip ?_ (hK _ _ _ _ hk (hF.put _ _ (dstOk_lt hd)) hst (hS _ hst))
    unfold execOp
    simp only [ho, hF.ev hx, hF.ev hy, Sem.run_bind, hrun]
    rfl
end Go.Vk
